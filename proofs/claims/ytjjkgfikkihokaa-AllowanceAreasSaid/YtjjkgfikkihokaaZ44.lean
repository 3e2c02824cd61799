/- Parts of the proof, part 44: Rect, Rect2, Area2, Area3, LArea. -/
import Derived.Test.YtjjkgfikkihokaaZ42
import Derived.Test.YtjjkgfikkihokaaZ43
set_option linter.all false
/- Rectangles: the plain law. -/
namespace Go.F

section
variable {x y z w : Int}

theorem rect_pt0 : pt (rectL x y z w) 0 = ⟨x, y⟩ := rfl
theorem rect_pt1 : pt (rectL x y z w) 1 = ⟨z, y⟩ := rfl
theorem rect_pt2 : pt (rectL x y z w) 2 = ⟨z, w⟩ := rfl
theorem rect_pt3 : pt (rectL x y z w) 3 = ⟨x, w⟩ := rfl
theorem rect_len : (rectL x y z w).length = 4 := rfl

theorem four {P : Nat → Prop} (h0 : P 0) (h1 : P 1) (h2 : P 2) (h3 : P 3) : ∀ i, i < 4 → P i := by
  intro i hi
  match i, hi with
  | 0, _ => exact h0
  | 1, _ => exact h1
  | 2, _ => exact h2
  | 3, _ => exact h3
  | n + 4, h => omega

theorem cross0 {a b c : Spot} (h : crossS a b c ≠ 0) : onS a b c = false := by
  unfold onS; simp [h]

theorem fold0 {a b c : Spot} (h : crossS a b c ≠ 0) : foldedS a b c = false := by
  unfold foldedS; simp [h]

theorem rect_simple (h1 : x < z) (h2 : y < w) : SimpleP (rectL x y z w) := by
  have hp : 0 < (z - x) * (w - y) := Int.mul_pos (by omega) (by omega)
  unfold SimpleP
  rw [rect_len]
  refine ⟨four ?_ ?_ ?_ ?_, four ?_ ?_ ?_ ?_⟩
  · simp [rectL]
  · simp [rectL, pt]; omega
  · simp [rectL, pt]; omega
  · simp [rectL, pt]; omega
  · refine ⟨fold0 ?_, four ?_ ?_ ?_ ?_⟩
    · show crossS ⟨x, y⟩ ⟨z, y⟩ ⟨z, w⟩ ≠ 0
      unfold crossS; simp only; grind
    · intro h; omega
    · intro h; omega
    · intro _ _
      show meetS ⟨x, y⟩ ⟨z, y⟩ ⟨z, w⟩ ⟨x, w⟩ = false
      have e1 : onS ⟨x, y⟩ ⟨z, y⟩ ⟨z, w⟩ = false := cross0 (by unfold crossS; simp only; grind)
      have e2 : onS ⟨x, y⟩ ⟨z, y⟩ ⟨x, w⟩ = false := cross0 (by unfold crossS; simp only; grind)
      have e3 : onS ⟨z, w⟩ ⟨x, w⟩ ⟨x, y⟩ = false := cross0 (by unfold crossS; simp only; grind)
      have e4 : onS ⟨z, w⟩ ⟨x, w⟩ ⟨z, y⟩ = false := cross0 (by unfold crossS; simp only; grind)
      have e5 : partedS ⟨x, y⟩ ⟨z, y⟩ ⟨z, w⟩ ⟨x, w⟩ = false := by
        have c1 : crossS ⟨x, y⟩ ⟨z, y⟩ ⟨z, w⟩ = (z - x) * (w - y) := by unfold crossS; simp only; grind
        have c2 : crossS ⟨x, y⟩ ⟨z, y⟩ ⟨x, w⟩ = (z - x) * (w - y) := by unfold crossS; simp only; grind
        unfold partedS; rw [c1, c2]; unfold sgn
        rw [if_neg (by omega), if_pos hp]; decide
      unfold meetS; rw [e1, e2, e3, e4, e5]; rfl
    · intro _ h; exact absurd rfl h
  · refine ⟨fold0 ?_, four ?_ ?_ ?_ ?_⟩
    · show crossS ⟨z, y⟩ ⟨z, w⟩ ⟨x, w⟩ ≠ 0
      unfold crossS; simp only; grind
    · intro h; omega
    · intro h; omega
    · intro h; omega
    · intro _ _
      show meetS ⟨z, y⟩ ⟨z, w⟩ ⟨x, w⟩ ⟨x, y⟩ = false
      have e1 : onS ⟨z, y⟩ ⟨z, w⟩ ⟨x, w⟩ = false := cross0 (by unfold crossS; simp only; grind)
      have e2 : onS ⟨z, y⟩ ⟨z, w⟩ ⟨x, y⟩ = false := cross0 (by unfold crossS; simp only; grind)
      have e3 : onS ⟨x, w⟩ ⟨x, y⟩ ⟨z, y⟩ = false := cross0 (by unfold crossS; simp only; grind)
      have e4 : onS ⟨x, w⟩ ⟨x, y⟩ ⟨z, w⟩ = false := cross0 (by unfold crossS; simp only; grind)
      have e5 : partedS ⟨z, y⟩ ⟨z, w⟩ ⟨x, w⟩ ⟨x, y⟩ = false := by
        have c1 : crossS ⟨z, y⟩ ⟨z, w⟩ ⟨x, w⟩ = (z - x) * (w - y) := by unfold crossS; simp only; grind
        have c2 : crossS ⟨z, y⟩ ⟨z, w⟩ ⟨x, y⟩ = (z - x) * (w - y) := by unfold crossS; simp only; grind
        unfold partedS; rw [c1, c2]; unfold sgn
        rw [if_neg (by omega), if_pos hp]; decide
      unfold meetS; rw [e1, e2, e3, e4, e5]; rfl
  · refine ⟨fold0 ?_, four ?_ ?_ ?_ ?_⟩
    · show crossS ⟨z, w⟩ ⟨x, w⟩ ⟨x, y⟩ ≠ 0
      unfold crossS; simp only; grind
    all_goals (intro h; omega)
  · refine ⟨fold0 ?_, four ?_ ?_ ?_ ?_⟩
    · show crossS ⟨x, w⟩ ⟨x, y⟩ ⟨z, y⟩ ≠ 0
      unfold crossS; simp only; grind
    all_goals (intro h; omega)

theorem rect_in {m : Int} (h0 : -m ≤ x) (h1 : x < z) (h2 : z ≤ m) (h3 : -m ≤ y) (h4 : y < w) (h5 : w ≤ m) : ∀ s ∈ rectL x y z w, withinS s m = true := by
  intro s hs
  rw [withinS_iff]
  simp [rectL] at hs
  rcases hs with rfl | rfl | rfl | rfl <;> simp only <;> omega

theorem rect_check (h0 : -1048576 ≤ x) (h1 : x < z) (h2 : z ≤ 1048576) (h3 : -1048576 ≤ y) (h4 : y < w) (h5 : w ≤ 1048576) : checkP (rectL x y z w) = 0 := by
  unfold checkP
  rw [rect_len, if_neg (by decide), if_neg (by decide), if_neg, if_pos (rect_simple h1 h4)]
  rw [List.any_eq_true]
  rintro ⟨s, hs1, hs2⟩
  rw [rect_in h0 h1 h2 h3 h4 h5 s hs1] at hs2
  cases hs2

theorem rect_area : areaP (rectL x y z w) = 2 * ((z - x) * (w - y)) := by
  show areaTo (rectL x y z w) 4 = _
  simp only [areaTo, rect_len, show (0 + 1) % 4 = 1 from rfl, show (1 + 1) % 4 = 2 from rfl, show (2 + 1) % 4 = 3 from rfl, show (3 + 1) % 4 = 0 from rfl, rect_pt0, rect_pt1, rect_pt2, rect_pt3]
  grind

theorem rect_sgn (h0 : -1048576 ≤ x) (h1 : x < z) (h2 : z ≤ 1048576) (h3 : -1048576 ≤ y) (h4 : y < w) (h5 : w ≤ 1048576) : sgn (area2P (rectL x y z w)) = 1 := by
  have hp : 0 < (z - x) * (w - y) := Int.mul_pos (by omega) (by omega)
  unfold area2P
  rw [if_pos (rect_check h0 h1 h2 h3 h4 h5), rect_area]
  unfold sgn
  rw [if_neg (by omega), if_pos (by omega)]

theorem rect_verts : verts (sides (rectL x y z w)) = rectL x y z w := rfl
end
end Go.F

/- Rectangles: shifts and corners. -/
namespace Go.F

theorem rndI_mul (k : Int) {d : Int} (hd : 0 < d) : rndI (k * d) d = k := by
  have key : ∀ j : Int, 0 ≤ j → (2 * (j * d) + d) / (2 * d) = j := by
    intro j hj
    have e : 2 * (j * d) + d = (2 * j + 1) * d := by rw [Int.add_mul, Int.one_mul, Int.mul_assoc]
    rw [e, Int.mul_ediv_mul_of_pos_left _ _ hd]
    omega
  unfold rndI
  split
  · rename_i h
    have hk : k < 0 := by
      by_cases hc : k < 0
      · exact hc
      · have := Int.mul_nonneg (show 0 ≤ k by omega) (Int.le_of_lt hd); omega
    have := key (-k) (by omega)
    rw [Int.neg_mul] at this
    rw [this]; omega
  · rename_i h
    have hk : 0 ≤ k := by
      by_cases hc : 0 ≤ k
      · exact hc
      · have := Int.mul_neg_of_neg_of_pos (show k < 0 by omega) hd; omega
    exact key k hk

theorem isq_sq {d : Nat} (h : d < 33554432) : isq (d * d) = d := by
  have hb : d * d ≤ 33554431 * 33554431 := Nat.mul_le_mul (by omega) (by omega)
  refine (isq_unique (by omega) (Nat.le_refl _) ?_).symm
  exact Nat.mul_lt_mul'' (by omega) (by omega)

/- the shifts of segments along the axes -/
theorem shift_h {x z y w : Int} (h1 : x < z) (h2 : z - x < 33554432) : shiftS ⟨x, y⟩ ⟨z, y⟩ w = ⟨0, -w⟩ ∧ shiftS ⟨z, y⟩ ⟨x, y⟩ w = ⟨0, w⟩ := by
  obtain ⟨d, hd⟩ : ∃ d : Nat, z - x = d := ⟨(z - x).toNat, by omega⟩
  have e1 : sqd ⟨x, y⟩ ⟨z, y⟩ = d * d := by
    unfold sqd; simp only [hd, Int.sub_self, Int.mul_zero, Int.add_zero]; rw [← Int.natCast_mul]; rfl
  have e2 : sqd ⟨z, y⟩ ⟨x, y⟩ = d * d := by
    unfold sqd; simp only [show x - z = -(d : Int) by omega, Int.sub_self, Int.mul_zero, Int.add_zero, Int.neg_mul_neg]; rw [← Int.natCast_mul]; rfl
  unfold shiftS
  rw [e1, e2, isq_sq (by omega)]
  simp only [hd, show x - z = -(d : Int) by omega, Int.sub_self, Int.mul_zero]
  rw [rndI_zero (by omega), rndI_mul _ (by omega), Int.neg_mul_neg, rndI_mul _ (by omega)]
  exact ⟨rfl, rfl⟩

theorem shift_v {y z x w : Int} (h1 : y < z) (h2 : z - y < 33554432) : shiftS ⟨x, y⟩ ⟨x, z⟩ w = ⟨w, 0⟩ ∧ shiftS ⟨x, z⟩ ⟨x, y⟩ w = ⟨-w, 0⟩ := by
  obtain ⟨d, hd⟩ : ∃ d : Nat, z - y = d := ⟨(z - y).toNat, by omega⟩
  have e1 : sqd ⟨x, y⟩ ⟨x, z⟩ = d * d := by
    unfold sqd; simp only [hd, Int.sub_self, Int.mul_zero, Int.zero_add]; rw [← Int.natCast_mul]; rfl
  have e2 : sqd ⟨x, z⟩ ⟨x, y⟩ = d * d := by
    unfold sqd; simp only [show y - z = -(d : Int) by omega, Int.sub_self, Int.mul_zero, Int.zero_add, Int.neg_mul_neg]; rw [← Int.natCast_mul]; rfl
  unfold shiftS
  rw [e1, e2, isq_sq (by omega)]
  simp only [hd, show y - z = -(d : Int) by omega, Int.sub_self, Int.mul_zero]
  rw [rndI_zero (by omega), rndI_mul _ (by omega), Int.mul_neg, ← Int.neg_mul, rndI_mul _ (by omega)]
  exact ⟨rfl, rfl⟩

theorem roundQ_int (n : Int) : roundQ (n : Rat) = n := by
  unfold roundQ rnd
  rw [Rat.num_intCast, Rat.den_intCast]
  split <;> omega

theorem cancel {a b c : Rat} (h : c ≠ 0) (he : a * c = b * c) : a = b := by
  have := Rat.mul_div_cancel (a := a) h
  rw [he, Rat.mul_div_cancel h] at this
  exact this.symm

/- a line along one axis, and one along the other -/
theorem meet_hv {ax bx cx ay cy dy : Rat} (h1 : bx - ax ≠ 0) (h2 : dy - cy ≠ 0) : meetQ ⟨ax, ay⟩ ⟨bx, ay⟩ ⟨cx, cy⟩ ⟨cx, dy⟩ = some ⟨cx, ay⟩ := by
  have hc : crossP (subP ⟨bx, ay⟩ ⟨ax, ay⟩) (subP ⟨cx, dy⟩ ⟨cx, cy⟩) = (bx - ax) * (dy - cy) := by
    unfold crossP subP; simp only; grind
  have hn : crossP (subP ⟨cx, cy⟩ ⟨ax, ay⟩) (subP ⟨cx, dy⟩ ⟨cx, cy⟩) = (cx - ax) * (dy - cy) := by
    unfold crossP subP; simp only; grind
  have h0 : (bx - ax) * (dy - cy) ≠ 0 := fun h => by rcases Rat.mul_eq_zero.1 h with h | h; exact h1 h; exact h2 h
  unfold meetQ
  rw [hc, hn, if_neg h0]
  have ht := Rat.div_mul_cancel (a := (cx - ax) * (dy - cy)) h0
  generalize (cx - ax) * (dy - cy) / ((bx - ax) * (dy - cy)) = t at ht ⊢
  have he : t * (bx - ax) = cx - ax := cancel h2 (by rw [← ht]; grind)
  unfold onP addP scaleP subP
  simp only [Option.some.injEq, QP.mk.injEq]
  constructor <;> grind

theorem meet_vh {ax ay by' cx cy dx : Rat} (h1 : by' - ay ≠ 0) (h2 : dx - cx ≠ 0) : meetQ ⟨ax, ay⟩ ⟨ax, by'⟩ ⟨cx, cy⟩ ⟨dx, cy⟩ = some ⟨ax, cy⟩ := by
  have hc : crossP (subP ⟨ax, by'⟩ ⟨ax, ay⟩) (subP ⟨dx, cy⟩ ⟨cx, cy⟩) = -((by' - ay) * (dx - cx)) := by
    unfold crossP subP; simp only; grind
  have hn : crossP (subP ⟨cx, cy⟩ ⟨ax, ay⟩) (subP ⟨dx, cy⟩ ⟨cx, cy⟩) = -((cy - ay) * (dx - cx)) := by
    unfold crossP subP; simp only; grind
  have h0 : -((by' - ay) * (dx - cx)) ≠ 0 := fun h => by
    have : (by' - ay) * (dx - cx) = 0 := by grind
    rcases Rat.mul_eq_zero.1 this with h | h; exact h1 h; exact h2 h
  unfold meetQ
  rw [hc, hn, if_neg h0]
  have ht := Rat.div_mul_cancel (a := -((cy - ay) * (dx - cx))) h0
  generalize -((cy - ay) * (dx - cx)) / -((by' - ay) * (dx - cx)) = t at ht ⊢
  have he : t * (by' - ay) = cy - ay := cancel h2 (by grind)
  unfold onP addP scaleP subP
  simp only [Option.some.injEq, QP.mk.injEq]
  constructor <;> grind

theorem int_ne {a b : Int} (h : a ≠ b) : ((b : Rat) - (a : Rat)) ≠ 0 := by
  intro he
  rw [← Rat.intCast_sub, Rat.intCast_eq_zero_iff] at he
  omega

theorem sub_int (a b c d : Int) : subP ⟨(a : Rat), (b : Rat)⟩ ⟨(c : Rat), (d : Rat)⟩ = ⟨((a - c : Int) : Rat), ((b - d : Int) : Rat)⟩ := by
  unfold subP; simp only [Rat.intCast_sub]

theorem grid_int {a b : Int} (h1 : -1048576 ≤ a) (h2 : a ≤ 1048576) (h3 : -1048576 ≤ b) (h4 : b ≤ 1048576) : gridQ ⟨(a : Rat), (b : Rat)⟩ = (⟨a, b⟩, 0) := by
  unfold gridQ
  simp only [roundQ_int]
  rw [if_pos]
  rw [Bool.and_eq_true, inGrid_iff, inGrid_iff]
  omega

theorem corner_of {v : Spot} {a b : Seg} {px py : Int} (hm : meetQ (qp a.fr) (qp a.to) (qp b.fr) (qp b.to) = some ⟨(px : Rat), (py : Rat)⟩) (h1 : -(4 * max a.w b.w + 4) ≤ px - v.x) (h2 : px - v.x ≤ 4 * max a.w b.w + 4) (h3 : -(4 * max a.w b.w + 4) ≤ py - v.y) (h4 : py - v.y ≤ 4 * max a.w b.w + 4) (h5 : max a.w b.w ≤ 500) :
    cornerS v a b = [⟨px, py⟩] := by
  unfold cornerS
  rw [hm]
  simp only
  have e : subP ⟨(px : Rat), (py : Rat)⟩ (qp v) = ⟨((px - v.x : Int) : Rat), ((py - v.y : Int) : Rat)⟩ := sub_int _ _ _ _
  rw [e, grid_int (by omega) (by omega) (by omega) (by omega), if_pos]
  · unfold addS; simp only [List.cons.injEq, Spot.mk.injEq, and_true]; omega
  · refine ⟨rfl, ?_⟩
    rw [withinS_iff]; simp only; omega

theorem once_list {v sh T : List Spot} {each : List Int} (hT : T.length = v.length) (hc : ∀ i, i < v.length → cornerAt v sh each i = [pt T i]) (hne : ∀ i, i + 1 < v.length → pt T i ≠ pt T (i + 1)) :
    ∀ k, k ≤ v.length → onceL (cornersTo v sh each k) = T.take k := by
  intro k
  induction k with
  | zero => intro _; simp [cornersTo, onceL]
  | succ k ih =>
    intro hk
    have ih := ih (by omega)
    have hpush : pushS (T.take k) (pt T k) = T.take k ++ [pt T k] := by
      refine pushS_new fun h0 => ?_
      have hk0 : k ≠ 0 := by rintro rfl; simp at h0
      have e : lastS (T.take k) = pt T (k - 1) := by
        have hl : (T.take k).length = k := by simp; omega
        rw [lastS, hl, pt_get (by omega), pt_get (by omega)]
        simp
      rw [e]
      have := hne (k - 1) (by omega)
      rwa [Nat.sub_add_cancel (by omega)] at this
    have et : T.take (k + 1) = T.take k ++ [pt T k] := by
      rw [List.take_succ_eq_append_getElem (by omega), pt_get (by omega)]
    unfold onceL at ih ⊢
    rw [cornersTo, List.foldl_append, ih, et, hc k (by omega)]
    simp only [List.foldl_cons, List.foldl_nil]
    exact hpush
end Go.F

/- The allowance of an outline along the axes: its corners and its area. -/
namespace Go.F

theorem sgn_pos {x : Int} (h : 0 < x) : sgn x = 1 := by unfold sgn; rw [if_neg (by omega), if_pos h]
theorem sgn_neg {x : Int} (h : x < 0) : sgn x = -1 := by unfold sgn; rw [if_pos h]
theorem sgn_zero : sgn 0 = 0 := rfl

theorem sgn_mul (x y : Int) : sgn (x * y) = sgn x * sgn y := by
  rcases Int.lt_trichotomy x 0 with hx | hx | hx <;> rcases Int.lt_trichotomy y 0 with hy | hy | hy
  · rw [sgn_neg hx, sgn_neg hy, sgn_pos (Int.mul_pos_of_neg_of_neg hx hy)]; rfl
  · subst hy; rw [Int.mul_zero, sgn_zero]; omega
  · rw [sgn_neg hx, sgn_pos hy, sgn_neg (Int.mul_neg_of_neg_of_pos hx hy)]; rfl
  · subst hx; rw [Int.zero_mul, sgn_zero]; omega
  · subst hx; rw [Int.zero_mul, sgn_zero]; omega
  · subst hx; rw [Int.zero_mul, sgn_zero]; omega
  · rw [sgn_pos hx, sgn_neg hy, sgn_neg (Int.mul_neg_of_pos_of_neg hx hy)]; rfl
  · subst hy; rw [Int.mul_zero, sgn_zero]; omega
  · rw [sgn_pos hx, sgn_pos hy, sgn_pos (Int.mul_pos hx hy)]; rfl

theorem sgn_negate (x : Int) : sgn (-x) = -sgn x := by
  rcases Int.lt_trichotomy x 0 with hx | hx | hx
  · rw [sgn_neg hx, sgn_pos (by omega)]; rfl
  · subst hx; rfl
  · rw [sgn_pos hx, sgn_neg (by omega)]

theorem sgn_abs (x : Int) : sgn x * x = max x (-x) := by
  rcases Int.lt_trichotomy x 0 with hx | hx | hx
  · rw [sgn_neg hx]; omega
  · subst hx; rfl
  · rw [sgn_pos hx]; omega

theorem shift_axis {a b : Spot} (ha : withinS a 1048576 = true) (hb : withinS b 1048576 = true) (hne : a ≠ b) (hax : b.x - a.x = 0 ∨ b.y - a.y = 0) (W : Int) :
    shiftS a b W = ⟨W * sgn (b.y - a.y), -(W * sgn (b.x - a.x))⟩ := by
  rw [withinS_iff] at ha hb
  obtain ⟨ax, ay⟩ := a
  obtain ⟨bx, by'⟩ := b
  simp only at *
  rcases hax with h | h
  · obtain rfl : bx = ax := by omega
    have hy : ay ≠ by' := fun e => hne (by rw [e])
    rw [Int.sub_self, sgn_zero]
    rcases Int.lt_or_gt_of_ne hy with g | g
    · rw [(shift_v g (by omega)).1, sgn_pos (by omega)]; simp
    · rw [(shift_v g (by omega)).2, sgn_neg (by omega)]; simp
  · obtain rfl : by' = ay := by omega
    have hx : ax ≠ bx := fun e => hne (by rw [e])
    rw [Int.sub_self, sgn_zero]
    rcases Int.lt_or_gt_of_ne hx with g | g
    · rw [(shift_h g (by omega)).1, sgn_pos (by omega)]; simp
    · rw [(shift_h g (by omega)).2, sgn_neg (by omega)]; simp

/- the local identity -/
theorem local_area {v d a b r p r' : Spot} (hc : (r = b ∧ p = a ∧ xS a d = 0) ∨ (r = ⟨0, 0⟩ ∧ p = ⟨0, 0⟩ ∧ xS a b = 0)) (h1 : xS d r' = 0) (h2 : xS p r' = 0) :
    xS (addS (addS v a) r) (addS (addS v b) p) + xS (addS (addS v b) p) (addS (addS (addS v d) b) r')
      = xS v (addS v d) + 2 * xS b d + 2 * xS a b + ((xS (addS (addS v d) b) r' + xS (addS v d) b) - (xS (addS v a) r + xS v a)) := by
  unfold xS addS at *
  rcases hc with ⟨rfl, rfl, h⟩ | ⟨rfl, rfl, h⟩
  · simp only at *
    grind
  · simp only at *
    grind

def nxt (n i : Nat) : Nat := (i + 1) % n
def prv (n i : Nat) : Nat := (i + n - 1) % n

theorem nxt_prv {n i : Nat} (h : i < n) : nxt n (prv n i) = i := by
  unfold nxt prv
  by_cases h0 : i = 0
  · subst h0
    rw [Nat.zero_add, Nat.mod_eq_of_lt (show n - 1 < n by omega), show n - 1 + 1 = n by omega, Nat.mod_self]
  · rw [show i + n - 1 = (i - 1) + n by omega, Nat.add_mod_right, Nat.mod_eq_of_lt (show i - 1 < n by omega), show i - 1 + 1 = i by omega, Nat.mod_eq_of_lt h]

theorem prv_nxt {n i : Nat} (h : i < n) : prv n (nxt n i) = i := by
  unfold nxt prv
  by_cases h0 : i + 1 = n
  · rw [h0, Nat.mod_self, Nat.zero_add, Nat.mod_eq_of_lt (by omega)]; omega
  · rw [Nat.mod_eq_of_lt (show i + 1 < n by omega), show i + 1 + n - 1 = i + n by omega, Nat.add_mod_right, Nat.mod_eq_of_lt h]

theorem nxt_lt {n i : Nat} (h : i < n) : nxt n i < n := Nat.mod_lt _ (by omega)
theorem prv_lt {n i : Nat} (h : i < n) : prv n i < n := Nat.mod_lt _ (by omega)

def dlt (v : List Spot) (i : Nat) : Spot := ⟨(pt v (nxt v.length i)).x - (pt v i).x, (pt v (nxt v.length i)).y - (pt v i).y⟩

theorem dlt_add (v : List Spot) (i : Nat) : addS (pt v i) (dlt v i) = pt v (nxt v.length i) := by
  unfold addS dlt; simp only; cases pt v (nxt v.length i); simp only [Spot.mk.injEq]; omega

/- an outline along the axes -/
structure Axis (v : List Spot) : Prop where
  inn : ∀ i, i < v.length → withinS (pt v i) 1048576 = true
  ne : ∀ i, i < v.length → pt v i ≠ pt v (nxt v.length i)
  ax : ∀ i, i < v.length → (dlt v i).x = 0 ∨ (dlt v i).y = 0

theorem Axis.nz {v : List Spot} (h : Axis v) {i : Nat} (hi : i < v.length) : (dlt v i).x ≠ 0 ∨ (dlt v i).y ≠ 0 := by
  have := h.ne i hi
  unfold dlt
  simp only
  by_cases hx : (pt v (nxt v.length i)).x - (pt v i).x = 0
  · right
    intro hy
    apply this
    cases h1 : pt v i
    cases h2 : pt v (nxt v.length i)
    rw [h1, h2] at hx hy
    simp only [Spot.mk.injEq] at *
    omega
  · exact .inl hx

def sA (v : List Spot) (each : List Int) (sg : Int) (i : Nat) : Spot := ⟨sg * wd each i * sgn (dlt v i).y, -(sg * wd each i * sgn (dlt v i).x)⟩

def perp (v : List Spot) (i : Nat) : Prop := ¬ ((dlt v (prv v.length i)).x = 0 ↔ (dlt v i).x = 0)

instance (v : List Spot) (i : Nat) : Decidable (perp v i) := by unfold perp; exact inferInstance

def rA (v : List Spot) (each : List Int) (sg : Int) (i : Nat) : Spot := if perp v i then sA v each sg i else ⟨0, 0⟩
def pA (v : List Spot) (each : List Int) (sg : Int) (i : Nat) : Spot := if perp v i then sA v each sg (prv v.length i) else ⟨0, 0⟩
def eA (v : List Spot) (each : List Int) (sg : Int) (i : Nat) : Spot := addS (addS (pt v i) (sA v each sg (prv v.length i))) (rA v each sg i)
def xA (v : List Spot) (each : List Int) (sg : Int) (i : Nat) : Spot := addS (addS (pt v i) (sA v each sg i)) (pA v each sg i)

theorem shiftAt_axis {v : List Spot} (h : Axis v) (each : List Int) (sg : Int) {i : Nat} (hi : i < v.length) : shiftAt v each sg i = sA v each sg i :=
  shift_axis (h.inn i hi) (h.inn _ (nxt_lt hi)) (h.ne i hi) (h.ax i hi) _

theorem meet_par {a b c d : QP} (h : crossP (subP b a) (subP d c) = 0) : meetQ a b c d = none := by
  unfold meetQ; rw [if_pos h]

set_option maxHeartbeats 2000000 in
theorem corner_axis {v : List Spot} (h : Axis v) {each : List Int} {sg : Int} (hs : sg = 1 ∨ sg = -1) (hw : ∀ i, 0 ≤ wd each i ∧ wd each i ≤ 500) {i : Nat} (hi : i < v.length) :
    (cornerAt v (shiftsL v each sg) each i = [eA v each sg i] ∧ xA v each sg i = eA v each sg i) ∨ cornerAt v (shiftsL v each sg) each i = [eA v each sg i, xA v each sg i] := by
  have hp := prv_lt hi
  have e1 : pt (shiftsL v each sg) i = sA v each sg i := by rw [shiftsL, pt_map hi, shiftAt_axis h each sg hi]
  have e2 : pt (shiftsL v each sg) (prv v.length i) = sA v each sg (prv v.length i) := by rw [shiftsL, pt_map hp, shiftAt_axis h each sg hp]
  have e3 : (prv v.length i + 1) % v.length = i := nxt_prv hi
  have hc : cornerAt v (shiftsL v each sg) each i = cornerS (pt v i) ⟨addS (pt v (prv v.length i)) (sA v each sg (prv v.length i)), addS (pt v i) (sA v each sg (prv v.length i)), wd each (prv v.length i)⟩ ⟨addS (pt v i) (sA v each sg i), addS (pt v (nxt v.length i)) (sA v each sg i), wd each i⟩ := by
    have : (i + v.length - 1) % v.length = prv v.length i := rfl
    unfold cornerAt segAt
    rw [this, e1, e2, e3]; rfl
  have a1 := h.ax i hi
  have a2 := h.ax _ hp
  have n1 := h.nz hi
  have n2 := h.nz hp
  have w1 := hw i
  have w2 := hw (prv v.length i)
  have d1 : (dlt v i).x = (pt v (nxt v.length i)).x - (pt v i).x := rfl
  have d2 : (dlt v i).y = (pt v (nxt v.length i)).y - (pt v i).y := rfl
  have d3 : (dlt v (prv v.length i)).x = (pt v i).x - (pt v (prv v.length i)).x := by unfold dlt; rw [nxt_prv hi]
  have d4 : (dlt v (prv v.length i)).y = (pt v i).y - (pt v (prv v.length i)).y := by unfold dlt; rw [nxt_prv hi]
  have sb : ∀ j, (sA v each sg j).x.natAbs ≤ (wd each j).natAbs ∧ (sA v each sg j).y.natAbs ≤ (wd each j).natAbs := by
    intro j
    have k : ∀ x : Int, (sg * wd each j * sgn x).natAbs ≤ (wd each j).natAbs := by
      intro x
      rw [Int.natAbs_mul, Int.natAbs_mul]
      have : sg.natAbs = 1 := by rcases hs with rfl | rfl <;> rfl
      have := (sgn_bd x).le
      rw [‹sg.natAbs = 1›, Nat.one_mul]
      calc _ ≤ (wd each j).natAbs * 1 := Nat.mul_le_mul_left _ this
        _ = _ := Nat.mul_one _
    exact ⟨k _, by show (-(sg * wd each j * sgn (dlt v j).x)).natAbs ≤ _; rw [Int.natAbs_neg]; exact k _⟩
  have sb1 := sb i
  have sb2 := sb (prv v.length i)
  by_cases hq : perp v i
  · left
    have hr : rA v each sg i = sA v each sg i := by unfold rA; rw [if_pos hq]
    have hpp : pA v each sg i = sA v each sg (prv v.length i) := by unfold pA; rw [if_pos hq]
    constructor
    · rw [hc, eA, hr]
      unfold perp at hq
      by_cases hv : (dlt v i).x = 0
      · have hy2 : (dlt v (prv v.length i)).y = 0 := by omega
        have s1 : (sA v each sg i).y = 0 := by show -(sg * wd each i * sgn (dlt v i).x) = 0; rw [hv, sgn_zero]; omega
        have s2 : (sA v each sg (prv v.length i)).x = 0 := by show sg * wd each (prv v.length i) * sgn (dlt v (prv v.length i)).y = 0; rw [hy2, sgn_zero]; omega
        generalize sA v each sg i = S at *
        generalize sA v each sg (prv v.length i) = P at *
        have hm := meet_hv (ax := ((pt v (prv v.length i)).x : Rat)) (bx := ((pt v i).x : Rat)) (cx := (((pt v i).x + S.x : Int) : Rat)) (ay := (((pt v i).y + P.y : Int) : Rat)) (cy := ((pt v i).y : Rat)) (dy := ((pt v (nxt v.length i)).y : Rat)) (int_neq (by omega)) (int_neq (by omega))
        have hcor := corner_of (v := pt v i) (a := ⟨addS (pt v (prv v.length i)) P, addS (pt v i) P, wd each (prv v.length i)⟩) (b := ⟨addS (pt v i) S, addS (pt v (nxt v.length i)) S, wd each i⟩) (px := (pt v i).x + S.x) (py := (pt v i).y + P.y)
          (by
            have f1 : qp (addS (pt v (prv v.length i)) P) = ⟨((pt v (prv v.length i)).x : Rat), (((pt v i).y + P.y : Int) : Rat)⟩ := by
              unfold qp addS; simp only [QP.mk.injEq, Rat.intCast_inj, and_true, true_and]; omega
            have f2 : qp (addS (pt v i) P) = ⟨((pt v i).x : Rat), (((pt v i).y + P.y : Int) : Rat)⟩ := by
              unfold qp addS; simp only [QP.mk.injEq, Rat.intCast_inj, and_true, true_and]; omega
            have f3 : qp (addS (pt v i) S) = ⟨(((pt v i).x + S.x : Int) : Rat), ((pt v i).y : Rat)⟩ := by
              unfold qp addS; simp only [QP.mk.injEq, Rat.intCast_inj, and_true, true_and]; omega
            have f4 : qp (addS (pt v (nxt v.length i)) S) = ⟨(((pt v i).x + S.x : Int) : Rat), ((pt v (nxt v.length i)).y : Rat)⟩ := by
              unfold qp addS; simp only [QP.mk.injEq, Rat.intCast_inj, and_true, true_and]; omega
            simp only [f1, f2, f3, f4]
            exact hm)
          (by simp only; omega) (by simp only; omega) (by simp only; omega) (by simp only; omega) (by simp only; omega)
        rw [hcor]
        unfold addS; simp only [List.cons.injEq, Spot.mk.injEq, and_true]; omega
      · have hy1 : (dlt v i).y = 0 := by omega
        have hx2 : (dlt v (prv v.length i)).x = 0 := by omega
        have s1 : (sA v each sg i).x = 0 := by show sg * wd each i * sgn (dlt v i).y = 0; rw [hy1, sgn_zero]; omega
        have s2 : (sA v each sg (prv v.length i)).y = 0 := by show -(sg * wd each (prv v.length i) * sgn (dlt v (prv v.length i)).x) = 0; rw [hx2, sgn_zero]; omega
        generalize sA v each sg i = S at *
        generalize sA v each sg (prv v.length i) = P at *
        have hm := meet_vh (ay := ((pt v (prv v.length i)).y : Rat)) (by' := ((pt v i).y : Rat)) (ax := (((pt v i).x + P.x : Int) : Rat)) (cy := (((pt v i).y + S.y : Int) : Rat)) (cx := ((pt v i).x : Rat)) (dx := ((pt v (nxt v.length i)).x : Rat)) (int_neq (by omega)) (int_neq (by omega))
        have hcor := corner_of (v := pt v i) (a := ⟨addS (pt v (prv v.length i)) P, addS (pt v i) P, wd each (prv v.length i)⟩) (b := ⟨addS (pt v i) S, addS (pt v (nxt v.length i)) S, wd each i⟩) (px := (pt v i).x + P.x) (py := (pt v i).y + S.y)
          (by
            have f1 : qp (addS (pt v (prv v.length i)) P) = ⟨(((pt v i).x + P.x : Int) : Rat), ((pt v (prv v.length i)).y : Rat)⟩ := by
              unfold qp addS; simp only [QP.mk.injEq, Rat.intCast_inj, and_true, true_and]; omega
            have f2 : qp (addS (pt v i) P) = ⟨(((pt v i).x + P.x : Int) : Rat), ((pt v i).y : Rat)⟩ := by
              unfold qp addS; simp only [QP.mk.injEq, Rat.intCast_inj, and_true, true_and]; omega
            have f3 : qp (addS (pt v i) S) = ⟨((pt v i).x : Rat), (((pt v i).y + S.y : Int) : Rat)⟩ := by
              unfold qp addS; simp only [QP.mk.injEq, Rat.intCast_inj, and_true, true_and]; omega
            have f4 : qp (addS (pt v (nxt v.length i)) S) = ⟨((pt v (nxt v.length i)).x : Rat), (((pt v i).y + S.y : Int) : Rat)⟩ := by
              unfold qp addS; simp only [QP.mk.injEq, Rat.intCast_inj, and_true, true_and]; omega
            simp only [f1, f2, f3, f4]
            exact hm)
          (by simp only; omega) (by simp only; omega) (by simp only; omega) (by simp only; omega) (by simp only; omega)
        rw [hcor]
        unfold addS; simp only [List.cons.injEq, Spot.mk.injEq, and_true]; omega
    · rw [eA, xA, hr, hpp]
      unfold addS; simp only [Spot.mk.injEq]; omega
  · right
    have hr : rA v each sg i = ⟨0, 0⟩ := by unfold rA; rw [if_neg hq]
    have hpp : pA v each sg i = ⟨0, 0⟩ := by unfold pA; rw [if_neg hq]
    rw [hc, eA, xA, hr, hpp, addS_zero, addS_zero]
    unfold cornerS
    rw [meet_par]
    unfold perp at hq
    generalize sA v each sg i = S at *
    generalize sA v each sg (prv v.length i) = P at *
    have k : ((((dlt v (prv v.length i)).x * (dlt v i).y - (dlt v (prv v.length i)).y * (dlt v i).x : Int)) : Rat) = 0 := by
      have : (dlt v (prv v.length i)).x * (dlt v i).y - (dlt v (prv v.length i)).y * (dlt v i).x = 0 := by
        by_cases hv : (dlt v i).x = 0
        · have : (dlt v (prv v.length i)).x = 0 := by omega
          rw [hv, this]; omega
        · have e1 : (dlt v i).y = 0 := by omega
          have e2 : (dlt v (prv v.length i)).y = 0 := by omega
          rw [e1, e2]; omega
      rw [this]; rfl
    rw [d1, d2, d3, d4] at k
    simp only [Rat.intCast_sub, Rat.intCast_mul] at k
    unfold crossP subP qp addS
    have r : ∀ a b c : Rat, (a + c) - (b + c) = a - b := by intro a b c; grind
    simp only [Rat.intCast_add, r]
    exact k
end Go.F

/- The allowance of an outline along the axes: the plain law. -/
namespace Go.F

theorem areaTo_sm (v : List Spot) (k : Nat) : areaTo v k = sm (fun j => xS (pt v j) (pt v (nxt v.length j))) k := by
  induction k with
  | zero => rfl
  | succ k ih => rw [areaTo, sm, ih]; rfl

theorem sA_x0 {v : List Spot} {each : List Int} {sg : Int} {i : Nat} (h : (dlt v i).y = 0) : (sA v each sg i).x = 0 := by
  show sg * wd each i * sgn (dlt v i).y = 0; rw [h, sgn_zero]; omega

theorem sA_y0 {v : List Spot} {each : List Int} {sg : Int} {i : Nat} (h : (dlt v i).x = 0) : (sA v each sg i).y = 0 := by
  show -(sg * wd each i * sgn (dlt v i).x) = 0; rw [h, sgn_zero]; omega

theorem term_axis {v : List Spot} (h : Axis v) (each : List Int) (sg : Int) {i : Nat} (hi : i < v.length) :
    xS (eA v each sg i) (xA v each sg i) + xS (xA v each sg i) (eA v each sg (nxt v.length i))
      = (xS (pt v i) (pt v (nxt v.length i)) + (2 * xS (sA v each sg i) (dlt v i) + 2 * xS (sA v each sg (prv v.length i)) (sA v each sg i)))
        + ((xS (addS (pt v (nxt v.length i)) (sA v each sg i)) (rA v each sg (nxt v.length i)) + xS (pt v (nxt v.length i)) (sA v each sg i)) - (xS (addS (pt v i) (sA v each sg (prv v.length i))) (rA v each sg i) + xS (pt v i) (sA v each sg (prv v.length i)))) := by
  have hp := prv_lt hi
  have hn := nxt_lt hi
  have a1 := h.ax i hi
  have a2 := h.ax _ hp
  have a3 := h.ax _ hn
  have n1 := h.nz hi
  have hpn := prv_nxt hi
  have zx : ∀ a b : Spot, a.x = 0 → b.x = 0 → xS a b = 0 := by intro a b h1 h2; unfold xS; rw [h1, h2]; omega
  have zy : ∀ a b : Spot, a.y = 0 → b.y = 0 → xS a b = 0 := by intro a b h1 h2; unfold xS; rw [h1, h2]; omega
  have hr' : ((dlt v i).x = 0 → (rA v each sg (nxt v.length i)).x = 0) ∧ ((dlt v i).y = 0 → (rA v each sg (nxt v.length i)).y = 0) := by
    unfold rA
    split
    · rename_i hq
      unfold perp at hq
      rw [hpn] at hq
      exact ⟨fun e => sA_x0 (by omega), fun e => sA_y0 (by omega)⟩
    · exact ⟨fun _ => rfl, fun _ => rfl⟩
  have hpp : ((dlt v i).x = 0 → (pA v each sg i).x = 0) ∧ ((dlt v i).y = 0 → (pA v each sg i).y = 0) := by
    unfold pA
    split
    · rename_i hq
      unfold perp at hq
      exact ⟨fun e => sA_x0 (by omega), fun e => sA_y0 (by omega)⟩
    · exact ⟨fun _ => rfl, fun _ => rfl⟩
  have l := local_area (v := pt v i) (d := dlt v i) (a := sA v each sg (prv v.length i)) (b := sA v each sg i) (r := rA v each sg i) (p := pA v each sg i) (r' := rA v each sg (nxt v.length i))
    (by
      by_cases hq : perp v i
      · left
        refine ⟨by unfold rA; rw [if_pos hq], by unfold pA; rw [if_pos hq], ?_⟩
        have e : pA v each sg i = sA v each sg (prv v.length i) := by unfold pA; rw [if_pos hq]
        rw [e] at hpp
        rcases a1 with e1 | e1
        · exact zx _ _ (hpp.1 e1) e1
        · exact zy _ _ (hpp.2 e1) e1
      · right
        refine ⟨by unfold rA; rw [if_neg hq], by unfold pA; rw [if_neg hq], ?_⟩
        unfold perp at hq
        by_cases e1 : (dlt v i).x = 0
        · exact zy _ _ (sA_y0 (by omega)) (sA_y0 e1)
        · exact zx _ _ (sA_x0 (by omega)) (sA_x0 (by omega)))
    (by
      rcases a1 with e1 | e1
      · exact zx _ _ e1 (hr'.1 e1)
      · exact zy _ _ e1 (hr'.2 e1))
    (by
      rcases a1 with e1 | e1
      · exact zx _ _ (hpp.1 e1) (hr'.1 e1)
      · exact zy _ _ (hpp.2 e1) (hr'.2 e1))
  rw [dlt_add] at l
  have e3 : eA v each sg (nxt v.length i) = addS (addS (pt v (nxt v.length i)) (sA v each sg i)) (rA v each sg (nxt v.length i)) := by unfold eA; rw [hpn]
  rw [e3]
  show xS (addS (addS (pt v i) (sA v each sg (prv v.length i))) (rA v each sg i)) (addS (addS (pt v i) (sA v each sg i)) (pA v each sg i)) + _ = _
  have e4 : xA v each sg i = addS (addS (pt v i) (sA v each sg i)) (pA v each sg i) := rfl
  rw [e4, l]
  omega

theorem sm_add2 {f g : Nat → Int} {n : Nat} : sm (fun j => f j + g j) n = sm f n + sm g n := by
  induction n with
  | zero => rfl
  | succ k ih => simp only [sm, ih]; omega

theorem area_axis {v : List Spot} (h : Axis v) {each : List Int} {sg : Int} (hs : sg = 1 ∨ sg = -1) (hw : ∀ i, 0 ≤ wd each i ∧ wd each i ≤ 500) (h0 : 0 < v.length) :
    areaP (allowPts v (shiftsL v each sg) each) = areaP v + sm (fun i => 2 * xS (sA v each sg i) (dlt v i) + 2 * xS (sA v each sg (prv v.length i)) (sA v each sg i)) v.length := by
  rw [corners_area (E := eA v each sg) (X := xA v each sg) (fun i hi => corner_axis h hs hw hi) h0]
  unfold areaP
  rw [areaTo_sm, ← sm_add2]
  have := sm_tele (f := fun i => xS (eA v each sg i) (xA v each sg i) + xS (xA v each sg i) (eA v each sg ((i + 1) % v.length)))
    (f' := fun i => xS (pt v i) (pt v (nxt v.length i)) + (2 * xS (sA v each sg i) (dlt v i) + 2 * xS (sA v each sg (prv v.length i)) (sA v each sg i)))
    (g := fun m => xS (addS (pt v (m % v.length)) (sA v each sg (prv v.length (m % v.length)))) (rA v each sg (m % v.length)) + xS (pt v (m % v.length)) (sA v each sg (prv v.length (m % v.length)))) (n := v.length) ?_
  · simp only [Nat.mod_self, Nat.zero_mod] at this
    omega
  · intro j hj
    have t := term_axis h each sg hj
    have e : (j + 1) % v.length = nxt v.length j := rfl
    simp only [e, Nat.mod_eq_of_lt hj, prv_nxt hj]
    rw [t]; omega

/- what the law adds up -/
def crs (v : List Spot) (sg : Int) (i : Nat) : Int := sg * ((dlt v (prv v.length i)).x * (dlt v i).y - (dlt v (prv v.length i)).y * (dlt v i).x)

def wantTo (v : List Spot) (each : List Int) (sg : Int) : Nat → Int
  | 0 => sg * areaP v
  | k + 1 => wantTo v each sg k + 2 * wd each k * max (max (max (dlt v k).x (-(dlt v k).x)) (dlt v k).y) (-(dlt v k).y) + (if 0 < crs v sg k then 2 * wd each k * wd each (prv v.length k) else 0) - (if crs v sg k < 0 then 2 * wd each k * wd each (prv v.length k) else 0)

theorem want_term {v : List Spot} (h : Axis v) (each : List Int) {sg : Int} (hs : sg = 1 ∨ sg = -1) {i : Nat} (hi : i < v.length) :
    sg * (2 * xS (sA v each sg i) (dlt v i) + 2 * xS (sA v each sg (prv v.length i)) (sA v each sg i)) =
      2 * wd each i * max (max (max (dlt v i).x (-(dlt v i).x)) (dlt v i).y) (-(dlt v i).y) + (if 0 < crs v sg i then 2 * wd each i * wd each (prv v.length i) else 0) - (if crs v sg i < 0 then 2 * wd each i * wd each (prv v.length i) else 0) := by
  have a1 := h.ax i hi
  have a2 := h.ax _ (prv_lt hi)
  have hc : sg * (sgn (dlt v (prv v.length i)).x * sgn (dlt v i).y - sgn (dlt v (prv v.length i)).y * sgn (dlt v i).x) = sgn (crs v sg i) := by
    unfold crs
    have hsg : sgn sg = sg := by rcases hs with rfl | rfl <;> rfl
    rw [sgn_mul, hsg]
    congr 1
    rcases a1 with e1 | e1 <;> rcases a2 with e2 | e2
    · rw [e1, e2, Int.mul_zero, Int.zero_mul, sgn_zero]; simp [sgn_zero]
    · rw [e1, e2]; simp [sgn_zero, sgn_mul]
    · rw [e1, e2]; simp [sgn_zero, sgn_mul, sgn_negate]
    · rw [e1, e2]; simp [sgn_zero]
  have e1 : sg * (2 * xS (sA v each sg i) (dlt v i)) = 2 * wd each i * (sgn (dlt v i).x * (dlt v i).x + sgn (dlt v i).y * (dlt v i).y) := by
    unfold xS sA
    simp only
    generalize sgn (dlt v i).x = p
    generalize sgn (dlt v i).y = q
    generalize (dlt v i).x = a
    generalize (dlt v i).y = b
    rcases hs with rfl | rfl <;> grind
  have e2 : sg * (2 * xS (sA v each sg (prv v.length i)) (sA v each sg i)) = 2 * wd each i * wd each (prv v.length i) * sgn (crs v sg i) := by
    rw [← hc]
    unfold xS sA
    simp only
    generalize sgn (dlt v i).x = p
    generalize sgn (dlt v i).y = q
    generalize sgn (dlt v (prv v.length i)).x = p'
    generalize sgn (dlt v (prv v.length i)).y = q'
    rcases hs with rfl | rfl <;> grind
  rw [Int.mul_add, e1, e2, sgn_abs, sgn_abs]
  have e3 : max (dlt v i).x (-(dlt v i).x) + max (dlt v i).y (-(dlt v i).y) = max (max (max (dlt v i).x (-(dlt v i).x)) (dlt v i).y) (-(dlt v i).y) := by omega
  rw [e3]
  generalize 2 * wd each i * wd each (prv v.length i) = W
  rcases Int.lt_trichotomy (crs v sg i) 0 with hx | hx | hx
  · rw [sgn_neg hx, if_neg (by omega), if_pos hx]; omega
  · rw [hx, sgn_zero]; simp
  · rw [sgn_pos hx, if_pos hx, if_neg (by omega)]; omega

theorem want_all {v : List Spot} (h : Axis v) {each : List Int} {sg : Int} (hs : sg = 1 ∨ sg = -1) (hw : ∀ i, 0 ≤ wd each i ∧ wd each i ≤ 500) (h0 : 0 < v.length) :
    sg * areaP (allowPts v (shiftsL v each sg) each) = wantTo v each sg v.length := by
  rw [area_axis h hs hw h0, Int.mul_add]
  have key : ∀ k, k ≤ v.length → sg * areaP v + sg * sm (fun i => 2 * xS (sA v each sg i) (dlt v i) + 2 * xS (sA v each sg (prv v.length i)) (sA v each sg i)) k = wantTo v each sg k := by
    intro k
    induction k with
    | zero => intro _; simp [sm, wantTo]
    | succ k ih =>
      intro hk
      rw [sm, Int.mul_add, want_term h each hs (by omega : k < v.length), wantTo, ← ih (by omega)]
      omega
  exact key _ (Nat.le_refl _)
end Go.F

/- AllowanceAreas: the law's walk. -/
namespace Go.F
attribute [local irreducible] IntKind.wrap wpM

theorem wd_mem {ws : List Int} {i : Nat} (h : i < ws.length) : ws[i]? = some (wd ws i) := by simp [wd, h]

theorem area_bd {v : List Spot} [OkP v] (h : v.length ≤ 40) : -1407374883553280 ≤ areaP v ∧ areaP v ≤ 1407374883553280 := by
  have := (areaTo_bd v v.length).le
  unfold areaP
  have : v.length * 35184372088832 ≤ 40 * 35184372088832 := Nat.mul_le_mul_right _ h
  omega

theorem dlt_bd {v : List Spot} (hin : ∀ i, i < v.length → withinS (pt v i) 1048576 = true) {i : Nat} (hi : i < v.length) : Bd (dlt v i).x 2097152 ∧ Bd (dlt v i).y 2097152 := by
  have h1 := hin i hi
  have h2 := hin _ (nxt_lt hi)
  rw [withinS_iff] at h1 h2
  unfold dlt
  exact ⟨⟨by simp only; omega⟩, ⟨by simp only; omega⟩⟩

theorem wantTo_bd {v : List Spot} [OkP v] (h40 : v.length ≤ 40) (hin : ∀ i, i < v.length → withinS (pt v i) 1048576 = true) {each : List Int} {sg : Int} (hs : sg = 1 ∨ sg = -1) (hw : ∀ i, 0 ≤ wd each i ∧ wd each i ≤ 500) :
    ∀ k, k ≤ v.length → -1407374883553280 - 4000000000 * (k : Int) ≤ wantTo v each sg k ∧ wantTo v each sg k ≤ 1407374883553280 + 4000000000 * (k : Int) := by
  intro k
  induction k with
  | zero => intro _; have := area_bd h40; unfold wantTo; rcases hs with rfl | rfl <;> omega
  | succ k ih =>
    intro hk
    have ih := ih (by omega)
    obtain ⟨bx, by'⟩ := dlt_bd hin (show k < v.length by omega)
    have h1 := hw k
    have h2 := hw (prv v.length k)
    have b1 : Bd (wd each k) 500 := ⟨by omega⟩
    have b2 : Bd (wd each (prv v.length k)) 500 := ⟨by omega⟩
    have b3 : Bd (2 * wd each k) 1000 := ⟨by omega⟩
    have l1 : Bd (2 * wd each k * wd each (prv v.length k)) (1000 * 500) := bdMul
    have l1 := l1.le
    have lx := bx.le
    have ly := by'.le
    have bm : Bd (max (max (max (dlt v k).x (-(dlt v k).x)) (dlt v k).y) (-(dlt v k).y)) 2097152 := ⟨by omega⟩
    have l2 : Bd (2 * wd each k * max (max (max (dlt v k).x (-(dlt v k).x)) (dlt v k).y) (-(dlt v k).y)) (1000 * 2097152) := bdMul (b := bm)
    have l2 := l2.le
    rw [wantTo]
    split <;> split <;> omega

theorem allowP_ok' {l : List Edge} {ws : List Int} (h : (allowP l ws).2 = 0) : (shiftsP l ws).2 = 0 ∧ checkP (allowP l ws).1 = 0 ∧ (allowP l ws).1 = allowPts (verts l) (shiftsP l ws).1 (segW l ws l.length) := by
  unfold allowP at h ⊢
  split at h
  · rename_i hs
    rw [if_pos hs]
    refine ⟨hs, ?_⟩
    unfold allowQ at h ⊢
    split at h
    · cases h
    · rename_i h1
      split at h
      · rename_i h2
        split at h
        · rename_i h3; rw [if_neg h1, if_pos h2, if_pos h3]; exact ⟨h2, rfl⟩
        · cases h
      · rename_i h2; exact absurd h h2
  · rename_i hs; exact absurd h hs

set_option maxHeartbeats 16000000 in
theorem areas_law_PU (l : List Edge) (ws : List Int) : PU f_l24_AllowanceAreas [edges l, ints ws] = some (.bool true) := by
  obtain ⟨sm, hsm, hsmall⟩ := small_PU l ws
  have hpoly := outline_Polygon_PU l
  refine PU_of (fn := k_l24_AllowanceAreas) rfl (startI ?_)
  refine go 800 rfl ?_
  refine atCall rfl rfl hsm ?_
  refine go 800 rfl ?_
  refine atCond rfl (fun g => ?_) (fun g0 => ?_)
  · repeat' (first
      | (refine goP 800 rfl rfl ?_)
      | (show wpM _ _ _ (Fr.ops _ _ (KOper.mk _ _ (some _) _ _ :: _) :: _) Ex.normal _ _ _ _ _; first | refine atGuardT rfl ?_ | refine atGuardF rfl ?_ | refine atGuard rfl (fun _ => ?_) (fun _ => ?_))
      | (show wpM _ _ _ (Fr.code (K.cond _ _ _) :: _) Ex.normal _ _ _ _ _; first | refine atCondT rfl ?_ | refine atCondF rfl ?_ | refine atCond rfl (fun _ => ?_) (fun _ => ?_))
      | (show wpM _ _ _ (Fr.ops _ _ (KOper.mk _ _ none _ (KOp.pick _ _ _) :: _) :: _) Ex.normal _ _ _ _ _; refine atPick rfl (fun _ => ?_) (fun _ => ?_))
      | (show wpM _ _ _ [] _ _ _ _ _ _; refine finI rfl rfl rfl trivial ?_)
      | (show wpM _ _ _ (Fr.ops _ _ (KOper.mk _ _ none _ (KOp.callF f_l24_exampleHolds _) :: _) :: _) Ex.normal _ _ _ _ _; refine atCall rfl rfl (exampleHolds_PU) ?_))
    rfl
  refine go 800 rfl ?_
  refine atCall rfl rfl (Allow_PU l ws) ?_
  refine go 800 rfl ?_
  refine atCond rfl (fun g => ?_) (fun g1 => ?_)
  · repeat' (first
      | (refine goP 800 rfl rfl ?_)
      | (show wpM _ _ _ (Fr.ops _ _ (KOper.mk _ _ (some _) _ _ :: _) :: _) Ex.normal _ _ _ _ _; first | refine atGuardT rfl ?_ | refine atGuardF rfl ?_ | refine atGuard rfl (fun _ => ?_) (fun _ => ?_))
      | (show wpM _ _ _ (Fr.code (K.cond _ _ _) :: _) Ex.normal _ _ _ _ _; first | refine atCondT rfl ?_ | refine atCondF rfl ?_ | refine atCond rfl (fun _ => ?_) (fun _ => ?_))
      | (show wpM _ _ _ (Fr.ops _ _ (KOper.mk _ _ none _ (KOp.pick _ _ _) :: _) :: _) Ex.normal _ _ _ _ _; refine atPick rfl (fun _ => ?_) (fun _ => ?_))
      | (show wpM _ _ _ [] _ _ _ _ _ _; refine finI rfl rfl rfl trivial ?_)
      | (show wpM _ _ _ (Fr.ops _ _ (KOper.mk _ _ none _ (KOp.callF f_l24_exampleHolds _) :: _) :: _) Ex.normal _ _ _ _ _; refine atCall rfl rfl (exampleHolds_PU) ?_))
    rfl
  rw [nqb_not] at g1
  obtain ⟨hs2, hq, hqe⟩ := allowP_ok' g1
  obtain ⟨hc, hwl, hgood, hs1⟩ := shiftsP_ok hs2
  rw [hs1] at hqe
  rw [polyO, if_pos hc] at hpoly
  obtain ⟨h2, h16, hfe, _, hchk⟩ := checkO_ok hc
  obtain ⟨v3, v40, vok, vin, vs⟩ := checkP_ok hchk
  obtain ⟨q3, q40, qok, qin, qs⟩ := checkP_ok hq
  have hlines := checkO_lines hc
  have hnz := area2_nz hchk
  have hww := segW_bd (l := l) (ws := ws) (by omega) hgood
  have hlen : ∀ k, k ≤ l.length → (segW l ws k).length ≤ 40 := by
    intro k hk
    rw [segW_len l ws k hk]
    have := verts_le (l := l) k
    omega
  have hsg0 : sgn (area2P (verts l)) = 1 ∨ sgn (area2P (verts l)) = -1 := by rw [← sg1_eq hnz]; exact sg1_or _
  have hsn : area2P (verts l) < 0 ↔ sgn (area2P (verts l)) = -1 := by rw [← sg1_eq hnz]; unfold sg1; split <;> omega
  generalize (allowP l ws).1 = q at *
  refine go 800 rfl ?_
  refine atCall rfl rfl hpoly ?_
  refine go 800 rfl ?_
  refine atGuard rfl (fun g => absurd rfl (nqb_iff.1 g)) (fun _ => ?_)
  refine go 800 rfl ?_
  refine atCond rfl (fun g => ?_) (fun g3 => ?_)
  · rw [nqb_iff, List.length_map, List.length_map] at g; omega
  refine go 800 rfl ?_
  refine atCall rfl rfl (Area2_PU (verts l)) ?_
  refine go 800 rfl ?_
  refine atCond rfl (fun e0 => ?_) (fun e0 => ?_)
  · rw [ltb_iff] at e0
    have hsgv := hsn.1 e0
    rw [hsgv] at hqe
    have hqq := hqe.symm
    have hsg : (-1 : Int) = 1 ∨ (-1 : Int) = -1 := .inr rfl
    refine go 800 rfl ?_
    refine atLoop (S := fun k : Nat => ([ints ws, spots q, spots (verts l), .int .i64 (area2P (verts l)), .int .i64 ((-1)), .ref 5 0 (segW l ws k).length, edges l, encInt l.length, encInt k], [none, none, none, none, none, some (.row ((segW l ws k).map encInt) 1), none, none, none], [0, 0, 0, 0, 0, 0, 0, 0, 0])) (C := fun k => k ≤ l.length) (m := fun k => l.length - k) 0 (Nat.zero_le _) (by omega) ?_ ?_
    · exact settleI rfl ⟨rfl, trivial⟩ (by simp [edges, ints, spots, encInt, segW])
    intro k hk N hN
    refine go 800 rfl ?_
    refine atCond rfl (fun e1 => ?_) (fun e1 => ?_)
    · rw [ltb_iff] at e1
      have hlt : k < l.length := by omega
      have w1 : IntKind.i64.wrap ((k : Int) + 1) = ((k + 1 : Nat) : Int) := wrap64 (by omega) (by omega)
      have hln : 2 ≤ (eg l k).line.length ∧ (eg l k).line.length ≤ 40 := by rw [eg_get hlt]; exact hlines _ (List.getElem_mem hlt)
      have hk1 := hlen (k + 1) (by omega)
      rw [segW, List.length_append, List.length_replicate] at hk1
      refine go 800 rfl ?_
      refine atIdx k rfl rfl rfl (eg_enc hlt) rfl ?_
      refine go 800 rfl ?_
      refine atLoop (S := fun j : Nat => ([ints ws, spots q, spots (verts l), .int .i64 (area2P (verts l)), .int .i64 ((-1)), .ref 5 0 ((segW l ws k).length + j), encInt k, .ptr 7 0 0, encInt (j + 1 : Nat), edges l, encInt l.length, encInt k], [none, none, none, none, none, some (.row ((segW l ws k ++ List.replicate j (wd ws k)).map encInt) 1), none, some (.row [(eg l k).enc] 2), none, none, none, none], [0, 0, 0, 0, 0, 0, 0, 0, 0, 0, 0, 0])) (C := fun j => j ≤ (eg l k).line.length - 1) (m := fun j => (eg l k).line.length - j) 0 (Nat.zero_le _) (by omega) ?_ ?_
      · exact settleI rfl ⟨all_plain int_plain _, rfl, trivial⟩ (by simp [edges, ints, spots, encInt, Edge.enc])
      intro j hj N2 hN2
      refine go 800 rfl ?_
      refine atCond rfl (fun e2 => ?_) (fun e2 => ?_)
      · rw [ltb_iff, List.length_map] at e2
        have hjl : j < (eg l k).line.length - 1 := by omega
        have wj : IntKind.i64.wrap ((j : Int) + 1 + 1) = (j : Int) + 1 + 1 := wrap64 (by omega) (by omega)
        refine go 800 rfl ?_
        refine atIdx k rfl rfl rfl (wd_enc (by omega)) rfl ?_
        refine go 800 rfl ?_
        refine atAppR rfl rfl rfl rfl rfl rfl (by simp) (Nat.zero_le _) (by simp [limit] at *; omega) ?_
        refine go 800 rfl ?_
        refine atEnd ?_
        refine hN2 (j + 1) (by omega) (by omega) (settleI rfl ⟨?_, rfl, trivial⟩ ?_)
        · rw [List.all_append, all_plain int_plain]; rfl
        · simp [edges, ints, spots, encInt, wj, List.replicate_succ', Edge.enc]
          omega
      rw [ltb_not, List.length_map] at e2
      clear hN2
      obtain rfl : j = (eg l k).line.length - 1 := by omega
      refine go 800 rfl ?_
      refine atEnd ?_
      refine go 800 rfl ?_
      refine atEnd ?_
      refine hN (k + 1) hlt (by omega) (settleI rfl ⟨all_plain int_plain _, trivial⟩ ?_)
      simp [edges, ints, spots, encInt, w1, segW]
    rw [ltb_not] at e1
    obtain rfl : k = l.length := by omega
    clear hN
    have hwl2 : (segW l ws l.length).length = (verts l).length := by have := segW_len l ws l.length (Nat.le_refl _); rwa [List.take_length] at this
    generalize segW l ws l.length = each at *
    generalize hvv : verts l = v at *
    have vin' : ∀ i, i < v.length → withinS (pt v i) 1048576 = true := fun i hi => by rw [pt_get hi]; exact vin _ (List.getElem_mem _)
    have ha2 : area2P v = areaP v := by unfold area2P; rw [if_pos hchk]
    have hab := area_bd (v := v) v40
    have w0 : IntKind.i64.wrap ((-1) * area2P v) = wantTo v each (-1) 0 := by rw [ha2]; exact wrap64 (by omega) (by omega)
    refine go 800 rfl ?_
    refine atEnd ?_
    refine go 800 rfl ?_
    rw [w0, List.length_map]
    refine atCond rfl (fun e2 => ?_) (fun e2 => ?_)
    · rw [nqb_iff] at e2; omega
    refine go 800 rfl ?_
    rw [hwl2]
    refine atLoop (S := fun k : Nat => ([spots q, spots v, .int .i64 ((-1)), .ref 3 0 v.length, .int .i64 (wantTo v each (-1) k), encInt v.length, encInt v.length, encInt k], [none, none, none, some (.row (each.map encInt) 1), none, none, none, none], [0, 0, 0, 0, 0, 0, 0, 0])) (C := fun k => k ≤ v.length ∧ ∀ i, i < k → (dlt v i).x = 0 ∨ (dlt v i).y = 0) (m := fun k => v.length - k) 0 ⟨Nat.zero_le _, fun i hi => by omega⟩ (by omega) ?_ ?_
    · exact settleI rfl ⟨all_plain int_plain _, trivial⟩ (by simp [spots, encInt])
    rintro k ⟨hk, hax⟩ N hN
    refine go 800 rfl ?_
    refine atCond rfl (fun e1 => ?_) (fun e1 => ?_)
    · rw [ltb_iff] at e1
      have hlt : k < v.length := by omega
      have w1 : IntKind.i64.wrap ((k : Int) + 1) = ((k + 1 : Nat) : Int) := wrap64 (by omega) (by omega)
      have wn : IntKind.i64.wrap ((k : Int) + v.length) = ((k + v.length : Nat) : Int) := wrap64 (by omega) (by omega)
      have wn' : IntKind.i64.wrap (((k + v.length : Nat) : Int) - 1) = ((k + v.length - 1 : Nat) : Int) := by rw [wrap64 (by omega) (by omega)]; omega
      have hpl := prv_lt hlt
      have hnl := nxt_lt hlt
      obtain ⟨bdx, bdy⟩ := dlt_bd vin' hlt
      obtain ⟨bpx, bpy⟩ := dlt_bd vin' hpl
      have pd1 : (pt v k).x - (pt v (prv v.length k)).x = (dlt v (prv v.length k)).x := by unfold dlt; rw [nxt_prv hlt]
      have pd2 : (pt v k).y - (pt v (prv v.length k)).y = (dlt v (prv v.length k)).y := by unfold dlt; rw [nxt_prv hlt]
      have nd1 : IntKind.i64.wrap ((pt v (nxt v.length k)).x - (pt v k).x) = (dlt v k).x := wrap_bd (x := (dlt v k).x) (by decide)
      have nd2 : IntKind.i64.wrap ((pt v (nxt v.length k)).y - (pt v k).y) = (dlt v k).y := wrap_bd (x := (dlt v k).y) (by decide)
      have hw0 := hww k
      have hw1 := hww (prv v.length k)
      have w0' := wantTo_bd v40 vin' hsg hww k hk
      have fin : (dlt v k).x = 0 ∨ (dlt v k).y = 0 → ∀ {t : Tmps} {h : Heap} {z : Frz} {nx : Nat}, (wsettle 0 [(5, 0), (7, 0), (10, 0), (11, 0), (15, 0), (16, 0), (88, 0), (89, 0)] t h z nx fun _ _ kp => kp = ([spots q, spots v, .int .i64 ((-1)), .ref 3 0 v.length, .int .i64 (wantTo v each (-1) (k + 1)), encInt v.length, encInt v.length, encInt (k + 1 : Nat)], [none, none, none, some (.row (each.map encInt) 1), none, none, none, none], [0, 0, 0, 0, 0, 0, 0, 0])) → N t h z nx := by
        intro hx t h z nx hst
        refine hN (k + 1) ⟨hlt, fun i hi => ?_⟩ (by omega) hst
        by_cases hik : i < k
        · exact hax i hik
        · obtain rfl : i = k := by omega
          exact hx
      clear hN
      refine go 800 rfl ?_
      refine atRem rfl rfl (by omega) ?_
      refine go 800 rfl ?_
      refine atIdx (prv v.length k) rfl rfl (by rw [wn, wn', tmod_nat]; rfl) (pt_enc hpl) rfl ?_
      refine go 800 rfl ?_
      refine atIdx k rfl rfl rfl (pt_enc hlt) rfl ?_
      refine go 800 rfl ?_
      refine atRem rfl rfl (by omega) ?_
      refine go 800 rfl ?_
      refine atIdx (nxt v.length k) rfl rfl (by rw [w1, tmod_nat]; rfl) (pt_enc hnl) rfl ?_
      refine go 800 rfl ?_
      rw [nd1, nd2]
      refine atGuard rfl (fun e3 => ?_) (fun e3 => ?_)
      · rw [nqb_iff] at e3
        refine go 800 rfl ?_
        refine atCond rfl (fun e4 => ?_) (fun e4 => ?_)
        · refine go 800 rfl ?_
          refine atCall rfl rfl exampleHolds_PU ?_
          refine go 800 rfl ?_
          refine atEnd ?_
          refine go 800 rfl ?_
          exact finI rfl rfl rfl trivial rfl
        rw [nqb_not] at e4
        have fin := @fin (.inr e4)
        have bX := bdx.le
        have bY := bdy.le
        have m1 : IntKind.i64.wrap (2 * wd each k) = 2 * wd each k := wrap64 (by omega) (by omega)
        have m2 : IntKind.i64.wrap (0 - (dlt v k).x) = -(dlt v k).x := by rw [wrap64 (by omega) (by omega)]; omega
        have m3 : IntKind.i64.wrap (0 - (dlt v k).y) = -(dlt v k).y := by rw [wrap64 (by omega) (by omega)]; omega
        refine go 800 rfl ?_
        refine atIdxR k rfl rfl rfl rfl rfl (by omega) ?_
        refine go 800 rfl ?_
        refine atLoadE (enc := encInt) each k (wd each k) rfl (Nat.zero_add _) (fun _ => rfl) rfl (wd_mem (by omega)) ?_
        refine go 800 rfl ?_
        rw [m1, m2, m3]
        have bm : Bd (max (max (max (dlt v k).x (-(dlt v k).x)) (dlt v k).y) (-(dlt v k).y)) 2097152 := ⟨by omega⟩
        have bw : Bd (2 * wd each k) 1000 := ⟨by omega⟩
        have bw' : Bd (wd each (prv v.length k)) 500 := ⟨by omega⟩
        have l2 : Bd (2 * wd each k * max (max (max (dlt v k).x (-(dlt v k).x)) (dlt v k).y) (-(dlt v k).y)) (1000 * 2097152) := bdMul (b := bm)
        have l2 := l2.le
        have l3 : Bd (2 * wd each k * wd each (prv v.length k)) (1000 * 500) := bdMul
        have l3 := l3.le
        have m4 : IntKind.i64.wrap (2 * wd each k * max (max (max (dlt v k).x (-(dlt v k).x)) (dlt v k).y) (-(dlt v k).y)) = 2 * wd each k * max (max (max (dlt v k).x (-(dlt v k).x)) (dlt v k).y) (-(dlt v k).y) := wrap64 (by omega) (by omega)
        have m5 : IntKind.i64.wrap (wantTo v each (-1) k + 2 * wd each k * max (max (max (dlt v k).x (-(dlt v k).x)) (dlt v k).y) (-(dlt v k).y)) = wantTo v each (-1) k + 2 * wd each k * max (max (max (dlt v k).x (-(dlt v k).x)) (dlt v k).y) (-(dlt v k).y) := wrap64 (by omega) (by omega)
        rw [m4, m5]
        have m6 : IntKind.i64.wrap ((pt v k).x - (pt v (prv v.length k)).x) = (dlt v (prv v.length k)).x := by rw [← pd1]; exact wrap_bd (by decide)
        have m7 : IntKind.i64.wrap ((pt v k).y - (pt v (prv v.length k)).y) = (dlt v (prv v.length k)).y := by rw [← pd2]; exact wrap_bd (by decide)
        rw [m6, m7]
        have m8 : IntKind.i64.wrap ((dlt v (prv v.length k)).x * (dlt v k).y) = (dlt v (prv v.length k)).x * (dlt v k).y := wrap_bd (by decide)
        have m9 : IntKind.i64.wrap ((dlt v (prv v.length k)).y * (dlt v k).x) = (dlt v (prv v.length k)).y * (dlt v k).x := wrap_bd (by decide)
        have m10 : IntKind.i64.wrap ((dlt v (prv v.length k)).x * (dlt v k).y - (dlt v (prv v.length k)).y * (dlt v k).x) = (dlt v (prv v.length k)).x * (dlt v k).y - (dlt v (prv v.length k)).y * (dlt v k).x := wrap_bd (by decide)
        have bc : Bd ((dlt v (prv v.length k)).x * (dlt v k).y - (dlt v (prv v.length k)).y * (dlt v k).x) _ := inferInstance
        have lc := bc.le
        have m11 : IntKind.i64.wrap ((-1) * ((dlt v (prv v.length k)).x * (dlt v k).y - (dlt v (prv v.length k)).y * (dlt v k).x)) = crs v (-1) k := by show _ = (-1) * _; exact wrap64 (by omega) (by omega)
        rw [m8, m9, m10, m11]
        have w1' := wantTo_bd v40 vin' hsg hww (k + 1) hlt
        rw [wantTo] at w1'
        have hwant : wantTo v each (-1) (k + 1) = wantTo v each (-1) k + 2 * wd each k * max (max (max (dlt v k).x (-(dlt v k).x)) (dlt v k).y) (-(dlt v k).y) + (if 0 < crs v (-1) k then 2 * wd each k * wd each (prv v.length k) else 0) - (if crs v (-1) k < 0 then 2 * wd each k * wd each (prv v.length k) else 0) := rfl
        generalize wantTo v each (-1) k + 2 * wd each k * max (max (max (dlt v k).x (-(dlt v k).x)) (dlt v k).y) (-(dlt v k).y) = W1 at *
        have m12 : IntKind.i64.wrap (2 * wd each k * wd each (prv v.length k)) = 2 * wd each k * wd each (prv v.length k) := wrap64 (by omega) (by omega)
        refine atCond rfl (fun f1 => ?_) (fun f1 => ?_)
        · rw [ltb_iff] at f1
          refine go 800 rfl ?_
          refine atIdxR k rfl rfl rfl rfl rfl (by omega) ?_
          refine go 800 rfl ?_
          refine atLoadE (enc := encInt) each k (wd each k) rfl (Nat.zero_add _) (fun _ => rfl) rfl (wd_mem (by omega)) ?_
          refine go 800 rfl ?_
          refine atRem rfl rfl (by omega) ?_
          refine go 800 rfl ?_
          refine atIdxR (prv v.length k) rfl rfl rfl rfl (by rw [wn, wn', tmod_nat]; rfl) (by omega) ?_
          refine go 800 rfl ?_
          refine atLoadE (enc := encInt) each (prv v.length k) (wd each (prv v.length k)) rfl (Nat.zero_add _) (fun _ => rfl) rfl (wd_mem (by omega)) ?_
          refine go 800 rfl ?_
          rw [m1, m12]
          rw [if_pos f1, if_neg (by omega)] at hwant w1'
          have m13 : IntKind.i64.wrap (W1 + 2 * wd each k * wd each (prv v.length k)) = wantTo v each (-1) (k + 1) := by rw [hwant, wrap64 (by omega) (by omega)]; omega
          rw [m13]
          refine atCond rfl (fun f2 => ?_) (fun f2 => ?_)
          · rw [ltb_iff] at f2; omega
          refine go 800 rfl ?_
          refine atEnd ?_
          exact fin (settleI rfl ⟨all_plain int_plain _, trivial⟩ (by simp [spots, encInt, w1]))
        rw [ltb_not] at f1
        refine go 800 rfl ?_
        refine atCond rfl (fun f2 => ?_) (fun f2 => ?_)
        · rw [ltb_iff] at f2
          refine go 800 rfl ?_
          refine atIdxR k rfl rfl rfl rfl rfl (by omega) ?_
          refine go 800 rfl ?_
          refine atLoadE (enc := encInt) each k (wd each k) rfl (Nat.zero_add _) (fun _ => rfl) rfl (wd_mem (by omega)) ?_
          refine go 800 rfl ?_
          refine atRem rfl rfl (by omega) ?_
          refine go 800 rfl ?_
          refine atIdxR (prv v.length k) rfl rfl rfl rfl (by rw [wn, wn', tmod_nat]; rfl) (by omega) ?_
          refine go 800 rfl ?_
          refine atLoadE (enc := encInt) each (prv v.length k) (wd each (prv v.length k)) rfl (Nat.zero_add _) (fun _ => rfl) rfl (wd_mem (by omega)) ?_
          refine go 800 rfl ?_
          rw [m1, m12]
          rw [if_neg (by omega), if_pos f2] at hwant w1'
          have m13 : IntKind.i64.wrap (W1 - 2 * wd each k * wd each (prv v.length k)) = wantTo v each (-1) (k + 1) := by rw [hwant, wrap64 (by omega) (by omega)]; omega
          rw [m13]
          refine atEnd ?_
          exact fin (settleI rfl ⟨all_plain int_plain _, trivial⟩ (by simp [spots, encInt, w1]))
        rw [ltb_not] at f2
        rw [if_neg (by omega), if_neg (by omega)] at hwant
        have m13 : W1 = wantTo v each (-1) (k + 1) := by rw [hwant]; omega
        refine go 800 rfl ?_
        rw [m13]
        refine atEnd ?_
        exact fin (settleI rfl ⟨all_plain int_plain _, trivial⟩ (by simp [spots, encInt, w1]))
      · rw [nqb_not] at e3
        refine go 800 rfl ?_
        refine atCondF rfl ?_
        have fin := @fin (.inl e3)
        have bX := bdx.le
        have bY := bdy.le
        have m1 : IntKind.i64.wrap (2 * wd each k) = 2 * wd each k := wrap64 (by omega) (by omega)
        have m2 : IntKind.i64.wrap (0 - (dlt v k).x) = -(dlt v k).x := by rw [wrap64 (by omega) (by omega)]; omega
        have m3 : IntKind.i64.wrap (0 - (dlt v k).y) = -(dlt v k).y := by rw [wrap64 (by omega) (by omega)]; omega
        refine go 800 rfl ?_
        refine atIdxR k rfl rfl rfl rfl rfl (by omega) ?_
        refine go 800 rfl ?_
        refine atLoadE (enc := encInt) each k (wd each k) rfl (Nat.zero_add _) (fun _ => rfl) rfl (wd_mem (by omega)) ?_
        refine go 800 rfl ?_
        rw [m1, m2, m3]
        have bm : Bd (max (max (max (dlt v k).x (-(dlt v k).x)) (dlt v k).y) (-(dlt v k).y)) 2097152 := ⟨by omega⟩
        have bw : Bd (2 * wd each k) 1000 := ⟨by omega⟩
        have bw' : Bd (wd each (prv v.length k)) 500 := ⟨by omega⟩
        have l2 : Bd (2 * wd each k * max (max (max (dlt v k).x (-(dlt v k).x)) (dlt v k).y) (-(dlt v k).y)) (1000 * 2097152) := bdMul (b := bm)
        have l2 := l2.le
        have l3 : Bd (2 * wd each k * wd each (prv v.length k)) (1000 * 500) := bdMul
        have l3 := l3.le
        have m4 : IntKind.i64.wrap (2 * wd each k * max (max (max (dlt v k).x (-(dlt v k).x)) (dlt v k).y) (-(dlt v k).y)) = 2 * wd each k * max (max (max (dlt v k).x (-(dlt v k).x)) (dlt v k).y) (-(dlt v k).y) := wrap64 (by omega) (by omega)
        have m5 : IntKind.i64.wrap (wantTo v each (-1) k + 2 * wd each k * max (max (max (dlt v k).x (-(dlt v k).x)) (dlt v k).y) (-(dlt v k).y)) = wantTo v each (-1) k + 2 * wd each k * max (max (max (dlt v k).x (-(dlt v k).x)) (dlt v k).y) (-(dlt v k).y) := wrap64 (by omega) (by omega)
        rw [m4, m5]
        have m6 : IntKind.i64.wrap ((pt v k).x - (pt v (prv v.length k)).x) = (dlt v (prv v.length k)).x := by rw [← pd1]; exact wrap_bd (by decide)
        have m7 : IntKind.i64.wrap ((pt v k).y - (pt v (prv v.length k)).y) = (dlt v (prv v.length k)).y := by rw [← pd2]; exact wrap_bd (by decide)
        rw [m6, m7]
        have m8 : IntKind.i64.wrap ((dlt v (prv v.length k)).x * (dlt v k).y) = (dlt v (prv v.length k)).x * (dlt v k).y := wrap_bd (by decide)
        have m9 : IntKind.i64.wrap ((dlt v (prv v.length k)).y * (dlt v k).x) = (dlt v (prv v.length k)).y * (dlt v k).x := wrap_bd (by decide)
        have m10 : IntKind.i64.wrap ((dlt v (prv v.length k)).x * (dlt v k).y - (dlt v (prv v.length k)).y * (dlt v k).x) = (dlt v (prv v.length k)).x * (dlt v k).y - (dlt v (prv v.length k)).y * (dlt v k).x := wrap_bd (by decide)
        have bc : Bd ((dlt v (prv v.length k)).x * (dlt v k).y - (dlt v (prv v.length k)).y * (dlt v k).x) _ := inferInstance
        have lc := bc.le
        have m11 : IntKind.i64.wrap ((-1) * ((dlt v (prv v.length k)).x * (dlt v k).y - (dlt v (prv v.length k)).y * (dlt v k).x)) = crs v (-1) k := by show _ = (-1) * _; exact wrap64 (by omega) (by omega)
        rw [m8, m9, m10, m11]
        have w1' := wantTo_bd v40 vin' hsg hww (k + 1) hlt
        rw [wantTo] at w1'
        have hwant : wantTo v each (-1) (k + 1) = wantTo v each (-1) k + 2 * wd each k * max (max (max (dlt v k).x (-(dlt v k).x)) (dlt v k).y) (-(dlt v k).y) + (if 0 < crs v (-1) k then 2 * wd each k * wd each (prv v.length k) else 0) - (if crs v (-1) k < 0 then 2 * wd each k * wd each (prv v.length k) else 0) := rfl
        generalize wantTo v each (-1) k + 2 * wd each k * max (max (max (dlt v k).x (-(dlt v k).x)) (dlt v k).y) (-(dlt v k).y) = W1 at *
        have m12 : IntKind.i64.wrap (2 * wd each k * wd each (prv v.length k)) = 2 * wd each k * wd each (prv v.length k) := wrap64 (by omega) (by omega)
        refine atCond rfl (fun f1 => ?_) (fun f1 => ?_)
        · rw [ltb_iff] at f1
          refine go 800 rfl ?_
          refine atIdxR k rfl rfl rfl rfl rfl (by omega) ?_
          refine go 800 rfl ?_
          refine atLoadE (enc := encInt) each k (wd each k) rfl (Nat.zero_add _) (fun _ => rfl) rfl (wd_mem (by omega)) ?_
          refine go 800 rfl ?_
          refine atRem rfl rfl (by omega) ?_
          refine go 800 rfl ?_
          refine atIdxR (prv v.length k) rfl rfl rfl rfl (by rw [wn, wn', tmod_nat]; rfl) (by omega) ?_
          refine go 800 rfl ?_
          refine atLoadE (enc := encInt) each (prv v.length k) (wd each (prv v.length k)) rfl (Nat.zero_add _) (fun _ => rfl) rfl (wd_mem (by omega)) ?_
          refine go 800 rfl ?_
          rw [m1, m12]
          rw [if_pos f1, if_neg (by omega)] at hwant w1'
          have m13 : IntKind.i64.wrap (W1 + 2 * wd each k * wd each (prv v.length k)) = wantTo v each (-1) (k + 1) := by rw [hwant, wrap64 (by omega) (by omega)]; omega
          rw [m13]
          refine atCond rfl (fun f2 => ?_) (fun f2 => ?_)
          · rw [ltb_iff] at f2; omega
          refine go 800 rfl ?_
          refine atEnd ?_
          exact fin (settleI rfl ⟨all_plain int_plain _, trivial⟩ (by simp [spots, encInt, w1]))
        rw [ltb_not] at f1
        refine go 800 rfl ?_
        refine atCond rfl (fun f2 => ?_) (fun f2 => ?_)
        · rw [ltb_iff] at f2
          refine go 800 rfl ?_
          refine atIdxR k rfl rfl rfl rfl rfl (by omega) ?_
          refine go 800 rfl ?_
          refine atLoadE (enc := encInt) each k (wd each k) rfl (Nat.zero_add _) (fun _ => rfl) rfl (wd_mem (by omega)) ?_
          refine go 800 rfl ?_
          refine atRem rfl rfl (by omega) ?_
          refine go 800 rfl ?_
          refine atIdxR (prv v.length k) rfl rfl rfl rfl (by rw [wn, wn', tmod_nat]; rfl) (by omega) ?_
          refine go 800 rfl ?_
          refine atLoadE (enc := encInt) each (prv v.length k) (wd each (prv v.length k)) rfl (Nat.zero_add _) (fun _ => rfl) rfl (wd_mem (by omega)) ?_
          refine go 800 rfl ?_
          rw [m1, m12]
          rw [if_neg (by omega), if_pos f2] at hwant w1'
          have m13 : IntKind.i64.wrap (W1 - 2 * wd each k * wd each (prv v.length k)) = wantTo v each (-1) (k + 1) := by rw [hwant, wrap64 (by omega) (by omega)]; omega
          rw [m13]
          refine atEnd ?_
          exact fin (settleI rfl ⟨all_plain int_plain _, trivial⟩ (by simp [spots, encInt, w1]))
        rw [ltb_not] at f2
        rw [if_neg (by omega), if_neg (by omega)] at hwant
        have m13 : W1 = wantTo v each (-1) (k + 1) := by rw [hwant]; omega
        refine go 800 rfl ?_
        rw [m13]
        refine atEnd ?_
        exact fin (settleI rfl ⟨all_plain int_plain _, trivial⟩ (by simp [spots, encInt, w1]))
    rw [ltb_not] at e1
    obtain rfl : k = v.length := by omega
    have hA : Axis v := ⟨vin', fun i hi => simple_ne vs (by omega) hi, hax⟩
    have hfin := want_all hA hsg hww (by omega)
    rw [hqq] at hfin
    have haq : area2P q = areaP q := by unfold area2P; rw [if_pos hq]
    have habq := area_bd (v := q) q40
    have wq : IntKind.i64.wrap ((-1) * area2P q) = wantTo v each (-1) v.length := by rw [haq, ← hfin]; exact wrap64 (by omega) (by omega)
    refine go 800 rfl ?_
    refine atEnd ?_
    refine go 800 rfl ?_
    refine atCall rfl rfl (Area2_PU q) ?_
    refine go 800 rfl ?_
    rw [wq]
    refine atGuard rfl (fun _ => ?_) (fun g => absurd rfl (eqb_not.1 g))
    refine go 800 rfl ?_
    refine atCall rfl rfl exampleHolds_PU ?_
    refine go 800 rfl ?_
    exact finI rfl rfl rfl trivial rfl
  · rw [ltb_not] at e0
    have hsgv : sgn (area2P (verts l)) = 1 := by rcases hsg0 with h | h; exact h; exact absurd (hsn.2 h) (by omega)
    rw [hsgv] at hqe
    have hqq := hqe.symm
    have hsg : (1 : Int) = 1 ∨ (1 : Int) = -1 := .inl rfl
    refine go 800 rfl ?_
    refine atLoop (S := fun k : Nat => ([ints ws, spots q, spots (verts l), .int .i64 (area2P (verts l)), .int .i64 (1), .ref 5 0 (segW l ws k).length, edges l, encInt l.length, encInt k], [none, none, none, none, none, some (.row ((segW l ws k).map encInt) 1), none, none, none], [0, 0, 0, 0, 0, 0, 0, 0, 0])) (C := fun k => k ≤ l.length) (m := fun k => l.length - k) 0 (Nat.zero_le _) (by omega) ?_ ?_
    · exact settleI rfl ⟨rfl, trivial⟩ (by simp [edges, ints, spots, encInt, segW])
    intro k hk N hN
    refine go 800 rfl ?_
    refine atCond rfl (fun e1 => ?_) (fun e1 => ?_)
    · rw [ltb_iff] at e1
      have hlt : k < l.length := by omega
      have w1 : IntKind.i64.wrap ((k : Int) + 1) = ((k + 1 : Nat) : Int) := wrap64 (by omega) (by omega)
      have hln : 2 ≤ (eg l k).line.length ∧ (eg l k).line.length ≤ 40 := by rw [eg_get hlt]; exact hlines _ (List.getElem_mem hlt)
      have hk1 := hlen (k + 1) (by omega)
      rw [segW, List.length_append, List.length_replicate] at hk1
      refine go 800 rfl ?_
      refine atIdx k rfl rfl rfl (eg_enc hlt) rfl ?_
      refine go 800 rfl ?_
      refine atLoop (S := fun j : Nat => ([ints ws, spots q, spots (verts l), .int .i64 (area2P (verts l)), .int .i64 (1), .ref 5 0 ((segW l ws k).length + j), encInt k, .ptr 7 0 0, encInt (j + 1 : Nat), edges l, encInt l.length, encInt k], [none, none, none, none, none, some (.row ((segW l ws k ++ List.replicate j (wd ws k)).map encInt) 1), none, some (.row [(eg l k).enc] 2), none, none, none, none], [0, 0, 0, 0, 0, 0, 0, 0, 0, 0, 0, 0])) (C := fun j => j ≤ (eg l k).line.length - 1) (m := fun j => (eg l k).line.length - j) 0 (Nat.zero_le _) (by omega) ?_ ?_
      · exact settleI rfl ⟨all_plain int_plain _, rfl, trivial⟩ (by simp [edges, ints, spots, encInt, Edge.enc])
      intro j hj N2 hN2
      refine go 800 rfl ?_
      refine atCond rfl (fun e2 => ?_) (fun e2 => ?_)
      · rw [ltb_iff, List.length_map] at e2
        have hjl : j < (eg l k).line.length - 1 := by omega
        have wj : IntKind.i64.wrap ((j : Int) + 1 + 1) = (j : Int) + 1 + 1 := wrap64 (by omega) (by omega)
        refine go 800 rfl ?_
        refine atIdx k rfl rfl rfl (wd_enc (by omega)) rfl ?_
        refine go 800 rfl ?_
        refine atAppR rfl rfl rfl rfl rfl rfl (by simp) (Nat.zero_le _) (by simp [limit] at *; omega) ?_
        refine go 800 rfl ?_
        refine atEnd ?_
        refine hN2 (j + 1) (by omega) (by omega) (settleI rfl ⟨?_, rfl, trivial⟩ ?_)
        · rw [List.all_append, all_plain int_plain]; rfl
        · simp [edges, ints, spots, encInt, wj, List.replicate_succ', Edge.enc]
          omega
      rw [ltb_not, List.length_map] at e2
      clear hN2
      obtain rfl : j = (eg l k).line.length - 1 := by omega
      refine go 800 rfl ?_
      refine atEnd ?_
      refine go 800 rfl ?_
      refine atEnd ?_
      refine hN (k + 1) hlt (by omega) (settleI rfl ⟨all_plain int_plain _, trivial⟩ ?_)
      simp [edges, ints, spots, encInt, w1, segW]
    rw [ltb_not] at e1
    obtain rfl : k = l.length := by omega
    clear hN
    have hwl2 : (segW l ws l.length).length = (verts l).length := by have := segW_len l ws l.length (Nat.le_refl _); rwa [List.take_length] at this
    generalize segW l ws l.length = each at *
    generalize hvv : verts l = v at *
    have vin' : ∀ i, i < v.length → withinS (pt v i) 1048576 = true := fun i hi => by rw [pt_get hi]; exact vin _ (List.getElem_mem _)
    have ha2 : area2P v = areaP v := by unfold area2P; rw [if_pos hchk]
    have hab := area_bd (v := v) v40
    have w0 : IntKind.i64.wrap (1 * area2P v) = wantTo v each 1 0 := by rw [ha2]; exact wrap64 (by omega) (by omega)
    refine go 800 rfl ?_
    refine atEnd ?_
    refine go 800 rfl ?_
    rw [w0, List.length_map]
    refine atCond rfl (fun e2 => ?_) (fun e2 => ?_)
    · rw [nqb_iff] at e2; omega
    refine go 800 rfl ?_
    rw [hwl2]
    refine atLoop (S := fun k : Nat => ([spots q, spots v, .int .i64 (1), .ref 3 0 v.length, .int .i64 (wantTo v each 1 k), encInt v.length, encInt v.length, encInt k], [none, none, none, some (.row (each.map encInt) 1), none, none, none, none], [0, 0, 0, 0, 0, 0, 0, 0])) (C := fun k => k ≤ v.length ∧ ∀ i, i < k → (dlt v i).x = 0 ∨ (dlt v i).y = 0) (m := fun k => v.length - k) 0 ⟨Nat.zero_le _, fun i hi => by omega⟩ (by omega) ?_ ?_
    · exact settleI rfl ⟨all_plain int_plain _, trivial⟩ (by simp [spots, encInt])
    rintro k ⟨hk, hax⟩ N hN
    refine go 800 rfl ?_
    refine atCond rfl (fun e1 => ?_) (fun e1 => ?_)
    · rw [ltb_iff] at e1
      have hlt : k < v.length := by omega
      have w1 : IntKind.i64.wrap ((k : Int) + 1) = ((k + 1 : Nat) : Int) := wrap64 (by omega) (by omega)
      have wn : IntKind.i64.wrap ((k : Int) + v.length) = ((k + v.length : Nat) : Int) := wrap64 (by omega) (by omega)
      have wn' : IntKind.i64.wrap (((k + v.length : Nat) : Int) - 1) = ((k + v.length - 1 : Nat) : Int) := by rw [wrap64 (by omega) (by omega)]; omega
      have hpl := prv_lt hlt
      have hnl := nxt_lt hlt
      obtain ⟨bdx, bdy⟩ := dlt_bd vin' hlt
      obtain ⟨bpx, bpy⟩ := dlt_bd vin' hpl
      have pd1 : (pt v k).x - (pt v (prv v.length k)).x = (dlt v (prv v.length k)).x := by unfold dlt; rw [nxt_prv hlt]
      have pd2 : (pt v k).y - (pt v (prv v.length k)).y = (dlt v (prv v.length k)).y := by unfold dlt; rw [nxt_prv hlt]
      have nd1 : IntKind.i64.wrap ((pt v (nxt v.length k)).x - (pt v k).x) = (dlt v k).x := wrap_bd (x := (dlt v k).x) (by decide)
      have nd2 : IntKind.i64.wrap ((pt v (nxt v.length k)).y - (pt v k).y) = (dlt v k).y := wrap_bd (x := (dlt v k).y) (by decide)
      have hw0 := hww k
      have hw1 := hww (prv v.length k)
      have w0' := wantTo_bd v40 vin' hsg hww k hk
      have fin : (dlt v k).x = 0 ∨ (dlt v k).y = 0 → ∀ {t : Tmps} {h : Heap} {z : Frz} {nx : Nat}, (wsettle 0 [(5, 0), (7, 0), (10, 0), (11, 0), (15, 0), (16, 0), (88, 0), (89, 0)] t h z nx fun _ _ kp => kp = ([spots q, spots v, .int .i64 (1), .ref 3 0 v.length, .int .i64 (wantTo v each 1 (k + 1)), encInt v.length, encInt v.length, encInt (k + 1 : Nat)], [none, none, none, some (.row (each.map encInt) 1), none, none, none, none], [0, 0, 0, 0, 0, 0, 0, 0])) → N t h z nx := by
        intro hx t h z nx hst
        refine hN (k + 1) ⟨hlt, fun i hi => ?_⟩ (by omega) hst
        by_cases hik : i < k
        · exact hax i hik
        · obtain rfl : i = k := by omega
          exact hx
      clear hN
      refine go 800 rfl ?_
      refine atRem rfl rfl (by omega) ?_
      refine go 800 rfl ?_
      refine atIdx (prv v.length k) rfl rfl (by rw [wn, wn', tmod_nat]; rfl) (pt_enc hpl) rfl ?_
      refine go 800 rfl ?_
      refine atIdx k rfl rfl rfl (pt_enc hlt) rfl ?_
      refine go 800 rfl ?_
      refine atRem rfl rfl (by omega) ?_
      refine go 800 rfl ?_
      refine atIdx (nxt v.length k) rfl rfl (by rw [w1, tmod_nat]; rfl) (pt_enc hnl) rfl ?_
      refine go 800 rfl ?_
      rw [nd1, nd2]
      refine atGuard rfl (fun e3 => ?_) (fun e3 => ?_)
      · rw [nqb_iff] at e3
        refine go 800 rfl ?_
        refine atCond rfl (fun e4 => ?_) (fun e4 => ?_)
        · refine go 800 rfl ?_
          refine atCall rfl rfl exampleHolds_PU ?_
          refine go 800 rfl ?_
          refine atEnd ?_
          refine go 800 rfl ?_
          exact finI rfl rfl rfl trivial rfl
        rw [nqb_not] at e4
        have fin := @fin (.inr e4)
        have bX := bdx.le
        have bY := bdy.le
        have m1 : IntKind.i64.wrap (2 * wd each k) = 2 * wd each k := wrap64 (by omega) (by omega)
        have m2 : IntKind.i64.wrap (0 - (dlt v k).x) = -(dlt v k).x := by rw [wrap64 (by omega) (by omega)]; omega
        have m3 : IntKind.i64.wrap (0 - (dlt v k).y) = -(dlt v k).y := by rw [wrap64 (by omega) (by omega)]; omega
        refine go 800 rfl ?_
        refine atIdxR k rfl rfl rfl rfl rfl (by omega) ?_
        refine go 800 rfl ?_
        refine atLoadE (enc := encInt) each k (wd each k) rfl (Nat.zero_add _) (fun _ => rfl) rfl (wd_mem (by omega)) ?_
        refine go 800 rfl ?_
        rw [m1, m2, m3]
        have bm : Bd (max (max (max (dlt v k).x (-(dlt v k).x)) (dlt v k).y) (-(dlt v k).y)) 2097152 := ⟨by omega⟩
        have bw : Bd (2 * wd each k) 1000 := ⟨by omega⟩
        have bw' : Bd (wd each (prv v.length k)) 500 := ⟨by omega⟩
        have l2 : Bd (2 * wd each k * max (max (max (dlt v k).x (-(dlt v k).x)) (dlt v k).y) (-(dlt v k).y)) (1000 * 2097152) := bdMul (b := bm)
        have l2 := l2.le
        have l3 : Bd (2 * wd each k * wd each (prv v.length k)) (1000 * 500) := bdMul
        have l3 := l3.le
        have m4 : IntKind.i64.wrap (2 * wd each k * max (max (max (dlt v k).x (-(dlt v k).x)) (dlt v k).y) (-(dlt v k).y)) = 2 * wd each k * max (max (max (dlt v k).x (-(dlt v k).x)) (dlt v k).y) (-(dlt v k).y) := wrap64 (by omega) (by omega)
        have m5 : IntKind.i64.wrap (wantTo v each 1 k + 2 * wd each k * max (max (max (dlt v k).x (-(dlt v k).x)) (dlt v k).y) (-(dlt v k).y)) = wantTo v each 1 k + 2 * wd each k * max (max (max (dlt v k).x (-(dlt v k).x)) (dlt v k).y) (-(dlt v k).y) := wrap64 (by omega) (by omega)
        rw [m4, m5]
        have m6 : IntKind.i64.wrap ((pt v k).x - (pt v (prv v.length k)).x) = (dlt v (prv v.length k)).x := by rw [← pd1]; exact wrap_bd (by decide)
        have m7 : IntKind.i64.wrap ((pt v k).y - (pt v (prv v.length k)).y) = (dlt v (prv v.length k)).y := by rw [← pd2]; exact wrap_bd (by decide)
        rw [m6, m7]
        have m8 : IntKind.i64.wrap ((dlt v (prv v.length k)).x * (dlt v k).y) = (dlt v (prv v.length k)).x * (dlt v k).y := wrap_bd (by decide)
        have m9 : IntKind.i64.wrap ((dlt v (prv v.length k)).y * (dlt v k).x) = (dlt v (prv v.length k)).y * (dlt v k).x := wrap_bd (by decide)
        have m10 : IntKind.i64.wrap ((dlt v (prv v.length k)).x * (dlt v k).y - (dlt v (prv v.length k)).y * (dlt v k).x) = (dlt v (prv v.length k)).x * (dlt v k).y - (dlt v (prv v.length k)).y * (dlt v k).x := wrap_bd (by decide)
        have bc : Bd ((dlt v (prv v.length k)).x * (dlt v k).y - (dlt v (prv v.length k)).y * (dlt v k).x) _ := inferInstance
        have lc := bc.le
        have m11 : IntKind.i64.wrap (1 * ((dlt v (prv v.length k)).x * (dlt v k).y - (dlt v (prv v.length k)).y * (dlt v k).x)) = crs v 1 k := by show _ = 1 * _; exact wrap64 (by omega) (by omega)
        rw [m8, m9, m10, m11]
        have w1' := wantTo_bd v40 vin' hsg hww (k + 1) hlt
        rw [wantTo] at w1'
        have hwant : wantTo v each 1 (k + 1) = wantTo v each 1 k + 2 * wd each k * max (max (max (dlt v k).x (-(dlt v k).x)) (dlt v k).y) (-(dlt v k).y) + (if 0 < crs v 1 k then 2 * wd each k * wd each (prv v.length k) else 0) - (if crs v 1 k < 0 then 2 * wd each k * wd each (prv v.length k) else 0) := rfl
        generalize wantTo v each 1 k + 2 * wd each k * max (max (max (dlt v k).x (-(dlt v k).x)) (dlt v k).y) (-(dlt v k).y) = W1 at *
        have m12 : IntKind.i64.wrap (2 * wd each k * wd each (prv v.length k)) = 2 * wd each k * wd each (prv v.length k) := wrap64 (by omega) (by omega)
        refine atCond rfl (fun f1 => ?_) (fun f1 => ?_)
        · rw [ltb_iff] at f1
          refine go 800 rfl ?_
          refine atIdxR k rfl rfl rfl rfl rfl (by omega) ?_
          refine go 800 rfl ?_
          refine atLoadE (enc := encInt) each k (wd each k) rfl (Nat.zero_add _) (fun _ => rfl) rfl (wd_mem (by omega)) ?_
          refine go 800 rfl ?_
          refine atRem rfl rfl (by omega) ?_
          refine go 800 rfl ?_
          refine atIdxR (prv v.length k) rfl rfl rfl rfl (by rw [wn, wn', tmod_nat]; rfl) (by omega) ?_
          refine go 800 rfl ?_
          refine atLoadE (enc := encInt) each (prv v.length k) (wd each (prv v.length k)) rfl (Nat.zero_add _) (fun _ => rfl) rfl (wd_mem (by omega)) ?_
          refine go 800 rfl ?_
          rw [m1, m12]
          rw [if_pos f1, if_neg (by omega)] at hwant w1'
          have m13 : IntKind.i64.wrap (W1 + 2 * wd each k * wd each (prv v.length k)) = wantTo v each 1 (k + 1) := by rw [hwant, wrap64 (by omega) (by omega)]; omega
          rw [m13]
          refine atCond rfl (fun f2 => ?_) (fun f2 => ?_)
          · rw [ltb_iff] at f2; omega
          refine go 800 rfl ?_
          refine atEnd ?_
          exact fin (settleI rfl ⟨all_plain int_plain _, trivial⟩ (by simp [spots, encInt, w1]))
        rw [ltb_not] at f1
        refine go 800 rfl ?_
        refine atCond rfl (fun f2 => ?_) (fun f2 => ?_)
        · rw [ltb_iff] at f2
          refine go 800 rfl ?_
          refine atIdxR k rfl rfl rfl rfl rfl (by omega) ?_
          refine go 800 rfl ?_
          refine atLoadE (enc := encInt) each k (wd each k) rfl (Nat.zero_add _) (fun _ => rfl) rfl (wd_mem (by omega)) ?_
          refine go 800 rfl ?_
          refine atRem rfl rfl (by omega) ?_
          refine go 800 rfl ?_
          refine atIdxR (prv v.length k) rfl rfl rfl rfl (by rw [wn, wn', tmod_nat]; rfl) (by omega) ?_
          refine go 800 rfl ?_
          refine atLoadE (enc := encInt) each (prv v.length k) (wd each (prv v.length k)) rfl (Nat.zero_add _) (fun _ => rfl) rfl (wd_mem (by omega)) ?_
          refine go 800 rfl ?_
          rw [m1, m12]
          rw [if_neg (by omega), if_pos f2] at hwant w1'
          have m13 : IntKind.i64.wrap (W1 - 2 * wd each k * wd each (prv v.length k)) = wantTo v each 1 (k + 1) := by rw [hwant, wrap64 (by omega) (by omega)]; omega
          rw [m13]
          refine atEnd ?_
          exact fin (settleI rfl ⟨all_plain int_plain _, trivial⟩ (by simp [spots, encInt, w1]))
        rw [ltb_not] at f2
        rw [if_neg (by omega), if_neg (by omega)] at hwant
        have m13 : W1 = wantTo v each 1 (k + 1) := by rw [hwant]; omega
        refine go 800 rfl ?_
        rw [m13]
        refine atEnd ?_
        exact fin (settleI rfl ⟨all_plain int_plain _, trivial⟩ (by simp [spots, encInt, w1]))
      · rw [nqb_not] at e3
        refine go 800 rfl ?_
        refine atCondF rfl ?_
        have fin := @fin (.inl e3)
        have bX := bdx.le
        have bY := bdy.le
        have m1 : IntKind.i64.wrap (2 * wd each k) = 2 * wd each k := wrap64 (by omega) (by omega)
        have m2 : IntKind.i64.wrap (0 - (dlt v k).x) = -(dlt v k).x := by rw [wrap64 (by omega) (by omega)]; omega
        have m3 : IntKind.i64.wrap (0 - (dlt v k).y) = -(dlt v k).y := by rw [wrap64 (by omega) (by omega)]; omega
        refine go 800 rfl ?_
        refine atIdxR k rfl rfl rfl rfl rfl (by omega) ?_
        refine go 800 rfl ?_
        refine atLoadE (enc := encInt) each k (wd each k) rfl (Nat.zero_add _) (fun _ => rfl) rfl (wd_mem (by omega)) ?_
        refine go 800 rfl ?_
        rw [m1, m2, m3]
        have bm : Bd (max (max (max (dlt v k).x (-(dlt v k).x)) (dlt v k).y) (-(dlt v k).y)) 2097152 := ⟨by omega⟩
        have bw : Bd (2 * wd each k) 1000 := ⟨by omega⟩
        have bw' : Bd (wd each (prv v.length k)) 500 := ⟨by omega⟩
        have l2 : Bd (2 * wd each k * max (max (max (dlt v k).x (-(dlt v k).x)) (dlt v k).y) (-(dlt v k).y)) (1000 * 2097152) := bdMul (b := bm)
        have l2 := l2.le
        have l3 : Bd (2 * wd each k * wd each (prv v.length k)) (1000 * 500) := bdMul
        have l3 := l3.le
        have m4 : IntKind.i64.wrap (2 * wd each k * max (max (max (dlt v k).x (-(dlt v k).x)) (dlt v k).y) (-(dlt v k).y)) = 2 * wd each k * max (max (max (dlt v k).x (-(dlt v k).x)) (dlt v k).y) (-(dlt v k).y) := wrap64 (by omega) (by omega)
        have m5 : IntKind.i64.wrap (wantTo v each 1 k + 2 * wd each k * max (max (max (dlt v k).x (-(dlt v k).x)) (dlt v k).y) (-(dlt v k).y)) = wantTo v each 1 k + 2 * wd each k * max (max (max (dlt v k).x (-(dlt v k).x)) (dlt v k).y) (-(dlt v k).y) := wrap64 (by omega) (by omega)
        rw [m4, m5]
        have m6 : IntKind.i64.wrap ((pt v k).x - (pt v (prv v.length k)).x) = (dlt v (prv v.length k)).x := by rw [← pd1]; exact wrap_bd (by decide)
        have m7 : IntKind.i64.wrap ((pt v k).y - (pt v (prv v.length k)).y) = (dlt v (prv v.length k)).y := by rw [← pd2]; exact wrap_bd (by decide)
        rw [m6, m7]
        have m8 : IntKind.i64.wrap ((dlt v (prv v.length k)).x * (dlt v k).y) = (dlt v (prv v.length k)).x * (dlt v k).y := wrap_bd (by decide)
        have m9 : IntKind.i64.wrap ((dlt v (prv v.length k)).y * (dlt v k).x) = (dlt v (prv v.length k)).y * (dlt v k).x := wrap_bd (by decide)
        have m10 : IntKind.i64.wrap ((dlt v (prv v.length k)).x * (dlt v k).y - (dlt v (prv v.length k)).y * (dlt v k).x) = (dlt v (prv v.length k)).x * (dlt v k).y - (dlt v (prv v.length k)).y * (dlt v k).x := wrap_bd (by decide)
        have bc : Bd ((dlt v (prv v.length k)).x * (dlt v k).y - (dlt v (prv v.length k)).y * (dlt v k).x) _ := inferInstance
        have lc := bc.le
        have m11 : IntKind.i64.wrap (1 * ((dlt v (prv v.length k)).x * (dlt v k).y - (dlt v (prv v.length k)).y * (dlt v k).x)) = crs v 1 k := by show _ = 1 * _; exact wrap64 (by omega) (by omega)
        rw [m8, m9, m10, m11]
        have w1' := wantTo_bd v40 vin' hsg hww (k + 1) hlt
        rw [wantTo] at w1'
        have hwant : wantTo v each 1 (k + 1) = wantTo v each 1 k + 2 * wd each k * max (max (max (dlt v k).x (-(dlt v k).x)) (dlt v k).y) (-(dlt v k).y) + (if 0 < crs v 1 k then 2 * wd each k * wd each (prv v.length k) else 0) - (if crs v 1 k < 0 then 2 * wd each k * wd each (prv v.length k) else 0) := rfl
        generalize wantTo v each 1 k + 2 * wd each k * max (max (max (dlt v k).x (-(dlt v k).x)) (dlt v k).y) (-(dlt v k).y) = W1 at *
        have m12 : IntKind.i64.wrap (2 * wd each k * wd each (prv v.length k)) = 2 * wd each k * wd each (prv v.length k) := wrap64 (by omega) (by omega)
        refine atCond rfl (fun f1 => ?_) (fun f1 => ?_)
        · rw [ltb_iff] at f1
          refine go 800 rfl ?_
          refine atIdxR k rfl rfl rfl rfl rfl (by omega) ?_
          refine go 800 rfl ?_
          refine atLoadE (enc := encInt) each k (wd each k) rfl (Nat.zero_add _) (fun _ => rfl) rfl (wd_mem (by omega)) ?_
          refine go 800 rfl ?_
          refine atRem rfl rfl (by omega) ?_
          refine go 800 rfl ?_
          refine atIdxR (prv v.length k) rfl rfl rfl rfl (by rw [wn, wn', tmod_nat]; rfl) (by omega) ?_
          refine go 800 rfl ?_
          refine atLoadE (enc := encInt) each (prv v.length k) (wd each (prv v.length k)) rfl (Nat.zero_add _) (fun _ => rfl) rfl (wd_mem (by omega)) ?_
          refine go 800 rfl ?_
          rw [m1, m12]
          rw [if_pos f1, if_neg (by omega)] at hwant w1'
          have m13 : IntKind.i64.wrap (W1 + 2 * wd each k * wd each (prv v.length k)) = wantTo v each 1 (k + 1) := by rw [hwant, wrap64 (by omega) (by omega)]; omega
          rw [m13]
          refine atCond rfl (fun f2 => ?_) (fun f2 => ?_)
          · rw [ltb_iff] at f2; omega
          refine go 800 rfl ?_
          refine atEnd ?_
          exact fin (settleI rfl ⟨all_plain int_plain _, trivial⟩ (by simp [spots, encInt, w1]))
        rw [ltb_not] at f1
        refine go 800 rfl ?_
        refine atCond rfl (fun f2 => ?_) (fun f2 => ?_)
        · rw [ltb_iff] at f2
          refine go 800 rfl ?_
          refine atIdxR k rfl rfl rfl rfl rfl (by omega) ?_
          refine go 800 rfl ?_
          refine atLoadE (enc := encInt) each k (wd each k) rfl (Nat.zero_add _) (fun _ => rfl) rfl (wd_mem (by omega)) ?_
          refine go 800 rfl ?_
          refine atRem rfl rfl (by omega) ?_
          refine go 800 rfl ?_
          refine atIdxR (prv v.length k) rfl rfl rfl rfl (by rw [wn, wn', tmod_nat]; rfl) (by omega) ?_
          refine go 800 rfl ?_
          refine atLoadE (enc := encInt) each (prv v.length k) (wd each (prv v.length k)) rfl (Nat.zero_add _) (fun _ => rfl) rfl (wd_mem (by omega)) ?_
          refine go 800 rfl ?_
          rw [m1, m12]
          rw [if_neg (by omega), if_pos f2] at hwant w1'
          have m13 : IntKind.i64.wrap (W1 - 2 * wd each k * wd each (prv v.length k)) = wantTo v each 1 (k + 1) := by rw [hwant, wrap64 (by omega) (by omega)]; omega
          rw [m13]
          refine atEnd ?_
          exact fin (settleI rfl ⟨all_plain int_plain _, trivial⟩ (by simp [spots, encInt, w1]))
        rw [ltb_not] at f2
        rw [if_neg (by omega), if_neg (by omega)] at hwant
        have m13 : W1 = wantTo v each 1 (k + 1) := by rw [hwant]; omega
        refine go 800 rfl ?_
        rw [m13]
        refine atEnd ?_
        exact fin (settleI rfl ⟨all_plain int_plain _, trivial⟩ (by simp [spots, encInt, w1]))
    rw [ltb_not] at e1
    obtain rfl : k = v.length := by omega
    have hA : Axis v := ⟨vin', fun i hi => simple_ne vs (by omega) hi, hax⟩
    have hfin := want_all hA hsg hww (by omega)
    rw [hqq] at hfin
    have haq : area2P q = areaP q := by unfold area2P; rw [if_pos hq]
    have habq := area_bd (v := q) q40
    have wq : IntKind.i64.wrap (1 * area2P q) = wantTo v each 1 v.length := by rw [haq, ← hfin]; exact wrap64 (by omega) (by omega)
    refine go 800 rfl ?_
    refine atEnd ?_
    refine go 800 rfl ?_
    refine atCall rfl rfl (Area2_PU q) ?_
    refine go 800 rfl ?_
    rw [wq]
    refine atGuard rfl (fun _ => ?_) (fun g => absurd rfl (eqb_not.1 g))
    refine go 800 rfl ?_
    refine atCall rfl rfl exampleHolds_PU ?_
    refine go 800 rfl ?_
    exact finI rfl rfl rfl trivial rfl
end Go.F
