/- Parts of the proof, part 43: Rect, Rect2, Rect3, LRects. -/
import Derived.Test.YtjjkgfikkihokaaZ42
/- Rectangles: the plain law. -/
namespace Go.F

section
variable {x y z w : Int}

theorem rect_pt0 : pt (rectL x y z w) 0 = ⟨x, y⟩ := rfl
theorem rect_pt1 : pt (rectL x y z w) 1 = ⟨z, y⟩ := rfl
theorem rect_pt2 : pt (rectL x y z w) 2 = ⟨z, w⟩ := rfl
theorem rect_pt3 : pt (rectL x y z w) 3 = ⟨x, w⟩ := rfl
theorem rect_len : (rectL x y z w).length = 4 := rfl

theorem four {P : Nat → Prop} (h0 : P 0) (h1 : P 1) (h2 : P 2) (h3 : P 3) : ∀ i, i < 4 → P i := by
  intro i hi
  match i, hi with
  | 0, _ => exact h0
  | 1, _ => exact h1
  | 2, _ => exact h2
  | 3, _ => exact h3
  | n + 4, h => omega

theorem cross0 {a b c : Spot} (h : crossS a b c ≠ 0) : onS a b c = false := by
  unfold onS; simp [h]

theorem fold0 {a b c : Spot} (h : crossS a b c ≠ 0) : foldedS a b c = false := by
  unfold foldedS; simp [h]

theorem rect_simple (h1 : x < z) (h2 : y < w) : SimpleP (rectL x y z w) := by
  have hp : 0 < (z - x) * (w - y) := Int.mul_pos (by omega) (by omega)
  unfold SimpleP
  rw [rect_len]
  refine ⟨four ?_ ?_ ?_ ?_, four ?_ ?_ ?_ ?_⟩
  · simp [rectL]
  · simp [rectL, pt]; omega
  · simp [rectL, pt]; omega
  · simp [rectL, pt]; omega
  · refine ⟨fold0 ?_, four ?_ ?_ ?_ ?_⟩
    · show crossS ⟨x, y⟩ ⟨z, y⟩ ⟨z, w⟩ ≠ 0
      unfold crossS; simp only; grind
    · intro h; omega
    · intro h; omega
    · intro _ _
      show meetS ⟨x, y⟩ ⟨z, y⟩ ⟨z, w⟩ ⟨x, w⟩ = false
      have e1 : onS ⟨x, y⟩ ⟨z, y⟩ ⟨z, w⟩ = false := cross0 (by unfold crossS; simp only; grind)
      have e2 : onS ⟨x, y⟩ ⟨z, y⟩ ⟨x, w⟩ = false := cross0 (by unfold crossS; simp only; grind)
      have e3 : onS ⟨z, w⟩ ⟨x, w⟩ ⟨x, y⟩ = false := cross0 (by unfold crossS; simp only; grind)
      have e4 : onS ⟨z, w⟩ ⟨x, w⟩ ⟨z, y⟩ = false := cross0 (by unfold crossS; simp only; grind)
      have e5 : partedS ⟨x, y⟩ ⟨z, y⟩ ⟨z, w⟩ ⟨x, w⟩ = false := by
        have c1 : crossS ⟨x, y⟩ ⟨z, y⟩ ⟨z, w⟩ = (z - x) * (w - y) := by unfold crossS; simp only; grind
        have c2 : crossS ⟨x, y⟩ ⟨z, y⟩ ⟨x, w⟩ = (z - x) * (w - y) := by unfold crossS; simp only; grind
        unfold partedS; rw [c1, c2]; unfold sgn
        rw [if_neg (by omega), if_pos hp]; decide
      unfold meetS; rw [e1, e2, e3, e4, e5]; rfl
    · intro _ h; exact absurd rfl h
  · refine ⟨fold0 ?_, four ?_ ?_ ?_ ?_⟩
    · show crossS ⟨z, y⟩ ⟨z, w⟩ ⟨x, w⟩ ≠ 0
      unfold crossS; simp only; grind
    · intro h; omega
    · intro h; omega
    · intro h; omega
    · intro _ _
      show meetS ⟨z, y⟩ ⟨z, w⟩ ⟨x, w⟩ ⟨x, y⟩ = false
      have e1 : onS ⟨z, y⟩ ⟨z, w⟩ ⟨x, w⟩ = false := cross0 (by unfold crossS; simp only; grind)
      have e2 : onS ⟨z, y⟩ ⟨z, w⟩ ⟨x, y⟩ = false := cross0 (by unfold crossS; simp only; grind)
      have e3 : onS ⟨x, w⟩ ⟨x, y⟩ ⟨z, y⟩ = false := cross0 (by unfold crossS; simp only; grind)
      have e4 : onS ⟨x, w⟩ ⟨x, y⟩ ⟨z, w⟩ = false := cross0 (by unfold crossS; simp only; grind)
      have e5 : partedS ⟨z, y⟩ ⟨z, w⟩ ⟨x, w⟩ ⟨x, y⟩ = false := by
        have c1 : crossS ⟨z, y⟩ ⟨z, w⟩ ⟨x, w⟩ = (z - x) * (w - y) := by unfold crossS; simp only; grind
        have c2 : crossS ⟨z, y⟩ ⟨z, w⟩ ⟨x, y⟩ = (z - x) * (w - y) := by unfold crossS; simp only; grind
        unfold partedS; rw [c1, c2]; unfold sgn
        rw [if_neg (by omega), if_pos hp]; decide
      unfold meetS; rw [e1, e2, e3, e4, e5]; rfl
  · refine ⟨fold0 ?_, four ?_ ?_ ?_ ?_⟩
    · show crossS ⟨z, w⟩ ⟨x, w⟩ ⟨x, y⟩ ≠ 0
      unfold crossS; simp only; grind
    all_goals (intro h; omega)
  · refine ⟨fold0 ?_, four ?_ ?_ ?_ ?_⟩
    · show crossS ⟨x, w⟩ ⟨x, y⟩ ⟨z, y⟩ ≠ 0
      unfold crossS; simp only; grind
    all_goals (intro h; omega)

theorem rect_in {m : Int} (h0 : -m ≤ x) (h1 : x < z) (h2 : z ≤ m) (h3 : -m ≤ y) (h4 : y < w) (h5 : w ≤ m) : ∀ s ∈ rectL x y z w, withinS s m = true := by
  intro s hs
  rw [withinS_iff]
  simp [rectL] at hs
  rcases hs with rfl | rfl | rfl | rfl <;> simp only <;> omega

theorem rect_check (h0 : -1048576 ≤ x) (h1 : x < z) (h2 : z ≤ 1048576) (h3 : -1048576 ≤ y) (h4 : y < w) (h5 : w ≤ 1048576) : checkP (rectL x y z w) = 0 := by
  unfold checkP
  rw [rect_len, if_neg (by decide), if_neg (by decide), if_neg, if_pos (rect_simple h1 h4)]
  rw [List.any_eq_true]
  rintro ⟨s, hs1, hs2⟩
  rw [rect_in h0 h1 h2 h3 h4 h5 s hs1] at hs2
  cases hs2

theorem rect_area : areaP (rectL x y z w) = 2 * ((z - x) * (w - y)) := by
  show areaTo (rectL x y z w) 4 = _
  simp only [areaTo, rect_len, show (0 + 1) % 4 = 1 from rfl, show (1 + 1) % 4 = 2 from rfl, show (2 + 1) % 4 = 3 from rfl, show (3 + 1) % 4 = 0 from rfl, rect_pt0, rect_pt1, rect_pt2, rect_pt3]
  grind

theorem rect_sgn (h0 : -1048576 ≤ x) (h1 : x < z) (h2 : z ≤ 1048576) (h3 : -1048576 ≤ y) (h4 : y < w) (h5 : w ≤ 1048576) : sgn (area2P (rectL x y z w)) = 1 := by
  have hp : 0 < (z - x) * (w - y) := Int.mul_pos (by omega) (by omega)
  unfold area2P
  rw [if_pos (rect_check h0 h1 h2 h3 h4 h5), rect_area]
  unfold sgn
  rw [if_neg (by omega), if_pos (by omega)]

theorem rect_verts : verts (sides (rectL x y z w)) = rectL x y z w := rfl
end
end Go.F

/- Rectangles: shifts and corners. -/
namespace Go.F

theorem rndI_mul (k : Int) {d : Int} (hd : 0 < d) : rndI (k * d) d = k := by
  have key : ∀ j : Int, 0 ≤ j → (2 * (j * d) + d) / (2 * d) = j := by
    intro j hj
    have e : 2 * (j * d) + d = (2 * j + 1) * d := by rw [Int.add_mul, Int.one_mul, Int.mul_assoc]
    rw [e, Int.mul_ediv_mul_of_pos_left _ _ hd]
    omega
  unfold rndI
  split
  · rename_i h
    have hk : k < 0 := by
      by_cases hc : k < 0
      · exact hc
      · have := Int.mul_nonneg (show 0 ≤ k by omega) (Int.le_of_lt hd); omega
    have := key (-k) (by omega)
    rw [Int.neg_mul] at this
    rw [this]; omega
  · rename_i h
    have hk : 0 ≤ k := by
      by_cases hc : 0 ≤ k
      · exact hc
      · have := Int.mul_neg_of_neg_of_pos (show k < 0 by omega) hd; omega
    exact key k hk

theorem isq_sq {d : Nat} (h : d < 33554432) : isq (d * d) = d := by
  have hb : d * d ≤ 33554431 * 33554431 := Nat.mul_le_mul (by omega) (by omega)
  refine (isq_unique (by omega) (Nat.le_refl _) ?_).symm
  exact Nat.mul_lt_mul'' (by omega) (by omega)

/- the shifts of segments along the axes -/
theorem shift_h {x z y w : Int} (h1 : x < z) (h2 : z - x < 33554432) : shiftS ⟨x, y⟩ ⟨z, y⟩ w = ⟨0, -w⟩ ∧ shiftS ⟨z, y⟩ ⟨x, y⟩ w = ⟨0, w⟩ := by
  obtain ⟨d, hd⟩ : ∃ d : Nat, z - x = d := ⟨(z - x).toNat, by omega⟩
  have e1 : sqd ⟨x, y⟩ ⟨z, y⟩ = d * d := by
    unfold sqd; simp only [hd, Int.sub_self, Int.mul_zero, Int.add_zero]; rw [← Int.natCast_mul]; rfl
  have e2 : sqd ⟨z, y⟩ ⟨x, y⟩ = d * d := by
    unfold sqd; simp only [show x - z = -(d : Int) by omega, Int.sub_self, Int.mul_zero, Int.add_zero, Int.neg_mul_neg]; rw [← Int.natCast_mul]; rfl
  unfold shiftS
  rw [e1, e2, isq_sq (by omega)]
  simp only [hd, show x - z = -(d : Int) by omega, Int.sub_self, Int.mul_zero]
  rw [rndI_zero (by omega), rndI_mul _ (by omega), Int.neg_mul_neg, rndI_mul _ (by omega)]
  exact ⟨rfl, rfl⟩

theorem shift_v {y z x w : Int} (h1 : y < z) (h2 : z - y < 33554432) : shiftS ⟨x, y⟩ ⟨x, z⟩ w = ⟨w, 0⟩ ∧ shiftS ⟨x, z⟩ ⟨x, y⟩ w = ⟨-w, 0⟩ := by
  obtain ⟨d, hd⟩ : ∃ d : Nat, z - y = d := ⟨(z - y).toNat, by omega⟩
  have e1 : sqd ⟨x, y⟩ ⟨x, z⟩ = d * d := by
    unfold sqd; simp only [hd, Int.sub_self, Int.mul_zero, Int.zero_add]; rw [← Int.natCast_mul]; rfl
  have e2 : sqd ⟨x, z⟩ ⟨x, y⟩ = d * d := by
    unfold sqd; simp only [show y - z = -(d : Int) by omega, Int.sub_self, Int.mul_zero, Int.zero_add, Int.neg_mul_neg]; rw [← Int.natCast_mul]; rfl
  unfold shiftS
  rw [e1, e2, isq_sq (by omega)]
  simp only [hd, show y - z = -(d : Int) by omega, Int.sub_self, Int.mul_zero]
  rw [rndI_zero (by omega), rndI_mul _ (by omega), Int.mul_neg, ← Int.neg_mul, rndI_mul _ (by omega)]
  exact ⟨rfl, rfl⟩

theorem roundQ_int (n : Int) : roundQ (n : Rat) = n := by
  unfold roundQ rnd
  rw [Rat.num_intCast, Rat.den_intCast]
  split <;> omega

theorem cancel {a b c : Rat} (h : c ≠ 0) (he : a * c = b * c) : a = b := by
  have := Rat.mul_div_cancel (a := a) h
  rw [he, Rat.mul_div_cancel h] at this
  exact this.symm

/- a line along one axis, and one along the other -/
theorem meet_hv {ax bx cx ay cy dy : Rat} (h1 : bx - ax ≠ 0) (h2 : dy - cy ≠ 0) : meetQ ⟨ax, ay⟩ ⟨bx, ay⟩ ⟨cx, cy⟩ ⟨cx, dy⟩ = some ⟨cx, ay⟩ := by
  have hc : crossP (subP ⟨bx, ay⟩ ⟨ax, ay⟩) (subP ⟨cx, dy⟩ ⟨cx, cy⟩) = (bx - ax) * (dy - cy) := by
    unfold crossP subP; simp only; grind
  have hn : crossP (subP ⟨cx, cy⟩ ⟨ax, ay⟩) (subP ⟨cx, dy⟩ ⟨cx, cy⟩) = (cx - ax) * (dy - cy) := by
    unfold crossP subP; simp only; grind
  have h0 : (bx - ax) * (dy - cy) ≠ 0 := fun h => by rcases Rat.mul_eq_zero.1 h with h | h; exact h1 h; exact h2 h
  unfold meetQ
  rw [hc, hn, if_neg h0]
  have ht := Rat.div_mul_cancel (a := (cx - ax) * (dy - cy)) h0
  generalize (cx - ax) * (dy - cy) / ((bx - ax) * (dy - cy)) = t at ht ⊢
  have he : t * (bx - ax) = cx - ax := cancel h2 (by rw [← ht]; grind)
  unfold onP addP scaleP subP
  simp only [Option.some.injEq, QP.mk.injEq]
  constructor <;> grind

theorem meet_vh {ax ay by' cx cy dx : Rat} (h1 : by' - ay ≠ 0) (h2 : dx - cx ≠ 0) : meetQ ⟨ax, ay⟩ ⟨ax, by'⟩ ⟨cx, cy⟩ ⟨dx, cy⟩ = some ⟨ax, cy⟩ := by
  have hc : crossP (subP ⟨ax, by'⟩ ⟨ax, ay⟩) (subP ⟨dx, cy⟩ ⟨cx, cy⟩) = -((by' - ay) * (dx - cx)) := by
    unfold crossP subP; simp only; grind
  have hn : crossP (subP ⟨cx, cy⟩ ⟨ax, ay⟩) (subP ⟨dx, cy⟩ ⟨cx, cy⟩) = -((cy - ay) * (dx - cx)) := by
    unfold crossP subP; simp only; grind
  have h0 : -((by' - ay) * (dx - cx)) ≠ 0 := fun h => by
    have : (by' - ay) * (dx - cx) = 0 := by grind
    rcases Rat.mul_eq_zero.1 this with h | h; exact h1 h; exact h2 h
  unfold meetQ
  rw [hc, hn, if_neg h0]
  have ht := Rat.div_mul_cancel (a := -((cy - ay) * (dx - cx))) h0
  generalize -((cy - ay) * (dx - cx)) / -((by' - ay) * (dx - cx)) = t at ht ⊢
  have he : t * (by' - ay) = cy - ay := cancel h2 (by grind)
  unfold onP addP scaleP subP
  simp only [Option.some.injEq, QP.mk.injEq]
  constructor <;> grind

theorem int_ne {a b : Int} (h : a ≠ b) : ((b : Rat) - (a : Rat)) ≠ 0 := by
  intro he
  rw [← Rat.intCast_sub, Rat.intCast_eq_zero_iff] at he
  omega

theorem sub_int (a b c d : Int) : subP ⟨(a : Rat), (b : Rat)⟩ ⟨(c : Rat), (d : Rat)⟩ = ⟨((a - c : Int) : Rat), ((b - d : Int) : Rat)⟩ := by
  unfold subP; simp only [Rat.intCast_sub]

theorem grid_int {a b : Int} (h1 : -1048576 ≤ a) (h2 : a ≤ 1048576) (h3 : -1048576 ≤ b) (h4 : b ≤ 1048576) : gridQ ⟨(a : Rat), (b : Rat)⟩ = (⟨a, b⟩, 0) := by
  unfold gridQ
  simp only [roundQ_int]
  rw [if_pos]
  rw [Bool.and_eq_true, inGrid_iff, inGrid_iff]
  omega

theorem corner_of {v : Spot} {a b : Seg} {px py : Int} (hm : meetQ (qp a.fr) (qp a.to) (qp b.fr) (qp b.to) = some ⟨(px : Rat), (py : Rat)⟩) (h1 : -(4 * max a.w b.w + 4) ≤ px - v.x) (h2 : px - v.x ≤ 4 * max a.w b.w + 4) (h3 : -(4 * max a.w b.w + 4) ≤ py - v.y) (h4 : py - v.y ≤ 4 * max a.w b.w + 4) (h5 : max a.w b.w ≤ 500) :
    cornerS v a b = [⟨px, py⟩] := by
  unfold cornerS
  rw [hm]
  simp only
  have e : subP ⟨(px : Rat), (py : Rat)⟩ (qp v) = ⟨((px - v.x : Int) : Rat), ((py - v.y : Int) : Rat)⟩ := sub_int _ _ _ _
  rw [e, grid_int (by omega) (by omega) (by omega) (by omega), if_pos]
  · unfold addS; simp only [List.cons.injEq, Spot.mk.injEq, and_true]; omega
  · refine ⟨rfl, ?_⟩
    rw [withinS_iff]; simp only; omega

theorem once_list {v sh T : List Spot} {each : List Int} (hT : T.length = v.length) (hc : ∀ i, i < v.length → cornerAt v sh each i = [pt T i]) (hne : ∀ i, i + 1 < v.length → pt T i ≠ pt T (i + 1)) :
    ∀ k, k ≤ v.length → onceL (cornersTo v sh each k) = T.take k := by
  intro k
  induction k with
  | zero => intro _; simp [cornersTo, onceL]
  | succ k ih =>
    intro hk
    have ih := ih (by omega)
    have hpush : pushS (T.take k) (pt T k) = T.take k ++ [pt T k] := by
      refine pushS_new fun h0 => ?_
      have hk0 : k ≠ 0 := by rintro rfl; simp at h0
      have e : lastS (T.take k) = pt T (k - 1) := by
        have hl : (T.take k).length = k := by simp; omega
        rw [lastS, hl, pt_get (by omega), pt_get (by omega)]
        simp
      rw [e]
      have := hne (k - 1) (by omega)
      rwa [Nat.sub_add_cancel (by omega)] at this
    have et : T.take (k + 1) = T.take k ++ [pt T k] := by
      rw [List.take_succ_eq_append_getElem (by omega), pt_get (by omega)]
    unfold onceL at ih ⊢
    rw [cornersTo, List.foldl_append, ih, et, hc k (by omega)]
    simp only [List.foldl_cons, List.foldl_nil]
    exact hpush
end Go.F

/- Rectangles: the plain law. -/
namespace Go.F

theorem names4 : nameS ⟨#[UInt8.ofNat (97 + 0 % 26)]⟩ = true ∧ nameS ⟨#[UInt8.ofNat (97 + 1 % 26)]⟩ = true ∧ nameS ⟨#[UInt8.ofNat (97 + 2 % 26)]⟩ = true ∧ nameS ⟨#[UInt8.ofNat (97 + 3 % 26)]⟩ = true := by
  rw [nameC_eq]; decide +kernel

theorem checkL_two {a b : Spot} (ha : withinS a 1048576 = true) (hb : withinS b 1048576 = true) (h : a ≠ b) : checkL [a, b] = 0 := by
  unfold checkL
  rw [if_neg (by simp), if_neg (by simp), if_neg (by simp [ha, hb]), if_pos]
  intro i hi
  have : i = 0 := by simp at hi; omega
  subst this
  exact h

section
variable {x y z w : Int} (h0 : -1048576 ≤ x) (h1 : x < z) (h2 : z ≤ 1048576) (h3 : -1048576 ≤ y) (h4 : y < w) (h5 : w ≤ 1048576)

theorem side0 : eg (sides (rectL x y z w)) 0 = ⟨⟨#[UInt8.ofNat (97 + 0 % 26)]⟩, [⟨x, y⟩, ⟨z, y⟩]⟩ := rfl
theorem side1 : eg (sides (rectL x y z w)) 1 = ⟨⟨#[UInt8.ofNat (97 + 1 % 26)]⟩, [⟨z, y⟩, ⟨z, w⟩]⟩ := rfl
theorem side2 : eg (sides (rectL x y z w)) 2 = ⟨⟨#[UInt8.ofNat (97 + 2 % 26)]⟩, [⟨z, w⟩, ⟨x, w⟩]⟩ := rfl
theorem side3 : eg (sides (rectL x y z w)) 3 = ⟨⟨#[UInt8.ofNat (97 + 3 % 26)]⟩, [⟨x, w⟩, ⟨x, y⟩]⟩ := by
  show sideE (rectL x y z w) 3 = _
  unfold sideE
  rw [rect_len]
  rfl

theorem rect_named : ∀ i, i < 4 → namedB (sides (rectL x y z w)) i = false := by
  have e : ∀ i, i < 4 → (eg (sides (rectL x y z w)) i).name = ⟨#[UInt8.ofNat (97 + i % 26)]⟩ := four rfl rfl rfl rfl
  intro i hi
  refine namedB_no fun j hj => ?_
  rw [e j (by omega), e i hi, Go.ByteArray.toList_eq, Go.ByteArray.toList_eq]
  have : ∀ i, i < 4 → ∀ j, j < i → ((⟨#[UInt8.ofNat (97 + j % 26)]⟩ : ByteArray).data.toList == (⟨#[UInt8.ofNat (97 + i % 26)]⟩ : ByteArray).data.toList) = false := by decide +kernel
  exact this i hi j hj

theorem rect_checkO (h0 : -1048576 ≤ x) (h1 : x < z) (h2 : z ≤ 1048576) (h3 : -1048576 ≤ y) (h4 : y < w) (h5 : w ≤ 1048576) : checkO (sides (rectL x y z w)) = 0 := by
  have hin := rect_in (x := x) (y := y) (z := z) (w := w) h0 h1 h2 h3 h4 h5
  have i0 := hin ⟨x, y⟩ (by simp [rectL])
  have i1 := hin ⟨z, y⟩ (by simp [rectL])
  have i2 := hin ⟨z, w⟩ (by simp [rectL])
  have i3 := hin ⟨x, w⟩ (by simp [rectL])
  obtain ⟨n0, n1, n2, n3⟩ := names4
  have he : ∀ i, i < 4 → edgeErr (sides (rectL x y z w)) i = 0 := by
    refine four ?_ ?_ ?_ ?_
    · unfold edgeErr
      rw [rect_named 0 (by decide), side0, n0, if_neg (by decide), if_neg (by decide)]
      exact checkL_two i0 i1 (by simp; omega)
    · unfold edgeErr
      rw [rect_named 1 (by decide), side1, n1, if_neg (by decide), if_neg (by decide)]
      exact checkL_two i1 i2 (by simp; omega)
    · unfold edgeErr
      rw [rect_named 2 (by decide), side2, n2, if_neg (by decide), if_neg (by decide)]
      exact checkL_two i2 i3 (by simp; omega)
    · unfold edgeErr
      rw [rect_named 3 (by decide), side3, n3, if_neg (by decide), if_neg (by decide)]
      exact checkL_two i3 i0 (by simp; omega)
  have hj : ∀ i, i < 4 → joinErr (sides (rectL x y z w)) i = 0 := by
    have hl : (sides (rectL x y z w)).length = 4 := rfl
    refine four ?_ ?_ ?_ ?_
    · unfold joinErr; rw [hl, side0]; exact if_pos rfl
    · unfold joinErr; rw [hl, side1]; exact if_pos rfl
    · unfold joinErr; rw [hl, side2]; refine if_pos ?_; rw [show (2 + 1) % 4 = 3 from rfl, side3]; rfl
    · unfold joinErr; rw [hl, side3]; exact if_pos rfl
  have first : ∀ f : Nat → Int, (∀ i, i < 4 → f i = 0) → firstErr f 4 = 0 := by
    intro f hf
    have key : ∀ k, k ≤ 4 → firstErr f k = 0 := by
      intro k
      induction k with
      | zero => intro _; rfl
      | succ k ih => intro hk; exact firstErr_next (ih (by omega)) (hf k hk)
    exact key 4 (Nat.le_refl _)
  have hl : (sides (rectL x y z w)).length = 4 := rfl
  unfold checkO
  rw [hl, if_neg (by decide), if_neg (by decide), first _ he, first _ hj, if_pos rfl, if_pos rfl, rect_verts]
  exact rect_check h0 h1 h2 h3 h4 h5
end

theorem rect_segW (x y z w a b c d : Int) : segW (sides (rectL x y z w)) [a, b, c, d] 4 = [a, b, c, d] := rfl

def rectS (a b c d : Int) : List Spot := [⟨0, -a⟩, ⟨b, 0⟩, ⟨0, c⟩, ⟨-d, 0⟩]

theorem rect_shifts {x y z w : Int} (a b c d : Int) (h0 : -1048076 ≤ x) (h1 : x < z) (h2 : z ≤ 1048076) (h3 : -1048076 ≤ y) (h4 : y < w) (h5 : w ≤ 1048076) : shiftsL (rectL x y z w) [a, b, c, d] 1 = rectS a b c d := by
  have e0 : shiftAt (rectL x y z w) [a, b, c, d] 1 0 = ⟨0, -a⟩ := by
    show shiftS ⟨x, y⟩ ⟨z, y⟩ (1 * a) = _; rw [Int.one_mul]; exact (shift_h h1 (by omega)).1
  have e1 : shiftAt (rectL x y z w) [a, b, c, d] 1 1 = ⟨b, 0⟩ := by
    show shiftS ⟨z, y⟩ ⟨z, w⟩ (1 * b) = _; rw [Int.one_mul]; exact (shift_v h4 (by omega)).1
  have e2 : shiftAt (rectL x y z w) [a, b, c, d] 1 2 = ⟨0, c⟩ := by
    show shiftS ⟨z, w⟩ ⟨x, w⟩ (1 * c) = _; rw [Int.one_mul]; exact (shift_h h1 (by omega)).2
  have e3 : shiftAt (rectL x y z w) [a, b, c, d] 1 3 = ⟨-d, 0⟩ := by
    unfold shiftAt; rw [rect_len]; show shiftS ⟨x, w⟩ ⟨x, y⟩ (1 * d) = _; rw [Int.one_mul]; exact (shift_v h4 (by omega)).2
  unfold shiftsL
  rw [rect_len, show List.range 4 = [0, 1, 2, 3] from rfl]
  simp only [List.map_cons, List.map_nil, e0, e1, e2, e3]
  rfl

section
variable (x y z w a b c d : Int)
theorem rect_seg0 : segAt (rectL x y z w) (rectS a b c d) [a, b, c, d] 0 = ⟨⟨x, y - a⟩, ⟨z, y - a⟩, a⟩ := by
  show (⟨⟨x + 0, y + -a⟩, ⟨z + 0, y + -a⟩, a⟩ : Seg) = _
  simp only [Int.add_zero, ← Int.sub_eq_add_neg]
theorem rect_seg1 : segAt (rectL x y z w) (rectS a b c d) [a, b, c, d] 1 = ⟨⟨z + b, y⟩, ⟨z + b, w⟩, b⟩ := by
  show (⟨⟨z + b, y + 0⟩, ⟨z + b, w + 0⟩, b⟩ : Seg) = _
  simp only [Int.add_zero]
theorem rect_seg2 : segAt (rectL x y z w) (rectS a b c d) [a, b, c, d] 2 = ⟨⟨z, w + c⟩, ⟨x, w + c⟩, c⟩ := by
  show (⟨⟨z + 0, w + c⟩, ⟨x + 0, w + c⟩, c⟩ : Seg) = _
  simp only [Int.add_zero]
theorem rect_seg3 : segAt (rectL x y z w) (rectS a b c d) [a, b, c, d] 3 = ⟨⟨x - d, w⟩, ⟨x - d, y⟩, d⟩ := by
  unfold segAt
  rw [rect_len]
  show (⟨⟨x + -d, w + 0⟩, ⟨x + -d, y + 0⟩, d⟩ : Seg) = _
  simp only [Int.add_zero, ← Int.sub_eq_add_neg]
end

theorem rect_corners {x y z w a b c d : Int} (h1 : x < z) (h4 : y < w) (ha : 0 ≤ a ∧ a ≤ 500) (hb : 0 ≤ b ∧ b ≤ 500) (hc : 0 ≤ c ∧ c ≤ 500) (hd : 0 ≤ d ∧ d ≤ 500) :
    ∀ i, i < 4 → cornerAt (rectL x y z w) (rectS a b c d) [a, b, c, d] i = [pt (rectL (x - d) (y - a) (z + b) (w + c)) i] := by
  refine four ?_ ?_ ?_ ?_
  · unfold cornerAt
    rw [rect_len, show (0 + 4 - 1) % 4 = 3 from rfl, rect_seg3, rect_seg0, rect_pt0, rect_pt0]
    refine corner_of (meet_vh (int_ne ?_) (int_ne ?_)) ?_ ?_ ?_ ?_ ?_ <;> simp only <;> omega
  · unfold cornerAt
    rw [rect_len, show (1 + 4 - 1) % 4 = 0 from rfl, rect_seg0, rect_seg1, rect_pt1, rect_pt1]
    refine corner_of (meet_hv (int_ne ?_) (int_ne ?_)) ?_ ?_ ?_ ?_ ?_ <;> simp only <;> omega
  · unfold cornerAt
    rw [rect_len, show (2 + 4 - 1) % 4 = 1 from rfl, rect_seg1, rect_seg2, rect_pt2, rect_pt2]
    refine corner_of (meet_vh (int_ne ?_) (int_ne ?_)) ?_ ?_ ?_ ?_ ?_ <;> simp only <;> omega
  · unfold cornerAt
    rw [rect_len, show (3 + 4 - 1) % 4 = 2 from rfl, rect_seg2, rect_seg3, rect_pt3, rect_pt3]
    refine corner_of (meet_hv (int_ne ?_) (int_ne ?_)) ?_ ?_ ?_ ?_ ?_ <;> simp only <;> omega

theorem rect_pts {x y z w a b c d : Int} (h1 : x < z) (h4 : y < w) (ha : 0 ≤ a ∧ a ≤ 500) (hb : 0 ≤ b ∧ b ≤ 500) (hc : 0 ≤ c ∧ c ≤ 500) (hd : 0 ≤ d ∧ d ≤ 500) :
    allowPts (rectL x y z w) (rectS a b c d) [a, b, c, d] = rectL (x - d) (y - a) (z + b) (w + c) := by
  have hsim := rect_simple (x := x - d) (y := y - a) (z := z + b) (w := w + c) (by omega) (by omega)
  have hco := rect_corners (x := x) (y := y) (z := z) (w := w) h1 h4 ha hb hc hd
  generalize hT : rectL (x - d) (y - a) (z + b) (w + c) = T at *
  have hTl : T.length = 4 := by rw [← hT]; rfl
  have hl : (rectL x y z w).length = 4 := rfl
  have hon := once_list (v := rectL x y z w) (sh := rectS a b c d) (each := [a, b, c, d]) (T := T) (by rw [hTl, hl]) (fun i hi => hco i (by omega)) (fun i hi => simple_distinct hsim (by omega) (by omega)) 4 (by omega)
  unfold allowPts
  have h44 : T.take 4 = T := List.take_of_length_le (by omega)
  rw [hl, hon, h44, hTl, trimN_stop (fun _ => (simple_distinct hsim (by omega) (by omega)).symm)]
  exact h44

theorem allow_rect {x y z w a b c d : Int} (h0 : -1048076 ≤ x) (h1 : x < z) (h2 : z ≤ 1048076) (h3 : -1048076 ≤ y) (h4 : y < w) (h5 : w ≤ 1048076)
    (ha : 0 ≤ a ∧ a ≤ 500) (hb : 0 ≤ b ∧ b ≤ 500) (hc : 0 ≤ c ∧ c ≤ 500) (hd : 0 ≤ d ∧ d ≤ 500) :
    allowP (sides (rectL x y z w)) [a, b, c, d] = (rectL (x - d) (y - a) (z + b) (w + c), 0) := by
  have hchk := rect_checkO (x := x) (y := y) (z := z) (w := w) (by omega) h1 (by omega) (by omega) h4 (by omega)
  have hsg := rect_sgn (x := x) (y := y) (z := z) (w := w) (by omega) h1 (by omega) (by omega) h4 (by omega)
  have hsg2 := rect_sgn (x := x - d) (y := y - a) (z := z + b) (w := w + c) (by omega) (by omega) (by omega) (by omega) (by omega) (by omega)
  have hck2 := rect_check (x := x - d) (y := y - a) (z := z + b) (w := w + c) (by omega) (by omega) (by omega) (by omega) (by omega) (by omega)
  have hin := rect_in (x := x - d) (y := y - a) (z := z + b) (w := w + c) (m := 1048576) (by omega) (by omega) (by omega) (by omega) (by omega) (by omega)
  have hpts := rect_pts (x := x) (y := y) (z := z) (w := w) h1 h4 ha hb hc hd
  have hl : (sides (rectL x y z w)).length = 4 := rfl
  have hbad : [a, b, c, d].any badW = false := by simp [badW]; omega
  have hs : shiftsP (sides (rectL x y z w)) [a, b, c, d] = (rectS a b c d, 0) := by
    unfold shiftsP
    rw [if_pos hchk, if_pos (show [a, b, c, d].length = (sides (rectL x y z w)).length from rfl), hbad, if_neg (by decide), rect_verts, hl, rect_segW, hsg, rect_shifts a b c d h0 h1 h2 h3 h4 h5]
  unfold allowP
  rw [hs]
  simp only
  rw [if_pos trivial, rect_verts, hl, rect_segW, hpts]
  generalize rectL (x - d) (y - a) (z + b) (w + c) = T at *
  unfold allowQ
  rw [if_neg, if_pos hck2, if_pos (by rw [hsg, hsg2])]
  rw [List.any_eq_true]
  rintro ⟨s, hs1, hs2⟩
  rw [hin s hs1] at hs2
  cases hs2
end Go.F

/- AllowanceRects: the law's walk. -/
namespace Go.F
attribute [local irreducible] IntKind.wrap wpM

section
variable {T : Tab} {sh : Shr} {nx0 : Nat} {s : List Fr} {t : Tmps} {h : Heap} {z : Frz} {nx : Nat} {q : Ex → Tmps → Heap → Frz → Nat → Prop}
variable {base i : Nat} {res : List Nat} {dst : Nat} {g : Gd} {rest : List KOper}

/- an element of an array -/
theorem atIa {len : Nat} {x ix : X} {cs : List D} {kk : IntKind} {m : Int} {d : D} (k : Nat) (hx : x.ev t = .agg cs) (hi : ix.ev t = .int kk m) (hm : m = k) (hk : k < len) (hd : cs[k]? = some d)
    (hw : wpM T sh nx0 (.ops base res rest :: s) .normal (upd t dst d) h z nx q) :
    wpM T sh nx0 (.ops base res (⟨i, some dst, none, g, .ia len false 1 x ix⟩ :: rest) :: s) .normal t h z nx q := by
  refine atOp ?_
  simp only [kop, kia, hx]
  refine wint_of hi hm (wneed_of hk ?_)
  rw [Nat.mul_one]
  exact widx_of hd hw

theorem atIxa {len n : Nat} {x ix : X} {kk : IntKind} {m : Int} {d : D} (k : Nat) (hi : ix.ev t = .int kk m) (hm : m = k) (hk : k < len) (hd : movePtr (x.ev t) (k * n) = some d)
    (hw : wpM T sh nx0 (.ops base res rest :: s) .normal (upd t dst d) h z nx q) :
    wpM T sh nx0 (.ops base res (⟨i, some dst, none, g, .ixa len n x ix⟩ :: rest) :: s) .normal t h z nx q := by
  refine atOp ?_
  simp only [kop, kixa]
  exact wint_of hi hm (wneed_of hk (wo_of hd hw))

/- all of an array, as a slice -/
theorem atSlArr {n k : Nat} {ag : Bool} {x : X} {id j o : Nat} {es : List D} {esz : Nat} {e : D} {l : List D} (hx : x.ev t = .ptr id j o) (hr : g.h base h id = some (.row es esz)) (he : es[j]? = some e)
    (hc : (Nat.blt 0 k && Nat.ble (o + n * k) e.cells.length && (ag || Nat.beq k 1) && e.cells.all D.scalar) = true) (hl : chunks k ag n (e.cells.drop o) = l)
    (hw : wpM T sh nx0 (.ops base res rest :: s) .normal (upd t dst (.lst l)) h (upd z id es.length) nx q) :
    wpM T sh nx0 (.ops base res (⟨i, some dst, none, g, .slarr n ag k x⟩ :: rest) :: s) .normal t h z nx q := by
  refine atOp ?_
  simp only [kop, kslarr, hx, hr]
  refine widx_of he ?_
  rw [fA_eq]
  simp only [hc, fL1_eq, hl]
  exact hw
end

def rectD (x y w h : Int) : D := .agg [.int .i64 x, .int .i64 y, .int .i64 w, .int .i64 h]

set_option maxHeartbeats 4000000 in
theorem rects_law_PU (x y w h a b c d : Int) : PU f_l24_AllowanceRects [rectD x y w h, rectD a b c d] = some (.bool true) := by
  refine PU_of (fn := k_l24_AllowanceRects) rfl (startI ?_)
  refine go 800 rfl ?_
  refine atGuard rfl (fun g => ?_) (fun g1 => ?_)
  · repeat' (first
      | (refine goP 800 rfl rfl ?_)
      | (show wpM _ _ _ (Fr.ops _ _ (KOper.mk _ _ (some _) _ _ :: _) :: _) Ex.normal _ _ _ _ _; first | refine atGuardT rfl ?_ | refine atGuardF rfl ?_ | refine atGuard rfl (fun _ => ?_) (fun _ => ?_))
      | (show wpM _ _ _ (Fr.code (K.cond _ _ _) :: _) Ex.normal _ _ _ _ _; first | refine atCondT rfl ?_ | refine atCondF rfl ?_ | refine atCond rfl (fun _ => ?_) (fun _ => ?_))
      | (show wpM _ _ _ (Fr.ops _ _ (KOper.mk _ _ none _ (KOp.pick _ _ _) :: _) :: _) Ex.normal _ _ _ _ _; refine atPick rfl (fun _ => ?_) (fun _ => ?_))
      | (show wpM _ _ _ [] _ _ _ _ _ _; refine finI rfl rfl rfl trivial ?_)
      | (show wpM _ _ _ (Fr.ops _ _ (KOper.mk _ _ none _ (KOp.callF f_l24_exampleHolds _) :: _) :: _) Ex.normal _ _ _ _ _; refine atCall rfl rfl (exampleHolds_PU) ?_))
    all_goals rfl
  refine go 800 rfl ?_
  refine atGuard rfl (fun g => ?_) (fun g2 => ?_)
  · repeat' (first
      | (refine goP 800 rfl rfl ?_)
      | (show wpM _ _ _ (Fr.ops _ _ (KOper.mk _ _ (some _) _ _ :: _) :: _) Ex.normal _ _ _ _ _; first | refine atGuardT rfl ?_ | refine atGuardF rfl ?_ | refine atGuard rfl (fun _ => ?_) (fun _ => ?_))
      | (show wpM _ _ _ (Fr.code (K.cond _ _ _) :: _) Ex.normal _ _ _ _ _; first | refine atCondT rfl ?_ | refine atCondF rfl ?_ | refine atCond rfl (fun _ => ?_) (fun _ => ?_))
      | (show wpM _ _ _ (Fr.ops _ _ (KOper.mk _ _ none _ (KOp.pick _ _ _) :: _) :: _) Ex.normal _ _ _ _ _; refine atPick rfl (fun _ => ?_) (fun _ => ?_))
      | (show wpM _ _ _ [] _ _ _ _ _ _; refine finI rfl rfl rfl trivial ?_)
      | (show wpM _ _ _ (Fr.ops _ _ (KOper.mk _ _ none _ (KOp.callF f_l24_exampleHolds _) :: _) :: _) Ex.normal _ _ _ _ _; refine atCall rfl rfl (exampleHolds_PU) ?_))
    all_goals rfl
  refine go 800 rfl ?_
  refine atGuard rfl (fun g => ?_) (fun g3 => ?_)
  · repeat' (first
      | (refine goP 800 rfl rfl ?_)
      | (show wpM _ _ _ (Fr.ops _ _ (KOper.mk _ _ (some _) _ _ :: _) :: _) Ex.normal _ _ _ _ _; first | refine atGuardT rfl ?_ | refine atGuardF rfl ?_ | refine atGuard rfl (fun _ => ?_) (fun _ => ?_))
      | (show wpM _ _ _ (Fr.code (K.cond _ _ _) :: _) Ex.normal _ _ _ _ _; first | refine atCondT rfl ?_ | refine atCondF rfl ?_ | refine atCond rfl (fun _ => ?_) (fun _ => ?_))
      | (show wpM _ _ _ (Fr.ops _ _ (KOper.mk _ _ none _ (KOp.pick _ _ _) :: _) :: _) Ex.normal _ _ _ _ _; refine atPick rfl (fun _ => ?_) (fun _ => ?_))
      | (show wpM _ _ _ [] _ _ _ _ _ _; refine finI rfl rfl rfl trivial ?_)
      | (show wpM _ _ _ (Fr.ops _ _ (KOper.mk _ _ none _ (KOp.callF f_l24_exampleHolds _) :: _) :: _) Ex.normal _ _ _ _ _; refine atCall rfl rfl (exampleHolds_PU) ?_))
    all_goals rfl
  refine go 800 rfl ?_
  refine atGuard rfl (fun g => ?_) (fun g4 => ?_)
  · repeat' (first
      | (refine goP 800 rfl rfl ?_)
      | (show wpM _ _ _ (Fr.ops _ _ (KOper.mk _ _ (some _) _ _ :: _) :: _) Ex.normal _ _ _ _ _; first | refine atGuardT rfl ?_ | refine atGuardF rfl ?_ | refine atGuard rfl (fun _ => ?_) (fun _ => ?_))
      | (show wpM _ _ _ (Fr.code (K.cond _ _ _) :: _) Ex.normal _ _ _ _ _; first | refine atCondT rfl ?_ | refine atCondF rfl ?_ | refine atCond rfl (fun _ => ?_) (fun _ => ?_))
      | (show wpM _ _ _ (Fr.ops _ _ (KOper.mk _ _ none _ (KOp.pick _ _ _) :: _) :: _) Ex.normal _ _ _ _ _; refine atPick rfl (fun _ => ?_) (fun _ => ?_))
      | (show wpM _ _ _ [] _ _ _ _ _ _; refine finI rfl rfl rfl trivial ?_)
      | (show wpM _ _ _ (Fr.ops _ _ (KOper.mk _ _ none _ (KOp.callF f_l24_exampleHolds _) :: _) :: _) Ex.normal _ _ _ _ _; refine atCall rfl rfl (exampleHolds_PU) ?_))
    all_goals rfl
  refine go 800 rfl ?_
  refine atGuard rfl (fun g => ?_) (fun g5 => ?_)
  · repeat' (first
      | (refine goP 800 rfl rfl ?_)
      | (show wpM _ _ _ (Fr.ops _ _ (KOper.mk _ _ (some _) _ _ :: _) :: _) Ex.normal _ _ _ _ _; first | refine atGuardT rfl ?_ | refine atGuardF rfl ?_ | refine atGuard rfl (fun _ => ?_) (fun _ => ?_))
      | (show wpM _ _ _ (Fr.code (K.cond _ _ _) :: _) Ex.normal _ _ _ _ _; first | refine atCondT rfl ?_ | refine atCondF rfl ?_ | refine atCond rfl (fun _ => ?_) (fun _ => ?_))
      | (show wpM _ _ _ (Fr.ops _ _ (KOper.mk _ _ none _ (KOp.pick _ _ _) :: _) :: _) Ex.normal _ _ _ _ _; refine atPick rfl (fun _ => ?_) (fun _ => ?_))
      | (show wpM _ _ _ [] _ _ _ _ _ _; refine finI rfl rfl rfl trivial ?_)
      | (show wpM _ _ _ (Fr.ops _ _ (KOper.mk _ _ none _ (KOp.callF f_l24_exampleHolds _) :: _) :: _) Ex.normal _ _ _ _ _; refine atCall rfl rfl (exampleHolds_PU) ?_))
    all_goals rfl
  refine go 800 rfl ?_
  rw [ltb_not] at g1 g2 g3 g4 g5
  have w1 : IntKind.i64.wrap (1048076 - x) = 1048076 - x := wrap64 (by omega) (by omega)
  rw [w1]
  refine atGuard rfl (fun g => ?_) (fun g6 => ?_)
  · repeat' (first
      | (refine goP 800 rfl rfl ?_)
      | (show wpM _ _ _ (Fr.ops _ _ (KOper.mk _ _ (some _) _ _ :: _) :: _) Ex.normal _ _ _ _ _; first | refine atGuardT rfl ?_ | refine atGuardF rfl ?_ | refine atGuard rfl (fun _ => ?_) (fun _ => ?_))
      | (show wpM _ _ _ (Fr.code (K.cond _ _ _) :: _) Ex.normal _ _ _ _ _; first | refine atCondT rfl ?_ | refine atCondF rfl ?_ | refine atCond rfl (fun _ => ?_) (fun _ => ?_))
      | (show wpM _ _ _ (Fr.ops _ _ (KOper.mk _ _ none _ (KOp.pick _ _ _) :: _) :: _) Ex.normal _ _ _ _ _; refine atPick rfl (fun _ => ?_) (fun _ => ?_))
      | (show wpM _ _ _ [] _ _ _ _ _ _; refine finI rfl rfl rfl trivial ?_)
      | (show wpM _ _ _ (Fr.ops _ _ (KOper.mk _ _ none _ (KOp.callF f_l24_exampleHolds _) :: _) :: _) Ex.normal _ _ _ _ _; refine atCall rfl rfl (exampleHolds_PU) ?_))
    all_goals rfl
  refine go 800 rfl ?_
  refine atGuard rfl (fun g => ?_) (fun g7 => ?_)
  · repeat' (first
      | (refine goP 800 rfl rfl ?_)
      | (show wpM _ _ _ (Fr.ops _ _ (KOper.mk _ _ (some _) _ _ :: _) :: _) Ex.normal _ _ _ _ _; first | refine atGuardT rfl ?_ | refine atGuardF rfl ?_ | refine atGuard rfl (fun _ => ?_) (fun _ => ?_))
      | (show wpM _ _ _ (Fr.code (K.cond _ _ _) :: _) Ex.normal _ _ _ _ _; first | refine atCondT rfl ?_ | refine atCondF rfl ?_ | refine atCond rfl (fun _ => ?_) (fun _ => ?_))
      | (show wpM _ _ _ (Fr.ops _ _ (KOper.mk _ _ none _ (KOp.pick _ _ _) :: _) :: _) Ex.normal _ _ _ _ _; refine atPick rfl (fun _ => ?_) (fun _ => ?_))
      | (show wpM _ _ _ [] _ _ _ _ _ _; refine finI rfl rfl rfl trivial ?_)
      | (show wpM _ _ _ (Fr.ops _ _ (KOper.mk _ _ none _ (KOp.callF f_l24_exampleHolds _) :: _) :: _) Ex.normal _ _ _ _ _; refine atCall rfl rfl (exampleHolds_PU) ?_))
    all_goals rfl
  refine go 800 rfl ?_
  rw [ltb_not] at g6 g7
  have w2 : IntKind.i64.wrap (1048076 - y) = 1048076 - y := wrap64 (by omega) (by omega)
  rw [w2]
  refine atCond rfl (fun g => ?_) (fun g8 => ?_)
  · repeat' (first
      | (refine goP 800 rfl rfl ?_)
      | (show wpM _ _ _ (Fr.ops _ _ (KOper.mk _ _ (some _) _ _ :: _) :: _) Ex.normal _ _ _ _ _; first | refine atGuardT rfl ?_ | refine atGuardF rfl ?_ | refine atGuard rfl (fun _ => ?_) (fun _ => ?_))
      | (show wpM _ _ _ (Fr.code (K.cond _ _ _) :: _) Ex.normal _ _ _ _ _; first | refine atCondT rfl ?_ | refine atCondF rfl ?_ | refine atCond rfl (fun _ => ?_) (fun _ => ?_))
      | (show wpM _ _ _ (Fr.ops _ _ (KOper.mk _ _ none _ (KOp.pick _ _ _) :: _) :: _) Ex.normal _ _ _ _ _; refine atPick rfl (fun _ => ?_) (fun _ => ?_))
      | (show wpM _ _ _ [] _ _ _ _ _ _; refine finI rfl rfl rfl trivial ?_)
      | (show wpM _ _ _ (Fr.ops _ _ (KOper.mk _ _ none _ (KOp.callF f_l24_exampleHolds _) :: _) :: _) Ex.normal _ _ _ _ _; refine atCall rfl rfl (exampleHolds_PU) ?_))
    all_goals rfl
  rw [ltb_not] at g8
  refine go 800 rfl ?_
  have hel : ∀ k, k < 4 → [D.int IntKind.i64 a, D.int IntKind.i64 b, D.int IntKind.i64 c, D.int IntKind.i64 d][k]? = some (.int .i64 (([a, b, c, d] : List Int).getD k 0)) := four rfl rfl rfl rfl
  refine atLoop (S := fun k : Nat => ([.ptr 0 0 0, .ptr 1 0 0, rectD a b c d, encInt k], [some (.row [rectD x y w h] 4), some (.row [rectD a b c d] 4), none, none], [0, 0, 0, 0])) (C := fun k => k ≤ 4 ∧ ∀ i, i < k → 0 ≤ ([a, b, c, d] : List Int).getD i 0 ∧ ([a, b, c, d] : List Int).getD i 0 ≤ 500) (m := fun k => 4 - k) 0 ⟨by decide, fun i hi => by omega⟩ (by decide) ?_ ?_
  · exact settleI rfl ⟨rfl, rfl, trivial⟩ (by simp [rectD, encInt])
  rintro k ⟨hk, hall⟩ N hN
  refine go 800 rfl ?_
  refine atCond rfl (fun e1 => ?_) (fun e1 => ?_)
  · rw [ltb_iff] at e1
    have hlt : k < 4 := by omega
    have wk : IntKind.i64.wrap ((k : Int) + 1) = ((k + 1 : Nat) : Int) := wrap64 (by omega) (by omega)
    refine go 800 rfl ?_
    refine atIa k rfl rfl rfl hlt (hel k hlt) ?_
    refine go 800 rfl ?_
    refine atGuard rfl (fun e2 => ?_) (fun e2 => ?_)
    · refine go 800 rfl ?_
      refine atCondT rfl ?_
      refine go 800 rfl ?_
      refine atCall rfl rfl exampleHolds_PU ?_
      refine go 800 rfl ?_
      refine atEnd ?_
      refine go 800 rfl ?_
      exact finI rfl rfl rfl trivial rfl
    · rw [ltb_not] at e2
      refine go 800 rfl ?_
      refine atCond rfl (fun e3 => ?_) (fun e3 => ?_)
      · refine go 800 rfl ?_
        refine atCall rfl rfl exampleHolds_PU ?_
        refine go 800 rfl ?_
        refine atEnd ?_
        refine go 800 rfl ?_
        exact finI rfl rfl rfl trivial rfl
      · rw [ltb_not] at e3
        refine go 800 rfl ?_
        refine atEnd ?_
        refine hN (k + 1) ⟨hlt, fun i hi => ?_⟩ (by omega) (settleI rfl ⟨rfl, rfl, trivial⟩ (by simp [rectD, encInt, wk]))
        by_cases hik : i < k
        · exact hall i hik
        · obtain rfl : i = k := by omega
          exact ⟨e2, e3⟩
  rw [ltb_not] at e1
  obtain rfl : k = 4 := by omega
  clear hN
  have ha := hall 0 (by decide)
  have hb := hall 1 (by decide)
  have hc := hall 2 (by decide)
  have hd := hall 3 (by decide)
  simp only [List.getD_eq_getElem?_getD, List.getElem?_cons_zero, List.getElem?_cons_succ, Option.getD_some] at ha hb hc hd
  have wz : IntKind.i64.wrap (x + w) = x + w := wrap64 (by omega) (by omega)
  have ww : IntKind.i64.wrap (y + h) = y + h := wrap64 (by omega) (by omega)
  have hallow := Allow_PU (sides (rectL x y (x + w) (y + h))) [a, b, c, d]
  rw [allow_rect (by omega) (by omega) (by omega) (by omega) (by omega) (by omega) ha hb hc hd] at hallow
  have v1 : IntKind.i64.wrap (x - d) = x - d := wrap64 (by omega) (by omega)
  have v2 : IntKind.i64.wrap (y - a) = y - a := wrap64 (by omega) (by omega)
  have v3 : IntKind.i64.wrap (x + w + b) = x + w + b := wrap64 (by omega) (by omega)
  have v4 : IntKind.i64.wrap (y + h + c) = y + h + c := wrap64 (by omega) (by omega)
  refine go 800 rfl ?_
  refine atEnd ?_
  refine go 800 rfl ?_
  rw [wz, ww]
  refine atCall rfl rfl (rect_PU x y (x + w) (y + h)) ?_
  refine go 800 rfl ?_
  refine atCall rfl rfl (l24_edges_PU (rectL x y (x + w) (y + h)) (by rw [rect_len]; decide)) ?_
  refine go 800 rfl ?_
  refine atSlArr (l := [.int .i64 a, .int .i64 b, .int .i64 c, .int .i64 d]) rfl rfl rfl rfl rfl ?_
  refine go 800 rfl ?_
  refine atCall rfl rfl hallow ?_
  refine go 800 rfl ?_
  refine atGuard rfl (fun _ => ?_) (fun g => absurd rfl (eqb_not.1 g))
  refine go 800 rfl ?_
  refine atIxa 3 rfl rfl (by decide) rfl ?_
  refine go 800 rfl ?_
  refine atLoadR (d := .int .i64 d) rfl rfl rfl rfl ?_
  refine go 800 rfl ?_
  refine atIxa 0 rfl rfl (by decide) rfl ?_
  refine go 800 rfl ?_
  refine atLoadR (d := .int .i64 a) rfl rfl rfl rfl ?_
  refine go 800 rfl ?_
  refine atIxa 1 rfl rfl (by decide) rfl ?_
  refine go 800 rfl ?_
  refine atLoadR (d := .int .i64 b) rfl rfl rfl rfl ?_
  refine go 800 rfl ?_
  refine atIxa 2 rfl rfl (by decide) rfl ?_
  refine go 800 rfl ?_
  refine atLoadR (d := .int .i64 c) rfl rfl rfl rfl ?_
  refine go 800 rfl ?_
  rw [wz, ww, v1, v2, v3, v4]
  refine atCall rfl rfl (rect_PU (x - d) (y - a) (x + w + b) (y + h + c)) ?_
  refine go 800 rfl ?_
  refine atCall rfl rfl (r11_Same_PU (rectL (x - d) (y - a) (x + w + b) (y + h + c)) (rectL (x - d) (y - a) (x + w + b) (y + h + c)) (by rw [rect_len]; decide)) ?_
  refine go 800 rfl ?_
  refine atGuard rfl (fun _ => ?_) (fun g => absurd g (by simp))
  refine go 800 rfl ?_
  refine atCall rfl rfl exampleHolds_PU ?_
  refine go 800 rfl ?_
  exact finI rfl rfl rfl trivial rfl
end Go.F
