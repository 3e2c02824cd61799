/- Parts of the proof, part 43: Nat9, Nat10, Nat11, Nat12, Int1, Rat1, Rat2, Rat3, Pt1, All3, All4, Gr1, Stop4, All5, All6, Ex1, Ex2, Sml, Zero, Nz1, Nz2, Nz3, Nz4, Nz5, Nz6, Nz7, Nz8, Nz9, SegP, Ply1, D64, D64b. -/
import Derived.Test.YtdhpbljlnlpibaaGreatZ41
import Derived.KernelRfl
set_option linter.all false
namespace Go.F
attribute [local irreducible] IntKind.wrap wpM
theorem dg_mid {pre w post : List Nat} {k : Nat} (h : k < w.length) : dg (pre ++ w ++ post) (pre.length + k) = dg w k := by
 rw [qj2 (by simp; omega), qhP (by omega)]
 congr 1; omega
theorem set_mid {pre w post : List Nat} {k v : Nat} (h : k < w.length) : (pre ++ w ++ post).set (pre.length + k) v = pre ++ w.set k v ++ post := by
 rw [List.set_append_left _ _ (by simp; omega), List.set_append_right _ _ (by omega)]
 congr 3; omega
section
variable {T : Tab} {sh : Shr} {nx0 : Nat} {s : List Fr} {t : q0u} {h : q0f} {z : Frz} {nx : Nat} {q : Ex → q0u → q0f → Frz → Nat → Prop}
variable {base i : Nat} {res : List Nat} {g : Gd} {rest : List KOper}
theorem q4M {hint : Bool} {a v : X} {dst : Option Nat} {id k' : Nat} {w' : Int} (pre w post : List Nat) (k x : Nat) (ha : a.ev t = .ptr id k' 0) (hv : v.ev t = .int .u32 w') (hkk : k' = pre.length + k) (hw : w' = x) (hr : g.h base h id = some (.row ((pre ++ w ++ post).map u32) 1)) (hz : g.z base z id = 0) (hl : k < w.length)
 (hk : wpM T sh nx0 (.ops base res rest :: s) .normal (put t dst (.tup [])) (upd h id (some (.row ((pre ++ w.set k x ++ post).map u32) 1))) z nx q) :
 wpM T sh nx0 (.ops base res (⟨i, dst, none, g, .store hint 1 a v⟩ :: rest) :: s) .normal t h z nx q := by
 refine q1C (pre ++ w ++ post) (pre.length + k) x ha hv hkk hw hr (by omega) (by simp; omega) ?_
 rw [set_mid hl]
 exact hk
theorem q6a {hint : Bool} {a : X} {dst : Nat} {id k' : Nat} (pre w post : List Nat) (k : Nat) (ha : a.ev t = .ptr id k' 0) (hkk : k' = pre.length + k) (hr : g.h base h id = some (.row ((pre ++ w ++ post).map u32) 1)) (hl : k < w.length)
 (hk : wpM T sh nx0 (.ops base res rest :: s) .normal (upd t dst (.int .u32 (dg w k))) h z nx q) :
 wpM T sh nx0 (.ops base res (⟨i, some dst, none, g, .load hint false 1 a⟩ :: rest) :: s) .normal t h z nx q := by
 refine q4f (pre ++ w ++ post) (pre.length + k) ha hkk hr (by simp; omega) ?_
 rw [dg_mid hl]
 exact hk
end
theorem qi6 {l : List Nat} {n : Nat} (h : LOk l) (hn : l.length = n + 1) : val l = val (l.take n) + 4294967296 ^ n * dg l n ∧ val (l.take n) < 4294967296 ^ n := by
 constructor
 ·have := q0H l n
  rwa [List.take_of_length_le (by omega)] at this
 have := q2K (h.take n)
 rwa [List.length_take, hn, Nat.min_eq_left (by omega)] at this
theorem q1Q {l : List Nat} (h : LOk l) (n : Nat) : val (l.take n) < 4294967296 ^ n := by
 refine Nat.lt_of_lt_of_le (q2K (h.take n)) (Nat.pow_le_pow_right (by decide) (by simp; omega))
structure Trial (w v : List Nat) (n : Nat) : Prop where
 n2 : 2 ≤ n
 wl : w.length = n + 1
 wo : LOk w
 vo : LOk v
 vl : n ≤ v.length
 hi : 2147483648 ≤ dg v (n - 1)
 lt : val w < 4294967296 * val (v.take n)
theorem aux0 (T : Nat) {d : Nat} (h : 0 < d) : T < (T / d + 1) * d := by
 have := Nat.div_add_mod T d
 have hm := Nat.mod_lt T h
 rw [Nat.add_mul, Nat.one_mul, Nat.mul_comm]
 omega
theorem aux1 {x P T d : Nat} (h1 : x < P) (h2 : d < 4294967296) : x + P * (T * 4294967296 + d) < (T + 1) * (P * 4294967296) := by
 have h3 : P * (T * 4294967296 + d) + P ≤ (T + 1) * (P * 4294967296) := by
  have e : (T + 1) * (P * 4294967296) = P * ((T + 1) * 4294967296) := by rw [Nat.mul_left_comm]
  rw [e, ← Nat.mul_succ]
  exact Nat.mul_le_mul_left _ (by omega)
 omega
theorem aux2 {q a b r d : Nat} (h : r * 4294967296 + d < q * b) : (q * a + r) * 4294967296 + d < q * (a * 4294967296 + b) := by
 grind
theorem aux3 {q a b r d : Nat} (h0 : q * b ≤ 18446744065119617025) (h : 4294967296 ≤ r ∨ q * b ≤ r * 4294967296 + d) : q * (a * 4294967296 + b) ≤ (q * a + r) * 4294967296 + d := by
 rw [Nat.mul_add q, ← Nat.mul_assoc]
 omega
theorem qq9 {x P T : Nat} (h : x < P) : x + P * T < (T + 1) * P := by
 rw [Nat.add_mul, Nat.one_mul, Nat.mul_comm P]; omega
theorem qqa {x P T : Nat} : T * P ≤ x + P * T := by
 rw [Nat.mul_comm P]; omega
theorem Trial.v3 {w v : List Nat} {n : Nat} (h : Trial w v n) : val (v.take n) = val (v.take (n - 2)) + 4294967296 ^ (n - 2) * (dg v (n - 1) * 4294967296 + dg v (n - 2)) := by
 obtain ⟨m, rfl⟩ : ∃ m, n = m + 2 := ⟨n - 2, by have := h.n2; omega⟩
 simp only [Nat.add_sub_cancel, show m + 2 - 1 = m + 1 by omega]
 rw [q0H, q0H, Nat.pow_succ, Nat.mul_add, Nat.mul_assoc, Nat.mul_comm 4294967296]
 omega
theorem Trial.w3 {w v : List Nat} {n : Nat} (h : Trial w v n) : val w = val (w.take (n - 2)) + 4294967296 ^ (n - 2) * ((dg w n * 4294967296 + dg w (n - 1)) * 4294967296 + dg w (n - 2)) := by
 obtain ⟨m, rfl⟩ : ∃ m, n = m + 2 := ⟨n - 2, by have := h.n2; omega⟩
 simp only [Nat.add_sub_cancel, show m + 2 - 1 = m + 1 by omega]
 rw [(qi6 h.wo h.wl).1, q0H, q0H, show 4294967296 ^ (m + 2) = 4294967296 ^ m * 4294967296 * 4294967296 by rw [Nat.pow_succ, Nat.pow_succ], Nat.pow_succ]
 generalize 4294967296 ^ m = P
 generalize dg w (m + 2) = a
 generalize dg w (m + 1) = b
 grind
theorem Trial.pos {w v : List Nat} {n : Nat} (h : Trial w v n) : 4294967296 * 4294967296 ^ (n - 2) ≤ val (v.take n) ∧ 0 < val (v.take n) := by
 have hp : 0 < 4294967296 ^ (n - 2) := Nat.pow_pos (by decide)
 have : 4294967296 * 4294967296 ^ (n - 2) ≤ val (v.take n) := by
  rw [h.v3]
  have h1 := h.hi
  have : 4294967296 ^ (n - 2) * 4294967296 ≤ 4294967296 ^ (n - 2) * (dg v (n - 1) * 4294967296 + dg v (n - 2)) := Nat.mul_le_mul_left _ (by omega)
  omega
 exact ⟨this, by omega⟩
theorem Trial.first {w v : List Nat} {n : Nat} (h : Trial w v n) : val w / val (v.take n) ≤ (dg w n * 4294967296 + dg w (n - 1)) / dg v (n - 1) := by
 have hh := h.hi
 have key := kn_gt (U := val w) (V := val (v.take n)) (P := 4294967296 ^ (n - 2) * 4294967296) (ut := dg w n * 4294967296 + dg w (n - 1)) (vt := dg v (n - 1)) (q := (dg w n * 4294967296 + dg w (n - 1)) / dg v (n - 1) + 1) ?_ ?_ h.pos.2 ?_
 ·exact Nat.le_of_lt_succ key
 ·rw [h.w3]; exact aux1 (q1Q h.wo (n - 2)) (q19 h.wo (n - 2))
 ·rw [h.v3]
  have e : dg v (n - 1) * (4294967296 ^ (n - 2) * 4294967296) = 4294967296 ^ (n - 2) * (dg v (n - 1) * 4294967296) := by rw [Nat.mul_left_comm]
  rw [e, Nat.mul_add]
  exact Nat.le_trans (Nat.le_add_right _ _) (Nat.le_add_left _ _)
 exact aux0 _ (by omega)
theorem Trial.less {w v : List Nat} {n : Nat} (h : Trial w v n) {q r : Nat} (he : q * dg v (n - 1) + r = dg w n * 4294967296 + dg w (n - 1)) (hq : r * 4294967296 + dg w (n - 2) < q * dg v (n - 2)) : val w / val (v.take n) < q := by
 refine kn_gt (P := 4294967296 ^ (n - 2)) (ut := (dg w n * 4294967296 + dg w (n - 1)) * 4294967296 + dg w (n - 2)) (vt := dg v (n - 1) * 4294967296 + dg v (n - 2)) ?_ ?_ h.pos.2 ?_
 ·rw [h.w3]; exact qq9 (q1Q h.wo (n - 2))
 ·rw [h.v3]; exact qqa
 rw [← he]; exact aux2 hq
theorem Trial.qlt {w v : List Nat} {n : Nat} (h : Trial w v n) : val w / val (v.take n) < 4294967296 := (Nat.div_lt_iff_lt_mul h.pos.2).2 h.lt
theorem Trial.end {w v : List Nat} {n : Nat} (h : Trial w v n) {q r : Nat} (he : q * dg v (n - 1) + r = dg w n * 4294967296 + dg w (n - 1)) (hq : q < 4294967296) (hr : 4294967296 ≤ r ∨ q * dg v (n - 2) ≤ r * 4294967296 + dg w (n - 2)) : q ≤ val w / val (v.take n) + 1 := by
 refine kn_le (P := 4294967296 ^ (n - 2)) (B := 4294967296) (ut := (dg w n * 4294967296 + dg w (n - 1)) * 4294967296 + dg w (n - 2)) (vt := dg v (n - 1) * 4294967296 + dg v (n - 2)) ?_ ?_ h.pos.1 h.pos.2 hq ?_
 ·rw [h.w3]; exact qqa
 ·rw [h.v3]; exact qq9 (q1Q h.vo (n - 2))
 rw [← he]; exact aux3 (qad hq (q19 h.vo (n - 2))) hr
theorem Trial.first_le {w v : List Nat} {n : Nat} (h : Trial w v n) : (dg w n * 4294967296 + dg w (n - 1)) / dg v (n - 1) ≤ 4294967297 ∧ dg w n ≤ dg v (n - 1) := by
 have hh := h.hi
 have h1 : dg w n ≤ dg v (n - 1) := by
  have h2 := h.lt
  have hv : val (v.take n) < (dg v (n - 1) + 1) * (4294967296 ^ (n - 1)) := by
   have := q0H v (n - 1)
   rw [Nat.sub_add_cancel (by have := h.n2; omega)] at this
   rw [this, Nat.add_mul, Nat.one_mul, Nat.mul_comm]
   have := q1Q h.vo (n - 1)
   omega
  have hw := (qi6 h.wo h.wl).1
  have e : 4294967296 ^ n = 4294967296 * 4294967296 ^ (n - 1) := by
   obtain ⟨m, rfl⟩ : ∃ m, n = m + 1 := ⟨n - 1, by have := h.n2; omega⟩
   rw [Nat.pow_succ, Nat.mul_comm]; rfl
  by_cases hc : dg w n ≤ dg v (n - 1)
  ·exact hc
  exfalso
  have h3 : 4294967296 ^ n * (dg v (n - 1) + 1) ≤ 4294967296 ^ n * dg w n := Nat.mul_le_mul_left _ (by omega)
  rw [e, Nat.mul_assoc, Nat.mul_comm (4294967296 ^ (n - 1))] at h3
  rw [e] at hw
  omega
 refine ⟨?_, h1⟩
 have hl := q19 h.wo (n - 1)
 have : dg w n * 4294967296 + dg w (n - 1) < 4294967298 * dg v (n - 1) := by omega
 have := (Nat.div_lt_iff_lt_mul (show 0 < dg v (n - 1) by omega)).2 this
 omega
end Go.F

namespace Go.F
attribute [local irreducible] IntKind.wrap wpM
def Old (U v Q : List Nat) (h : q0f) (z : Frz) : Prop :=
 (∃ h0 : q0f, h = upd (upd (upd h0 4 (some (.row (Q.map u32) 1))) 3 (some (.row (v.map u32) 1))) 2 (some (.row (U.map u32) 1))) ∧ ∃ z0 : Frz, z = upd (upd (upd z0 4 0) 3 0) 2 0
theorem Old.of {U v Q : List Nat} {h : q0f} {z : Frz} (h2 : h 2 = some (.row (U.map u32) 1)) (h3 : h 3 = some (.row (v.map u32) 1)) (h4 : h 4 = some (.row (Q.map u32) 1)) (z2 : z 2 = 0) (z3 : z 3 = 0) (z4 : z 4 = 0) : Old U v Q h z := by
 refine ⟨⟨h, ?_⟩, z, ?_⟩
 ·rw [q33 (f := h) h4, q33 (f := h) h3, q33 (f := h) h2]
 rw [q33 (f := z) z4, q33 (f := z) z3, q33 (f := z) z2]
theorem Old.old {U v Q : List Nat} {h : q0f} {z : Frz} (h2 : h 2 = some (.row (U.map u32) 1)) (h3 : h 3 = some (.row (v.map u32) 1)) (h4 : h 4 = some (.row (Q.map u32) 1)) (z2 : z 2 = 0) (z3 : z 3 = 0) (z4 : z 4 = 0) : Old U v Q (q17 h) z :=
 Old.of (q8H h2) (q8H h3) (q8H h4) z2 z3 z4
theorem qq5 {w w' v : List Nat} {n q c b : Nat} (T : Trial w v n) (hq1 : val w / val (v.take n) ≤ q) (hq2 : q ≤ val w / val (v.take n) + 1) (hw' : w'.length = n + 1) (hwo' : LOk w') (hc : c < 4294967296) (hb : b ≤ 1)
 (hinv : val (w'.take n) + q * val (v.take n) = val (w.take n) + 4294967296 ^ n * (b + c)) :
 (c + b ≤ dg w n → q = val w / val (v.take n) ∧ val (w'.set n (dg w n - c - b)) = val w % val (v.take n)) ∧
 (dg w n < c + b → q = val w / val (v.take n) + 1 ∧ dg w n + 4294967296 - c - b < 4294967296 ∧ val (w'.set n (dg w n + 4294967296 - c - b)) + q * val (v.take n) = val w + 4294967296 ^ (n + 1)) := by
 have e1 := (qi6 T.wo T.wl).1
 have hset : ∀ x, val (w'.set n x) = val (w'.take n) + 4294967296 ^ n * x := by
  intro x
  have := q2m (r := w') (k := n) (v := x) (by omega)
  rwa [List.take_of_length_le (by simp; omega)] at this
 have hV := T.pos.2
 have hlt := q1Q hwo' n
 generalize val (v.take n) = V at *
 constructor
 ·intro hle
  have e2 : val (w'.set n (dg w n - c - b)) + q * V = val w := by
   rw [hset, e1]
   have : 4294967296 ^ n * (dg w n - c - b) + 4294967296 ^ n * (b + c) = 4294967296 ^ n * dg w n := by rw [← Nat.mul_add]; congr 1; omega
   omega
  have hqle : q ≤ val w / V := (Nat.le_div_iff_mul_le hV).2 (by omega)
  have hq : q = val w / V := by omega
  refine ⟨hq, ?_⟩
  have := Nat.div_add_mod (val w) V
  rw [← hq, Nat.mul_comm] at this
  omega
 intro hgt
 have hgt' : val w < q * V := by
  rw [e1]
  have h1 : 4294967296 ^ n * (dg w n + 1) ≤ 4294967296 ^ n * (b + c) := Nat.mul_le_mul_left _ (by omega)
  rw [Nat.mul_add, Nat.mul_one] at h1
  omega
 have hne : q ≠ val w / V := by
  intro e
  have := Nat.div_mul_le_self (val w) V
  rw [← e] at this
  omega
 have hwn := q19 T.wo n
 have hcb : c + b ≤ dg w n + 4294967296 := by
  by_cases h : c + b ≤ dg w n + 4294967296
  ·exact h
  omega
 refine ⟨by omega, by omega, ?_⟩
 rw [hset, e1, Nat.pow_succ]
 have : 4294967296 ^ n * (dg w n + 4294967296 - c - b) + 4294967296 ^ n * (b + c) = 4294967296 ^ n * dg w n + 4294967296 ^ n * 4294967296 := by rw [← Nat.mul_add, ← Nat.mul_add]; congr 1; omega
 omega
theorem qq6 {w w1 w2 v : List Nat} {n q c : Nat} (T : Trial w v n) (hq : q = val w / val (v.take n) + 1) (h1 : w1.length = n + 1) (h1o : LOk w1) (h2 : w2.length = n + 1) (h2o : LOk w2) (hc : c ≤ 1) (hd : dg w2 n = dg w1 n)
 (hv1 : val w1 + q * val (v.take n) = val w + 4294967296 ^ (n + 1)) (hinv : val (w2.take n) + 4294967296 ^ n * c = val (w1.take n) + val (v.take n)) :
 val (w2.set n ((dg w1 n + c) % 4294967296)) = val w % val (v.take n) := by
 have e1 := (qi6 h1o h1).1
 have hset : val (w2.set n ((dg w1 n + c) % 4294967296)) = val (w2.take n) + 4294967296 ^ n * ((dg w1 n + c) % 4294967296) := by
  have := q2m (r := w2) (k := n) (v := (dg w1 n + c) % 4294967296) (by omega)
  rwa [List.take_of_length_le (by simp; omega)] at this
 have hV := T.pos.2
 have hl2 := q1Q h2o n
 have hdm := Nat.div_add_mod (val w) (val (v.take n))
 have hml := Nat.mod_lt (val w) hV
 have hVl := q1Q T.vo n
 generalize val (v.take n) = V at *
 generalize val w / V = Qt at *
 generalize val w % V = R at *
 subst hq
 rw [Nat.add_mul, Nat.one_mul, Nat.mul_comm Qt] at hv1
 have hdl := q19 h1o n
 have hcar := q4e (4294967296 ^ n) (dg w1 n + c)
 rw [Nat.mul_add (4294967296 ^ n) (dg w1 n) c, ← Nat.pow_succ] at hcar
 have hcase : (dg w1 n + c) / 4294967296 = 0 ∨ (dg w1 n + c) / 4294967296 = 1 := by omega
 rw [hset]
 have hmul : 4294967296 ^ n * ((dg w1 n + c) % 4294967296) + 4294967296 ^ n ≤ 4294967296 ^ (n + 1) := by
  rw [Nat.pow_succ, ← Nat.mul_succ]; exact Nat.mul_le_mul_left _ (Nat.mod_lt _ (by decide))
 rcases hcase with h | h
 ·rw [h, Nat.mul_zero] at hcar
  omega
 rw [h, Nat.mul_one] at hcar
 omega
end Go.F

namespace Go.F
attribute [local irreducible] IntKind.wrap wpM
theorem qkP {x y b : Nat} {d : Int} (hx : x < 4294967296) (hy : y < 4294967296) (hb : b ≤ 1) (hd : d = ((x : Int) - y - b) % 18446744073709551616) :
 ∃ u c : Nat, IntKind.u32.wrap d = u ∧ d = ((d.toNat : Nat) : Int) ∧ d.toNat / 2 ^ 63 = c ∧ u < 4294967296 ∧ c ≤ 1 ∧ u + (b + y) = x + 4294967296 * c := by
 rw [qac]
 refine ⟨(d % 4294967296).toNat, d.toNat / 2 ^ 63, by omega, by omega, rfl, by omega, by omega, by omega⟩
set_option maxHeartbeats 8000000 in
theorem qsR (pre w post v Q : List Nat) (n : Nat) (T : Trial w v n) (hn : n ≤ 2000000000) {h : q0f} {z : Frz} {K : D → q0f → Frz → Nat → Prop} (hold : Old (pre ++ w ++ post) v Q h z)
 (hk : ∀ (w' : List Nat) (h' : q0f) (z' : Frz) (nx' : Nat), (nx' = 356 ∨ nx' = 401) → w'.length = n + 1 → LOk w' → val w' = val w % val (v.take n) → Old (pre ++ w' ++ post) v Q h' z' → K (.int .u32 (val w / val (v.take n) : Nat)) h' z' nx') :
 wpM TT (shr TT 5) 206 [.code k_natural_digit.code] .normal (enter [.ref 2 pre.length (n + 1), .ref 3 0 n]) h z 206 (qgt k_natural_digit K) := by
 obtain ⟨⟨h0, rfl⟩, z0, rfl⟩ := hold
 have hn2 := T.n2
 have hwl := T.wl
 have hvl := T.vl
 have hhi := T.hi
 have hqlt := T.qlt
 have hv1 := q19 T.vo (n - 1)
 have hv2 := q19 T.vo (n - 2)
 have hw0 := q19 T.wo n
 have hw1 := q19 T.wo (n - 1)
 have hw2 := q19 T.wo (n - 2)
 have hfl := T.first_le
 have wn1 : IntKind.i64.wrap ((n : Int) - 1) = ((n - 1 : Nat) : Int) := by rw [wrap64 (by omega) (by omega)]; omega
 have wn2 : IntKind.i64.wrap ((n : Int) - 2) = ((n - 2 : Nat) : Int) := by rw [wrap64 (by omega) (by omega)]; omega
 have c0 : IntKind.u64.wrap (dg w n : Int) = (dg w n : Int) := q0y (by omega)
 have c1 : IntKind.u64.wrap (dg w (n - 1) : Int) = (dg w (n - 1) : Int) := q0y (by omega)
 have c2 : IntKind.u64.wrap (dg w (n - 2) : Int) = (dg w (n - 2) : Int) := q0y (by omega)
 have d1 : IntKind.u64.wrap (dg v (n - 1) : Int) = (dg v (n - 1) : Int) := q0y (by omega)
 have d2 : IntKind.u64.wrap (dg v (n - 2) : Int) = (dg v (n - 2) : Int) := q0y (by omega)
 refine gg rfl (q0J n rfl rfl rfl rfl rfl (by omega) ?_)
 refine gg rfl (q6a pre w post n rfl rfl rfl (by omega) ?_)
 refine gg rfl (q6N (dg w n) 32 rfl rfl c0 rfl (by decide) (q0y (by omega)) ?_)
 refine gg rfl (q0J (n - 1) rfl rfl rfl rfl wn1 (by omega) ?_)
 refine gg rfl (q6a pre w post (n - 1) rfl rfl rfl (by omega) ?_)
 refine gg rfl ?_
 rw [c1, qq8 hw0 hw1]
 refine q0J (n - 1) rfl rfl rfl rfl wn1 (by omega) ?_
 refine gg rfl (q4f v (n - 1) rfl (Nat.zero_add _) rfl (by omega) ?_)
 refine gg rfl ?_
 rw [d1]
 generalize htop : dg w n * 4294967296 + dg w (n - 1) = top
 rw [htop] at hfl
 have htl : top < 18446744073709551616 := by omega
 have hql := hfl.1
 refine q2L top (dg v (n - 1)) rfl rfl rfl rfl (by omega) (q0y (by omega)) ?_
 refine gg rfl (q7x top (dg v (n - 1)) rfl rfl rfl rfl (by omega) ?_)
 refine gg rfl ?_
 refine qbh (S := fun x : Nat × Nat => ([.ref 2 pre.length (n + 1), .ref 3 0 n, q00 n, .int .u64 (dg v (n - 1)), .int .u64 x.1, .int .u64 x.2], [none, none, none, none, none, none], [0, 0, 0, 0, 0, 0]))
  (O := fun _ ho zo => Old (pre ++ w ++ post) v Q ho zo)
  (C := fun x => x.1 * dg v (n - 1) + x.2 = top ∧ val w / val (v.take n) ≤ x.1 ∧ x.1 ≤ 4294967297 ∧ x.2 < 8589934592) (m := fun x => x.1) (top / dg v (n - 1), top % dg v (n - 1))
  ⟨by simp only; rw [Nat.mul_comm]; exact Nat.div_add_mod _ _, by rw [← htop]; exact T.first, hql, by have := Nat.mod_lt top (show 0 < dg v (n - 1) by omega); simp only; omega⟩ (by simp only; omega) ?_ ?_
 ·exact q3C rfl ⟨q0b q0p _, q0b q0p _, trivial⟩ ⟨by simp [q00], Old.old rfl rfl rfl rfl rfl rfl⟩
 rintro ⟨q, r⟩ ⟨hqr, hq1, hq2, hr⟩ ho zo hold N hN
 obtain ⟨⟨h1, rfl⟩, z1, rfl⟩ := hold
 simp only at hqr hq1 hq2 hr
 have next : q ≠ 0 → r < 4294967296 → val w / val (v.take n) < q → ∀ {t : q0u} {h : q0f} {z : Frz} {nx : Nat}, (q0Z 206 [(0, 0), (1, 0), (5, 0), (7, 0), (8, 0), (9, 0)] t h z nx fun h z kp => kp = ([.ref 2 pre.length (n + 1), .ref 3 0 n, q00 n, .int .u64 (dg v (n - 1)), .int .u64 (q - 1 : Nat), .int .u64 (r + dg v (n - 1) : Nat)], [none, none, none, none, none, none], [0, 0, 0, 0, 0, 0]) ∧ Old (pre ++ w ++ post) v Q (q17 h) z) → N t h z nx := by
  intro hq0 hrl hlt t h z nx hst
  refine hN (q - 1, r + dg v (n - 1)) ⟨?_, by simp only; omega, by simp only; omega, by simp only; omega⟩ (by simp only; omega) hst
  simp only
  obtain ⟨k, rfl⟩ : ∃ k, q = k + 1 := ⟨q - 1, by omega⟩
  rw [Nat.add_mul, Nat.one_mul] at hqr
  simp only [Nat.add_sub_cancel]
  omega
 clear hN
 have s1 : q ≠ 0 → IntKind.u64.wrap ((q : Int) - 1) = ((q - 1 : Nat) : Int) := fun _ => by rw [q0I]; omega
 have s2 : IntKind.u64.wrap ((r : Int) + (dg v (n - 1) : Int)) = ((r + dg v (n - 1) : Nat) : Int) := by rw [q0I]; omega
 have after : q < 4294967296 → q ≤ val w / val (v.take n) + 1 → True := fun _ _ => trivial
 refine gg rfl (q05 rfl (fun g1 => ?_) (fun g1 => ?_))
 ·rw [q06] at g1
  simp only at g1
  refine gg rfl (q05 rfl (fun g2 => ?_) (fun g2 => ?_))
  ·rw [q0D] at g2
   simp only at g2
   refine gg rfl (q0g rfl (gg rfl (q04 (next (by omega) (by omega) (by omega) (q3C rfl ⟨q0b q0p _, q0b q0p _, trivial⟩ ⟨?_, Old.old rfl rfl rfl rfl rfl rfl⟩)))))
   simp [q00, s1 (by omega), s2]
  rw [q0E] at g2
  simp only at g2
  have hq3 : q < 4294967296 := by omega
  have hqv := qad hq3 hv2
  have em : IntKind.u64.wrap ((q : Int) * IntKind.u64.wrap (dg v (n - 2) : Int)) = ((q * dg v (n - 2) : Nat) : Int) := by
   rw [d2, show (q : Int) * (dg v (n - 2) : Int) = ((q * dg v (n - 2) : Nat) : Int) by simp]
   exact q0y (by omega)
  refine gg rfl (q0J (n - 2) rfl rfl rfl rfl wn2 (by omega) ?_)
  refine gg rfl (q4f v (n - 2) rfl (Nat.zero_add _) rfl (by omega) ?_)
  refine gg rfl (q6N r 32 rfl rfl rfl rfl (by decide) (q0y (by omega)) ?_)
  refine gg rfl (q0J (n - 2) rfl rfl rfl rfl wn2 (by omega) ?_)
  refine gg rfl (q6a pre w post (n - 2) rfl rfl rfl (by omega) ?_)
  refine gg rfl ?_
  rw [c2, qq8 (by omega) hw2, em]
  refine q02 rfl (fun g3 => ?_) (fun g3 => ?_)
  ·rw [q06] at g3
   have g3' : r * 4294967296 + dg w (n - 2) < q * dg v (n - 2) := by omega
   have hq0 : q ≠ 0 := by rintro rfl; omega
   refine gg rfl (q04 (next hq0 (by omega) (T.less (by rw [hqr, htop]) g3') (q3C rfl ⟨q0b q0p _, q0b q0p _, trivial⟩ ⟨?_, Old.old rfl rfl rfl rfl rfl rfl⟩)))
   simp [q00, s1 hq0, s2]
  rw [q07] at g3
  have hq4 := T.end (q := q) (r := r) (by rw [hqr, htop]) hq3 (.inr (by omega))
  refine gg rfl (q04 (gg rfl ?_))
  refine qbh (S := fun x : Nat × List Nat × Nat × Nat => ([.ref 2 pre.length (n + 1), .ref 3 0 n, q00 n, .int .u64 q, .int .u64 x.2.2.1, .int .u64 x.2.2.2, .ref 3 0 n, q00 n, q00 x.1], [none, none, none, none, none, none, none, none, none], [0, 0, 0, 0, 0, 0, 0, 0, 0]))
   (O := fun x ho zo => Old (pre ++ x.2.1 ++ post) v Q ho zo)
   (C := fun x => x.1 ≤ n ∧ x.2.1.length = n + 1 ∧ LOk x.2.1 ∧ x.2.2.1 < 4294967296 ∧ x.2.2.2 ≤ 1 ∧ val (x.2.1.take x.1) + q * val (v.take x.1) = val (w.take x.1) + 4294967296 ^ x.1 * (x.2.2.2 + x.2.2.1) ∧ ∀ j, x.1 ≤ j → dg x.2.1 j = dg w j) (m := fun x => n - x.1) (0, w, 0, 0)
   ⟨Nat.zero_le _, hwl, T.wo, by simp, by simp, by simp [val], fun j _ => rfl⟩ (by simp only; omega) ?_ ?_
  ·exact q3C rfl ⟨q0b q0p _, q0b q0p _, q0b q0p _, trivial⟩ ⟨by simp [q00], Old.old rfl rfl rfl rfl rfl rfl⟩
  rintro ⟨k, w', c, b⟩ ⟨hk1, hl', ho', hc, hb, hinv, hsame⟩ ho zo hold N hN
  obtain ⟨⟨h2, rfl⟩, z2, rfl⟩ := hold
  simp only at hk1 hl' ho' hc hb hinv hsame
  refine gg rfl (q02 rfl (fun e1 => ?_) (fun e1 => ?_))
  ·rw [q06] at e1
   simp only at e1
   have hkn : k < n := by omega
   have hvk := q19 T.vo k
   have hwk := q19 ho' k
   have hqv := qad hq3 hvk
   have wk1 := wS (n := k)
   have ee : ((q * dg v k : Nat) : Int) = (q : Int) * (dg v k : Int) := by simp
   have ec : IntKind.u64.wrap ((c : Int) + IntKind.u64.wrap ((q : Int) * IntKind.u64.wrap (dg v k : Int))) = ((c + q * dg v k : Nat) : Int) := by
    rw [q0y (n := dg v k) (by omega), ← ee, q0y (n := q * dg v k) (by omega)]
    simp only [q0I]; omega
   refine gg rfl (q0J k rfl rfl rfl rfl rfl hkn (gg rfl (q4f v k rfl (Nat.zero_add _) rfl (by omega) ?_)))
   refine gg rfl ?_
   rw [ec]
   refine q0J k rfl rfl rfl rfl rfl (by omega) ?_
   refine gg rfl (q6a pre w' post k rfl rfl rfl (by omega) ?_)
   refine gg rfl ?_
   rw [q0V]
   obtain ⟨u, b', g1, g2, g3, g4, g5, g6⟩ := qkP (d := IntKind.u64.wrap (IntKind.u64.wrap (IntKind.u64.wrap (dg w' k : Int) - IntKind.u64.wrap (((c + q * dg v k) % 4294967296 : Nat) : Int)) - (b : Int))) hwk (Nat.mod_lt (c + q * dg v k) (by decide)) hb (by simp only [q0I]; omega)
   generalize IntKind.u64.wrap (IntKind.u64.wrap (IntKind.u64.wrap (dg w' k : Int) - IntKind.u64.wrap (((c + q * dg v k) % 4294967296 : Nat) : Int)) - (b : Int)) = d at *
   rw [g1]
   refine q0J k rfl rfl rfl rfl rfl (by omega) ?_
   refine gg rfl (q4M pre w' post k u rfl rfl rfl rfl rfl rfl (by omega) ?_)
   refine gg rfl (q0Y d.toNat 63 rfl rfl g2 rfl (by decide) ?_)
   rw [g3]
   refine gg rfl (q0Y (c + q * dg v k) 32 rfl rfl rfl rfl (by decide) ?_)
   refine gg rfl (q04 (hN (k + 1, w'.set k u, (c + q * dg v k) / 2 ^ 32, b') ⟨hkn, by simp [hl'], ho'.set _ g4, by simp only; omega, g5, ?_, ?_⟩ (by simp only; omega) (q3C rfl ⟨q0b q0p _, q0b q0p _, q0b q0p _, trivial⟩ ⟨by simp [q00, wk1], Old.old rfl rfl rfl rfl rfl rfl⟩)))
   ·simp only
    rw [q2m (by omega), q0H v, q0H w, show (2 : Nat) ^ 32 = 4294967296 by decide, Nat.pow_succ]
    have hs := hsame k (Nat.le_refl _)
    rw [hs] at g6
    have hdm := Nat.div_add_mod (c + q * dg v k) 4294967296
    generalize (c + q * dg v k) / 4294967296 = c' at *
    generalize (c + q * dg v k) % 4294967296 = lo at *
    generalize 4294967296 ^ k = P at *
    have e5 : P * u + P * (q * dg v k) + P * (b + c) = P * dg w k + P * (4294967296 * (b' + c')) := by
     rw [← Nat.mul_add, ← Nat.mul_add, ← Nat.mul_add]; congr 1; omega
    rw [Nat.mul_add q, Nat.mul_left_comm q P, Nat.mul_assoc P 4294967296]
    omega
   intro j hj
   simp only at hj ⊢
   rw [q2Z, if_neg (by omega)]
   exact hsame j (by omega)
  rw [q07] at e1
  simp only at e1
  obtain rfl : k = n := by omega
  clear hN
  obtain ⟨se1, se2⟩ := qq5 T hq1 hq4 hl' ho' hc hb hinv
  have hdn := hsame k (Nat.le_refl _)
  have cn : IntKind.u64.wrap (dg w' k : Int) = (dg w' k : Int) := q0y (by rw [hdn]; omega)
  refine gg rfl (q04 (gg rfl (q0J k rfl rfl rfl rfl rfl (by omega) ?_)))
  refine gg rfl (q6a pre w' post k rfl rfl rfl (by omega) ?_)
  refine gg rfl ?_
  by_cases hcase : c + b ≤ dg w k
  ·obtain ⟨f1, f2⟩ := se1 hcase
   have ed : IntKind.u64.wrap (IntKind.u64.wrap (IntKind.u64.wrap (dg w' k : Int) - (c : Int)) - (b : Int)) = ((dg w k - c - b : Nat) : Int) := by rw [hdn]; simp only [q0I]; omega
   have ed2 : IntKind.u32.wrap ((dg w k - c - b : Nat) : Int) = ((dg w k - c - b : Nat) : Int) := by rw [q0V]; omega
   have eq2 : IntKind.u32.wrap (q : Int) = (q : Int) := by rw [q0V]; omega
   rw [ed, ed2]
   refine q0J k rfl rfl rfl rfl rfl (by omega) ?_
   refine gg rfl (q4M pre w' post k (dg w k - c - b) rfl rfl rfl rfl rfl rfl (by omega) ?_)
   refine gg rfl (q0Y (dg w k - c - b) 63 rfl rfl rfl rfl (by decide) ?_)
   refine gg rfl (q02 rfl (fun y1 => ?_) (fun y1 => ?_))
   ·refine gg rfl ?_
    rw [eq2]
    have hk' : ∀ h' z', Old (pre ++ w'.set k (dg w k - c - b) ++ post) v Q h' z' → K (.int .u32 q) h' z' 356 := fun h' z' hol => by
     rw [f1]; exact hk (w'.set k (dg w k - c - b)) h' z' 356 (.inl rfl) (by simp [hl']) (ho'.set _ (by omega)) f2 hol
    exact qr0 rfl rfl (hk' _ _ (Old.of rfl rfl rfl rfl rfl rfl))
   rw [q1a] at y1
   exact absurd (by omega) y1
  obtain ⟨f1, f0, f2⟩ := se2 (by omega)
  have ed : IntKind.u64.wrap (IntKind.u64.wrap (IntKind.u64.wrap (dg w' k : Int) - (c : Int)) - (b : Int)) = ((18446744073709551616 + dg w k - c - b : Nat) : Int) := by rw [hdn]; simp only [q0I]; omega
  have ed2 : IntKind.u32.wrap ((18446744073709551616 + dg w k - c - b : Nat) : Int) = ((dg w k + 4294967296 - c - b : Nat) : Int) := by rw [q0V]; omega
  rw [ed, ed2]
  refine q0J k rfl rfl rfl rfl rfl (by omega) ?_
  refine gg rfl (q4M pre w' post k (dg w k + 4294967296 - c - b) rfl rfl rfl rfl rfl rfl (by omega) ?_)
  refine gg rfl (q0Y (18446744073709551616 + dg w k - c - b) 63 rfl rfl rfl rfl (by decide) ?_)
  refine gg rfl (q02 rfl (fun y1 => ?_) (fun y1 => ?_))
  ·rw [q12] at y1
   omega
  refine gg rfl ?_
  have hl1 : (w'.set k (dg w k + 4294967296 - c - b)).length = k + 1 := by simp [hl']
  have ho1 : LOk (w'.set k (dg w k + 4294967296 - c - b)) := ho'.set _ f0
  generalize w'.set k (dg w k + 4294967296 - c - b) = x1 at *
  refine qbh (S := fun x : Nat × List Nat × Nat => ([.ref 2 pre.length (k + 1), q00 k, .int .u64 q, .int .u64 x.2.2, .ref 3 0 k, q00 k, q00 x.1], [none, none, none, none, none, none, none], [0, 0, 0, 0, 0, 0, 0]))
   (O := fun x ho zo => Old (pre ++ x.2.1 ++ post) v Q ho zo)
   (C := fun x => x.1 ≤ k ∧ x.2.1.length = k + 1 ∧ LOk x.2.1 ∧ x.2.2 ≤ 1 ∧ val (x.2.1.take x.1) + 4294967296 ^ x.1 * x.2.2 = val (x1.take x.1) + val (v.take x.1) ∧ ∀ j, x.1 ≤ j → dg x.2.1 j = dg x1 j) (m := fun x => k - x.1) (0, x1, 0)
   ⟨Nat.zero_le _, hl1, ho1, by simp, by simp [val], fun j _ => rfl⟩ (by simp only; omega) ?_ ?_
  ·exact q3C rfl ⟨q0b q0p _, q0b q0p _, trivial⟩ ⟨by simp [q00], Old.old rfl rfl rfl rfl rfl rfl⟩
  rintro ⟨i, x2, c2'⟩ ⟨hi1, hl2, ho2, hc2, hinv2, hsame2⟩ ho zo hold N hN
  obtain ⟨⟨h3, rfl⟩, z3, rfl⟩ := hold
  simp only at hi1 hl2 ho2 hc2 hinv2 hsame2
  refine gg rfl (q02 rfl (fun e2 => ?_) (fun e2 => ?_))
  ·rw [q06] at e2
   simp only at e2
   have hik : i < k := by omega
   have hvi := q19 T.vo i
   have hxi := q19 ho2 i
   have wi1 := wS (n := i)
   have es : IntKind.u64.wrap ((c2' : Int) + IntKind.u64.wrap (IntKind.u64.wrap (dg x2 i : Int) + IntKind.u64.wrap (dg v i : Int))) = ((c2' + dg x2 i + dg v i : Nat) : Int) := by simp only [q0I]; omega
   refine gg rfl (q0J i rfl rfl rfl rfl rfl hik (gg rfl (q4f v i rfl (Nat.zero_add _) rfl (by omega) ?_)))
   refine gg rfl (q0J i rfl rfl rfl rfl rfl (by omega) ?_)
   refine gg rfl (q6a pre x2 post i rfl rfl rfl (by omega) ?_)
   refine gg rfl ?_
   rw [es, q0V]
   refine q0J i rfl rfl rfl rfl rfl (by omega) ?_
   refine gg rfl (q4M pre x2 post i ((c2' + dg x2 i + dg v i) % 4294967296) rfl rfl rfl rfl rfl rfl (by omega) ?_)
   refine gg rfl (q0Y (c2' + dg x2 i + dg v i) 32 rfl rfl rfl rfl (by decide) ?_)
   refine gg rfl (q04 (hN (i + 1, x2.set i ((c2' + dg x2 i + dg v i) % 4294967296), (c2' + dg x2 i + dg v i) / 2 ^ 32) ⟨hik, by simp [hl2], ho2.set _ (Nat.mod_lt _ (by decide)), by simp only; omega, ?_, ?_⟩ (by simp only; omega) (q3C rfl ⟨q0b q0p _, q0b q0p _, trivial⟩ ⟨by simp [q00, wi1], Old.old rfl rfl rfl rfl rfl rfl⟩)))
   ·simp only
    rw [q2m (by omega), q0H x1, q0H v, show (2 : Nat) ^ 32 = 4294967296 by decide, Nat.pow_succ, Nat.add_assoc, q4e, Nat.mul_add, Nat.mul_add, hsame2 i (Nat.le_refl _)]
    omega
   intro j hj
   simp only at hj ⊢
   rw [q2Z, if_neg (by omega)]
   exact hsame2 j (by omega)
  rw [q07] at e2
  simp only at e2
  obtain rfl : i = k := by omega
  clear hN
  have hdx := hsame2 i (Nat.le_refl _)
  have hx1 := q19 ho1 i
  have fin := qq6 T f1 hl1 ho1 hl2 ho2 hc2 hdx f2 hinv2
  have ec2 : IntKind.u32.wrap (c2' : Int) = (c2' : Int) := by rw [q0V]; omega
  have ea2 : IntKind.u32.wrap ((dg x2 i : Int) + (c2' : Int)) = (((dg x1 i + c2') % 4294967296 : Nat) : Int) := by rw [hdx, qac]; omega
  have eq3 : IntKind.u32.wrap (IntKind.u64.wrap ((q : Int) - 1)) = ((val w / val (v.take i) : Nat) : Int) := by
   have a1 := f1
   have a2 := hqlt
   generalize val w / val (v.take i) = Qt at a1 a2 ⊢
   rw [q0I, qac]
   clear hinv hinv2 hqr hq1 hq2 hql f2 fin
   omega
  refine gg rfl (q04 (gg rfl (q0J i rfl rfl rfl rfl rfl (by omega) ?_)))
  refine gg rfl (q6a pre x2 post i rfl rfl rfl (by omega) ?_)
  refine gg rfl ?_
  rw [ec2, ea2]
  refine q0J i rfl rfl rfl rfl rfl (by omega) ?_
  refine gg rfl (q4M pre x2 post i ((dg x1 i + c2') % 4294967296) rfl rfl rfl rfl rfl rfl (by omega) ?_)
  refine gg rfl ?_
  rw [eq3]
  exact qr0 rfl rfl (hk (x2.set i ((dg x1 i + c2') % 4294967296)) _ _ 401 (.inr rfl) (by simp [hl2]) (ho2.set _ (Nat.mod_lt _ (by decide))) fin (Old.of rfl rfl rfl rfl rfl rfl))
 rw [q07] at g1
 simp only at g1
 have hq3 : q < 4294967296 := by
  have h5 := hfl.2
  have h6 : q * dg v (n - 1) < 4294967296 * dg v (n - 1) := by omega
  exact Nat.lt_of_mul_lt_mul_right h6
 have hq4 := T.end (q := q) (r := r) (by rw [hqr, htop]) hq3 (.inl (by omega))
 refine gg rfl (q0m rfl (gg rfl (q04 (gg rfl ?_))))
 refine qbh (S := fun x : Nat × List Nat × Nat × Nat => ([.ref 2 pre.length (n + 1), .ref 3 0 n, q00 n, .int .u64 q, .int .u64 x.2.2.1, .int .u64 x.2.2.2, .ref 3 0 n, q00 n, q00 x.1], [none, none, none, none, none, none, none, none, none], [0, 0, 0, 0, 0, 0, 0, 0, 0]))
  (O := fun x ho zo => Old (pre ++ x.2.1 ++ post) v Q ho zo)
  (C := fun x => x.1 ≤ n ∧ x.2.1.length = n + 1 ∧ LOk x.2.1 ∧ x.2.2.1 < 4294967296 ∧ x.2.2.2 ≤ 1 ∧ val (x.2.1.take x.1) + q * val (v.take x.1) = val (w.take x.1) + 4294967296 ^ x.1 * (x.2.2.2 + x.2.2.1) ∧ ∀ j, x.1 ≤ j → dg x.2.1 j = dg w j) (m := fun x => n - x.1) (0, w, 0, 0)
  ⟨Nat.zero_le _, hwl, T.wo, by simp, by simp, by simp [val], fun j _ => rfl⟩ (by simp only; omega) ?_ ?_
 ·exact q3C rfl ⟨q0b q0p _, q0b q0p _, q0b q0p _, trivial⟩ ⟨by simp [q00], Old.old rfl rfl rfl rfl rfl rfl⟩
 rintro ⟨k, w', c, b⟩ ⟨hk1, hl', ho', hc, hb, hinv, hsame⟩ ho zo hold N hN
 obtain ⟨⟨h2, rfl⟩, z2, rfl⟩ := hold
 simp only at hk1 hl' ho' hc hb hinv hsame
 refine gg rfl (q02 rfl (fun e1 => ?_) (fun e1 => ?_))
 ·rw [q06] at e1
  simp only at e1
  have hkn : k < n := by omega
  have hvk := q19 T.vo k
  have hwk := q19 ho' k
  have hqv := qad hq3 hvk
  have wk1 := wS (n := k)
  have ee : ((q * dg v k : Nat) : Int) = (q : Int) * (dg v k : Int) := by simp
  have ec : IntKind.u64.wrap ((c : Int) + IntKind.u64.wrap ((q : Int) * IntKind.u64.wrap (dg v k : Int))) = ((c + q * dg v k : Nat) : Int) := by
   rw [q0y (n := dg v k) (by omega), ← ee, q0y (n := q * dg v k) (by omega)]
   simp only [q0I]; omega
  refine gg rfl (q0J k rfl rfl rfl rfl rfl hkn (gg rfl (q4f v k rfl (Nat.zero_add _) rfl (by omega) ?_)))
  refine gg rfl ?_
  rw [ec]
  refine q0J k rfl rfl rfl rfl rfl (by omega) ?_
  refine gg rfl (q6a pre w' post k rfl rfl rfl (by omega) ?_)
  refine gg rfl ?_
  rw [q0V]
  obtain ⟨u, b', g1, g2, g3, g4, g5, g6⟩ := qkP (d := IntKind.u64.wrap (IntKind.u64.wrap (IntKind.u64.wrap (dg w' k : Int) - IntKind.u64.wrap (((c + q * dg v k) % 4294967296 : Nat) : Int)) - (b : Int))) hwk (Nat.mod_lt (c + q * dg v k) (by decide)) hb (by simp only [q0I]; omega)
  generalize IntKind.u64.wrap (IntKind.u64.wrap (IntKind.u64.wrap (dg w' k : Int) - IntKind.u64.wrap (((c + q * dg v k) % 4294967296 : Nat) : Int)) - (b : Int)) = d at *
  rw [g1]
  refine q0J k rfl rfl rfl rfl rfl (by omega) ?_
  refine gg rfl (q4M pre w' post k u rfl rfl rfl rfl rfl rfl (by omega) ?_)
  refine gg rfl (q0Y d.toNat 63 rfl rfl g2 rfl (by decide) ?_)
  rw [g3]
  refine gg rfl (q0Y (c + q * dg v k) 32 rfl rfl rfl rfl (by decide) ?_)
  refine gg rfl (q04 (hN (k + 1, w'.set k u, (c + q * dg v k) / 2 ^ 32, b') ⟨hkn, by simp [hl'], ho'.set _ g4, by simp only; omega, g5, ?_, ?_⟩ (by simp only; omega) (q3C rfl ⟨q0b q0p _, q0b q0p _, q0b q0p _, trivial⟩ ⟨by simp [q00, wk1], Old.old rfl rfl rfl rfl rfl rfl⟩)))
  ·simp only
   rw [q2m (by omega), q0H v, q0H w, show (2 : Nat) ^ 32 = 4294967296 by decide, Nat.pow_succ]
   have hs := hsame k (Nat.le_refl _)
   rw [hs] at g6
   have hdm := Nat.div_add_mod (c + q * dg v k) 4294967296
   generalize (c + q * dg v k) / 4294967296 = c' at *
   generalize (c + q * dg v k) % 4294967296 = lo at *
   generalize 4294967296 ^ k = P at *
   have e5 : P * u + P * (q * dg v k) + P * (b + c) = P * dg w k + P * (4294967296 * (b' + c')) := by
    rw [← Nat.mul_add, ← Nat.mul_add, ← Nat.mul_add]; congr 1; omega
   rw [Nat.mul_add q, Nat.mul_left_comm q P, Nat.mul_assoc P 4294967296]
   omega
  intro j hj
  simp only at hj ⊢
  rw [q2Z, if_neg (by omega)]
  exact hsame j (by omega)
 rw [q07] at e1
 simp only at e1
 obtain rfl : k = n := by omega
 clear hN
 obtain ⟨se1, se2⟩ := qq5 T hq1 hq4 hl' ho' hc hb hinv
 have hdn := hsame k (Nat.le_refl _)
 have cn : IntKind.u64.wrap (dg w' k : Int) = (dg w' k : Int) := q0y (by rw [hdn]; omega)
 refine gg rfl (q04 (gg rfl (q0J k rfl rfl rfl rfl rfl (by omega) ?_)))
 refine gg rfl (q6a pre w' post k rfl rfl rfl (by omega) ?_)
 refine gg rfl ?_
 by_cases hcase : c + b ≤ dg w k
 ·obtain ⟨f1, f2⟩ := se1 hcase
  have ed : IntKind.u64.wrap (IntKind.u64.wrap (IntKind.u64.wrap (dg w' k : Int) - (c : Int)) - (b : Int)) = ((dg w k - c - b : Nat) : Int) := by rw [hdn]; simp only [q0I]; omega
  have ed2 : IntKind.u32.wrap ((dg w k - c - b : Nat) : Int) = ((dg w k - c - b : Nat) : Int) := by rw [q0V]; omega
  have eq2 : IntKind.u32.wrap (q : Int) = (q : Int) := by rw [q0V]; omega
  rw [ed, ed2]
  refine q0J k rfl rfl rfl rfl rfl (by omega) ?_
  refine gg rfl (q4M pre w' post k (dg w k - c - b) rfl rfl rfl rfl rfl rfl (by omega) ?_)
  refine gg rfl (q0Y (dg w k - c - b) 63 rfl rfl rfl rfl (by decide) ?_)
  refine gg rfl (q02 rfl (fun y1 => ?_) (fun y1 => ?_))
  ·refine gg rfl ?_
   rw [eq2]
   have hk' : ∀ h' z', Old (pre ++ w'.set k (dg w k - c - b) ++ post) v Q h' z' → K (.int .u32 q) h' z' 356 := fun h' z' hol => by
    rw [f1]; exact hk (w'.set k (dg w k - c - b)) h' z' 356 (.inl rfl) (by simp [hl']) (ho'.set _ (by omega)) f2 hol
   exact qr0 rfl rfl (hk' _ _ (Old.of rfl rfl rfl rfl rfl rfl))
  rw [q1a] at y1
  exact absurd (by omega) y1
 obtain ⟨f1, f0, f2⟩ := se2 (by omega)
 have ed : IntKind.u64.wrap (IntKind.u64.wrap (IntKind.u64.wrap (dg w' k : Int) - (c : Int)) - (b : Int)) = ((18446744073709551616 + dg w k - c - b : Nat) : Int) := by rw [hdn]; simp only [q0I]; omega
 have ed2 : IntKind.u32.wrap ((18446744073709551616 + dg w k - c - b : Nat) : Int) = ((dg w k + 4294967296 - c - b : Nat) : Int) := by rw [q0V]; omega
 rw [ed, ed2]
 refine q0J k rfl rfl rfl rfl rfl (by omega) ?_
 refine gg rfl (q4M pre w' post k (dg w k + 4294967296 - c - b) rfl rfl rfl rfl rfl rfl (by omega) ?_)
 refine gg rfl (q0Y (18446744073709551616 + dg w k - c - b) 63 rfl rfl rfl rfl (by decide) ?_)
 refine gg rfl (q02 rfl (fun y1 => ?_) (fun y1 => ?_))
 ·rw [q12] at y1
  omega
 refine gg rfl ?_
 have hl1 : (w'.set k (dg w k + 4294967296 - c - b)).length = k + 1 := by simp [hl']
 have ho1 : LOk (w'.set k (dg w k + 4294967296 - c - b)) := ho'.set _ f0
 generalize w'.set k (dg w k + 4294967296 - c - b) = x1 at *
 refine qbh (S := fun x : Nat × List Nat × Nat => ([.ref 2 pre.length (k + 1), q00 k, .int .u64 q, .int .u64 x.2.2, .ref 3 0 k, q00 k, q00 x.1], [none, none, none, none, none, none, none], [0, 0, 0, 0, 0, 0, 0]))
  (O := fun x ho zo => Old (pre ++ x.2.1 ++ post) v Q ho zo)
  (C := fun x => x.1 ≤ k ∧ x.2.1.length = k + 1 ∧ LOk x.2.1 ∧ x.2.2 ≤ 1 ∧ val (x.2.1.take x.1) + 4294967296 ^ x.1 * x.2.2 = val (x1.take x.1) + val (v.take x.1) ∧ ∀ j, x.1 ≤ j → dg x.2.1 j = dg x1 j) (m := fun x => k - x.1) (0, x1, 0)
  ⟨Nat.zero_le _, hl1, ho1, by simp, by simp [val], fun j _ => rfl⟩ (by simp only; omega) ?_ ?_
 ·exact q3C rfl ⟨q0b q0p _, q0b q0p _, trivial⟩ ⟨by simp [q00], Old.old rfl rfl rfl rfl rfl rfl⟩
 rintro ⟨i, x2, c2'⟩ ⟨hi1, hl2, ho2, hc2, hinv2, hsame2⟩ ho zo hold N hN
 obtain ⟨⟨h3, rfl⟩, z3, rfl⟩ := hold
 simp only at hi1 hl2 ho2 hc2 hinv2 hsame2
 refine gg rfl (q02 rfl (fun e2 => ?_) (fun e2 => ?_))
 ·rw [q06] at e2
  simp only at e2
  have hik : i < k := by omega
  have hvi := q19 T.vo i
  have hxi := q19 ho2 i
  have wi1 := wS (n := i)
  have es : IntKind.u64.wrap ((c2' : Int) + IntKind.u64.wrap (IntKind.u64.wrap (dg x2 i : Int) + IntKind.u64.wrap (dg v i : Int))) = ((c2' + dg x2 i + dg v i : Nat) : Int) := by simp only [q0I]; omega
  refine gg rfl (q0J i rfl rfl rfl rfl rfl hik (gg rfl (q4f v i rfl (Nat.zero_add _) rfl (by omega) ?_)))
  refine gg rfl (q0J i rfl rfl rfl rfl rfl (by omega) ?_)
  refine gg rfl (q6a pre x2 post i rfl rfl rfl (by omega) ?_)
  refine gg rfl ?_
  rw [es, q0V]
  refine q0J i rfl rfl rfl rfl rfl (by omega) ?_
  refine gg rfl (q4M pre x2 post i ((c2' + dg x2 i + dg v i) % 4294967296) rfl rfl rfl rfl rfl rfl (by omega) ?_)
  refine gg rfl (q0Y (c2' + dg x2 i + dg v i) 32 rfl rfl rfl rfl (by decide) ?_)
  refine gg rfl (q04 (hN (i + 1, x2.set i ((c2' + dg x2 i + dg v i) % 4294967296), (c2' + dg x2 i + dg v i) / 2 ^ 32) ⟨hik, by simp [hl2], ho2.set _ (Nat.mod_lt _ (by decide)), by simp only; omega, ?_, ?_⟩ (by simp only; omega) (q3C rfl ⟨q0b q0p _, q0b q0p _, trivial⟩ ⟨by simp [q00, wi1], Old.old rfl rfl rfl rfl rfl rfl⟩)))
  ·simp only
   rw [q2m (by omega), q0H x1, q0H v, show (2 : Nat) ^ 32 = 4294967296 by decide, Nat.pow_succ, Nat.add_assoc, q4e, Nat.mul_add, Nat.mul_add, hsame2 i (Nat.le_refl _)]
   omega
  intro j hj
  simp only at hj ⊢
  rw [q2Z, if_neg (by omega)]
  exact hsame2 j (by omega)
 rw [q07] at e2
 simp only at e2
 obtain rfl : i = k := by omega
 clear hN
 have hdx := hsame2 i (Nat.le_refl _)
 have hx1 := q19 ho1 i
 have fin := qq6 T f1 hl1 ho1 hl2 ho2 hc2 hdx f2 hinv2
 have ec2 : IntKind.u32.wrap (c2' : Int) = (c2' : Int) := by rw [q0V]; omega
 have ea2 : IntKind.u32.wrap ((dg x2 i : Int) + (c2' : Int)) = (((dg x1 i + c2') % 4294967296 : Nat) : Int) := by rw [hdx, qac]; omega
 have eq3 : IntKind.u32.wrap (IntKind.u64.wrap ((q : Int) - 1)) = ((val w / val (v.take i) : Nat) : Int) := by
  have a1 := f1
  have a2 := hqlt
  generalize val w / val (v.take i) = Qt at a1 a2 ⊢
  rw [q0I, qac]
  clear hinv hinv2 hqr hq1 hq2 hql f2 fin
  omega
 refine gg rfl (q04 (gg rfl (q0J i rfl rfl rfl rfl rfl (by omega) ?_)))
 refine gg rfl (q6a pre x2 post i rfl rfl rfl (by omega) ?_)
 refine gg rfl ?_
 rw [ec2, ea2]
 refine q0J i rfl rfl rfl rfl rfl (by omega) ?_
 refine gg rfl (q4M pre x2 post i ((dg x1 i + c2') % 4294967296) rfl rfl rfl rfl rfl rfl (by omega) ?_)
 refine gg rfl ?_
 rw [eq3]
 exact qr0 rfl rfl (hk (x2.set i ((dg x1 i + c2') % 4294967296)) _ _ 401 (.inr rfl) (by simp [hl2]) (ho2.set _ (Nat.mod_lt _ (by decide))) fin (Old.of rfl rfl rfl rfl rfl rfl))
end Go.F

namespace Go.F
attribute [local irreducible] IntKind.wrap wpM
theorem qq7 {U : List Nat} {i n : Nat} (h : i + n + 1 ≤ U.length) : U = U.take i ++ (U.drop i).take (n + 1) ++ U.drop (i + n + 1) ∧ (U.take i).length = i ∧ ((U.drop i).take (n + 1)).length = n + 1 := by
 refine ⟨?_, by simp; omega, by simp; omega⟩
 rw [List.append_assoc, show U.drop (i + n + 1) = (U.drop i).drop (n + 1) by rw [List.drop_drop]; congr 1, List.take_append_drop, List.take_append_drop]
theorem q9I {l : List Nat} {n : Nat} (h : val l < 4294967296 ^ n) : val (l.drop n) = 0 ∧ val (l.take n) = val l := by
 have := q2w l n
 have hz : val (l.drop n) = 0 := by
  by_cases h0 : val (l.drop n) = 0
  ·exact h0
  have : 4294967296 ^ n * 1 ≤ 4294967296 ^ n * val (l.drop n) := Nat.mul_le_mul_left _ (by omega)
  omega
 rw [hz] at this
 exact ⟨hz, by omega⟩
structure Dv (r v U Q : List Nat) (n m j : Nat) : Prop where
 jm : j ≤ m
 ul : U.length = m + n
 uo : LOk U
 ql : Q.length = m
 qo : LOk Q
 lt : val (U.drop j) < val (v.take n)
 eq : val r = val U + val (v.take n) * (4294967296 ^ j * val (Q.drop j))
theorem Dv.trial {r v U Q : List Nat} {n m j : Nat} (h : Dv r v U Q n m (j + 1)) (n2 : 2 ≤ n) (vo : LOk v) (vl : n ≤ v.length) (hi : 2147483648 ≤ dg v (n - 1)) :
 Trial ((U.drop j).take (n + 1)) v n ∧ val ((U.drop j).take (n + 1)) = val (U.drop j) := by
 have hl := h.ul
 have hj := h.jm
 have hV := q1Q vo n
 have hlt := h.lt
 have e1 : val (U.drop j) < 4294967296 * val (v.take n) := by
  rw [q2A]
  have := q19 h.uo j
  omega
 have e2 : val (U.drop j) < 4294967296 ^ (n + 1) := by
  rw [Nat.pow_succ]
  have : 4294967296 * val (v.take n) ≤ 4294967296 * 4294967296 ^ n := Nat.mul_le_mul_left _ (by omega)
  omega
 have e3 := (q9I e2).2
 exact ⟨⟨n2, by simp; omega, (h.uo.drop j).take _, vo, vl, hi, by rw [e3]; exact e1⟩, e3⟩
theorem Dv.next {r v U Q w' : List Nat} {n m j : Nat} (h : Dv r v U Q n m (j + 1)) (T : Trial ((U.drop j).take (n + 1)) v n) (hw : val ((U.drop j).take (n + 1)) = val (U.drop j)) (hl' : w'.length = n + 1) (ho' : LOk w') (hv' : val w' = val ((U.drop j).take (n + 1)) % val (v.take n)) :
 Dv r v (U.take j ++ w' ++ U.drop (j + n + 1)) (Q.set j (val ((U.drop j).take (n + 1)) / val (v.take n))) n m j := by
 have hl := h.ul
 have hj := h.jm
 have hpos := T.pos.2
 have hq := T.qlt
 obtain ⟨w1, w2, w3⟩ := qq7 (U := U) (i := j) (n := n) (by omega)
 have hpz : val (U.drop (j + n + 1)) = 0 := by
  have := q2w (U.drop j) (n + 1)
  rw [hw, List.drop_drop, show j + (n + 1) = j + n + 1 by omega] at this
  have hp : 0 < 4294967296 ^ (n + 1) := Nat.pow_pos (by decide)
  have h0 : 4294967296 ^ (n + 1) * val (U.drop (j + n + 1)) = 0 := by omega
  rcases Nat.mul_eq_zero.1 h0 with h1 | h1
  ·omega
  exact h1
 refine ⟨by omega, by simp [hl']; omega, ((h.uo.take j).append ho').append (h.uo.drop _), by simp [h.ql], h.qo.set _ hq, ?_, ?_⟩
 ·rw [List.append_assoc, List.drop_left' w2, val_append, hpz, hv']
  have := Nat.mod_lt (val ((U.drop j).take (n + 1))) hpos
  omega
 have heq := h.eq
 have e1 : val (U.take j ++ w' ++ U.drop (j + n + 1)) = val (U.take j) + 4294967296 ^ j * val w' := by
  rw [List.append_assoc, val_append, val_append, w2, hpz]; simp
 have e2 : val U = val (U.take j) + 4294967296 ^ j * val (U.drop j) := q2w U j
 rw [e1, q2A, q2Z, if_pos ⟨rfl, by rw [h.ql]; omega⟩, List.drop_set_of_lt (by omega), hv', hw]
 rw [heq, e2, Nat.pow_succ]
 have hdm := Nat.div_add_mod (val (U.drop j)) (val (v.take n))
 generalize val (v.take n) = V at *
 generalize val (U.drop j) / V = q at *
 generalize val (U.drop j) % V = R at *
 rw [← hdm]
 generalize val (Q.drop (j + 1)) = X
 generalize 4294967296 ^ j = P
 grind
set_option maxHeartbeats 8000000 in
theorem qdw (a b : List Nat) [ha : LOk a] [hb : LOk b] (hla : a.length ≤ 900000000) (hlb : b.length ≤ 900000000) :
 PU q3f [nat a, nat b] = some (if val b = 0 then .tup [nat [], nat [], .bool false] else .tup [nat (q0d (val a / val b)), nat (q0d (val a % val b)), .bool true]) := by
 have ea : val (q0d (val a)) = val a := q0i _
 have eb : val (q0d (val b)) = val b := q0i _
 have hla' := q1n ha
 have hlb' := q1n hb
 refine q0h (fn := q6r) rfl (q0c ?_)
 refine gg rfl (q01 rfl rfl (q2l a (by omega)) ?_)
 refine gg rfl (q01 rfl rfl (q2l b (by omega)) ?_)
 refine gg rfl ?_
 have hAo : LOk (q0d (val a)) := q0w _
 have hBo : LOk (q0d (val b)) := q0w _
 have hb0 : (q0d (val b)).length = 0 ↔ val b = 0 := by rw [List.length_eq_zero_iff]; exact qgw
 have hbtop : val b ≠ 0 → dg (q0d (val b)) ((q0d (val b)).length - 1) ≠ 0 := qkN
 have hlen : val b ≤ val a → (q0d (val b)).length ≤ (q0d (val a)).length := fun h => q0l.2 (Nat.lt_of_le_of_lt h (q0l.1 (Nat.le_refl _)))
 generalize q0d (val a) = A at *
 generalize q0d (val b) = B at *
 rw [List.length_map]
 refine q02 rfl (fun h1 => ?_) (fun h1 => ?_)
 ·rw [q12] at h1
  refine gg rfl (q08 rfl rfl rfl trivial ?_)
  rw [if_pos (hb0.1 (by omega))]; rfl
 rw [q1a] at h1
 have hvb : val b ≠ 0 := fun h => h1 (by have := hb0.2 h; omega)
 rw [if_neg hvb]
 refine gg rfl (q01 rfl rfl (qj3 A B (by omega) (by omega)) ?_)
 refine gg rfl ?_
 rw [ea, eb]
 refine q02 rfl (fun h2 => ?_) (fun h2 => ?_)
 ·rw [q06] at h2
  have hlt : val a < val b := by
   unfold q3q at h2
   split at h2
   ·omega
   split at h2 <;> omega
  refine gg rfl (q01 rfl rfl (q54 A (by omega)) ?_)
  refine gg rfl (q08 rfl rfl rfl trivial ?_)
  rw [Nat.div_eq_of_lt hlt, Nat.mod_eq_of_lt hlt, ea]; rfl
 rw [q07] at h2
 have hle : val b ≤ val a := by
  unfold q3q at h2
  split at h2
  ·omega
  omega
 have hlen := hlen hle
 refine gg rfl ?_
 rw [List.length_map]
 refine q02 rfl (fun h3 => ?_) (fun h3 => ?_)
 ·rw [q12] at h3
  have hB1 : B.length = 1 := by omega
  have hd := q19 hBo 0
  have ev : val B = dg B 0 := by
   have := q0H B 0
   rw [List.take_of_length_le (by omega)] at this
   simpa [val] using this
  have hd0 : dg B 0 ≠ 0 := by rw [← ev, eb]; exact hvb
  have w0 : IntKind.u64.wrap ((val A % dg B 0 : Nat) : Int) = ((val A % dg B 0 : Nat) : Int) := q0y (by have := Nat.mod_lt (val A) (show 0 < dg B 0 by omega); omega)
  refine gg rfl (q0k 0 rfl rfl rfl (q2f (by omega)) rfl ?_)
  refine gg rfl (q01 rfl rfl (qsU A (dg B 0) (by omega) hd0 hd) ?_)
  refine gg rfl ?_
  rw [w0]
  refine q01 rfl rfl (q6V (val A % dg B 0) (by have := Nat.mod_lt (val A) (show 0 < dg B 0 by omega); omega)) ?_
  refine gg rfl (q08 rfl rfl rfl trivial ?_)
  rw [← eb, ← ea, ev]
  rfl
 rw [q1a] at h3
 have hn2 : 2 ≤ B.length := by omega
 generalize hn : B.length = n at *
 have wn1 : IntKind.i64.wrap ((n : Int) - 1) = ((n - 1 : Nat) : Int) := by rw [wrap64 (by omega) (by omega)]; omega
 obtain ⟨s, hs1, hs2, hs3, hs4⟩ := qfz (dg B (n - 1)) (q19 hBo _) (hbtop hvb)
 refine gg rfl ?_
 rw [List.length_map, hn]
 refine q0k (n - 1) rfl rfl wn1 (q2f (by omega)) rfl ?_
 refine gg rfl (q01 rfl rfl hs1 (gg rfl (qpF rfl rfl (left1 A s (by omega) hs2 trivial fun r h' z' hr hro hrv hh' hz' _ => ?_))))
 refine gg rfl (qpF rfl rfl (left2 B s (by omega) hs2 r ⟨hh', hz'⟩ fun v h'' z'' hv hvo hvv hh'' hz'' hold => ?_))
 obtain ⟨h0, rfl⟩ : ∃ h0 : q0f, h'' = upd (upd h0 80 (some (.row (r.map u32) 1))) 131 (some (.row (v.map u32) 1)) := ⟨h'', by rw [q33 (f := h'') hold.1, q33 (f := h'') hh'']⟩
 obtain ⟨z0, rfl⟩ : ∃ z0 : Frz, z'' = upd (upd z0 80 0) 131 0 := ⟨z'', by rw [q33 (f := z'') hold.2, q33 (f := z'') hz'']⟩
 rw [hn] at hv
 refine gg rfl (qmC n rfl rfl rfl ⟨_, _, rfl, rfl⟩ (by omega) ?_)
 refine gg rfl ?_
 have wm : IntKind.i64.wrap (((A.length + 1 : Nat) : Int) - (n : Int)) = ((A.length + 1 - n : Nat) : Int) := by rw [wrap64 (by omega) (by omega)]; omega
 rw [wm]
 refine q4H (A.length + 1 - n) rfl rfl rfl (by simp [q0U]; omega) ?_
 rw [q7K]
 refine gg rfl ?_
 have wm1 := ww (x := ((A.length + 1 - n : Nat) : Int) - 1)
 generalize hm : A.length + 1 - n = m at *
 have hAl : A.length + 1 = m + n := by omega
 rw [hAl] at hr
 have hvV : val (v.take n) = val b * 2 ^ s := by
  have h5 : val v < 4294967296 ^ n := by
   rw [hvv]
   have e1 := q0H B (n - 1)
   rw [Nat.sub_add_cancel (by omega), List.take_of_length_le (by omega)] at e1
   have e2 := q1Q hBo (n - 1)
   have e3 : val B < 4294967296 ^ (n - 1) * (dg B (n - 1) + 1) := by rw [e1, Nat.mul_add]; omega
   have e4 : 4294967296 ^ n = 4294967296 ^ (n - 1) * 4294967296 := by rw [← Nat.pow_succ]; congr 1; omega
   calc val B * 2 ^ s < 4294967296 ^ (n - 1) * (dg B (n - 1) + 1) * 2 ^ s := Nat.mul_lt_mul_of_pos_right e3 (Nat.two_pow_pos s)
    _ = 4294967296 ^ (n - 1) * ((dg B (n - 1) + 1) * 2 ^ s) := Nat.mul_assoc _ _ _
    _ ≤ 4294967296 ^ (n - 1) * 4294967296 := Nat.mul_le_mul_left _ hs4
    _ = 4294967296 ^ n := e4.symm
  rw [(q9I h5).2, hvv, eb]
 have hvtop : 2147483648 ≤ dg v (n - 1) := by
  rw [qoR hvo, hvv]
  have e1 := q0H B (n - 1)
  rw [Nat.sub_add_cancel (by omega), List.take_of_length_le (by omega)] at e1
  have e2 : dg B (n - 1) * 2 ^ s ≤ val B * 2 ^ s / 4294967296 ^ (n - 1) := by
   rw [Nat.le_div_iff_mul_le (Nat.pow_pos (by decide)), e1, Nat.mul_right_comm]
   refine Nat.mul_le_mul_right _ ?_
   rw [Nat.mul_comm]; omega
  have e3 : val B * 2 ^ s / 4294967296 ^ (n - 1) < 4294967296 := by
   rw [Nat.div_lt_iff_lt_mul (Nat.pow_pos (by decide)), Nat.mul_comm 4294967296, ← Nat.pow_succ, show (n - 1).succ = n by omega, eb, ← hvV]
   exact q1Q hvo n
  rw [Nat.mod_eq_of_lt e3]
  omega
 have hstart : Dv r v r (List.replicate m 0) n m m := by
  refine ⟨Nat.le_refl _, hr, hro, by simp, q4L _, ?_, by simp [val]⟩
  have e1 := q2w r m
  have e2 : val r < 4294967296 ^ m * (4294967296 ^ (n - 1) * 2 ^ s) := by
   rw [hrv, ← Nat.mul_assoc, ← Nat.pow_add, show m + (n - 1) = A.length by omega]
   exact Nat.mul_lt_mul_of_pos_right (q2K hAo) (Nat.two_pow_pos s)
  have e3 : val (r.drop m) < 4294967296 ^ (n - 1) * 2 ^ s := by
   refine Nat.lt_of_mul_lt_mul_left (a := 4294967296 ^ m) ?_
   omega
  have e4 : 4294967296 ^ (n - 1) * dg v (n - 1) ≤ val (v.take n) := by
   have := q0H v (n - 1)
   rw [Nat.sub_add_cancel (by omega)] at this
   omega
  have e5 : 2 ^ s ≤ 2147483648 := by simpa using Nat.pow_le_pow_right (n := 2) (by decide) hs2
  have e6 : 4294967296 ^ (n - 1) * 2 ^ s ≤ 4294967296 ^ (n - 1) * dg v (n - 1) := Nat.mul_le_mul_left _ (by omega)
  omega
 refine q0q (S := fun x : Nat × List Nat × List Nat => ([q00 n, q00 s, .ref 2 0 (m + n), .ref 3 0 n, .ref 4 0 m, q00 ((x.1 : Int) - 1)], [none, none, some (.row (x.2.1.map u32) 1), some (.row (v.map u32) 1), some (.row (x.2.2.map u32) 1), none], [0, 0, 0, 0, 0, 0]))
  (C := fun x => Dv r v x.2.1 x.2.2 n m x.1) (m := fun x => x.1) (m, r, List.replicate m 0) hstart (by simp only; omega) ?_ ?_
 ·exact q03 rfl ⟨q0b q0p _, q0b q0p _, q0b q0p _, trivial⟩ (by simp [q00, wm1, hAl])
 rintro ⟨j, U, Q⟩ hD N hN
 simp only at hD
 have hul := hD.ul
 have hql := hD.ql
 have hjm := hD.jm
 refine gg rfl (q02 rfl (fun g1 => ?_) (fun g1 => ?_))
 ·rw [q0D] at g1
  simp only at g1
  obtain ⟨i, rfl⟩ : ∃ i, j = i + 1 := ⟨j - 1, by omega⟩
  obtain ⟨T, hT⟩ := hD.trial hn2 hvo (by omega) hvtop
  obtain ⟨w1, w2, w3⟩ := qq7 (U := U) (i := i) (n := n) (by omega)
  have ei : ((i + 1 : Nat) : Int) - 1 = (i : Int) := by omega
  have wi : IntKind.i64.wrap (IntKind.i64.wrap ((i : Int) + (n : Int)) + 1) = ((i + n + 1 : Nat) : Int) := by rw [wrap64 (x := (i : Int) + n) (by omega) (by omega), wrap64 (by omega) (by omega)]; omega
  refine gg rfl ?_
  rw [ei]
  refine atSlR i (i + n + 1) rfl rfl rfl ⟨_, _, rfl, rfl⟩ ⟨_, _, rfl, wi⟩ (by omega) ?_
  have esl : (if i = 0 then D.ref 2 0 (i + n + 1) else if i = i + n + 1 then D.lst [] else D.ref 2 (0 + i) (i + n + 1 - i)) = D.ref 2 (U.take i).length (n + 1) := by
   rw [w2]
   by_cases hi0 : i = 0
   ·subst hi0; simp
   rw [if_neg hi0, if_neg (by omega)]; congr 1 <;> omega
  rw [esl]
  refine gg rfl (qpF rfl rfl (qsR (U.take i) ((U.drop i).take (n + 1)) (U.drop (i + n + 1)) v Q n T (by omega) (Old.of (by rw [← w1]; rfl) rfl rfl rfl rfl rfl) fun w' h' z' nx' hnx hl' ho' hv' hold => ?_))
  obtain ⟨⟨h1, rfl⟩, z1, rfl⟩ := hold
  have hD' := hD.next T hT hl' ho' hv'
  generalize U.take i ++ w' ++ U.drop (i + n + 1) = U' at *
  have hq := T.qlt
  generalize val ((U.drop i).take (n + 1)) / val (v.take n) = qd at *
  have wj := ww (x := (i : Int) - 1)
  rcases hnx with rfl | rfl
  ·refine gg rfl (q0J i rfl rfl rfl rfl rfl (by omega) ?_)
   refine gg rfl (q1C Q i qd rfl rfl (Nat.zero_add _) rfl rfl (Nat.zero_le _) (by omega) ?_)
   exact gg rfl (q04 (hN (i, U', Q.set i qd) hD' (by simp only; omega) (q03 rfl ⟨q0b q0p _, q0b q0p _, q0b q0p _, trivial⟩ (by simp [q00, wj]))))
  refine gg rfl (q0J i rfl rfl rfl rfl rfl (by omega) ?_)
  refine gg rfl (q1C Q i qd rfl rfl (Nat.zero_add _) rfl rfl (Nat.zero_le _) (by omega) ?_)
  exact gg rfl (q04 (hN (i, U', Q.set i qd) hD' (by simp only; omega) (q03 rfl ⟨q0b q0p _, q0b q0p _, q0b q0p _, trivial⟩ (by simp [q00, wj]))))
 rw [q0E] at g1
 simp only at g1
 obtain rfl : j = 0 := by omega
 have heq := hD.eq
 have hlt := hD.lt
 simp only [Nat.pow_zero, Nat.one_mul, List.drop_zero] at heq hlt
 have hU : val U < 4294967296 ^ n := Nat.lt_trans hlt (q1Q hvo n)
 have hUt := (q9I hU).2
 have hpos : 0 < val (v.take n) := by omega
 have hQ : val Q = val a / val b := by
  have : val Q = val r / val (v.take n) := by rw [heq, Nat.add_mul_div_left _ _ hpos, Nat.div_eq_of_lt hlt, Nat.zero_add]
  rw [this, hrv, hvV, ea, Nat.mul_div_mul_right _ _ (Nat.two_pow_pos s)]
 have hR : val (U.take n) / 2 ^ s = val a % val b := by
  have : val U = val r % val (v.take n) := by rw [heq, Nat.add_mul_mod_self_left, Nat.mod_eq_of_lt hlt]
  rw [hUt, this, hrv, hvV, ea, Nat.mul_mod_mul_right, Nat.mul_div_cancel _ (Nat.two_pow_pos s)]
 have hQo := hD.qo
 have hUo : LOk (U.take n) := hD.uo.take n
 have hp := q2l Q (by omega)
 rw [hQ] at hp
 have hp2 := qgy (U.take n) s (by simp; omega) hs2
 rw [hR] at hp2
 have hrow : D.lst ((U.map u32).take n) = nat (U.take n) := by rw [nat, List.map_take]
 refine gg rfl (q04 (gg rfl (q2o rfl rfl ⟨q3y (l := Q) hql.symm, trivial⟩ (by rw [q3U (l := Q) hql.symm]; exact hp) fun z => ?_)))
 refine gg rfl (qmC n rfl rfl rfl ⟨_, _, rfl, rfl⟩ (by omega) ?_)
 refine gg rfl (q2o rfl rfl ⟨⟨by simp; omega, ?_⟩, trivial⟩ (by rw [hrow]; exact hp2) fun z => ?_)
 ·rw [List.drop_zero, ← List.map_take]; exact q1t qq4 _
 exact gg rfl (q08 rfl rfl rfl trivial rfl)
def bl (n : Nat) : Nat := if n = 0 then 0 else n.log2 + 1
theorem qnh {n k : Nat} (h : n < 4294967296 ^ k) : bl n ≤ 32 * k := by
 unfold bl
 split
 ·omega
 rename_i h0
 rw [show (4294967296 : Nat) = 2 ^ 32 by decide, ← Nat.pow_mul] at h
 exact (Nat.log2_lt h0).2 h
theorem qsS {x y : Nat} (hy : y ≠ 0) (h : y ≤ x) : bl (x % y) < bl x := by
 have hx : x ≠ 0 := by omega
 unfold bl
 rw [if_neg hx]
 split
 ·omega
 rename_i h0
 have h2 : 2 * (x % y) ≤ x := by
  have hm := Nat.mod_lt x (show 0 < y by omega)
  have hd := Nat.div_add_mod x y
  have hq : 1 ≤ x / y := (Nat.le_div_iff_mul_le (by omega)).2 (by omega)
  have : y * 1 ≤ y * (x / y) := Nat.mul_le_mul_left _ hq
  omega
 have h3 : (x % y).log2 + 1 ≤ x.log2 := by
  have := (Nat.le_log2 hx (k := (x % y).log2 + 1)).2 (by
   have := Nat.log2_self_le h0
   rw [Nat.pow_succ]; omega)
  exact this
 omega
theorem Gcd_PU (a b : List Nat) [ha : LOk a] [hb : LOk b] (hla : a.length ≤ 900000000) (hlb : b.length ≤ 900000000) : PU qdU [nat a, nat b] = some (nat (q0d (Nat.gcd (val a) (val b)))) := by
 refine q0h (fn := q9y) rfl (q0c ?_)
 refine gg rfl (q01 rfl rfl (q54 a (by omega)) ?_)
 refine gg rfl (q01 rfl rfl (q54 b (by omega)) ?_)
 refine gg rfl ?_
 obtain ⟨K, hK⟩ : ∃ K : Nat, K = 900000000 := ⟨_, rfl⟩
 rw [← hK] at hla hlb
 have hA := Nat.lt_of_lt_of_le (q2K ha) (Nat.pow_le_pow_right (show 0 < 4294967296 by decide) hla)
 have hB := Nat.lt_of_lt_of_le (q2K hb) (Nat.pow_le_pow_right (show 0 < 4294967296 by decide) hlb)
 refine q0q (S := fun x : Nat × Nat => ([nat (q0d x.1), nat (q0d x.2)], [none, none], [0, 0])) (C := fun x => x.1 < 4294967296 ^ K ∧ x.2 < 4294967296 ^ K ∧ Nat.gcd x.1 x.2 = Nat.gcd (val a) (val b)) (m := fun x => 2 * (bl x.1 + bl x.2) + if x.1 < x.2 then 1 else 0) (val a, val b) ⟨hA, hB, rfl⟩ ?_ ?_ ?_
 ·simp only
  have h1 := qnh hA
  have h2 := qnh hB
  split <;> omega
 ·exact q03 rfl trivial (by simp [nat])
 rintro ⟨x, y⟩ ⟨hx, hy, hg⟩ N hN
 simp only at hx hy hg
 refine gg rfl ?_
 rw [List.length_map]
 refine q02 rfl (fun h1 => ?_) (fun h1 => ?_)
 ·rw [q06] at h1
  have hy0 : y ≠ 0 := q2Y.1 (by simp only at h1; omega)
  have hp := qdw (q0d x) (q0d y) (hK ▸ q0l.2 hx) (hK ▸ q0l.2 hy)
  rw [q0i, q0i, if_neg hy0] at hp
  refine gg rfl (q01 rfl rfl hp (gg rfl (q04 (hN (y, x % y) ⟨hy, Nat.lt_of_le_of_lt (Nat.mod_le _ _) hx, ?_⟩ ?_ (q03 rfl trivial (by simp [nat]))))))
  ·simp only
   rw [← hg, Nat.gcd_comm x y, Nat.gcd_rec y x, Nat.gcd_comm]
  simp only
  have hm := Nat.mod_lt x (show 0 < y by omega)
  by_cases hxy : x < y
  ·rw [if_pos hxy, Nat.mod_eq_of_lt hxy, if_neg (by omega)]; omega
  have := qsS hy0 (Nat.le_of_not_lt hxy)
  rw [if_neg hxy, if_neg (by omega)]; omega
 rw [q07] at h1
 have hy0 : y = 0 := by
  by_cases h : y = 0
  ·exact h
  have := q2Y.2 h; simp only at h1; omega
 refine gg rfl (q04 (gg rfl (q08 rfl rfl rfl trivial ?_)))
 rw [← hg, hy0, Nat.gcd_zero_right]; rfl
end Go.F

namespace Go.F
attribute [local irreducible] IntKind.wrap wpM
class Sz (l : List Nat) (k : outParam Nat) : Prop where
 ok : LOk l
 len : l.length ≤ k
instance {l : List Nat} {k : Nat} [h : Sz l k] : LOk l := h.ok
class NB (n : Nat) (k : outParam Nat) : Prop where
 lt : n < 4294967296 ^ k
instance szLimbs {n k : Nat} [h : NB n k] : Sz (q0d n) k := ⟨q0w _, q0l.2 h.lt⟩
instance q4K {l : List Nat} {k : Nat} [h : Sz l k] : NB (val l) k := ⟨Nat.lt_of_lt_of_le (q2K h.ok) (Nat.pow_le_pow_right (by decide) h.len)⟩
theorem qcR {j k : Nat} (h : j ≤ k) : 4294967296 ^ j ≤ 4294967296 ^ k := Nat.pow_le_pow_right (by decide) h
theorem qsz (k : Nat) : 0 < 4294967296 ^ k := Nat.pow_pos (by decide)
theorem q6j {m n k : Nat} (h : m ≤ n) (hn : n < 4294967296 ^ k) : m < 4294967296 ^ k := Nat.lt_of_le_of_lt h hn
theorem qcS {m n j k : Nat} (h1 : m < 4294967296 ^ j) (h2 : n < 4294967296 ^ k) : m + n < 4294967296 ^ (j + k + 1) := by
 have a := qcR (show j ≤ j + k by omega)
 have b := qcR (show k ≤ j + k by omega)
 rw [Nat.pow_succ]
 omega
theorem q1Z {m n j k : Nat} (h1 : m < 4294967296 ^ j) (h2 : n < 4294967296 ^ k) : m * n < 4294967296 ^ (j + k) := by
 rw [Nat.pow_add]
 exact Nat.mul_lt_mul'' h1 h2
structure RI where
 neg : Bool
 mag : List Nat
def RI.enc (a : RI) : D := .agg [.bool a.neg, nat a.mag]
def RI.v (a : RI) : Int := if a.neg then -(val a.mag : Int) else val a.mag
def RI.of (z : Int) : RI := ⟨decide (z < 0), q0d z.natAbs⟩
def encI (z : Int) : D := (RI.of z).enc
theorem RI.of_v (z : Int) : (RI.of z).v = z := by
 unfold RI.of RI.v
 simp only [q0i]
 by_cases h : z < 0
 ·rw [decide_eq_true h]; simp; omega
 rw [decide_eq_false h]; simp; omega
theorem RI.v_abs (a : RI) : a.v.natAbs = val a.mag := by
 unfold RI.v; split <;> omega
theorem qdu (z : Int) {neg : Bool} {n : Nat} (h1 : neg = decide (z < 0)) (h2 : n = z.natAbs) : D.agg [.bool neg, nat (q0d n)] = encI z := by
 subst h1; subst h2; rfl
theorem q5G (neg : Bool) (l : List Nat) {k : Nat} [h : Sz l k] (hk : k ≤ 500000000) : PU q1m [.bool neg, nat l] = some (encI (RI.v ⟨neg, l⟩)) := by
 have hl := h.len
 have e : ∀ n : Nat, n = (q0d (val l)).length → ltb 0 (n : Int) = decide (val l ≠ 0) := by
  rintro n rfl
  rw [q1H, decide_eq_decide]
  have := @q2Y (val l)
  omega
 refine q0h (fn := q6t) rfl (q0c ?_)
 refine gg rfl (q01 rfl rfl (q54 l (by omega)) ?_)
 refine gg rfl (q05 rfl (fun h1 => ?_) (fun h1 => ?_))
 ·refine gg rfl (q08 rfl rfl rfl trivial ?_)
  subst h1
  refine qdu _ ?_ ?_
  ·rw [List.length_map, e _ rfl]
   simp only [RI.v]
   rw [decide_eq_decide]; simp; omega
  simp [RI.v]
 refine gg rfl (q08 rfl rfl rfl trivial ?_)
 subst h1
 refine qdu _ ?_ ?_
 ·simp only [RI.v]
  rw [eq_comm, decide_eq_false_iff_not, if_neg (by decide)]; omega
 simp [RI.v]
theorem qdX (n : Int) (h1 : -9223372036854775808 ≤ n) (h2 : n ≤ 9223372036854775807) : PU qaT [.int .i64 n] = some (encI n) := by
 have nb : NB n.natAbs 2 := ⟨by show n.natAbs < 18446744073709551616; omega⟩
 refine q0h (fn := qaF) rfl (q0c ?_)
 refine gg rfl (q02 rfl (fun g1 => ?_) (fun g1 => ?_))
 ·rw [q06] at g1
  have e : IntKind.u64.wrap (0 - IntKind.u64.wrap n) = ((n.natAbs : Nat) : Int) := by simp only [q0I]; omega
  refine gg rfl ?_
  rw [e]
  refine q01 rfl rfl (q6V n.natAbs (by omega)) ?_
  refine gg rfl (q01 rfl rfl (q5G true (q0d n.natAbs) (by decide)) ?_)
  refine gg rfl (q08 rfl rfl rfl trivial ?_)
  have : RI.v ⟨true, q0d n.natAbs⟩ = n := by rw [RI.v, if_pos rfl, q0i]; omega
  rw [this]; rfl
 rw [q07] at g1
 have e : IntKind.u64.wrap n = ((n.natAbs : Nat) : Int) := by simp only [q0I]; omega
 refine gg rfl ?_
 rw [e]
 refine q01 rfl rfl (q6V n.natAbs (by omega)) ?_
 refine gg rfl (q01 rfl rfl (q5G false (q0d n.natAbs) (by decide)) ?_)
 refine gg rfl (q08 rfl rfl rfl trivial ?_)
 have : RI.v ⟨false, q0d n.natAbs⟩ = n := by rw [RI.v, if_neg (by simp), q0i]; omega
 rw [this]; rfl
theorem q3I (a : RI) {k : Nat} [h : Sz a.mag k] (hk : k ≤ 500000000) : PU q3g [a.enc] = some (encI a.v) := by
 refine q0h (fn := q8h) rfl (q0c ?_)
 exact gg rfl (q01 rfl rfl (q5G a.neg a.mag hk) (gg rfl (q08 rfl rfl rfl trivial rfl)))
theorem qiQ (a : RI) {k : Nat} [h : Sz a.mag k] (hk : k ≤ 500000000) : PU qdW [a.enc] = some (encI (-a.v)) := by
 refine q0h (fn := q9B) rfl (q0c ?_)
 refine gg rfl (q01 rfl rfl (q5G (!a.neg) a.mag hk) (gg rfl (q08 rfl rfl rfl trivial ?_)))
 have : RI.v ⟨!a.neg, a.mag⟩ = -a.v := by unfold RI.v; cases a.neg <;> simp
 rw [this]; rfl
theorem qiS (a b : RI) {j k : Nat} [ha : Sz a.mag j] [hb : Sz b.mag k] (hj : j ≤ 100000000) (hk : k ≤ 100000000) : PU qdV [a.enc, b.enc] = some (encI (a.v + b.v)) := by
 have la := ha.len
 have lb := hb.len
 have nba : NB (val a.mag) j := inferInstance
 have nbb : NB (val b.mag) k := inferInstance
 have sAdd : Sz (q0d (val a.mag + val b.mag)) (j + k + 1) := ⟨q0w _, q0l.2 (qcS nba.lt nbb.lt)⟩
 have sSub : Sz (q0d (val a.mag - val b.mag)) j := ⟨q0w _, q0l.2 (q6j (Nat.sub_le _ _) nba.lt)⟩
 have sSub' : Sz (q0d (val b.mag - val a.mag)) k := ⟨q0w _, q0l.2 (q6j (Nat.sub_le _ _) nbb.lt)⟩
 have s1 := qsT a.mag b.mag (by omega) (by omega)
 have s2 := qsT b.mag a.mag (by omega) (by omega)
 refine q0h (fn := q9A) rfl (q0c ?_)
 refine gg rfl (q02 rfl (fun g1 => ?_) (fun g1 => ?_))
 ·refine gg rfl (q01 rfl rfl (qlR a.mag b.mag (by omega) (by omega)) ?_)
  refine gg rfl (q01 rfl rfl (q5G a.neg _ (by omega)) ?_)
  refine gg rfl (q08 rfl rfl rfl trivial ?_)
  have g : a.neg = b.neg := by simpa using g1
  have : RI.v ⟨a.neg, q0d (val a.mag + val b.mag)⟩ = a.v + b.v := by
   unfold RI.v; simp only [q0i, ← g]; split <;> omega
  rw [this]; rfl
 have g : b.neg = !a.neg := by revert g1; cases a.neg <;> cases b.neg <;> simp
 refine gg rfl ?_
 by_cases hlt : val a.mag < val b.mag
 ·rw [if_pos hlt] at s1
  rw [if_neg (by omega)] at s2
  refine q01 rfl rfl s1 (gg rfl (q0m rfl (gg rfl (q01 rfl rfl s2 (gg rfl (q01 rfl rfl (q5G b.neg _ (by omega)) ?_))))))
  refine gg rfl (q08 rfl rfl rfl trivial ?_)
  have : RI.v ⟨b.neg, q0d (val b.mag - val a.mag)⟩ = a.v + b.v := by
   unfold RI.v; simp only [q0i, g]; cases a.neg <;> simp <;> omega
  rw [this]; rfl
 rw [if_neg hlt] at s1
 refine q01 rfl rfl s1 (gg rfl (q0g rfl (gg rfl (q01 rfl rfl (q5G a.neg _ (by omega)) ?_))))
 refine gg rfl (q08 rfl rfl rfl trivial ?_)
 have : RI.v ⟨a.neg, q0d (val a.mag - val b.mag)⟩ = a.v + b.v := by
  unfold RI.v; simp only [q0i, g]; cases a.neg <;> simp <;> omega
 rw [this]; rfl
instance szOf {z : Int} {k : Nat} [h : NB z.natAbs k] : Sz (RI.of z).mag k := ⟨q0w _, q0l.2 h.lt⟩
theorem q4d (a b : RI) {j k : Nat} [ha : Sz a.mag j] [hb : Sz b.mag k] (hj : j ≤ 100000000) (hk : k ≤ 100000000) : PU q3O [a.enc, b.enc] = some (encI (a.v * b.v)) := by
 have la := ha.len
 have lb := hb.len
 have nba : NB (val a.mag) j := inferInstance
 have nbb : NB (val b.mag) k := inferInstance
 have sM : Sz (q0d (val a.mag * val b.mag)) (j + k) := ⟨q0w _, q0l.2 (q1Z nba.lt nbb.lt)⟩
 refine q0h (fn := q9v) rfl (q0c ?_)
 refine gg rfl (q01 rfl rfl (qj4 a.mag b.mag (by omega) (by omega)) ?_)
 refine gg rfl (q01 rfl rfl (q5G _ _ (by omega)) ?_)
 refine gg rfl (q08 rfl rfl rfl trivial ?_)
 have : RI.v ⟨!(a.neg == b.neg), q0d (val a.mag * val b.mag)⟩ = a.v * b.v := by
  unfold RI.v; simp only [q0i]; cases a.neg <;> cases b.neg <;> simp [Int.mul_neg, Int.neg_mul]
 rw [this]; rfl
theorem orU64g {a b m : Nat} (hm : m ≤ 64) (ha : a < 2 ^ m) (hb : b * 2 ^ m < 18446744073709551616) : IntKind.u64.wrap ((BitVec.ofInt IntKind.u64.bits (a : Int) ||| BitVec.ofInt IntKind.u64.bits ((b * 2 ^ m : Nat) : Int)).toNat : Int) = ((a + b * 2 ^ m : Nat) : Int) := by
 have hp : 2 ^ m ≤ 18446744073709551616 := by simpa using Nat.pow_le_pow_right (n := 2) (by decide) hm
 rw [BitVec.or_comm, q7T, q7T, BitVec.toNat_or, BitVec.toNat_ofNat, BitVec.toNat_ofNat]
 have e : IntKind.u64.bits = 64 := rfl
 rw [e, Nat.mod_eq_of_lt (show b * 2 ^ m < 2 ^ 64 by omega), Nat.mod_eq_of_lt (show a < 2 ^ 64 by omega), Nat.mul_comm b, ← Nat.two_pow_add_eq_or_of_lt ha]
 have : 2 ^ m * b + a < 18446744073709551616 := by
  have h1 : 2 ^ m * b < 2 ^ m * 2 ^ (64 - m) := by rw [← Nat.pow_add, show m + (64 - m) = 64 by omega, Nat.mul_comm]; omega
  have h2 : b + 1 ≤ 2 ^ (64 - m) := Nat.lt_of_mul_lt_mul_left h1
  have h3 := Nat.mul_le_mul_left (2 ^ m) h2
  rw [← Nat.pow_add, show m + (64 - m) = 64 by omega, Nat.mul_add] at h3
  omega
 rw [q0y this, Nat.add_comm]
def q9H (z : Int) : D := if -9223372036854775808 ≤ z ∧ z ≤ 9223372036854775807 then .tup [.int .i64 z, .bool true] else .tup [.int .i64 0, .bool false]
set_option maxHeartbeats 1000000 in
theorem qsA (a : RI) {k : Nat} [ha : Sz a.mag k] (hk : k ≤ 500000000) : PU q7w [a.enc] = some (q9H a.v) := by
 refine q0h (fn := q7l) rfl (q0c ?_)
 refine gg rfl (q01 rfl rfl (q3I a hk) (gg rfl ?_))
 have hMo : LOk (q0d a.v.natAbs) := q0w _
 have hMv : val (q0d a.v.natAbs) = a.v.natAbs := q0i _
 have hlen : (q0d a.v.natAbs).length ≤ 2 ↔ a.v.natAbs < 18446744073709551616 := by rw [q0l]
 have hneg : (RI.of a.v).neg = decide (a.v < 0) := rfl
 have hmag : (RI.of a.v).mag = q0d a.v.natAbs := rfl
 rw [hmag] at *
 generalize q0d a.v.natAbs = M at *
 rw [List.length_map]
 refine q02 rfl (fun h1 => ?_) (fun h1 => ?_)
 ·rw [q06] at h1
  refine gg rfl (q08 rfl rfl rfl trivial ?_)
  rw [q9H, if_neg (by omega)]
 rw [q07] at h1
 have h2 := hlen.1 (by omega)
 refine gg rfl (q0q (S := fun x : Nat => ([.ptr 0 0 0, .int .u64 (val (M.take x)), nat M, q00 M.length, q00 x], [some (.row [.agg [.bool (decide (a.v < 0)), nat M]] 2), none, none, none, none], [0, 0, 0, 0, 0])) (C := fun x => x ≤ M.length) (m := fun x => M.length - x) 0 (Nat.zero_le _) (by omega) ?_ ?_)
 ·exact q03 rfl ⟨rfl, trivial⟩ (by simp [nat, q00, val, hneg])
 intro i hi N hN
 refine gg rfl (q02 rfl (fun g1 => ?_) (fun g1 => ?_))
 ·rw [q06] at g1
  have hlt : i < M.length := by omega
  have hx := q19 hMo i
  have wi := wS (n := i)
  have w3 : IntKind.i64.wrap (32 * (i : Int)) = ((32 * i : Nat) : Int) := by rw [wrap64 (by omega) (by omega)]; omega
  have wx : IntKind.u64.wrap (dg M i : Int) = (dg M i : Int) := q0y (by omega)
  have hb : dg M i * 2 ^ (32 * i) < 18446744073709551616 := by
   have : i = 0 ∨ i = 1 := by omega
   rcases this with rfl | rfl <;> simp <;> omega
  have hv := q1Q hMo i
  have ho := orU64g (a := val (M.take i)) (b := dg M i) (m := 32 * i) (by omega) (by rw [Nat.pow_mul]; exact hv) hb
  refine gg rfl (q0k i rfl rfl rfl (q2f hlt) rfl (gg rfl (q6N (dg M i) (32 * i) rfl rfl wx w3 (by show 32 * i ≤ 64; omega) (q0y hb) ?_)))
  refine gg rfl ?_
  rw [ho]
  refine q04 (hN (i + 1) hlt (by omega) (q03 rfl ⟨rfl, trivial⟩ ?_))
  have e : val (M.take (i + 1)) = val (M.take i) + dg M i * 2 ^ (32 * i) := by rw [q0H, Nat.pow_mul, Nat.mul_comm]
  simp [nat, q00, wi, e]
 rw [q07] at g1
 obtain rfl : i = M.length := by omega
 have e1 : IntKind.i64.wrap (IntKind.u64.wrap (0 - (a.v.natAbs : Int))) = -(a.v.natAbs : Int) ∨ 9223372036854775808 < a.v.natAbs := by
  by_cases h : a.v.natAbs ≤ 9223372036854775808
  ·left
   rw [q0I]
   simp [IntKind.wrap, IntKind.bits, IntKind.signed]
   omega
  right; omega
 have e2 : IntKind.i64.wrap (a.v.natAbs : Int) = (a.v.natAbs : Int) ∨ 9223372036854775808 ≤ a.v.natAbs := by
  by_cases h : a.v.natAbs < 9223372036854775808
  ·left; exact wrap64 (by omega) (by omega)
  right; omega
 rw [List.take_length, hMv] at *
 clear hN
 refine gg rfl (q04 ?_)
 repeat' (first
  | refine goP 800 rfl rfl ?_
  | refine q0e rfl ?_ | refine q0j rfl ?_ | refine q05 rfl (fun _ => ?_) (fun _ => ?_)
  | refine q0g rfl ?_ | refine q0m rfl ?_ | refine q02 rfl (fun _ => ?_) (fun _ => ?_)
  | refine q0G rfl (fun _ => ?_) (fun _ => ?_)
  | refine q08 rfl rfl rfl trivial ?_)
 all_goals simp only [q1H, q1I, decide_eq_true_eq, decide_eq_false_iff_not, Bool.not_eq_true', Bool.not_eq_false'] at *
 all_goals unfold q9H
 all_goals (rcases e1 with e1 | e1 <;> rcases e2 with e2 | e2 <;> (try rw [e1]) <;> (try rw [e2]) <;> split <;> first | (exfalso; omega) | rfl | (simp; omega) | trace_state)
end Go.F

namespace Go.F
structure RR where
 neg : Bool
 mag : List Nat
 den : List Nat
def RR.num (a : RR) : RI := ⟨a.neg, a.mag⟩
def RR.enc (a : RR) : D := .agg [.bool a.neg, nat a.mag, nat a.den]
def RR.v (a : RR) : Rat := mkRat a.num.v (val a.den)
def RR.of (q : Rat) : RR := ⟨decide (q.num < 0), q0d q.num.natAbs, q0d q.den⟩
def q7L (q : Rat) : D := (RR.of q).enc
theorem RR.of_v (q : Rat) : (RR.of q).v = q := by
 show mkRat (RI.of q.num).v (val (q0d q.den)) = q
 rw [RI.of_v, q0i, Rat.mkRat_self]
class SzR (a : RR) (k : outParam Nat) : Prop where
 mag : Sz a.mag k
 den : Sz a.den k
instance szRm {a : RR} {k : Nat} [h : SzR a k] : Sz a.mag k := h.mag
instance szRd {a : RR} {k : Nat} [h : SzR a k] : Sz a.den k := h.den
instance szRn {a : RR} {k : Nat} [h : SzR a k] : Sz a.num.mag k := h.mag
class QB (q : Rat) (k : outParam Nat) : Prop where
 num : q.num.natAbs < 4294967296 ^ k
 den : q.den < 4294967296 ^ k
instance qtj {q : Rat} {k : Nat} [h : QB q k] : SzR (RR.of q) k := ⟨⟨q0w _, q0l.2 h.num⟩, ⟨q0w _, q0l.2 h.den⟩⟩
theorem qht {n : Int} {g : Nat} (hg : g ∣ n.natAbs) : (n / (g : Int)).natAbs = n.natAbs / g := by
 have : (g : Int) ∣ n := Int.dvd_natAbs.1 (Int.natCast_dvd_natCast.2 hg)
 rw [Int.natAbs_ediv_of_dvd this]; simp
theorem qql {n : Int} {d : Nat} {j : Nat} (hn : n.natAbs < 4294967296 ^ j) (hd : d < 4294967296 ^ j) (hd0 : d ≠ 0) : QB (mkRat n d) j := by
 constructor
 ·rw [Rat.num_mkRat, if_neg hd0, qht (Nat.gcd_dvd_right _ _)]
  exact q6j (Nat.div_le_self _ _) hn
 rw [Rat.den_mkRat, if_neg hd0]
 exact q6j (Nat.div_le_self _ _) hd
instance qtk {a b : Rat} {j k : Nat} [ha : QB a j] [hb : QB b k] : QB (a + b) (j + k + 1) := by
 rw [Rat.add_def']
 refine qql ?_ ?_ (Nat.mul_ne_zero a.den_nz b.den_nz)
 ·have h1 := q1Z ha.num hb.den
  have h2 := q1Z hb.num ha.den
  rw [Nat.add_comm k j] at h2
  have : (a.num * b.den + b.num * a.den).natAbs ≤ a.num.natAbs * b.den + b.num.natAbs * a.den := by
   refine Nat.le_trans (Int.natAbs_add_le _ _) ?_
   rw [Int.natAbs_mul, Int.natAbs_mul]; simp
  rw [Nat.pow_succ]
  omega
 exact q6j (Nat.le_refl _) (Nat.lt_of_lt_of_le (q1Z ha.den hb.den) (qcR (by omega)))
instance qtl {a b : Rat} {j k : Nat} [ha : QB a j] [hb : QB b k] : QB (a * b) (j + k) := by
 rw [Rat.mul_def']
 refine qql ?_ (q1Z ha.den hb.den) (Nat.mul_ne_zero a.den_nz b.den_nz)
 rw [Int.natAbs_mul]; exact q1Z ha.num hb.num
instance qbNeg {a : Rat} {k : Nat} [h : QB a k] : QB (-a) k := ⟨by rw [Rat.neg_num, Int.natAbs_neg]; exact h.num, by rw [Rat.neg_den]; exact h.den⟩
instance qtm {a b : Rat} {j k : Nat} [ha : QB a j] [hb : QB b k] : QB (a - b) (j + k + 1) := by
 rw [Rat.sub_eq_add_neg]; exact qtk
theorem quu (n : Int) : n.sign.natAbs ≤ 1 := by
 rcases Int.lt_trichotomy n 0 with h | h | h
 ·rw [Int.sign_eq_neg_one_of_neg h]; decide
 ·subst h; decide
 rw [Int.sign_eq_one_of_pos h]; decide
instance qbInv {a : Rat} {k : Nat} [h : QB a k] : QB a⁻¹ k := by
 constructor
 ·rw [Rat.num_inv, Int.natAbs_mul]
  have h1 := quu a.num
  refine q6j ?_ h.den
  calc a.num.sign.natAbs * ((a.den : Int)).natAbs ≤ 1 * a.den := Nat.mul_le_mul h1 (by simp)
   _ = a.den := Nat.one_mul _
 rw [Rat.den_inv]
 split
 ·exact q6j a.den_pos h.den
 exact h.num
instance qbDiv {a b : Rat} {j k : Nat} [ha : QB a j] [hb : QB b k] : QB (a / b) (j + k) := by
 rw [Rat.div_def]; exact qtl
theorem qpb {z : Int} (h1 : -9223372036854775808 ≤ z) (h2 : z ≤ 9223372036854775807) : QB (z : Rat) 2 := by
 constructor
 ·rw [Rat.num_intCast]; show z.natAbs < 18446744073709551616; omega
 rw [Rat.den_intCast]; decide
def rnd (n : Int) (d : Nat) : Int := if n < 0 then -(((2 * n.natAbs + d) / (2 * d) : Nat) : Int) else ((2 * n.natAbs + d) / (2 * d) : Nat)
def q1f (q : Rat) : Int := rnd q.num q.den
theorem quv (n : Int) (d k : Nat) (hk : k ≠ 0) : rnd (n * k) (d * k) = rnd n d := by
 unfold rnd
 have e : (2 * (n * (k : Int)).natAbs + d * k) / (2 * (d * k)) = (2 * n.natAbs + d) / (2 * d) := by
  rw [Int.natAbs_mul]
  simp only [Int.natAbs_natCast]
  rw [← Nat.mul_assoc, ← Nat.add_mul, ← Nat.mul_assoc, Nat.mul_div_mul_right _ _ (Nat.pos_of_ne_zero hk)]
 have hs : n * (k : Int) < 0 ↔ n < 0 := by
  have hk' : (0 : Int) < k := by omega
  constructor
  ·intro h
   by_cases hn : n < 0
   ·exact hn
   have := Int.mul_nonneg (show 0 ≤ n by omega) (Int.le_of_lt hk'); omega
  intro h; exact Int.mul_neg_of_neg_of_pos h hk'
 rw [e]
 by_cases h : n < 0
 ·rw [if_pos h, if_pos (hs.2 h)]
 rw [if_neg h, if_neg (fun h' => h (hs.1 h'))]
theorem qrx (n : Int) {d : Nat} (hd : d ≠ 0) : q1f (mkRat n d) = rnd n d := by
 obtain ⟨k, hk, h1, h2⟩ := Rat.normalize_num_den' n d hd
 rw [Rat.normalize_eq_mkRat] at h1 h2
 show rnd (mkRat n d).num (mkRat n d).den = rnd n d
 rw [← quv _ _ k hk, ← h1, ← h2]
theorem qqm {n : Int} {d : Nat} (hd : d ≠ 0) : q7L (mkRat n d) = .agg [.bool (decide (n < 0)), nat (q0d (n.natAbs / Nat.gcd n.natAbs d)), nat (q0d (d / Nat.gcd n.natAbs d))] := by
 have e1 : (mkRat n d).num.natAbs = n.natAbs / Nat.gcd n.natAbs d := by
  rw [Rat.num_mkRat, if_neg hd, qht (Nat.gcd_dvd_right _ _), Nat.gcd_comm]
 have e2 : (mkRat n d).den = d / Nat.gcd n.natAbs d := by
  rw [Rat.den_mkRat, if_neg hd, Nat.gcd_comm]
 have e3 : (mkRat n d).num < 0 ↔ n < 0 := by
  have h1 : 0 ≤ (mkRat n d).num ↔ 0 ≤ n := by
   rw [Rat.num_nonneg, ← Rat.divInt_ofNat, Rat.divInt_nonneg_iff_of_pos_right (by omega)]
  omega
 unfold q7L RR.of RR.enc
 simp only [e1, e2]
 rw [show decide ((mkRat n d).num < 0) = decide (n < 0) from by simp only [e3]]
def RR.fix (a : RR) : RR := if val a.den = 0 then ⟨false, [], [1]⟩ else a
theorem RR.fix_v (a : RR) : a.fix.v = a.v := by
 unfold RR.fix
 split
 ·rename_i h
  simp only [RR.v, h, Rat.mkRat_zero]
  rfl
 rfl
theorem RR.fix_den (a : RR) : val a.fix.den ≠ 0 := by
 unfold RR.fix
 split
 ·simp [val]
 assumption
instance q9d {a : RR} {k : Nat} [h : SzR a k] : SzR a.fix (k + 1) := by
 have h1 := h.mag.len
 have h2 := h.den.len
 unfold RR.fix
 split
 ·exact ⟨⟨⟨by simp⟩, by simp⟩, ⟨⟨by simp⟩, by simp⟩⟩
 exact ⟨⟨h.mag.ok, by omega⟩, ⟨h.den.ok, by omega⟩⟩
end Go.F

namespace Go.F
attribute [local irreducible] IntKind.wrap wpM
theorem qqn (l : List Nat) {k : Nat} [h : Sz l k] (hk : k ≤ 100000000) : PU qaQ [nat l] = some (.bool (decide (val l = 0))) := by
 have hl := h.len
 refine q0h (fn := qay) rfl (q0c ?_)
 refine gg rfl (q01 rfl rfl (qj3 l [] (by omega) (by simp)) ?_)
 refine gg rfl (q08 rfl rfl rfl trivial ?_)
 congr 1
 rw [q2i, decide_eq_decide]
 have e : q3q (val l : Int) (val ([] : List Nat) : Int) = if val l = 0 then 0 else 1 := by
  show q3q (val l : Int) 0 = _
  unfold q3q
  by_cases h0 : val l = 0
  ·simp [h0]
  rw [if_neg (by omega), if_pos (by omega), if_neg h0]
 rw [e]
 by_cases h0 : val l = 0 <;> simp [h0]
theorem q9e (l : List Nat) : PU q3e [nat l] = some (RI.enc ⟨false, l⟩) := by
 refine q0h (fn := q6q) rfl (q0c ?_)
 exact gg rfl (q08 rfl rfl rfl trivial rfl)
theorem q4O (a : RR) {k : Nat} [h : SzR a k] (hk : k ≤ 100000000) : PU q1x [a.enc] = some a.fix.enc := by
 refine q0h (fn := q9q) rfl (q0c ?_)
 refine gg rfl (q01 rfl rfl (qqn a.den hk) (gg rfl (q02 rfl (fun g => ?_) (fun g => ?_))))
 ·refine gg rfl (q01 rfl rfl (q6V 1 (by decide)) ?_)
  refine gg rfl (q08 rfl rfl rfl trivial ?_)
  rw [RR.fix, if_pos (by simpa using g)]; rfl
 refine gg rfl (q08 rfl rfl rfl trivial ?_)
 rw [RR.fix, if_neg (by simpa using g)]; rfl
theorem qah (n : RI) (d : List Nat) {j k : Nat} [hn : Sz n.mag j] [hd : Sz d k] (hj : j ≤ 100000000) (hk : k ≤ 100000000) (hd0 : val d ≠ 0) : PU q3d [n.enc, nat d] = some (q7L (mkRat n.v (val d))) := by
 have ln := hn.len
 have ld := hd.len
 have nbn : NB (val n.mag) j := inferInstance
 have nbd : NB (val d) k := inferInstance
 have hg0 : Nat.gcd (val n.mag) (val d) ≠ 0 := by
  have := Nat.gcd_pos_of_pos_right (val n.mag) (show 0 < val d by omega); omega
 have lg : (q0d (Nat.gcd (val n.mag) (val d))).length ≤ k := q0l.2 (q6j (Nat.gcd_le_right _ (by omega)) nbd.lt)
 have d1 := qdw n.mag (q0d (Nat.gcd (val n.mag) (val d))) (by omega) (by omega)
 have d2 := qdw d (q0d (Nat.gcd (val n.mag) (val d))) (by omega) (by omega)
 rw [q0i, if_neg hg0] at d1 d2
 have s1 : Sz (q0d (val n.mag / Nat.gcd (val n.mag) (val d))) j := ⟨q0w _, q0l.2 (q6j (Nat.div_le_self _ _) nbn.lt)⟩
 refine q0h (fn := q8f) rfl (q0c ?_)
 refine gg rfl (q01 rfl rfl (Gcd_PU n.mag d (by omega) (by omega)) ?_)
 refine gg rfl (q01 rfl rfl d1 (gg rfl (q01 rfl rfl d2 (gg rfl (q01 rfl rfl (q3I ⟨n.neg, q0d (val n.mag / Nat.gcd (val n.mag) (val d))⟩ (by omega)) ?_)))))
 refine gg rfl (q08 rfl rfl rfl trivial ?_)
 rw [qqm hd0, RI.v_abs]
 have e1 : RI.v ⟨n.neg, q0d (val n.mag / Nat.gcd (val n.mag) (val d))⟩ = if n.neg then -((val n.mag / Nat.gcd (val n.mag) (val d) : Nat) : Int) else (val n.mag / Nat.gcd (val n.mag) (val d) : Nat) := by
  rw [RI.v, q0i]
 have hdv := Nat.div_mul_cancel (Nat.gcd_dvd_left (val n.mag) (val d))
 have e2 : decide (RI.v ⟨n.neg, q0d (val n.mag / Nat.gcd (val n.mag) (val d))⟩ < 0) = decide (n.v < 0) := by
  rw [e1, decide_eq_decide, RI.v]
  have hz : val n.mag / Nat.gcd (val n.mag) (val d) = 0 ↔ val n.mag = 0 := by
   constructor
   ·intro h; rw [h] at hdv; omega
   intro h; rw [h]; simp
  generalize val n.mag / Nat.gcd (val n.mag) (val d) = x at *
  split <;> omega
 have e3 : (RI.v ⟨n.neg, q0d (val n.mag / Nat.gcd (val n.mag) (val d))⟩).natAbs = val n.mag / Nat.gcd (val n.mag) (val d) := by
  rw [RI.v_abs, q0i]
 show D.agg [.bool (decide (RI.v ⟨n.neg, q0d (val n.mag / Nat.gcd (val n.mag) (val d))⟩ < 0)), nat (q0d (RI.v ⟨n.neg, q0d (val n.mag / Nat.gcd (val n.mag) (val d))⟩).natAbs), nat (q0d (val d / Nat.gcd (val n.mag) (val d)))] = _
 rw [e2, e3]
theorem qhu (n d : Int) (h1 : -9223372036854775808 ≤ n) (h2 : n ≤ 9223372036854775807) (h3 : 0 < d) (h4 : d ≤ 9223372036854775807) : PU qaR [.int .i64 n, .int .i64 d] = some (.tup [q7L (mkRat n d.toNat), .bool true]) := by
 have nb : NB n.natAbs 2 := ⟨by show n.natAbs < 18446744073709551616; omega⟩
 have nb2 : NB d.natAbs 2 := ⟨by show d.natAbs < 18446744073709551616; omega⟩
 have hneg : (RI.of d).neg = false := by show decide (d < 0) = false; simp; omega
 have hr := qah (RI.of n) (q0d d.natAbs) (by decide) (by decide) (by rw [q0i]; omega)
 rw [RI.of_v, q0i] at hr
 have hdn : d.natAbs = d.toNat := by omega
 rw [← hdn]
 refine q0h (fn := qef) rfl (q0c ?_)
 refine gg rfl (q02 rfl (fun g => ?_) (fun g => ?_))
 ·rw [q12] at g; omega
 refine gg rfl (q01 rfl rfl (qdX n (by omega) (by omega)) ?_)
 refine gg rfl (q01 rfl rfl (qdX d (by omega) (by omega)) ?_)
 refine gg rfl ?_
 have e : (!((RI.of n).neg == (RI.of d).neg)) = (RI.of n).neg := by rw [hneg]; cases (RI.of n).neg <;> rfl
 rw [e]
 exact q01 rfl rfl hr (gg rfl (q08 rfl rfl rfl trivial rfl))
theorem qmg (a : RR) {k : Nat} [h : SzR a k] (hk : k ≤ 10000000) : PU qhf [a.enc] = some (q7L (-a.v)) := by
 have h0 := a.fix_den
 have hv := a.fix_v
 have sn : Sz (RI.of (-a.fix.num.v)).mag (k + 1) := ⟨q0w _, q0l.2 (by rw [Int.natAbs_neg, RI.v_abs]; exact (q4K (l := a.fix.num.mag)).lt)⟩
 have hr := qah (RI.of (-a.fix.num.v)) a.fix.den (by omega) (by omega) h0
 rw [RI.of_v, ← Rat.neg_mkRat] at hr
 refine q0h (fn := qcj) rfl (q0c ?_)
 refine gg rfl (q01 rfl rfl (q4O a (by omega)) ?_)
 refine gg rfl (q01 rfl rfl (qiQ a.fix.num (by omega)) ?_)
 refine gg rfl (q01 rfl rfl hr (gg rfl (q08 rfl rfl rfl trivial ?_)))
 rw [← hv]; rfl
theorem qto (l : List Nat) : RI.v ⟨false, l⟩ = val l := by simp [RI.v]
theorem qb9 (a b : RR) {j k : Nat} [ha : SzR a j] [hb : SzR b k] (hj : j ≤ 10000000) (hk : k ≤ 10000000) : PU q98 [a.enc, b.enc] = some (q7L (a.v + b.v)) := by
 have ha0 := a.fix_den
 have hb0 := b.fix_den
 have hva := a.fix_v
 have hvb := b.fix_v
 have na := (q4K (l := a.fix.num.mag)).lt
 have nad := (q4K (l := a.fix.den)).lt
 have nb := (q4K (l := b.fix.num.mag)).lt
 have nbd := (q4K (l := b.fix.den)).lt
 have s1 : Sz (RI.of (a.fix.num.v * val b.fix.den)).mag ((j + 1) + (k + 1)) := ⟨q0w _, q0l.2 (by rw [Int.natAbs_mul, RI.v_abs]; exact q1Z na nbd)⟩
 have s2 : Sz (RI.of (b.fix.num.v * val a.fix.den)).mag ((k + 1) + (j + 1)) := ⟨q0w _, q0l.2 (by rw [Int.natAbs_mul, RI.v_abs]; exact q1Z nb nad)⟩
 have s3 : Sz (RI.of (a.fix.num.v * val b.fix.den + b.fix.num.v * val a.fix.den)).mag (((j + 1) + (k + 1)) + ((k + 1) + (j + 1)) + 1) :=
  ⟨q0w _, q0l.2 (q6j (Int.natAbs_add_le _ _) (qcS (by rw [Int.natAbs_mul, RI.v_abs]; exact q1Z na nbd) (by rw [Int.natAbs_mul, RI.v_abs]; exact q1Z nb nad)))⟩
 have s4 : Sz (q0d (val a.fix.den * val b.fix.den)) ((j + 1) + (k + 1)) := ⟨q0w _, q0l.2 (q1Z nad nbd)⟩
 have sp1 : Sz (RI.mag ⟨false, b.fix.den⟩) (k + 1) := (q9d (a := b)).den
 have sp2 : Sz (RI.mag ⟨false, a.fix.den⟩) (j + 1) := (q9d (a := a)).den
 have lad := (q9d (a := a)).den.len
 have lbd := (q9d (a := b)).den.len
 have m1 := q4d a.fix.num ⟨false, b.fix.den⟩ (by omega) (by omega)
 have m2 := q4d b.fix.num ⟨false, a.fix.den⟩ (by omega) (by omega)
 rw [qto] at m1 m2
 have a1 := qiS (RI.of (a.fix.num.v * val b.fix.den)) (RI.of (b.fix.num.v * val a.fix.den)) (by omega) (by omega)
 rw [RI.of_v, RI.of_v] at a1
 have r1 := qah (RI.of (a.fix.num.v * val b.fix.den + b.fix.num.v * val a.fix.den)) (q0d (val a.fix.den * val b.fix.den)) (by omega) (by omega) (by rw [q0i]; exact Nat.mul_ne_zero ha0 hb0)
 rw [RI.of_v, q0i, ← Rat.mkRat_add_mkRat _ _ ha0 hb0] at r1
 refine q0h (fn := qci) rfl (q0c ?_)
 refine gg rfl (q01 rfl rfl (q4O a (by omega)) ?_)
 refine gg rfl (q01 rfl rfl (q4O b (by omega)) ?_)
 refine gg rfl (q01 rfl rfl (q9e b.fix.den) (gg rfl (q01 rfl rfl m1 (gg rfl (q01 rfl rfl (q9e a.fix.den) (gg rfl (q01 rfl rfl m2 (gg rfl (q01 rfl rfl a1 (gg rfl (q01 rfl rfl (qj4 a.fix.den b.fix.den (by omega) (by omega)) ?_)))))))))))
 refine gg rfl (q01 rfl rfl r1 (gg rfl (q08 rfl rfl rfl trivial ?_)))
 rw [← hva, ← hvb]; rfl
end Go.F

namespace Go.F
attribute [local irreducible] IntKind.wrap wpM
instance qbV {a : RR} {k : Nat} [h : SzR a k] : QB a.v (k + 1) := by
 by_cases h0 : val a.den = 0
 ·have e : a.v = 0 := by rw [RR.v, h0, Rat.mkRat_zero]
  rw [e]
  refine ⟨?_, ?_⟩
  ·show 0 < _; exact qsz _
  show 1 < _
  have := qcR (show 1 ≤ k + 1 by omega)
  omega
 have h1 := (q4K (l := a.num.mag)).lt
 have h2 := (q4K (l := a.den)).lt
 have := qcR (show k ≤ k + 1 by omega)
 exact qql (by rw [RI.v_abs]; omega) (by omega) h0
theorem qba (a b : RR) {j k : Nat} [ha : SzR a j] [hb : SzR b k] (hj : j ≤ 1000000) (hk : k ≤ 1000000) : PU q96 [a.enc, b.enc] = some (q7L (a.v - b.v)) := by
 have h1 := qb9 a (RR.of (-b.v)) (by omega) (by omega)
 rw [RR.of_v, ← Rat.sub_eq_add_neg] at h1
 refine q0h (fn := qc3) rfl (q0c ?_)
 refine gg rfl (q01 rfl rfl (qmg b (by omega)) ?_)
 exact gg rfl (q01 rfl rfl h1 (gg rfl (q08 rfl rfl rfl trivial rfl)))
theorem q7M (a b : RR) {j k : Nat} [ha : SzR a j] [hb : SzR b k] (hj : j ≤ 10000000) (hk : k ≤ 10000000) : PU q5F [a.enc, b.enc] = some (q7L (a.v * b.v)) := by
 have ha0 := a.fix_den
 have hb0 := b.fix_den
 have hva := a.fix_v
 have hvb := b.fix_v
 have na := (q4K (l := a.fix.num.mag)).lt
 have nad := (q4K (l := a.fix.den)).lt
 have nb := (q4K (l := b.fix.num.mag)).lt
 have nbd := (q4K (l := b.fix.den)).lt
 have lad := (q9d (a := a)).den.len
 have lbd := (q9d (a := b)).den.len
 have s1 : Sz (RI.of (a.fix.num.v * b.fix.num.v)).mag ((j + 1) + (k + 1)) := ⟨q0w _, q0l.2 (by rw [Int.natAbs_mul, RI.v_abs, RI.v_abs]; exact q1Z na nb)⟩
 have s4 : Sz (q0d (val a.fix.den * val b.fix.den)) ((j + 1) + (k + 1)) := ⟨q0w _, q0l.2 (q1Z nad nbd)⟩
 have r1 := qah (RI.of (a.fix.num.v * b.fix.num.v)) (q0d (val a.fix.den * val b.fix.den)) (by omega) (by omega) (by rw [q0i]; exact Nat.mul_ne_zero ha0 hb0)
 rw [RI.of_v, q0i, ← Rat.mkRat_mul_mkRat] at r1
 refine q0h (fn := qcg) rfl (q0c ?_)
 refine gg rfl (q01 rfl rfl (q4O a (by omega)) ?_)
 refine gg rfl (q01 rfl rfl (q4O b (by omega)) ?_)
 refine gg rfl (q01 rfl rfl (q4d a.fix.num b.fix.num (by omega) (by omega)) ?_)
 refine gg rfl (q01 rfl rfl (qj4 a.fix.den b.fix.den (by omega) (by omega)) ?_)
 refine gg rfl (q01 rfl rfl r1 (gg rfl (q08 rfl rfl rfl trivial ?_)))
 rw [← hva, ← hvb]; rfl
theorem qtp (a b : RR) (ha : val a.den ≠ 0) (hb : val b.den ≠ 0) (hbm : val b.mag ≠ 0) : mkRat (RI.v ⟨!(a.neg == b.neg), q0d (val a.mag * val b.den)⟩) (val a.den * val b.mag) = a.v / b.v := by
 have hbv : b.v ≠ 0 := by
  rw [RR.v, Rat.mkRat_ne_zero hb]
  intro h
  have := RI.v_abs b.num
  rw [h] at this
  exact hbm (by simpa [RR.num] using this.symm)
 have e : mkRat (RI.v ⟨!(a.neg == b.neg), q0d (val a.mag * val b.den)⟩) (val a.den * val b.mag) * b.v = a.v := by
  rw [RR.v, RR.v, Rat.mkRat_mul_mkRat, Rat.mkRat_eq_iff (Nat.mul_ne_zero (Nat.mul_ne_zero ha hbm) hb) ha]
  unfold RI.v RR.num
  simp only [q0i]
  cases a.neg <;> cases b.neg <;> simp <;> grind
 rw [← e, Rat.mul_div_cancel hbv]
theorem qmh (a b : RR) {j k : Nat} [ha : SzR a j] [hb : SzR b k] (hj : j ≤ 10000000) (hk : k ≤ 10000000) : PU qh8 [a.enc, b.enc] = some (if b.v = 0 then .tup [RR.enc ⟨false, [], []⟩, .bool false] else .tup [q7L (a.v / b.v), .bool true]) := by
 have ha0 := a.fix_den
 have hb0 := b.fix_den
 have hva := a.fix_v
 have hvb := b.fix_v
 have na := (q4K (l := a.fix.mag)).lt
 have nad := (q4K (l := a.fix.den)).lt
 have nb := (q4K (l := b.fix.mag)).lt
 have nbd := (q4K (l := b.fix.den)).lt
 have lad := (q9d (a := a)).den.len
 have lbd := (q9d (a := b)).den.len
 have lam := (q9d (a := a)).mag.len
 have lbm := (q9d (a := b)).mag.len
 have hz : b.v = 0 ↔ val b.fix.mag = 0 := by
  rw [← hvb, RR.v, Rat.mkRat_eq_zero hb0]
  have := RI.v_abs b.fix.num
  constructor
  ·intro h; rw [h] at this; exact this.symm
  intro h; have h2 : b.fix.num.v.natAbs = 0 := by rw [this]; exact h
  exact Int.natAbs_eq_zero.1 h2
 have s1 : Sz (q0d (val a.fix.mag * val b.fix.den)) ((j + 1) + (k + 1)) := ⟨q0w _, q0l.2 (q1Z na nbd)⟩
 have s1' : Sz (RI.mag ⟨!(a.fix.neg == b.fix.neg), q0d (val a.fix.mag * val b.fix.den)⟩) ((j + 1) + (k + 1)) := s1
 have s4 : Sz (q0d (val a.fix.den * val b.fix.mag)) ((j + 1) + (k + 1)) := ⟨q0w _, q0l.2 (q1Z nad nb)⟩
 refine q0h (fn := qc2) rfl (q0c ?_)
 refine gg rfl (q01 rfl rfl (q4O a (by omega)) ?_)
 refine gg rfl (q01 rfl rfl (q4O b (by omega)) ?_)
 refine gg rfl (q01 rfl rfl (qqn b.fix.mag (by omega)) ?_)
 refine gg rfl (q02 rfl (fun g => ?_) (fun g => ?_))
 ·have g : val b.fix.mag = 0 := by simpa using g
  refine gg rfl (q08 rfl rfl rfl trivial ?_)
  rw [if_pos (hz.2 g)]; rfl
 have g : val b.fix.mag ≠ 0 := by simpa using g
 have r1 := qah ⟨!(a.fix.neg == b.fix.neg), q0d (val a.fix.mag * val b.fix.den)⟩ (q0d (val a.fix.den * val b.fix.mag)) (by omega) (by omega) (by rw [q0i]; exact Nat.mul_ne_zero ha0 g)
 rw [q0i, qtp a.fix b.fix ha0 hb0 g, hva, hvb] at r1
 refine gg rfl (q01 rfl rfl (qj4 a.fix.mag b.fix.den (by omega) (by omega)) ?_)
 refine gg rfl (q01 rfl rfl (qj4 a.fix.den b.fix.mag (by omega) (by omega)) ?_)
 refine gg rfl (q01 rfl rfl r1 (gg rfl (q08 rfl rfl rfl trivial ?_)))
 rw [if_neg (fun h => g (hz.1 h))]; rfl
theorem qnN (a : RR) (ha : val a.den ≠ 0) : RI.v ⟨a.neg, q0d ((val a.mag + val a.mag + val a.den) / (val a.den + val a.den))⟩ = q1f a.v := by
 rw [RR.v, qrx _ ha]
 unfold rnd
 rw [RI.v_abs]
 simp only [RR.num, q0i, RI.v]
 rw [← Nat.two_mul, ← Nat.two_mul]
 by_cases h0 : val a.mag = 0
 ·have : (2 * val a.mag + val a.den) / (2 * val a.den) = 0 := by rw [h0]; exact Nat.div_eq_of_lt (by omega)
  rw [this]; simp [h0]
 by_cases hn : a.neg = true
 ·simp only [hn, if_true]; rw [if_pos (by omega)]
 simp only [hn, if_false]; rw [if_neg (by simp), if_neg (by rw [if_neg (by simp)]; omega)]
theorem qrz (q : Rat) : (q1f q).natAbs ≤ 2 * q.num.natAbs + q.den := by
 unfold q1f rnd
 have := Nat.div_le_self (2 * q.num.natAbs + q.den) (2 * q.den)
 generalize (2 * q.num.natAbs + q.den) / (2 * q.den) = x at *
 split <;> omega
instance nbRound {q : Rat} {k : Nat} [h : QB q k] : NB (q1f q).natAbs (k + 1) := by
 refine ⟨q6j (qrz q) ?_⟩
 have h1 := h.num
 have h2 := h.den
 rw [Nat.pow_succ]
 omega
theorem qjy (a : RR) {k : Nat} [h : SzR a k] (hk : k ≤ 1000000) : PU qdR [a.enc] = some (encI (q1f a.v)) := by
 have ha0 := a.fix_den
 have hva := a.fix_v
 have na := (q4K (l := a.fix.mag)).lt
 have nad := (q4K (l := a.fix.den)).lt
 have lad := (q9d (a := a)).den.len
 have lam := (q9d (a := a)).mag.len
 have n2 := qcS na na
 have n3 := qcS n2 nad
 have n4 := qcS nad nad
 have l2 := q0l.2 n2
 have l3 := q0l.2 n3
 have l4 := q0l.2 n4
 have a2 := qlR (q0d (val a.fix.mag + val a.fix.mag)) a.fix.den (by omega) (by omega)
 rw [q0i] at a2
 have d1 := qdw (q0d (val a.fix.mag + val a.fix.mag + val a.fix.den)) (q0d (val a.fix.den + val a.fix.den)) (by omega) (by omega)
 rw [q0i, q0i, if_neg (by omega)] at d1
 have s5 : Sz (RI.mag ⟨a.fix.neg, q0d ((val a.fix.mag + val a.fix.mag + val a.fix.den) / (val a.fix.den + val a.fix.den))⟩) _ := ⟨q0w _, q0l.2 (q6j (Nat.div_le_self _ _) n3)⟩
 have nrm := q3I ⟨a.fix.neg, q0d ((val a.fix.mag + val a.fix.mag + val a.fix.den) / (val a.fix.den + val a.fix.den))⟩ (by omega)
 rw [qnN a.fix ha0, hva] at nrm
 refine q0h (fn := q9t) rfl (q0c ?_)
 refine gg rfl (q01 rfl rfl (q4O a (by omega)) ?_)
 refine gg rfl (q01 rfl rfl (qlR a.fix.mag a.fix.mag (by omega) (by omega)) ?_)
 refine gg rfl (q01 rfl rfl a2 (gg rfl (q01 rfl rfl (qlR a.fix.den a.fix.den (by omega) (by omega)) ?_)))
 exact gg rfl (q01 rfl rfl d1 (gg rfl (q01 rfl rfl nrm (gg rfl (q08 rfl rfl rfl trivial rfl)))))
end Go.F

namespace Go.F
attribute [local irreducible] IntKind.wrap wpM
structure RP where
 x : RR
 y : RR
structure QP where
 x : Rat
 y : Rat
 deriving DecidableEq
def RP.enc (p : RP) : D := .agg [.bool p.x.neg, nat p.x.mag, nat p.x.den, .bool p.y.neg, nat p.y.mag, nat p.y.den]
def RP.v (p : RP) : QP := ⟨p.x.v, p.y.v⟩
def RP.of (q : QP) : RP := ⟨RR.of q.x, RR.of q.y⟩
def qgC (q : QP) : D := (RP.of q).enc
theorem RP.of_v (q : QP) : (RP.of q).v = q := by
 unfold RP.of RP.v; simp only [RR.of_v]
class SzP (p : RP) (k : outParam Nat) : Prop where
 x : SzR p.x k
 y : SzR p.y k
instance szPx {p : RP} {k : Nat} [h : SzP p k] : SzR p.x k := h.x
instance szPy {p : RP} {k : Nat} [h : SzP p k] : SzR p.y k := h.y
class QPB (q : QP) (k : outParam Nat) : Prop where
 x : QB q.x k
 y : QB q.y k
instance qpX {q : QP} {k : Nat} [h : QPB q k] : QB q.x k := h.x
instance qpY {q : QP} {k : Nat} [h : QPB q k] : QB q.y k := h.y
instance szPOf {q : QP} {k : Nat} [h : QPB q k] : SzP (RP.of q) k := ⟨qtj (h := h.x), qtj (h := h.y)⟩
instance qpV {p : RP} {k : Nat} [h : SzP p k] : QPB p.v (k + 1) := ⟨qbV (h := h.x), qbV (h := h.y)⟩
def qeG (a b : QP) : QP := ⟨a.x + b.x, a.y + b.y⟩
def q1d (a b : QP) : QP := ⟨a.x - b.x, a.y - b.y⟩
def q4j (a : QP) (r : Rat) : QP := ⟨a.x * r, a.y * r⟩
def q3V (a b : QP) : Rat := a.x * b.y - a.y * b.x
def onP (a b : QP) (t : Rat) : QP := qeG a (q4j (q1d b a) t)
instance qpAdd {a b : QP} {j k : Nat} [QPB a j] [QPB b k] : QPB (qeG a b) (j + k + 1) := ⟨qtk, qtk⟩
instance qpSub {a b : QP} {j k : Nat} [QPB a j] [QPB b k] : QPB (q1d a b) (j + k + 1) := ⟨qtm, qtm⟩
instance qpScale {a : QP} {r : Rat} {j k : Nat} [QPB a j] [QB r k] : QPB (q4j a r) (j + k) := ⟨qtl, qtl⟩
instance qbCross {a b : QP} {j k : Nat} [QPB a j] [QPB b k] : QB (q3V a b) ((j + k) + (j + k) + 1) := qtm
instance qpOn {a b : QP} {t : Rat} {i j k : Nat} [QPB a i] [QPB b j] [QB t k] : QPB (onP a b t) (i + ((j + i + 1) + k) + 1) := qpAdd
theorem qfF (n : Int) : mkRat n (1 : Int).toNat = (n : Rat) := Rat.mkRat_one n
theorem qnD (x y : Int) (hx1 : -9223372036854775808 ≤ x) (hx2 : x ≤ 9223372036854775807) (hy1 : -9223372036854775808 ≤ y) (hy2 : y ≤ 9223372036854775807) : PU qiI [.int .i64 x, .int .i64 y] = some (qgC ⟨x, y⟩) := by
 have r1 := qhu x 1 hx1 hx2 (by decide) (by decide)
 have r2 := qhu y 1 hy1 hy2 (by decide) (by decide)
 rw [qfF] at r1 r2
 refine q0h (fn := qec) rfl (q0c ?_)
 exact gg rfl (q01 rfl rfl r1 (gg rfl (q01 rfl rfl r2 (gg rfl (q08 rfl rfl rfl trivial rfl)))))
theorem qm6 (a b : RP) {j k : Nat} [ha : SzP a j] [hb : SzP b k] (hj : j ≤ 1000000) (hk : k ≤ 1000000) : PU qhe [a.enc, b.enc] = some (qgC (qeG a.v b.v)) := by
 refine q0h (fn := qch) rfl (q0c ?_)
 refine gg rfl (q01 rfl rfl (qb9 a.x b.x (by omega) (by omega)) ?_)
 refine gg rfl (q01 rfl rfl (qb9 a.y b.y (by omega) (by omega)) ?_)
 exact gg rfl (q08 rfl rfl rfl trivial rfl)
theorem q6b (a b : RP) {j k : Nat} [ha : SzP a j] [hb : SzP b k] (hj : j ≤ 1000000) (hk : k ≤ 1000000) : PU q5E [a.enc, b.enc] = some (qgC (q1d a.v b.v)) := by
 refine q0h (fn := qbW) rfl (q0c ?_)
 refine gg rfl (q01 rfl rfl (qba a.x b.x (by omega) (by omega)) ?_)
 refine gg rfl (q01 rfl rfl (qba a.y b.y (by omega) (by omega)) ?_)
 exact gg rfl (q08 rfl rfl rfl trivial rfl)
theorem qjt (a : RP) (r : RR) {j k : Nat} [ha : SzP a j] [hb : SzR r k] (hj : j ≤ 1000000) (hk : k ≤ 1000000) : PU qdQ [a.enc, r.enc] = some (qgC (q4j a.v r.v)) := by
 refine q0h (fn := q9s) rfl (q0c ?_)
 refine gg rfl (q01 rfl rfl (q7M a.x r (by omega) (by omega)) ?_)
 refine gg rfl (q01 rfl rfl (q7M a.y r (by omega) (by omega)) ?_)
 exact gg rfl (q08 rfl rfl rfl trivial rfl)
theorem qd6 (a b : RP) {j k : Nat} [ha : SzP a j] [hb : SzP b k] (hj : j ≤ 100000) (hk : k ≤ 100000) : PU q9F [a.enc, b.enc] = some (q7L (q3V a.v b.v)) := by
 have s := qba (RR.of (a.x.v * b.y.v)) (RR.of (a.y.v * b.x.v)) (by omega) (by omega)
 rw [RR.of_v, RR.of_v] at s
 refine q0h (fn := q9o) rfl (q0c ?_)
 refine gg rfl (q01 rfl rfl (q7M a.x b.y (by omega) (by omega)) ?_)
 refine gg rfl (q01 rfl rfl (q7M a.y b.x (by omega) (by omega)) ?_)
 exact gg rfl (q01 rfl rfl s (gg rfl (q08 rfl rfl rfl trivial rfl)))
theorem qnE (a b : RP) (t : RR) {i j k : Nat} [ha : SzP a i] [hb : SzP b j] [ht : SzR t k] (hi : i ≤ 10000) (hj : j ≤ 10000) (hk : k ≤ 10000) : PU qiH [a.enc, b.enc, t.enc] = some (qgC (onP a.v b.v t.v)) := by
 have s := qjt (RP.of (q1d b.v a.v)) t (by omega) (by omega)
 rw [RP.of_v] at s
 have d := qm6 a (RP.of (q4j (q1d b.v a.v) t.v)) (by omega) (by omega)
 rw [RP.of_v] at d
 refine q0h (fn := qeb) rfl (q0c ?_)
 refine gg rfl (q01 rfl rfl (q6b b a (by omega) (by omega)) ?_)
 exact gg rfl (q01 rfl rfl s (gg rfl (q01 rfl rfl d (gg rfl (q08 rfl rfl rfl trivial rfl)))))
def q8L (a b c d : QP) : Option QP :=
 if q3V (q1d b a) (q1d d c) = 0 then none else some (onP a b (q3V (q1d c a) (q1d d c) / q3V (q1d b a) (q1d d c)))
def qqj : Option QP → D
 | none => .tup [RP.enc ⟨⟨false, [], []⟩, ⟨false, [], []⟩⟩, .int .i64 10]
 | some p => .tup [qgC p, .int .i64 0]
theorem qka (a b c d : RP) {k : Nat} [ha : SzP a k] [hb : SzP b k] [hc : SzP c k] [hd : SzP d k] (hk : k ≤ 100) : PU qfl [a.enc, b.enc, c.enc, d.enc] = some (qqj (q8L a.v b.v c.v d.v)) := by
 have c1 := qd6 (RP.of (q1d c.v a.v)) (RP.of (q1d d.v c.v)) (by omega) (by omega)
 have c2 := qd6 (RP.of (q1d b.v a.v)) (RP.of (q1d d.v c.v)) (by omega) (by omega)
 rw [RP.of_v, RP.of_v] at c1 c2
 have dv := qmh (RR.of (q3V (q1d c.v a.v) (q1d d.v c.v))) (RR.of (q3V (q1d b.v a.v) (q1d d.v c.v))) (by omega) (by omega)
 rw [RR.of_v, RR.of_v] at dv
 refine q0h (fn := qat) rfl (q0c ?_)
 refine gg rfl (q01 rfl rfl (q6b d c (by omega) (by omega)) ?_)
 refine gg rfl (q01 rfl rfl (q6b c a (by omega) (by omega)) ?_)
 refine gg rfl (q01 rfl rfl c1 (gg rfl (q01 rfl rfl (q6b b a (by omega) (by omega)) ?_)))
 refine gg rfl (q01 rfl rfl c2 (gg rfl ?_))
 by_cases h0 : q3V (q1d b.v a.v) (q1d d.v c.v) = 0
 ·rw [if_pos h0] at dv
  refine q01 rfl rfl dv (gg rfl (q0g rfl (gg rfl (q08 rfl rfl rfl trivial ?_))))
  rw [q8L, if_pos h0]; rfl
 rw [if_neg h0] at dv
 have o := qnE a b (RR.of (q3V (q1d c.v a.v) (q1d d.v c.v) / q3V (q1d b.v a.v) (q1d d.v c.v))) (by omega) (by omega) (by omega)
 rw [RR.of_v] at o
 refine q01 rfl rfl dv (gg rfl (q0m rfl (gg rfl (q01 rfl rfl o (gg rfl (q08 rfl rfl rfl trivial ?_))))))
 rw [q8L, if_neg h0]; rfl
def qb6 (z : Int) : Bool := decide (-1048576 ≤ z) && decide (z ≤ 1048576)
theorem qe0 (r : RR) {k : Nat} [h : SzR r k] (hk : k ≤ 100000) : PU q5s [r.enc] = some (.tup [.int .i64 (if -9223372036854775808 ≤ q1f r.v ∧ q1f r.v ≤ 9223372036854775807 then q1f r.v else 0), .bool (qb6 (q1f r.v))]) := by
 have s := qsA (RI.of (q1f r.v)) (by omega)
 rw [RI.of_v] at s
 refine q0h (fn := q5h) rfl (q0c ?_)
 refine gg rfl (q01 rfl rfl (qjy r (by omega)) ?_)
 refine gg rfl ?_
 by_cases h1 : -9223372036854775808 ≤ q1f r.v ∧ q1f r.v ≤ 9223372036854775807
 ·rw [q9H, if_pos h1] at s
  rw [if_pos h1]
  refine q01 rfl rfl s ?_
  repeat' (first
   | refine goP 800 rfl rfl ?_
   | refine q0e rfl ?_ | refine q0j rfl ?_ | refine q05 rfl (fun _ => ?_) (fun _ => ?_)
   | refine q0g rfl ?_ | refine q0m rfl ?_ | refine q02 rfl (fun _ => ?_) (fun _ => ?_)
   | refine q0G rfl (fun _ => ?_) (fun _ => ?_)
   | refine q08 rfl rfl rfl trivial ?_)
  all_goals simp only [q1H, q1I, decide_eq_true_eq, decide_eq_false_iff_not] at *
  all_goals simp only [qb6]
  all_goals simp_all
  all_goals omega
 rw [q9H, if_neg h1] at s
 rw [if_neg h1]
 refine q01 rfl rfl s ?_
 repeat' (first
  | refine goP 800 rfl rfl ?_
  | refine q0e rfl ?_ | refine q0j rfl ?_ | refine q05 rfl (fun _ => ?_) (fun _ => ?_)
  | refine q0g rfl ?_ | refine q0m rfl ?_ | refine q02 rfl (fun _ => ?_) (fun _ => ?_)
  | refine q0G rfl (fun _ => ?_) (fun _ => ?_)
  | refine q08 rfl rfl rfl trivial ?_)
 all_goals simp only [qb6]
 all_goals (simp; omega)
def q4k (p : QP) : Spot × Int := if qb6 (q1f p.x) && qb6 (q1f p.y) then (⟨q1f p.x, q1f p.y⟩, 0) else (⟨0, 0⟩, 3)
theorem q4l {z : Int} : qb6 z = true ↔ -1048576 ≤ z ∧ z ≤ 1048576 := by simp [qb6]
theorem qup (p : RP) {k : Nat} [h : SzP p k] (hk : k ≤ 100000) : PU qfm [p.enc] = some (.tup [(q4k p.v).1.enc, .int .i64 (q4k p.v).2]) := by
 have ex : p.v.x = p.x.v := rfl
 have ey : p.v.y = p.y.v := rfl
 refine q0h (fn := qau) rfl (q0c ?_)
 refine gg rfl (q01 rfl rfl (qe0 p.x hk) (gg rfl (q01 rfl rfl (qe0 p.y hk) (gg rfl (q05 rfl (fun g1 => ?_) (fun g1 => ?_))))))
 ·repeat' (first
   | refine goP 800 rfl rfl ?_
   | refine q0e rfl ?_ | refine q0j rfl ?_ | refine q05 rfl (fun _ => ?_) (fun _ => ?_)
   | refine q0g rfl ?_ | refine q0m rfl ?_ | refine q02 rfl (fun _ => ?_) (fun _ => ?_)
   | refine q0G rfl (fun _ => ?_) (fun _ => ?_)
   | refine q08 rfl rfl rfl trivial ?_)
  simp only [Bool.not_eq_true', Bool.not_eq_false'] at g1
  rw [q4k, ex, ey, g1]; rfl
 simp only [Bool.not_eq_true', Bool.not_eq_false'] at g1
 repeat' (first
  | refine goP 800 rfl rfl ?_
  | refine q0e rfl ?_ | refine q0j rfl ?_ | refine q05 rfl (fun _ => ?_) (fun _ => ?_)
  | refine q0g rfl ?_ | refine q0m rfl ?_ | refine q02 rfl (fun _ => ?_) (fun _ => ?_)
  | refine q0G rfl (fun _ => ?_) (fun _ => ?_)
  | refine q08 rfl rfl rfl trivial ?_)
 ·rename_i g2
  simp only [Bool.not_eq_true', Bool.not_eq_false'] at g2
  rw [q4k, ex, ey, g1, g2]; rfl
 rename_i g2
 simp only [Bool.not_eq_true', Bool.not_eq_false'] at g2
 have g1' := q4l.1 g1
 have g2' := q4l.1 g2
 rw [q4k, ex, ey, g1, g2, if_pos (by omega), if_pos (by omega)]; rfl
end Go.F

namespace Go.F
attribute [local irreducible] IntKind.wrap wpM
set_option maxRecDepth 100000 in
theorem qqv : (prog.funcs[q97]?).map (fun fn => fn.body.isNone && fn.name == "math.sqrt") = some true := by kernel_rfl
theorem qs5 {x y : Nat} (h : FloatKind.f64.format.sqrt x = some y) : PU q97 [.float .f64 x] = some (.float .f64 y) := by
 refine qoo (n := 1) ?_
 have h0 := qqv
 cases hf : prog.funcs[q97]? with
 | none => rw [hf] at h0; simp at h0
 | some fn =>
   rw [hf] at h0
   simp only [Option.map_some, Option.some.injEq, Bool.and_eq_true] at h0
   obtain ⟨h1, h2⟩ := h0
   have hb : fn.body = none := by simpa using h1
   simp only [run, env, hf, hb, h2, if_true, qsr, h]
   rfl
theorem qtY {x y : Nat} (h : FloatKind.f64.format.sqrt x = some y) : PU qh7 [.float .f64 x] = some (.float .f64 y) := by
 refine q0h (fn := qc1) rfl (q0c ?_)
 exact gg rfl (q01 rfl rfl (qs5 h) (gg rfl (q08 rfl rfl rfl trivial rfl)))
section
variable {T : Tab} {sh : Shr} {nx0 : Nat} {s : List Fr} {t : q0u} {h : q0f} {z : Frz} {nx : Nat} {q : Ex → q0u → q0f → Frz → Nat → Prop}
variable {base i : Nat} {res : List Nat} {dst : Nat} {g : Gd} {rest : List KOper}
theorem atCvF {k : IntKind} {x : X} {b : Nat} {n : Int} (hx : x.ev t = .float .f64 b) (hd : (FloatKind.f64.decode b).toInt .zero = some n) (hb : k.min ≤ n ∧ n ≤ k.max)
 (hk : wpM T sh nx0 (.ops base res rest :: s) .normal (upd t dst (.int k n)) h z nx q) :
 wpM T sh nx0 (.ops base res (⟨i, some dst, none, g, .conv (.int k) x⟩ :: rest) :: s) .normal t h z nx q := by
 refine q4A ?_
 simp only [kop, qcU, hx]
 exact qjA hd (q1p hb hk)
end
def qhF (n : Nat) : Nat → Nat → Nat
 | 0, r => r
 | k + 1, r => if (r + 2 ^ k) * (r + 2 ^ k) ≤ n then qhF n k (r + 2 ^ k) else qhF n k r
def isq (n : Nat) : Nat := qhF n 27 0
theorem qkq (n : Nat) : ∀ (k r : Nat), r * r ≤ n → n < (r + 2 ^ k) * (r + 2 ^ k) → qhF n k r * qhF n k r ≤ n ∧ n < (qhF n k r + 1) * (qhF n k r + 1) := by
 intro k
 induction k with
 | zero => intro r h1 h2; simp only [qhF]; exact ⟨h1, by simpa using h2⟩
 | succ k ih =>
   intro r h1 h2
   rw [qhF]
   rw [Nat.pow_succ] at h2
   split
   ·rename_i h; exact ih _ h (by rw [show r + 2 ^ k + 2 ^ k = r + 2 ^ k * 2 by omega]; exact h2)
   rename_i h; exact ih _ h1 (by omega)
theorem qeO {n : Nat} (h : n < 2 ^ 54) : isq n * isq n ≤ n ∧ n < (isq n + 1) * (isq n + 1) :=
 qkq n 27 0 (Nat.zero_le _) (by simp; omega)
theorem qeP {a b : Nat} (h : a * a < b * b) : a < b := by
 by_cases hc : b ≤ a
 ·exact absurd (Nat.mul_le_mul hc hc) (by omega)
 omega
theorem qif {n r : Nat} (h : n < 2 ^ 54) (h1 : r * r ≤ n) (h2 : n < (r + 1) * (r + 1)) : r = isq n := by
 obtain ⟨g1, g2⟩ := qeO h
 have := qeP (Nat.lt_of_le_of_lt h1 g2)
 have := qeP (Nat.lt_of_le_of_lt g1 h2)
 omega
set_option maxHeartbeats 1000000 in
theorem qtZ (n : Nat) (hn : n < 2 ^ 50) : PU qa4 [.int .i64 n] = some (.int .i64 (isq n)) := by
 obtain ⟨y, r0, h1, h2, h3, h4⟩ := qqF n (by omega)
 refine q0h (fn := q6m) rfl (q0c ?_)
 refine gg rfl (q01 rfl rfl (qtY h1) (gg rfl (atCvF rfl h2 ⟨by have : IntKind.i64.min = -9223372036854775808 := rfl; omega, by have : IntKind.i64.max = 9223372036854775807 := rfl; omega⟩ ?_)))
 refine gg rfl ?_
 obtain ⟨a, rfl⟩ : ∃ a : Nat, r0 = a := ⟨r0.toNat, by omega⟩
 refine q0q (S := fun r : Nat => ([q00 n, q00 r], [none, none], [0, 0])) (C := fun r => r ≤ 268435456) (m := fun r => r) a (by omega) (by omega) ?_ ?_
 ·exact q03 rfl trivial (by simp [q00])
 intro r hr N hN
 have wr : IntKind.i64.wrap ((r : Int) * r) = ((r * r : Nat) : Int) := by
  have hb : r * r ≤ 268435456 * 268435456 := Nat.mul_le_mul hr hr
  rw [← Int.natCast_mul]; exact qbM (by omega)
 refine gg rfl ?_
 rw [wr]
 refine q02 rfl (fun g1 => ?_) (fun g1 => ?_)
 ·rw [q06] at g1
  have hr0 : r ≠ 0 := by rintro rfl; simp at g1; omega
  have w1 : IntKind.i64.wrap ((r : Int) - 1) = ((r - 1 : Nat) : Int) := by rw [wrap64 (by omega) (by omega)]; omega
  exact gg rfl (q04 (hN (r - 1) (by omega) (by omega) (q03 rfl trivial (by simp [q00, w1]))))
 rw [q07] at g1
 have g1' : r * r ≤ n := by omega
 clear hN
 refine gg rfl (q04 (gg rfl (q0q (S := fun r : Nat => ([q00 n, q00 r], [none, none], [0, 0])) (C := fun r => r * r ≤ n) (m := fun r => n - r) r g1' (by omega) ?_ ?_)))
 ·exact q03 rfl trivial (by simp [q00])
 intro r hr N hN
 have hrl : r < 33554432 := qeP (by omega)
 have w1 := wS (n := r)
 have w2 : IntKind.i64.wrap (((r + 1 : Nat) : Int) * ((r + 1 : Nat) : Int)) = (((r + 1) * (r + 1) : Nat) : Int) := by
  have hb : (r + 1) * (r + 1) ≤ 33554432 * 33554432 := Nat.mul_le_mul hrl hrl
  rw [← Int.natCast_mul]; exact qbM (by omega)
 refine gg rfl ?_
 rw [w1, w2]
 refine q02 rfl (fun g2 => ?_) (fun g2 => ?_)
 ·rw [q0D] at g2
  have g2' : (r + 1) * (r + 1) ≤ n := by omega
  have hlt : r < n := by
   have : (r + 1) * 1 ≤ (r + 1) * (r + 1) := Nat.mul_le_mul_left _ (by omega)
   omega
  exact gg rfl (q04 (hN (r + 1) g2' (by omega) (q03 rfl trivial (by simp [q00, w1]))))
 rw [q0E] at g2
 refine gg rfl (q04 (gg rfl (q08 rfl rfl rfl trivial ?_)))
 rw [qif (n := n) (r := r) (by omega) hr (by omega)]
end Go.F

namespace Go.F
attribute [local irreducible] IntKind.wrap wpM
def q5I {α : Type} (d : α) (n : Nat) (f : Nat → α) (k : Nat) : List α := (List.range n).map fun i => if i < k then f i else d
theorem qg0 {α : Type} (d : α) (n : Nat) (f : Nat → α) : q5I d n f 0 = List.replicate n d := by
 unfold q5I
 apply List.ext_getElem <;> simp
theorem qdj {α : Type} (d : α) (n : Nat) (f : Nat → α) : q5I d n f n = (List.range n).map f := by
 unfold q5I
 refine List.map_congr_left fun i hi => ?_
 rw [if_pos (List.mem_range.1 hi)]
theorem qbK {α : Type} (d : α) (n : Nat) (f : Nat → α) (k : Nat) : (q5I d n f k).length = n := by simp [q5I]
theorem qig {α : Type} (d : α) {n : Nat} (f : Nat → α) {k : Nat} (h : k < n) : (q5I d n f k).set k (f k) = q5I d n f (k + 1) := by
 unfold q5I
 apply List.ext_getElem
 ·simp
 intro i h1 h2
 simp only [List.length_set, List.length_map, List.length_range] at h1
 rw [List.getElem_set]
 by_cases hik : k = i
 ·subst hik; simp
 rw [if_neg hik]
 simp only [List.getElem_map, List.getElem_range]
 by_cases h3 : i < k
 ·rw [if_pos h3, if_pos (by omega)]
 rw [if_neg h3, if_neg (by omega)]
section
variable {T : Tab} {sh : Shr} {nx0 : Nat} {s : List Fr} {t : q0u} {h : q0f} {z : Frz} {nx : Nat} {q : Ex → q0u → q0f → Frz → Nat → Prop}
variable {base i : Nat} {res : List Nat} {g : Gd} {rest : List KOper}
theorem qih {α : Type} {enc : α → D} {hint : Bool} {a v : X} {dst : Option Nat} {id k' n : Nat} (L : List α) (k : Nat) (w : α) (ha : a.ev t = .ptr id k' 0) (hv : v.ev t = enc w) (hkk : k' = k)
 (hn : (Nat.beq (enc w).cells.length n && (enc w).sto) = true) (hs : ∀ x : α, qaj (enc x) 0 (enc w).cells = some (enc w))
 (hr : g.h base h id = some (.row (L.map enc) n)) (hz : g.z base z id ≤ k) (hl : k < L.length)
 (hk : wpM T sh nx0 (.ops base res rest :: s) .normal (put t dst (.tup [])) (upd h id (some (.row ((L.set k w).map enc) n))) z nx q) :
 wpM T sh nx0 (.ops base res (⟨i, dst, none, g, .store hint n a v⟩ :: rest) :: s) .normal t h z nx q := by
 subst hkk
 refine qof (e := enc L[k']) (e' := enc w) ha (by rw [hv]; exact hn) hr hz (q1J hl) (by rw [hv]; exact hs _) ?_
 rw [← List.map_set]
 exact hk
end
def sqd (a b : Spot) : Nat := ((b.x - a.x) * (b.x - a.x) + (b.y - a.y) * (b.y - a.y)).toNat
def q7Z (a b : Spot) (w : Int) : Spot := ⟨q1q (w * (b.y - a.y)) (isq (sqd a b)), q1q (-w * (b.x - a.x)) (isq (sqd a b))⟩
def q3n (p : List Spot) (each : List Int) (sign : Int) (i : Nat) : Spot := q7Z (pt p i) (pt p ((i + 1) % p.length)) (sign * wd each i)
def q4S (p : List Spot) (each : List Int) (sign : Int) : List Spot := (List.range p.length).map (q3n p each sign)
def q2t (w : Int) : Bool := decide (w < 0) || decide (500 < w)
def q14 (l : List Edge) (ws : List Int) : List Spot × Int :=
 if q0Q l = 0 then
  if ws.length = l.length then
   if ws.any q2t then ([], 3) else (q4S (q0s l) (q1G l ws l.length) (sgn (q1s (q0s l))), 0)
  else ([], 1)
 else ([], q0Q l)
def qll (r : List Spot × Int) : D := .tup [q0o r.1, .int .i64 r.2]
theorem qam (a b : Spot) : ((sqd a b : Nat) : Int) = (b.x - a.x) * (b.x - a.x) + (b.y - a.y) * (b.y - a.y) := by
 unfold sqd
 have h1 := q6I (b.x - a.x)
 have h2 := q6I (b.y - a.y)
 omega
theorem qok (a b : Spot) [OkS a] [OkS b] : sqd a b < 2 ^ 50 := by
 have e := qam a b
 have hb : Bd ((b.x - a.x) * (b.x - a.x) + (b.y - a.y) * (b.y - a.y)) _ := inferInstance
 have := hb.le
 omega
theorem qs6 {x : Int} (h : x ≠ 0) : 0 < x * x := by
 rcases Int.lt_or_gt_of_ne h with h | h
 ·have := Int.mul_pos (show 0 < -x by omega) (show 0 < -x by omega)
  rwa [Int.neg_mul_neg] at this
 exact Int.mul_pos h h
theorem qdk {a b : Spot} (h : a ≠ b) : 0 < sqd a b := by
 have e := qam a b
 have h1 := q6I (b.x - a.x)
 have h2 := q6I (b.y - a.y)
 by_cases hx : b.x - a.x = 0
 ·have hy : b.y - a.y ≠ 0 := fun hy => h (by cases a; cases b; simp at hx hy ⊢; omega)
  have := qs6 hy
  omega
 have := qs6 hx
 omega
theorem qeQ {n : Nat} (h : n < 2 ^ 54) (h0 : 0 < n) : 0 < isq n := by
 obtain ⟨_, h2⟩ := qeO h
 by_cases hc : isq n = 0
 ·rw [hc] at h2; omega
 omega
theorem qs7 {n : Nat} (h : n < 2 ^ 50) : isq n < 33554432 := by
 obtain ⟨h1, _⟩ := qeO (n := n) (by omega)
 exact qeP (by omega)
theorem qg1 {p : List Spot} (hs : q3X p) (h2 : 2 ≤ p.length) {i : Nat} (hi : i < p.length) : pt p i ≠ pt p ((i + 1) % p.length) := by
 intro he
 by_cases hl : i + 1 < p.length
 ·rw [Nat.mod_eq_of_lt hl] at he
  refine hs.1 (i + 1) hl ?_
  rw [← he, q11 hi]
  exact List.mem_iff_getElem.2 ⟨i, by simp; omega, by simp⟩
 have : i + 1 = p.length := by omega
 rw [this, Nat.mod_self] at he
 refine hs.1 i hi ?_
 rw [he, q11 (by omega)]
 exact List.mem_iff_getElem.2 ⟨0, by simp; omega, by simp⟩
theorem qmD (l : List Edge) (ws : List Int) : ∀ k, k ≤ ws.length → ∀ x ∈ q1G l ws k, x ∈ ws := by
 intro k
 induction k with
 | zero => intro _ x hx; simp [q1G] at hx
 | succ k ih =>
   intro hk x hx
   rw [q1G, List.mem_append] at hx
   rcases hx with hx | hx
   ·exact ih (by omega) x hx
   rw [(List.mem_replicate.1 hx).2]
   have : wd ws k = ws[k] := by simp [wd, show k < ws.length by omega]
   rw [this]; exact List.getElem_mem _
theorem qeR {w : Int} (h : q2t w = false) : 0 ≤ w ∧ w ≤ 500 := by simp [q2t] at h; omega
theorem q8V {a b : Int} {m : Nat} (hb : 0 < b) (h1 : -(m : Int) ≤ a) (h2 : a ≤ m) : -(m : Int) ≤ q1q a b ∧ q1q a b ≤ m := by
 have key : ∀ x : Int, 0 ≤ x → x ≤ m → 0 ≤ (2 * x + b) / (2 * b) ∧ (2 * x + b) / (2 * b) ≤ m := by
  intro x h0 hx
  refine ⟨Int.ediv_nonneg (by omega) (by omega), ?_⟩
  by_cases hx0 : x = 0
  ·subst hx0; rw [Int.ediv_eq_zero_of_lt (by omega) (by omega)]; omega
  have h4 : 2 * x + b < (x + 1) * (2 * b) := by
   have : x * (2 * b) ≥ x * 2 := Int.mul_le_mul_of_nonneg_left (by omega) h0
   rw [Int.add_mul]; omega
  have := Int.ediv_lt_of_lt_mul (by omega) h4
  omega
 unfold q1q
 split
 ·have := key (-a) (by omega) (by omega); omega
 have := key a (by omega) (by omega); omega
set_option maxHeartbeats 4000000 in
theorem qqw (l : List Edge) (ws : List Int) :
 PU q8z [edges l, ints ws] = some (qll (q14 l ws)) := by
 have hpoly := q8t l
 refine q0h (fn := q5c) rfl (q0c ?_)
 refine gg rfl ?_
 by_cases hc : ¬ q0Q l = 0
 ·rw [qcw, if_neg hc] at hpoly
  refine q01 rfl rfl hpoly (gg rfl (q02 rfl (fun g => ?_) (fun g => ?_)))
  ·refine gg rfl (q08 rfl rfl rfl trivial ?_)
   rw [q14, if_neg hc]; rfl
  rw [q0A] at g; exact absurd g hc
 have hc : q0Q l = 0 := Classical.byContradiction hc
 rw [qcw, if_pos hc] at hpoly
 rw [q14, if_pos hc]
 obtain ⟨h2, h16, _, _, hchk⟩ := q1w hc
 obtain ⟨v3, v40, vok, vin, vs⟩ := q2v hchk
 have hl1 : ∀ e ∈ l, 1 ≤ e.line.length ∧ e.line.length ≤ 100000 := fun e he => by have := q20 hc e he; omega
 refine q01 rfl rfl hpoly (gg rfl (q02 rfl (fun g => ?_) (fun g => ?_)))
 ·rw [q0z] at g; exact absurd rfl g
 refine gg rfl ?_
 rw [List.length_map, List.length_map]
 refine q02 rfl (fun g => ?_) (fun g => ?_)
 ·rw [q0z] at g
  refine gg rfl (q08 rfl rfl rfl trivial ?_)
  rw [if_neg (by omega)]; rfl
 rw [q0A] at g
 have hwl : ws.length = l.length := by omega
 rw [if_pos hwl]
 refine gg rfl (q0q (S := fun k : Nat => ([edges l, ints ws, q0o (q0s l), ints ws, q00 ws.length, q00 k], [none, none, none, none, none, none], [0, 0, 0, 0, 0, 0])) (C := fun k => k ≤ ws.length ∧ ∀ i (hi : i < ws.length), i < k → q2t ws[i] = false) (m := fun k => ws.length - k) 0 ⟨Nat.zero_le _, fun i hi h => by omega⟩ (by omega) ?_ ?_)
 ·exact q03 rfl trivial (by simp [edges, ints, q0o, q00])
 intro k ⟨hk, hall⟩ N hN
 refine gg rfl (q02 rfl (fun g1 => ?_) (fun g1 => ?_))
 ·rw [q06] at g1
  have hlt : k < ws.length := by omega
  have w1 := wS (n := k)
  have yes : q2t ws[k] = false → ∀ {t : q0u} {h : q0f} {z : Frz} {nx : Nat}, (q0Z 0 [(0, 0), (1, 0), (6, 0), (33, 0), (34, 0), (35, 0)] t h z nx fun _ _ kp => kp = ([edges l, ints ws, q0o (q0s l), ints ws, q00 ws.length, q00 ((k + 1 : Nat) : Int)], [none, none, none, none, none, none], [0, 0, 0, 0, 0, 0])) → N t h z nx := by
   intro hb t h z nx hst
   refine hN (k + 1) ⟨by omega, fun i hi hik => ?_⟩ (by omega) hst
   by_cases hik' : i < k
   ·exact hall i hi hik'
   obtain rfl : i = k := by omega
   exact hb
  have no : q2t ws[k] = true → ws.any q2t = true := fun hb => List.any_eq_true.2 ⟨_, List.getElem_mem hlt, hb⟩
  clear hN
  refine gg rfl (q0k k rfl rfl rfl (q1J hlt) rfl (gg rfl (q05 rfl (fun e1 => ?_) (fun e1 => ?_))))
  ·rw [q06] at e1
   refine gg rfl (q0g rfl (gg rfl (q04 (gg rfl (q08 rfl rfl rfl trivial ?_)))))
   rw [if_pos (no (by simp [q2t, e1]))]; rfl
  rw [q07] at e1
  refine gg rfl (q02 rfl (fun e2 => ?_) (fun e2 => ?_))
  ·rw [q06] at e2
   refine gg rfl (q04 (gg rfl (q08 rfl rfl rfl trivial ?_)))
   rw [if_pos (no (by simp [q2t, e2]))]; rfl
  rw [q07] at e2
  exact gg rfl (q04 (yes (by simp [q2t]; omega) (q03 rfl trivial (by simp [edges, ints, q0o, q00, w1]))))
 rw [q07] at g1
 clear hN
 have hgood : ws.any q2t = false := by
  rw [List.any_eq_false]
  intro x hx
  obtain ⟨i, hi, rfl⟩ := List.getElem_of_mem hx
  rw [hall i hi (by omega)]; decide
 rw [if_neg (by rw [hgood]; decide)]
 have hgood' : ∀ x ∈ ws, 0 ≤ x ∧ x ≤ 500 := fun x hx => qeR (by
  cases hb : q2t x with
  | false => rfl
  | true => rw [List.any_eq_true.2 ⟨x, hx, hb⟩] at hgood; cases hgood)
 have hseg := qbJ l ws l.length (Nat.le_refl _)
 rw [List.take_length] at hseg
 refine gg rfl (q04 (gg rfl (q01 rfl rfl (q41 (q0s l)) (gg rfl (q01 rfl rfl (q9U l ws (by omega) hl1 (by omega) (by omega)) ?_)))))
 refine gg rfl ?_
 have heb : ∀ i, 0 ≤ wd (q1G l ws l.length) i ∧ wd (q1G l ws l.length) i ≤ 500 := by
  intro i
  by_cases hi : i < (q1G l ws l.length).length
  ·have : wd (q1G l ws l.length) i = (q1G l ws l.length)[i] := by simp [wd, hi]
   rw [this]; exact hgood' _ (qmD l ws l.length (by omega) _ (List.getElem_mem _))
  have : wd (q1G l ws l.length) i = 0 := by simp [wd, List.getElem?_eq_none (Nat.le_of_not_lt hi)]
  rw [this]; decide
 generalize hv : q0s l = v at *
 generalize q1G l ws l.length = each at *
 have hsb : -1 ≤ sgn (q1s v) ∧ sgn (q1s v) ≤ 1 := by have := (qoA (q1s v)).le; omega
 generalize sgn (q1s v) = sg at *
 rw [List.length_map]
 refine q4H v.length rfl rfl rfl (by simp [q0U]; omega) ?_
 have ez : List.replicate v.length (D.agg [D.int IntKind.i64 0, D.int IntKind.i64 0]) = (q5I ⟨0, 0⟩ v.length (q3n v each sg) 0).map Spot.enc := by
  rw [qg0]; simp [Spot.enc]
 rw [ez]
 refine gg rfl (q0q (S := fun k : Nat => ([q0o v, .int .i64 sg, ints each, .ref 3 0 v.length, q0o v, q00 v.length, q00 k], [none, none, none, some (.row ((q5I ⟨0, 0⟩ v.length (q3n v each sg) k).map Spot.enc) 2), none, none, none], [0, 0, 0, 0, 0, 0, 0])) (C := fun k => k ≤ v.length) (m := fun k => v.length - k) 0 (Nat.zero_le _) (by omega) ?_ ?_)
 ·exact q03 rfl ⟨q0b q0S _, trivial⟩ (by simp [q0o, ints, q00])
 intro k hk N hN
 refine gg rfl (q02 rfl (fun g2 => ?_) (fun g2 => ?_))
 ·rw [q06] at g2
  have hlt : k < v.length := by omega
  have w1 := wS (n := k)
  have hne := qg1 vs (by omega) hlt
  have heb := heb k
  have hsq := qok (pt v k) (pt v ((k + 1) % v.length))
  have hsp := qdk hne
  have hir := qeQ (n := sqd (pt v k) (pt v ((k + 1) % v.length))) (by omega) hsp
  have hil := qs7 hsq
  have hse := qam (pt v k) (pt v ((k + 1) % v.length))
  have hset := qig ⟨0, 0⟩ (q3n v each sg) hlt
  have hsh : q3n v each sg k = ⟨q1q (sg * wd each k * ((pt v ((k + 1) % v.length)).y - (pt v k).y)) (isq (sqd (pt v k) (pt v ((k + 1) % v.length)))), q1q (-(sg * wd each k) * ((pt v ((k + 1) % v.length)).x - (pt v k).x)) (isq (sqd (pt v k) (pt v ((k + 1) % v.length))))⟩ := rfl
  have bx : Bd ((pt v ((k + 1) % v.length)).x - (pt v k).x) 8388608 := inferInstance
  have by' : Bd ((pt v ((k + 1) % v.length)).y - (pt v k).y) 8388608 := inferInstance
  have c1 : IntKind.i64.wrap ((pt v ((k + 1) % v.length)).x - (pt v k).x) = (pt v ((k + 1) % v.length)).x - (pt v k).x := q0K (by decide)
  have c2 : IntKind.i64.wrap ((pt v ((k + 1) % v.length)).y - (pt v k).y) = (pt v ((k + 1) % v.length)).y - (pt v k).y := q0K (by decide)
  have bw : Bd (wd each k) 500 := ⟨by omega⟩
  have bs : Bd sg 1 := ⟨by omega⟩
  have c3 : IntKind.i64.wrap (sg * wd each k) = sg * wd each k := q0K (by decide)
  generalize hdx : (pt v ((k + 1) % v.length)).x - (pt v k).x = dx at *
  generalize hdy : (pt v ((k + 1) % v.length)).y - (pt v k).y = dy at *
  generalize hw' : sg * wd each k = w at *
  have bw' : Bd w 500 := by rw [← hw']; exact ⟨Nat.le_trans (qmF (a := bs) (b := bw)).le (by decide)⟩
  have c4 : IntKind.i64.wrap (dx * dx) = dx * dx := q0K (by decide)
  have c5 : IntKind.i64.wrap (dy * dy) = dy * dy := q0K (by decide)
  have c6 : IntKind.i64.wrap (dx * dx + dy * dy) = ((sqd (pt v k) (pt v ((k + 1) % v.length)) : Nat) : Int) := by rw [hse]; exact q0K (by decide)
  have c7 : IntKind.i64.wrap (w * dy) = w * dy := q0K (by decide)
  have c8 : IntKind.i64.wrap (0 - w) = -w := by rw [wrap64 (by have := bw'.le; omega) (by have := bw'.le; omega)]; omega
  have c9 : IntKind.i64.wrap (-w * dx) = -w * dx := q0K (by decide)
  have b7 : Bd (w * dy) _ := qmF
  have b9 : Bd (-w * dx) _ := qmF
  have l7 := b7.le
  have l9 := b9.le
  refine gg rfl (q0k k rfl rfl rfl (q0T hlt) rfl (gg rfl (q4R rfl rfl (by rw [List.length_map]; omega) ?_)))
  refine gg rfl (q0k ((k + 1) % v.length) rfl rfl (by rw [w1, List.length_map, q1K]) (q0T (Nat.mod_lt _ (by omega))) rfl ?_)
  refine gg rfl (q0k k rfl rfl rfl (qie (by omega)) rfl ?_)
  refine gg rfl ?_
  rw [hdx, hdy, c1, c2, hw', c3, c4, c5, c6]
  refine q01 rfl rfl (qtZ _ hsq) (gg rfl ?_)
  rw [c7]
  refine q01 rfl rfl (qid (w * dy) _ (by omega) (by omega) (by omega) (by omega)) ?_
  refine gg rfl ?_
  rw [c8, c9]
  refine q01 rfl rfl (qid (-w * dx) _ (by omega) (by omega) (by omega) (by omega)) ?_
  refine gg rfl (q0J k rfl rfl rfl rfl rfl hlt (gg rfl (qih (enc := Spot.enc) (q5I ⟨0, 0⟩ v.length (q3n v each sg) k) k (q3n v each sg k) rfl (by rw [hsh]; rfl) (Nat.zero_add _) rfl (fun _ => rfl) rfl (Nat.zero_le _) (by rw [qbK]; exact hlt) ?_)))
  rw [hset]
  exact gg rfl (q04 (hN (k + 1) hlt (by omega) (q03 rfl ⟨q0b q0S _, trivial⟩ (by simp [q0o, ints, q00, w1]))))
 rw [q07] at g2
 obtain rfl : k = v.length := by omega
 refine gg rfl (q04 (gg rfl (q08 rfl rfl rfl ⟨q3s (by simp [qbK]) (q1t q3E _), trivial⟩ ?_)))
 rw [q5n (by simp [qbK]), qdj]; rfl
end Go.F

namespace Go.F
attribute [local irreducible] IntKind.wrap wpM
section
variable {T : Tab} {sh : Shr} {nx0 : Nat} {s : List Fr} {t : q0u} {h : q0f} {z : Frz} {nx : Nat} {q : Ex → q0u → q0f → Frz → Nat → Prop}
variable {base i : Nat} {res : List Nat} {g : Gd} {rest : List KOper}
theorem qmW {f : X} {args : List X} {fid : FuncId} {dst : Option Nat} {a e : List D} (hf : f.ev t = .fn fid a e) (hs : T.shared fid = false)
 (hk : wpM T sh nx0 (.ops base res (⟨i, dst, none, g, .callF fid (a.map .c ++ args ++ e.map .c)⟩ :: rest) :: s) .normal t h z nx q) :
 wpM T sh nx0 (.ops base res (⟨i, dst, none, g, .callV f args⟩ :: rest) :: s) .normal t h z nx q := by
 have e1 : ∀ l : List D, (l.map X.c).map (·.ev t) = l := by
  intro l; induction l with
  | nil => rfl
  | cons x l ih => simp only [List.map_cons, ih]; rfl
 simp only [wpM, wpo, kop, hf, hs, List.map_append, e1] at hk ⊢
 exact hk
end
def inB (n m : Int) : Bool := decide (-m ≤ n) && decide (n ≤ m)
theorem qdp {n m : Int} : inB n m = true ↔ -m ≤ n ∧ n ≤ m := by simp [inB]
theorem q7s (n m : Int) (h0 : 0 ≤ m) (h1 : m ≤ 1000000) : PU q61 [.int .i64 n, .int .i64 m] = some (.bool (inB n m)) := by
 have w : IntKind.i64.wrap (0 - m) = -m := by rw [wrap64 (by omega) (by omega)]; omega
 refine q0h (fn := q85) rfl (q0c ?_)
 refine gg rfl ?_
 rw [w]
 repeat' (first
  | refine goP 800 rfl rfl ?_
  | refine q0e rfl ?_ | refine q0j rfl ?_ | refine q05 rfl (fun _ => ?_) (fun _ => ?_)
  | refine q0g rfl ?_ | refine q0m rfl ?_ | refine q02 rfl (fun _ => ?_) (fun _ => ?_)
  | refine q0G rfl (fun _ => ?_) (fun _ => ?_)
  | refine q08 rfl rfl rfl trivial ?_)
 all_goals simp only [w] at *
 all_goals ((try simp only [q1H, q1I, q2i, q3Q, decide_eq_true_eq, decide_eq_false_iff_not, Bool.not_eq_true, Bool.not_eq_false, Int.not_lt, Int.not_le] at *); first | (simp_all [inB]; done) | (simp_all [inB]; omega) | (rw [D.bool.injEq, Bool.eq_iff_iff]; simp [inB]; omega) | (rw [D.bool.injEq, Bool.eq_iff_iff]; simp_all [inB]; omega) | (simp [inB]; split <;> (try split) <;> omega))
theorem q93 (a b : Int) (h0 : 0 ≤ a) (ha : a ≤ 1099511627776) (hb : 0 < b) (hb' : b ≤ 1099511627776) : PU q3G [.int .i64 a, .int .i64 b] = some (.int .i64 (q1q a b)) := by
 refine q0h (fn := q4T) rfl (q0c ?_)
 refine gg rfl ?_
 have w1 := ww (x := 2 * a)
 have w2 := ww (x := 2 * a + b)
 have w3 := ww (x := 2 * b)
 refine q02 rfl (fun h => ?_) (fun h => ?_)
 ·rw [q06] at h; omega
 refine gg rfl (qbD rfl rfl (by rw [w3]; omega) ?_)
 refine gg rfl (q08 rfl rfl rfl trivial ?_)
 have hd : (2 * a + b).tdiv (2 * b) = (2 * a + b) / (2 * b) := Int.tdiv_eq_ediv_of_nonneg (by omega)
 have hq : (2 * a + b) / (2 * b) ≤ 2 * a + b := Int.ediv_le_self _ (by omega)
 have hq0 : 0 ≤ (2 * a + b) / (2 * b) := Int.ediv_nonneg (by omega) (by omega)
 rw [w1, w2, w3, hd, wrap64 (by omega) (by omega), q1q, if_neg (by omega)]
theorem qa2 (a b : Int) (ha0 : -1099511627776 ≤ a) (ha : a ≤ 1099511627776) (hb : 0 < b) (hb' : b ≤ 1099511627776) : PU q3G [.int .i64 a, .int .i64 b] = some (.int .i64 (q1q a b)) := by
 by_cases h0 : 0 ≤ a
 ·exact q93 a b h0 ha hb hb'
 refine q0h (fn := q4T) rfl (q0c ?_)
 refine gg rfl (q02 rfl (fun h => ?_) (fun h => ?_))
 ·refine gg rfl ?_
  have w1 : IntKind.i64.wrap (0 - a) = -a := by rw [wrap64 (by omega) (by omega)]; omega
  rw [w1]
  refine q01 rfl rfl (q93 (-a) b (by omega) (by omega) hb hb') ?_
  refine gg rfl (q08 rfl rfl rfl trivial ?_)
  have hq : (2 * (-a) + b) / (2 * b) ≤ 2 * (-a) + b := Int.ediv_le_self _ (by omega)
  have hq0 : 0 ≤ (2 * (-a) + b) / (2 * b) := Int.ediv_nonneg (by omega) (by omega)
  rw [q1q, if_neg (by omega), q1q, if_pos (by omega), wrap64 (by omega) (by omega)]
  simp
 rw [q07] at h; omega
def q7D (c : List Spot) (m : Int) (i : Nat) : Spot := ⟨m * (pt c (i % c.length)).x, m * (pt c (i % c.length)).y⟩
def qff (s : Spot) (n : Nat) : Prop := s.x.natAbs ≤ n ∧ s.y.natAbs ≤ n
theorem qmX {m x : Int} (hm : m.natAbs ≤ 100) (hx : x.natAbs ≤ 1000) : (m * x).natAbs ≤ 100000 := by
 rw [Int.natAbs_mul]
 exact Nat.le_trans (Nat.mul_le_mul hm hx) (by decide)
theorem q8u {c : List Spot} (hc : ∀ s ∈ c, qff s 1000) {m : Int} (hm : m.natAbs ≤ 100) (h0 : 0 < c.length) (i : Nat) : qff (q7D c m i) 100000 := by
 have h := hc (pt c (i % c.length)) (by rw [q11 (Nat.mod_lt _ h0)]; exact List.getElem_mem _)
 exact ⟨qmX hm h.1, qmX hm h.2⟩
theorem qbl (c : List Spot) (m : Int) (i : Nat) (hc : ∀ s ∈ c, qff s 1000) (hm : m.natAbs ≤ 100) (h0 : 0 < c.length) (hi : i ≤ 1000000) (hl : c.length ≤ 1000000) :
 PU q2W [.agg [q0o c, .int .i64 m], .int .i64 i] = some (q7D c m i).enc := by
 have hml : i % c.length < c.length := Nat.mod_lt _ h0
 have hn := q8u hc hm h0 i
 have e1 : (q7D c m i).x = m * (pt c (i % c.length)).x := rfl
 have e2 : (q7D c m i).y = m * (pt c (i % c.length)).y := rfl
 have w1 : IntKind.i64.wrap (m * (pt c (i % c.length)).x) = m * (pt c (i % c.length)).x := wrap64 (by have := hn.1; rw [e1] at this; omega) (by have := hn.1; rw [e1] at this; omega)
 have w2 : IntKind.i64.wrap (m * (pt c (i % c.length)).y) = m * (pt c (i % c.length)).y := wrap64 (by have := hn.2; rw [e2] at this; omega) (by have := hn.2; rw [e2] at this; omega)
 refine q0h (fn := q2T) rfl (q0c ?_)
 refine gg rfl ?_
 rw [List.length_map]
 refine q4R rfl rfl (by omega) ?_
 refine gg rfl (q0k (i % c.length) rfl rfl q1K (q0T hml) rfl (gg rfl ?_))
 rw [w1, w2]
 exact q08 rfl rfl rfl trivial rfl
def movC (n k : Nat) (v a b : Int) : Int := v + q1q (((n : Int) - 1 - k) * a + k * b) ((n : Int) - 1)
def qdJ (l : List Spot) (a b : Spot) (k : Nat) : Spot := ⟨movC l.length k (pt l k).x a.x b.x, movC l.length k (pt l k).y a.y b.y⟩
def qlz (l : List Spot) (a b : Spot) : List Spot := (List.range l.length).map (qdJ l a b)
theorem qi4 {n k : Nat} (hk : k < n) (hn : n ≤ 40) {a b : Int} (ha : a.natAbs ≤ 100000) (hb : b.natAbs ≤ 100000) : (((n : Int) - 1 - k) * a).natAbs ≤ 4000000 ∧ ((k : Int) * b).natAbs ≤ 4000000 := by
 constructor
 ·rw [Int.natAbs_mul]
  exact Nat.le_trans (Nat.mul_le_mul (show _ ≤ 40 by omega) ha) (by decide)
 rw [Int.natAbs_mul]
 exact Nat.le_trans (Nat.mul_le_mul (show _ ≤ 40 by omega) hb) (by decide)
set_option maxHeartbeats 2000000 in
theorem qsy (l : List Spot) (a b : Spot) (h2 : 2 ≤ l.length) (h40 : l.length ≤ 40) (hw : ∀ s ∈ l, q0v s 1048576 = true) (ha : qff a 100000) (hb : qff b 100000) :
 PU qdO [q0o l, a.enc, b.enc] = some (q0o (qlz l a b)) := by
 have w0 := ww (x := (l.length : Int) - 1)
 refine q0h (fn := q9l) rfl (q0c ?_)
 refine gg rfl ?_
 rw [List.length_map, w0]
 refine q4H l.length rfl rfl rfl (by simp [q0U]; omega) ?_
 have ez : List.replicate l.length (D.agg [.int .i64 0, .int .i64 0]) = (q5I ⟨0, 0⟩ l.length (qdJ l a b) 0).map Spot.enc := by
  rw [qg0]; simp [Spot.enc]
 rw [ez]
 refine gg rfl ?_
 rw [List.length_map]
 refine q0q (S := fun k : Nat => ([.ptr 0 0 0, .ptr 1 0 0, .int .i64 ((l.length : Int) - 1), .ref 3 0 l.length, q0o l, q00 l.length, q00 k], [some (.row [a.enc] 2), some (.row [b.enc] 2), none, some (.row ((q5I ⟨0, 0⟩ l.length (qdJ l a b) k).map Spot.enc) 2), none, none, none], [0, 0, 0, 0, 0, 0, 0])) (C := fun k => k ≤ l.length) (m := fun k => l.length - k) 0 (Nat.zero_le _) (by omega) ?_ ?_
 ·exact q03 rfl ⟨rfl, rfl, q0b q0S _, trivial⟩ (by simp [q0o, q00, Spot.enc])
 intro k hk N hN
 refine gg rfl (q02 rfl (fun e1 => ?_) (fun e1 => ?_))
 ·rw [q06] at e1
  have hlt : k < l.length := by omega
  have w1 := wS (n := k)
  have hin := hw (pt l k) (by rw [q11 hlt]; exact List.getElem_mem _)
  rw [q2p] at hin
  have c1 := qi4 hlt h40 ha.1 hb.1
  have c2 := qi4 hlt h40 ha.2 hb.2
  have d0 : IntKind.i64.wrap ((l.length : Int) - 1 - (k : Int)) = (l.length : Int) - 1 - k := ww
  have d1 := ww (x := ((l.length : Int) - 1 - k) * a.x)
  have d2 := ww (x := (k : Int) * b.x)
  have d3 := ww (x := ((l.length : Int) - 1 - k) * a.x + (k : Int) * b.x)
  have d4 := ww (x := ((l.length : Int) - 1 - k) * a.y)
  have d5 := ww (x := (k : Int) * b.y)
  have d6 := ww (x := ((l.length : Int) - 1 - k) * a.y + (k : Int) * b.y)
  have q1 := qa2 (((l.length : Int) - 1 - k) * a.x + (k : Int) * b.x) ((l.length : Int) - 1) (by omega) (by omega) (by omega) (by omega)
  have q2 := qa2 (((l.length : Int) - 1 - k) * a.y + (k : Int) * b.y) ((l.length : Int) - 1) (by omega) (by omega) (by omega) (by omega)
  have r1 := q8V (a := ((l.length : Int) - 1 - k) * a.x + (k : Int) * b.x) (b := (l.length : Int) - 1) (m := 8000000) (by omega) (by omega) (by omega)
  have r2 := q8V (a := ((l.length : Int) - 1 - k) * a.y + (k : Int) * b.y) (b := (l.length : Int) - 1) (m := 8000000) (by omega) (by omega) (by omega)
  have d7 := ww (x := (pt l k).x + q1q (((l.length : Int) - 1 - k) * a.x + (k : Int) * b.x) ((l.length : Int) - 1))
  have d8 := ww (x := (pt l k).y + q1q (((l.length : Int) - 1 - k) * a.y + (k : Int) * b.y) ((l.length : Int) - 1))
  have hset := qig ⟨0, 0⟩ (qdJ l a b) hlt
  refine gg rfl (q0k k rfl rfl rfl (q0T hlt) rfl (gg rfl ?_))
  rw [d0, d1, d2, d3]
  refine q01 rfl rfl q1 (gg rfl ?_)
  rw [d7, d0, d4, d5, d6]
  refine q01 rfl rfl q2 (gg rfl ?_)
  rw [d8]
  refine q0J k rfl rfl rfl rfl rfl (by omega) ?_
  refine gg rfl (qih (enc := Spot.enc) (q5I ⟨0, 0⟩ l.length (qdJ l a b) k) k (qdJ l a b k) rfl rfl (Nat.zero_add _) rfl (fun _ => rfl) rfl (Nat.zero_le _) (by rw [qbK]; omega) ?_)
  rw [hset]
  exact gg rfl (q04 (hN (k + 1) hlt (by omega) (q03 rfl ⟨rfl, rfl, q0b q0S _, trivial⟩ (by simp [q0o, q00, w1, Spot.enc]))))
 rw [q07] at e1
 obtain rfl : k = l.length := by omega
 rw [qdj]
 refine gg rfl (q04 (gg rfl (q08 rfl rfl rfl ⟨q3s (by simp) (q1t q3E _), trivial⟩ ?_)))
 rw [q5n (by simp)]; rfl
def q7t (p : Piece) (m : Int) (i : Nat) : Edge := ⟨(eg p.edges i).name, qlz (eg p.edges i).line (q7D p.corners m i) (q7D p.corners m (i + 1))⟩
def q3t (p : Piece) (m : Int) : List Edge := (List.range p.edges.length).map (q7t p m)
def q0B (p : Piece) (m : Int) : List Edge × Int :=
 if inB m 100 = false then ([], 3)
 else if p.corners.length ≠ p.edges.length then ([], 1)
 else if (p.corners.any fun s => !(inB s.x 1000 && inB s.y 1000)) then ([], 3)
 else if q0Q p.edges ≠ 0 then ([], q0Q p.edges)
 else if q0Q (q3t p m) ≠ 0 then ([], q0Q (q3t p m))
 else (q3t p m, 0)
theorem q3c {α : Type} {f : α → Bool} {l : List α} {k : Nat} (hk : k < l.length) (h : f l[k] = true) : l.any f = true := by
 rw [List.any_eq_true]; exact ⟨_, List.getElem_mem _, h⟩
theorem q2N {α : Type} {f : α → Bool} {l : List α} (h : ∀ k (hk : k < l.length), f l[k] = false) : l.any f = false := by
 rw [List.any_eq_false]
 intro x hx
 obtain ⟨k, hk, rfl⟩ := List.getElem_of_mem hx
 rw [h k hk]; decide
def encGr (r : List Edge × Int) : D := .tup [edges r.1, .int .i64 r.2]
set_option maxHeartbeats 4000000 in
theorem q7R (p : Piece) (m : Int) (hc : p.corners.length ≤ 1000000) : PU q4a [p.enc, .int .i64 m] = some (encGr (q0B p m)) := by
 refine q0h (fn := q83) rfl (q0c ?_)
 refine gg rfl (q01 rfl rfl (q7s m 100 (by decide) (by decide)) ?_)
 cases hm : inB m 100 with
 | false =>
   refine gg rfl (q0g rfl (gg rfl (q08 rfl rfl rfl trivial ?_)))
   rw [q0B, if_pos hm]; rfl
 | true =>
   have hm1 : ¬ inB m 100 = false := by rw [hm]; decide
   rw [qdp] at hm
   refine gg rfl (q0m rfl (gg rfl ?_))
   rw [List.length_map, List.length_map]
   refine q02 rfl (fun g1 => ?_) (fun g1 => ?_)
   ·rw [q0z] at g1
    refine gg rfl (q08 rfl rfl rfl trivial ?_)
    rw [q0B, if_neg hm1, if_pos (by omega)]; rfl
   rw [q0A] at g1
   have g1' : p.corners.length = p.edges.length := by omega
   refine gg rfl ?_
   rw [List.length_map]
   refine q0q (S := fun k : Nat => ([.int .i64 m, .ptr 1 0 0, q0o p.corners, q00 p.corners.length, q00 k], [none, some (.row [p.enc] 7), none, none, none], [0, 0, 0, 0, 0])) (C := fun k => k ≤ p.corners.length ∧ ∀ j (hj : j < p.corners.length), j < k → (inB p.corners[j].x 1000 && inB p.corners[j].y 1000) = true) (m := fun k => p.corners.length - k) 0 ⟨Nat.zero_le _, fun j _ hj => by omega⟩ (by omega) ?_ ?_
   ·exact q03 rfl ⟨rfl, trivial⟩ (by simp [q0o, q00, Piece.enc, edges, qpt, ints])
   rintro k ⟨hk, hin⟩ N hN
   refine gg rfl (q02 rfl (fun e1 => ?_) (fun e1 => ?_))
   ·rw [q06] at e1
    have hlt : k < p.corners.length := by omega
    have w1 := wS (n := k)
    have hx := q7s (pt p.corners k).x 1000 (by decide) (by decide)
    have hy := q7s (pt p.corners k).y 1000 (by decide) (by decide)
    have bad : (inB (pt p.corners k).x 1000 && inB (pt p.corners k).y 1000) = false → q0B p m = ([], 3) := by
     intro h
     rw [q0B, if_neg hm1, if_neg (by omega), if_pos]
     refine q3c hlt ?_
     rw [← q11 hlt, h]; rfl
    refine gg rfl (q0k k rfl rfl rfl (q0T hlt) rfl (gg rfl (q01 rfl rfl hx ?_)))
    cases bx : inB (pt p.corners k).x 1000 with
    | false =>
      refine gg rfl (q0e rfl (gg rfl (q0g rfl (gg rfl (q04 (gg rfl (q08 rfl rfl rfl trivial ?_)))))))
      rw [bad (by rw [bx]; rfl)]; rfl
    | true =>
      refine gg rfl (q0j rfl (gg rfl (q01 rfl rfl hy ?_)))
      cases by' : inB (pt p.corners k).y 1000 with
      | false =>
        refine gg rfl (q0g rfl (gg rfl (q04 (gg rfl (q08 rfl rfl rfl trivial ?_)))))
        rw [bad (by rw [bx, by']; rfl)]; rfl
      | true =>
        refine gg rfl (q0m rfl (gg rfl (q04 (hN (k + 1) ⟨hlt, fun j hj hjk => ?_⟩ (by omega) (q03 rfl ⟨rfl, trivial⟩ (by simp [q0o, q00, Piece.enc, edges, qpt, ints, w1]))))))
        by_cases e : j = k
        ·subst e; rw [← q11 hj, bx, by']; rfl
        exact hin j hj (by omega)
   rw [q07] at e1
   obtain rfl : k = p.corners.length := by omega
   clear hN
   have hany : ¬ (p.corners.any fun s => !(inB s.x 1000 && inB s.y 1000)) = true := by
    rw [q2N fun k hk => by rw [hin k hk hk]; rfl]; decide
   have hnear : ∀ s ∈ p.corners, qff s 1000 := by
    intro s hs
    obtain ⟨j, hj, rfl⟩ := List.getElem_of_mem hs
    have := hin j hj hj
    rw [Bool.and_eq_true, qdp, qdp] at this
    exact ⟨by omega, by omega⟩
   refine gg rfl (q04 (gg rfl (q01 rfl rfl (q6x p.edges) (gg rfl (q02 rfl (fun g2 => ?_) (fun g2 => ?_))))))
   ·rw [q0z] at g2
    refine gg rfl (q08 rfl rfl rfl trivial ?_)
    rw [q0B, if_neg hm1, if_neg (by omega), if_neg hany, if_pos g2]; rfl
   have g2 : q0Q p.edges = 0 := q0A.1 g2
   obtain ⟨c1, c2, c3, c4, c5⟩ := q1w g2
   have hr : q0B p m = if q0Q (q3t p m) ≠ 0 then ([], q0Q (q3t p m)) else (q3t p m, 0) := by
    rw [q0B, if_neg hm1, if_neg (by omega), if_neg hany, if_neg (by omega)]
   rw [hr]
   have hm2 : m.natAbs ≤ 100 := by omega
   refine gg rfl ?_
   rw [List.length_map]
   refine q0q (S := fun k : Nat => ([.fn q2W [.agg [q0o p.corners, .int .i64 m]] [], .ref 1 0 k, edges p.edges, q00 p.edges.length, q00 k], [none, some (.row (((List.range k).map (q7t p m)).map Edge.enc) 2), none, none, none], [0, 0, 0, 0, 0])) (C := fun k => k ≤ p.edges.length) (m := fun k => p.edges.length - k) 0 (Nat.zero_le _) (by omega) ?_ ?_
   ·exact q03 rfl ⟨rfl, trivial⟩ rfl
   intro k hk N hN
   refine gg rfl (q02 rfl (fun e2 => ?_) (fun e2 => ?_))
   ·rw [q06] at e2
    have hlt : k < p.edges.length := by omega
    have w1 := wS (n := k)
    have hL := q5o (q1B c3 hlt)
    obtain ⟨n2, n40, hw⟩ := q3M hL
    have ca := qbl p.corners m k hnear hm2 (by omega) (by omega) (by omega)
    have cb := qbl p.corners m (k + 1) hnear hm2 (by omega) (by omega) (by omega)
    have mv := qsy (eg p.edges k).line (q7D p.corners m k) (q7D p.corners m (k + 1)) n2 n40 hw (q8u hnear hm2 (by omega) _) (q8u hnear hm2 (by omega) _)
    have hst : (((List.range (k + 1)).map (q7t p m)).map Edge.enc) = ((List.range k).map (q7t p m)).map Edge.enc ++ [(q7t p m k).enc] := by
     rw [List.range_succ, List.map_append, List.map_append]; rfl
    refine gg rfl (q0k k rfl rfl rfl (q24 hlt) rfl (gg rfl (qmW rfl rfl (q01 rfl rfl ca (gg rfl ?_)))))
    rw [w1]
    refine qmW rfl rfl (q01 rfl rfl cb (gg rfl (q01 rfl rfl mv (gg rfl (q1E rfl rfl rfl rfl rfl rfl (by simp) (Nat.zero_le _) (by simp [q0U]; omega) ?_)))))
    refine gg rfl (q04 (hN (k + 1) hlt (by omega) (q03 rfl ⟨?_, trivial⟩ ?_)))
    ·rw [List.all_append, q0b qik]; rfl
    rw [hst]; simp [q0o, edges, q00, w1]; rfl
   rw [q07] at e2
   obtain rfl : k = p.edges.length := by omega
   have hgl : (q3t p m).length = p.edges.length := by simp [q3t]
   refine gg rfl (q04 (gg rfl (q58 rfl rfl ⟨q3s (by simp) (q1t qeS _), trivial⟩ (by rw [q5n (by simp)]; exact q6x (q3t p m)) rfl ?_)))
   refine gg rfl (q02 rfl (fun g3 => ?_) (fun g3 => ?_))
   ·rw [q0z] at g3
    refine gg rfl (q08 rfl rfl rfl trivial ?_)
    rw [if_pos g3]; rfl
   rw [q0A] at g3
   refine gg rfl (q08 rfl rfl rfl ⟨q3s (by simp) (q1t qeS _), trivial⟩ ?_)
   rw [q5n (by simp), if_neg (by simp [g3])]; rfl
end Go.F

namespace Go.F
section
variable {T : Tab} {sh : Shr} {nx0 : Nat} {s : List Fr} {t : q0u} {h : q0f} {z : Frz} {nx : Nat} {q : Ex → q0u → q0f → Frz → Nat → Prop}
abbrev Rep := Option (List D × List Nat)
inductive Obl where
 | p (es : List D)
 | s (h : q0f) (es l : List D) (rs : List Nat)
def Obl.ok : Obl → Prop
 | .p es => es.all (plain 4) = true
 | .s h es l rs => es.all (plain 4) = false ∧ es.mapM (q10 h 8) = some l ∧ es.flatMap (q0O h depth) = rs ∧ l.all (plain 4) = true
def qgM : List Obl → Prop
 | [] => True
 | o :: r => o.ok ∧ qgM r
end
end Go.F

namespace Go.F
attribute [local irreducible] IntKind.wrap wpM
def q27 (a b : Spot) : Spot := ⟨a.x + b.x, a.y + b.y⟩
def qp (s : Spot) : QP := ⟨s.x, s.y⟩
class MidS (s : Spot) : Prop where
 bx : s.x.natAbs ≤ 1099511627776
 byy : s.y.natAbs ≤ 1099511627776
instance midOk {s : Spot} [h : OkS s] : MidS s := ⟨by have := h.bx; omega, by have := h.byy; omega⟩
instance (priority := 100) midX {s : Spot} [h : MidS s] : Bd s.x 1099511627776 := ⟨h.bx⟩
instance (priority := 100) midY {s : Spot} [h : MidS s] : Bd s.y 1099511627776 := ⟨h.byy⟩
instance qbQx {s : Spot} [h : MidS s] : QPB (qp s) 2 := ⟨qpb (by have := h.bx; omega) (by have := h.bx; omega), qpb (by have := h.byy; omega) (by have := h.byy; omega)⟩
theorem qbL (s : Spot) [h : MidS s] : PU q2b [s.enc] = some (qgC (qp s)) := by
 have h1 := h.bx
 have h2 := h.byy
 refine q0h (fn := q5Q) rfl (q0c ?_)
 refine gg rfl (q01 rfl rfl (qnD s.x s.y (by omega) (by omega) (by omega) (by omega)) ?_)
 exact gg rfl (q08 rfl rfl rfl trivial rfl)
theorem qol (a b : Spot) [MidS a] [MidS b] : PU q4Z [a.enc, b.enc] = some (q27 a b).enc := by
 have w1 : IntKind.i64.wrap (a.x + b.x) = a.x + b.x := q0K (by decide)
 have w2 : IntKind.i64.wrap (a.y + b.y) = a.y + b.y := q0K (by decide)
 refine q0h (fn := q7e) rfl (q0c ?_)
 refine gg rfl (q08 rfl rfl rfl trivial ?_)
 rw [w1, w2]; rfl
theorem q4E (s : Spot) (m : Int) (h0 : 0 ≤ m) (h1 : m ≤ 1099511627776) : PU q5p [s.enc, .int .i64 m] = some (.bool (q0v s m)) := by
 have w : IntKind.i64.wrap (0 - m) = -m := by rw [wrap64 (by omega) (by omega)]; omega
 refine q0h (fn := q5e) rfl (q0c ?_)
 refine gg rfl ?_
 rw [w]
 repeat' (first
  | refine goP 800 rfl rfl ?_
  | refine q0e rfl ?_ | refine q0j rfl ?_ | refine q05 rfl (fun _ => ?_) (fun _ => ?_)
  | refine q0g rfl ?_ | refine q0m rfl ?_ | refine q02 rfl (fun _ => ?_) (fun _ => ?_)
  | refine q0G rfl (fun _ => ?_) (fun _ => ?_)
  | refine q08 rfl rfl rfl trivial ?_)
 all_goals simp only [w] at *
 all_goals ((try simp only [q1H, q1I, q2i, q3Q, decide_eq_true_eq, decide_eq_false_iff_not, Bool.not_eq_true, Bool.not_eq_false, Int.not_lt, Int.not_le] at *); first | (simp_all [q0v]; done) | (simp_all [q0v]; omega) | (rw [D.bool.injEq, Bool.eq_iff_iff]; simp [q0v]; omega) | (rw [D.bool.injEq, Bool.eq_iff_iff]; simp_all [q0v]; omega) | (simp [q0v]; split <;> (try split) <;> omega))
structure Seg where
 fr : Spot
 to : Spot
 w : Int
def Seg.enc (s : Seg) : D := .agg [.int .i64 s.fr.x, .int .i64 s.fr.y, .int .i64 s.to.x, .int .i64 s.to.y, .int .i64 s.w]
class SegOk (s : Seg) : Prop where
 fr : MidS s.fr
 to : MidS s.to
 w0 : 0 ≤ s.w
 w1 : s.w ≤ 500
instance {s : Seg} [h : SegOk s] : MidS s.fr := h.fr
instance {s : Seg} [h : SegOk s] : MidS s.to := h.to
def q35 (v : Spot) (a b : Seg) : List Spot :=
 match q8L (qp a.fr) (qp a.to) (qp b.fr) (qp b.to) with
 | none => [a.to, b.fr]
 | some m =>
   if (q4k (q1d m (qp v))).2 = 0 ∧ q0v (q4k (q1d m (qp v))).1 (4 * max a.w b.w + 4) = true then [q27 v (q4k (q1d m (qp v))).1] else [a.to, b.fr]
theorem qs8 (p : QP) : MidS (q4k p).1 := by
 unfold q4k
 split
 ·rename_i h
  rw [Bool.and_eq_true, q4l, q4l] at h
  exact ⟨by simp only; omega, by simp only; omega⟩
 exact ⟨by simp, by simp⟩
theorem q5J {l : List Spot} {n : Nat} (hn : n = l.length) : 0 + n ≤ (l.map Spot.enc).length ∧ (((l.map Spot.enc).drop 0).take n).all (dat 4) = true := by
 subst hn
 refine ⟨by simp, ?_⟩
 rw [List.drop_zero, List.take_of_length_le (by simp)]
 exact q1t q3E _
set_option maxHeartbeats 1000000 in
theorem qqx (v : Spot) (a b : Seg) [hv : MidS v] [ha : SegOk a] [hb : SegOk b] : PU q8A [v.enc, a.enc, b.enc] = some (q0o (q35 v a b)) := by
 have hm := qka (RP.of (qp a.fr)) (RP.of (qp a.to)) (RP.of (qp b.fr)) (RP.of (qp b.to)) (by decide)
 rw [RP.of_v, RP.of_v, RP.of_v, RP.of_v] at hm
 have a0 := ha.w0
 have a1 := ha.w1
 have b0 := hb.w0
 have b1 := hb.w1
 refine q0h (fn := q5d) rfl (q0c ?_)
 refine gg rfl (q01 rfl rfl (qbL a.fr) (gg rfl (q01 rfl rfl (qbL a.to) (gg rfl (q01 rfl rfl (qbL b.fr) (gg rfl (q01 rfl rfl (qbL b.to) (gg rfl ?_))))))))
 cases hq : q8L (qp a.fr) (qp a.to) (qp b.fr) (qp b.to) with
 | none =>
   rw [hq] at hm
   refine q01 rfl rfl hm (gg rfl (q02 rfl (fun g => ?_) (fun g => ?_)))
   ·rw [q12] at g; cases g
   refine gg rfl (q08 rfl rfl rfl ⟨q5J (l := [a.to, b.fr]) rfl, trivial⟩ ?_)
   rw [q35, hq]; rfl
 | some m =>
   rw [hq] at hm
   have hqm : QPB m 50 := by
    unfold q8L at hq
    split at hq
    ·cases hq
    cases hq; exact inferInstance
   have hsub := q6b (RP.of m) (RP.of (qp v)) (by decide) (by decide)
   rw [RP.of_v, RP.of_v] at hsub
   have hgr := qup (RP.of (q1d m (qp v))) (by decide)
   rw [RP.of_v] at hgr
   have hgm := qs8 (q1d m (qp v))
   have hc : q35 v a b = if (q4k (q1d m (qp v))).2 = 0 ∧ q0v (q4k (q1d m (qp v))).1 (4 * max a.w b.w + 4) = true then [q27 v (q4k (q1d m (qp v))).1] else [a.to, b.fr] := by
    rw [q35, hq]
   rw [hc]
   generalize q4k (q1d m (qp v)) = gd at *
   have w1 := ww (x := 4 * max a.w b.w)
   have w2 := ww (x := 4 * max a.w b.w + 4)
   refine q01 rfl rfl hm (gg rfl (q02 rfl (fun _ => ?_) (fun g => absurd rfl (q1a.1 g))))
   refine gg rfl (q01 rfl rfl (qbL v) (gg rfl (q01 rfl rfl hsub (gg rfl (q01 rfl rfl hgr (gg rfl (q05 rfl (fun g1 => ?_) (fun g1 => ?_))))))))
   ·rw [q12] at g1
    refine gg rfl ?_
    rw [w1, w2]
    refine q01 rfl rfl (q4E gd.1 (4 * max a.w b.w + 4) (by omega) (by omega)) ?_
    refine gg rfl (q02 rfl (fun g2 => ?_) (fun g2 => ?_))
    ·refine gg rfl (q01 rfl rfl (qol v gd.1) (gg rfl (q08 rfl rfl rfl ⟨q5J (l := [q27 v gd.1]) rfl, trivial⟩ ?_)))
     rw [if_pos ⟨g1, g2⟩]; rfl
    refine gg rfl (q08 rfl rfl rfl ⟨q5J (l := [a.to, b.fr]) rfl, trivial⟩ ?_)
    rw [if_neg (fun h => by rw [h.2] at g2; cases g2)]; rfl
   rw [q1a] at g1
   refine gg rfl (q0m rfl (gg rfl (q08 rfl rfl rfl ⟨q5J (l := [a.to, b.fr]) rfl, trivial⟩ ?_)))
   rw [if_neg (fun h => g1 h.1)]; rfl
end Go.F

namespace Go.F
attribute [local irreducible] IntKind.wrap wpM
section
variable {T : Tab} {sh : Shr} {nx0 : Nat} {s : List Fr} {t : q0u} {h : q0f} {z : Frz} {nx : Nat} {q : Ex → q0u → q0f → Frz → Nat → Prop}
variable {base i : Nat} {res : List Nat} {g : Gd} {rest : List KOper}
theorem q6O {α : Type} {enc : α → D} {hint ag : Bool} {n : Nat} {a : X} {dst : Nat} {id k' esz : Nat} (L : List α) (k : Nat) (d : α) (ha : a.ev t = .ptr id k' 0) (hkk : k' = k) (hp : ∀ w : α, ql4 ag n (enc w) 0 = some (enc w)) (hr : g.h base h id = some (.row (L.map enc) esz)) (hd : L[k]? = some d)
 (hk : wpM T sh nx0 (.ops base res rest :: s) .normal (upd t dst (enc d)) h z nx q) :
 wpM T sh nx0 (.ops base res (⟨i, some dst, none, g, .load hint ag n a⟩ :: rest) :: s) .normal t h z nx q := by
 subst hkk
 exact qqt ha hr (e := enc d) (by rw [List.getElem?_map, hd]; rfl) (hp d) hk
end
def q3j (v sh : List Spot) (each : List Int) (i : Nat) : Seg := ⟨q27 (pt v i) (pt sh i), q27 (pt v ((i + 1) % v.length)) (pt sh i), wd each i⟩
def q3D (v sh : List Spot) (each : List Int) (i : Nat) : List Spot := q35 (pt v i) (q3j v sh each ((i + v.length - 1) % v.length)) (q3j v sh each i)
def q0R (v sh : List Spot) (each : List Int) : Nat → List Spot
 | 0 => []
 | k + 1 => q0R v sh each k ++ q3D v sh each k
def q7B (l : List Spot) : Spot := pt l (l.length - 1)
def q1k (out : List Spot) (p : Spot) : List Spot := if out.length = 0 ∨ q7B out ≠ p then out ++ [p] else out
def q2x (l : List Spot) : List Spot := l.foldl q1k []
def q42 (R : List Spot) : Nat → Nat
 | 0 => 0
 | j + 1 => if 1 ≤ j ∧ pt R j = pt R 0 then q42 R j else j + 1
def q9V (v sh : List Spot) (each : List Int) : List Spot := (q2x (q0R v sh each v.length)).take (q42 (q2x (q0R v sh each v.length)) (q2x (q0R v sh each v.length)).length)
def qan (v q : List Spot) : List Spot × Int :=
 if q.any (fun s => !q0v s 1048576) then ([], 3)
 else if q2y q = 0 then if sgn (q1s q) = sgn (q1s v) then (q, 0) else ([], 11)
 else ([], q2y q)
def q2F (l : List Edge) (ws : List Int) : List Spot × Int :=
 if (q14 l ws).2 = 0 then qan (q0s l) (q9V (q0s l) (q14 l ws).1 (q1G l ws l.length)) else ([], (q14 l ws).2)
theorem q5y (s : Seg) : plain 4 s.enc = true := rfl
theorem q8W (v : Spot) (a b : Seg) : (q35 v a b).length ≤ 2 := by
 unfold q35
 split
 ·simp
 split <;> simp
theorem qjS (v sh : List Spot) (each : List Int) (k : Nat) : (q0R v sh each k).length ≤ 2 * k := by
 induction k with
 | zero => simp [q0R]
 | succ k ih =>
   have := q8W (pt v k) (q3j v sh each ((k + v.length - 1) % v.length)) (q3j v sh each k)
   rw [q0R, List.length_append, q3D]; omega
theorem qqy (out : List Spot) (p : Spot) : (q1k out p).length ≤ out.length + 1 := by
 unfold q1k; split <;> simp
theorem qdl (l : List Spot) : ∀ out : List Spot, (l.foldl q1k out).length ≤ out.length + l.length := by
 induction l with
 | nil => intro out; simp
 | cons p l ih => intro out; have := ih (q1k out p); have := qqy out p; simp only [List.foldl_cons, List.length_cons]; omega
theorem qii {l : List Edge} {ws : List Int} (h : (q14 l ws).2 = 0) : q0Q l = 0 ∧ ws.length = l.length ∧ (∀ x ∈ ws, 0 ≤ x ∧ x ≤ 500) ∧ (q14 l ws).1 = q4S (q0s l) (q1G l ws l.length) (sgn (q1s (q0s l))) := by
 unfold q14 at h ⊢
 split at h
 ·rename_i h1
  split at h
  ·rename_i h2
   split at h
   ·cases h
   rename_i h3
   refine ⟨h1, h2, fun x hx => qeR ?_, by rw [if_pos h1, if_pos h2, if_neg h3]⟩
   cases hb : q2t x with
   | false => rfl
   | true => exact absurd (List.any_eq_true.2 ⟨x, hx, hb⟩) h3
  cases h
 rename_i h1; exact absurd h h1
theorem qpL {l : List Edge} {ws : List Int} (hl : l.length ≤ ws.length) (hg : ∀ x ∈ ws, 0 ≤ x ∧ x ≤ 500) (i : Nat) : 0 ≤ wd (q1G l ws l.length) i ∧ wd (q1G l ws l.length) i ≤ 500 := by
 by_cases hi : i < (q1G l ws l.length).length
 ·have : wd (q1G l ws l.length) i = (q1G l ws l.length)[i] := by simp [wd, hi]
  rw [this]; exact hg _ (qmD l ws l.length hl _ (List.getElem_mem _))
 have : wd (q1G l ws l.length) i = 0 := by simp [wd, List.getElem?_eq_none (Nat.le_of_not_lt hi)]
 rw [this]; decide
theorem qe3 {v : List Spot} [OkP v] {each : List Int} {sg : Int} (hs : -1 ≤ sg ∧ sg ≤ 1) (hw : ∀ i, 0 ≤ wd each i ∧ wd each i ≤ 500) (hsim : q3X v) (h2 : 2 ≤ v.length) {i : Nat} (hi : i < v.length) :
 (q3n v each sg i).x.natAbs ≤ 4294967296 ∧ (q3n v each sg i).y.natAbs ≤ 4294967296 := by
 have hne := qg1 hsim h2 hi
 have hsq := qok (pt v i) (pt v ((i + 1) % v.length))
 have hir := qeQ (n := sqd (pt v i) (pt v ((i + 1) % v.length))) (by omega) (qdk hne)
 have hw := hw i
 have bw : Bd (wd each i) 500 := ⟨by omega⟩
 have bs : Bd sg 1 := ⟨by omega⟩
 have b1 : Bd (sg * wd each i * ((pt v ((i + 1) % v.length)).y - (pt v i).y)) _ := inferInstance
 have b2 : Bd (-(sg * wd each i) * ((pt v ((i + 1) % v.length)).x - (pt v i).x)) _ := inferInstance
 have l1 := b1.le
 have l2 := b2.le
 have r1 := q8V (b := (isq (sqd (pt v i) (pt v ((i + 1) % v.length))) : Int)) (m := 4294967296) (by omega) (show -((4294967296 : Nat) : Int) ≤ sg * wd each i * ((pt v ((i + 1) % v.length)).y - (pt v i).y) by omega) (by omega)
 have r2 := q8V (b := (isq (sqd (pt v i) (pt v ((i + 1) % v.length))) : Int)) (m := 4294967296) (by omega) (show -((4294967296 : Nat) : Int) ≤ -(sg * wd each i) * ((pt v ((i + 1) % v.length)).x - (pt v i).x) by omega) (by omega)
 exact ⟨by show (q1q _ _).natAbs ≤ _; omega, by show (q1q _ _).natAbs ≤ _; omega⟩
theorem qlm {f : Nat → Spot} {n i : Nat} (h : i < n) : pt ((List.range n).map f) i = f i := by
 rw [q11 (by simpa using h)]; simp
theorem qij {c : List Spot} {j : Nat} (h : j < c.length) (out : List Spot) : (c.take (j + 1)).foldl q1k out = q1k ((c.take j).foldl q1k out) (pt c j) := by
 rw [List.take_succ_eq_append_getElem h, List.foldl_append, q11 h]; rfl
set_option maxHeartbeats 8000000 in
theorem qmE (l : List Edge) (ws : List Int) :
 PU q5Z [edges l, ints ws] = some (qll (q2F l ws)) := by
 have hpoly := q8t l
 refine q0h (fn := q5M) rfl (q0c ?_)
 refine gg rfl (q01 rfl rfl (qqw l ws) (gg rfl (q02 rfl (fun g => ?_) (fun g => ?_))))
 ·rw [q0z] at g
  refine gg rfl (q08 rfl rfl rfl trivial ?_)
  rw [q2F, if_neg g]; rfl
 rw [q0A] at g
 rw [q2F, if_pos g]
 obtain ⟨hc, hwl, hgood, hs1⟩ := qii g
 obtain ⟨h2, h16, _, _, hchk⟩ := q1w hc
 obtain ⟨v3, v40, vok, vin, vs⟩ := q2v hchk
 have hl1 : ∀ e ∈ l, 1 ≤ e.line.length ∧ e.line.length ≤ 100000 := fun e he => by have := q20 hc e he; omega
 rw [qcw, if_pos hc] at hpoly
 have hseg := qbJ l ws l.length (Nat.le_refl _)
 rw [List.take_length] at hseg
 have heb := qpL (l := l) (by omega) hgood
 have hsw := q9U l ws (by omega) hl1 (by omega) (by omega)
 have hsb : -1 ≤ sgn (q1s (q0s l)) ∧ sgn (q1s (q0s l)) ≤ 1 := by have := (qoA (q1s (q0s l))).le; omega
 have hsl : (q14 l ws).1.length = (q0s l).length := by rw [hs1]; simp [q4S]
 have hsb' : ∀ i, i < (q0s l).length → (pt (q14 l ws).1 i).x.natAbs ≤ 4294967296 ∧ (pt (q14 l ws).1 i).y.natAbs ≤ 4294967296 := by
  intro i hi
  rw [hs1, q4S, qlm hi]
  exact qe3 hsb heb vs (by omega) hi
 have hsm : ∀ i, i < (q0s l).length → MidS (pt (q14 l ws).1 i) := by
  intro i hi
  rw [hs1, q4S, qlm hi]
  have := qe3 hsb heb vs (by omega) hi
  exact ⟨by omega, by omega⟩
 generalize (q14 l ws).1 = sh at *
 generalize (q14 l ws).2 = e0 at *
 subst g
 refine gg rfl (q01 rfl rfl hpoly (gg rfl (q02 rfl (fun g => absurd rfl (q0z.1 g)) (fun _ => ?_))))
 refine gg rfl (q01 rfl rfl hsw (gg rfl ?_))
 generalize q1G l ws l.length = each at *
 generalize q0s l = v at *
 have hok : ∀ i, i < v.length → SegOk (q3j v sh each i) := by
  intro i hi
  have hb := hsb' i hi
  have x1 := (qqI (p := v) (i := i)).bx
  have x2 := (qqI (p := v) (i := i)).byy
  have x3 := (qqI (p := v) (i := (i + 1) % v.length)).bx
  have x4 := (qqI (p := v) (i := (i + 1) % v.length)).byy
  refine ⟨⟨?_, ?_⟩, ⟨?_, ?_⟩, (heb i).1, (heb i).2⟩ <;> simp only [q3j, q27] <;> omega
 rw [List.length_map]
 refine q4H v.length rfl rfl rfl (by simp [q0U]; omega) ?_
 have ez : List.replicate v.length (D.agg [D.int IntKind.i64 0, D.int IntKind.i64 0, D.int IntKind.i64 0, D.int IntKind.i64 0, D.int IntKind.i64 0]) = (q5I ⟨⟨0, 0⟩, ⟨0, 0⟩, 0⟩ v.length (q3j v sh each) 0).map Seg.enc := by
  rw [qg0]; simp [Seg.enc]
 rw [ez]
 refine gg rfl (q0q (S := fun k : Nat => ([q0o v, ints each, q00 v.length, .ref 3 0 v.length, q0o sh, q00 v.length, q00 k], [none, none, none, some (.row ((q5I ⟨⟨0, 0⟩, ⟨0, 0⟩, 0⟩ v.length (q3j v sh each) k).map Seg.enc) 5), none, none, none], [0, 0, 0, 0, 0, 0, 0])) (C := fun k => k ≤ v.length) (m := fun k => v.length - k) 0 (Nat.zero_le _) (by omega) ?_ ?_)
 ·exact q03 rfl ⟨q0b q5y _, trivial⟩ (by simp [q0o, ints, q00, hsl])
 intro k hk N hN
 refine gg rfl (q02 rfl (fun g2 => ?_) (fun g2 => ?_))
 ·rw [q06] at g2
  have hlt : k < v.length := by omega
  have w1 := wS (n := k)
  have hset := qig ⟨⟨0, 0⟩, ⟨0, 0⟩, 0⟩ (q3j v sh each) hlt
  have hms := hsm k hlt
  refine gg rfl (q0k k rfl rfl rfl (q0T (by omega)) rfl ?_)
  refine gg rfl (q0k k rfl rfl rfl (q0T hlt) rfl (gg rfl (q01 rfl rfl (qol (pt v k) (pt sh k)) (gg rfl (q4R rfl rfl (by omega) ?_)))))
  refine gg rfl (q0k ((k + 1) % v.length) rfl rfl (by rw [w1, q1K]) (q0T (Nat.mod_lt _ (by omega))) rfl ?_)
  refine gg rfl (q01 rfl rfl (qol (pt v ((k + 1) % v.length)) (pt sh k)) (gg rfl (q0k k rfl rfl rfl (qie (by omega)) rfl ?_)))
  refine gg rfl (q0J k rfl rfl rfl rfl rfl hlt (gg rfl (qih (enc := Seg.enc) (q5I ⟨⟨0, 0⟩, ⟨0, 0⟩, 0⟩ v.length (q3j v sh each) k) k (q3j v sh each k) rfl rfl (Nat.zero_add _) rfl (fun _ => rfl) rfl (Nat.zero_le _) (by rw [qbK]; exact hlt) ?_)))
  rw [hset]
  exact gg rfl (q04 (hN (k + 1) hlt (by omega) (q03 rfl ⟨q0b q5y _, trivial⟩ (by simp [q0o, ints, q00, w1]))))
 rw [q07] at g2
 obtain rfl : k = v.length := by omega
 clear hN
 refine gg rfl (q04 (gg rfl ?_))
 rw [qdj]
 have hsgs : ∀ i, i < v.length → ((List.range v.length).map (q3j v sh each))[i]? = some (q3j v sh each i) := by
  intro i hi; simp [hi]
 have hseglen : ((List.range v.length).map (q3j v sh each)).length = v.length := by simp
 generalize hsg : (List.range v.length).map (q3j v sh each) = segs at *
 have hPlen : ∀ k, ((q0R v sh each k).foldl q1k []).length ≤ 2 * k := fun k => by
  have := qdl (q0R v sh each k) []
  have := qjS v sh each k
  simp at *; omega
 refine q0q (S := fun k : Nat => ([q0o v, q00 v.length, .ref 2 0 v.length, .ref 3 0 ((q0R v sh each k).foldl q1k []).length, q0o v, q00 v.length, q00 k], [none, none, some (.row (segs.map Seg.enc) 5), some (.row (((q0R v sh each k).foldl q1k []).map Spot.enc) 2), none, none, none], [0, 0, 0, 0, 0, 0, 0])) (C := fun k => k ≤ v.length) (m := fun k => v.length - k) 0 (Nat.zero_le _) (by omega) ?_ ?_
 ·exact q03 rfl ⟨q0b q5y _, rfl, trivial⟩ (by simp [q0o, q00, q0R])
 intro k hk N hN
 refine gg rfl (q02 rfl (fun g3 => ?_) (fun g3 => ?_))
 ·rw [q06] at g3
  have hlt : k < v.length := by omega
  have w1 := wS (n := k)
  have w2 : IntKind.i64.wrap (IntKind.i64.wrap ((k : Int) + v.length) - 1) = ((k + v.length - 1 : Nat) : Int) := by rw [wrap64 (x := (k : Int) + v.length) (by omega) (by omega), wrap64 (by omega) (by omega)]; omega
  have hm : (k + v.length - 1) % v.length < v.length := Nat.mod_lt _ (by omega)
  have ok1 := hok _ hm
  have ok2 := hok k hlt
  have hk1 := hPlen (k + 1)
  refine gg rfl (q0k k rfl rfl rfl (q0T hlt) rfl (gg rfl (q4R rfl rfl (by omega) ?_)))
  refine gg rfl (q0J ((k + v.length - 1) % v.length) rfl rfl rfl rfl (by rw [w2, q1K]) hm ?_)
  refine gg rfl (q6O (enc := Seg.enc) segs ((k + v.length - 1) % v.length) (q3j v sh each ((k + v.length - 1) % v.length)) rfl (Nat.zero_add _) (fun _ => rfl) rfl (hsgs _ hm) (gg rfl (q0J k rfl rfl rfl rfl rfl hlt (gg rfl (q6O (enc := Seg.enc) segs k (q3j v sh each k) rfl (Nat.zero_add _) (fun _ => rfl) rfl (hsgs _ hlt) (gg rfl (q01 rfl rfl (qqx (pt v k) (q3j v sh each ((k + v.length - 1) % v.length)) (q3j v sh each k)) (gg rfl ?_))))))))
  have hcl : (q3D v sh each k).length ≤ 2 := q8W _ _ _
  have hct : q0R v sh each (k + 1) = q0R v sh each k ++ q3D v sh each k := rfl
  have hPk := hPlen k
  change wpM _ _ _ _ _ (upd _ 100 _) _ _ _ _
  have hcd : q35 (pt v k) (q3j v sh each ((k + v.length - 1) % v.length)) (q3j v sh each k) = q3D v sh each k := rfl
  rw [hcd]
  generalize q3D v sh each k = c at *
  generalize hP : (q0R v sh each k).foldl q1k [] = P at *
  have hfl : ∀ j, ((c.take j).foldl q1k P).length ≤ P.length + 2 := fun j => by
   have := qdl (c.take j) P
   simp at *; omega
  refine q0q (S := fun j : Nat => ([q0o v, q00 v.length, .ref 2 0 v.length, .ref 3 0 ((c.take j).foldl q1k P).length, q0o v, q00 v.length, q00 k, q0o c, q00 c.length, q00 j], [none, none, some (.row (segs.map Seg.enc) 5), some (.row (((c.take j).foldl q1k P).map Spot.enc) 2), none, none, none, none, none, none], [0, 0, 0, 0, 0, 0, 0, 0, 0, 0])) (C := fun j => j ≤ c.length) (m := fun j => c.length - j) 0 (Nat.zero_le _) (by omega) ?_ ?_
  ·exact q03 rfl ⟨q0b q5y _, q0b q0S _, trivial⟩ (by simp [q0o, q00])
  intro j hj N2 hN2
  refine gg rfl (q02 rfl (fun g4 => ?_) (fun g4 => ?_))
  ·rw [q06] at g4
   have hjl : j < c.length := by omega
   have wj := wS (n := j)
   have hstep := qij hjl P
   have hfj := hfl j
   generalize hO : (c.take j).foldl q1k P = O at *
   have next : ∀ {t : q0u} {h : q0f} {z : Frz} {nx : Nat}, (q0Z 0 [(8, 0), (10, 0), (11, 0), (14, 2), (77, 0), (78, 0), (79, 0), (98, 0), (99, 0), (100, 0)] t h z nx fun _ _ kp => kp = ([q0o v, q00 v.length, .ref 2 0 v.length, .ref 3 0 (q1k O (pt c j)).length, q0o v, q00 v.length, q00 k, q0o c, q00 c.length, q00 ((j + 1 : Nat) : Int)], [none, none, some (.row (segs.map Seg.enc) 5), some (.row ((q1k O (pt c j)).map Spot.enc) 2), none, none, none, none, none, none], [0, 0, 0, 0, 0, 0, 0, 0, 0, 0])) → N2 t h z nx := by
    intro t h z nx hst
    refine hN2 (j + 1) hjl (by omega) ?_
    rw [hstep]; exact hst
   clear hN2
   have wl : O.length ≠ 0 → IntKind.i64.wrap ((O.length : Int) - 1) = ((O.length - 1 : Nat) : Int) := fun h => by rw [wrap64 (by omega) (by omega)]; omega
   refine gg rfl (q0k j rfl rfl rfl (q0T hjl) rfl (gg rfl (q05 rfl (fun e1 => ?_) (fun e1 => ?_))))
   ·rw [q12] at e1
    have hO0 : O.length = 0 := by omega
    have hpush : q1k O (pt c j) = O ++ [pt c j] := by rw [q1k, if_pos (.inl hO0)]
    refine gg rfl (q0g rfl (gg rfl (q1E rfl rfl rfl rfl rfl rfl (by simp) (Nat.zero_le _) (by simp [q0U]; omega) ?_)))
    refine gg rfl (q04 (next (q03 rfl ⟨q0b q5y _, ?_, trivial⟩ ?_)))
    ·rw [List.all_append, q0b q0S]; rfl
    rw [hpush]; simp [q0o, q00, wj, Spot.enc]
   rw [q1a] at e1
   have hO0 : O.length ≠ 0 := by omega
   have hlast : O[O.length - 1]? = some (q7B O) := by rw [q7B, q11 (by omega)]; exact List.getElem?_eq_getElem (by omega)
   refine gg rfl (q0J (O.length - 1) rfl rfl rfl rfl (wl hO0) (by omega) ?_)
   refine gg rfl (q6O (enc := Spot.enc) O (O.length - 1) (q7B O) rfl (Nat.zero_add _) (fun _ => rfl) rfl hlast (gg rfl (q02 rfl (fun e2 => ?_) (fun e2 => ?_))))
   ·rw [q1o] at e2
    have hne : q7B O ≠ pt c j := by simpa using e2
    have hpush : q1k O (pt c j) = O ++ [pt c j] := by rw [q1k, if_pos (.inr hne)]
    refine gg rfl (q1E rfl rfl rfl rfl rfl rfl (by simp) (Nat.zero_le _) (by simp [q0U]; omega) ?_)
    refine gg rfl (q04 (next (q03 rfl ⟨q0b q5y _, ?_, trivial⟩ ?_)))
    ·rw [List.all_append, q0b q0S]; rfl
    rw [hpush]; simp [q0o, q00, wj, Spot.enc]
   rw [q1o] at e2
   have heq : q7B O = pt c j := by simpa using e2
   have hpush : q1k O (pt c j) = O := by rw [q1k, if_neg (by intro h; rcases h with h | h; exact hO0 h; exact h heq)]
   exact gg rfl (q04 (next (q03 rfl ⟨q0b q5y _, q0b q0S _, trivial⟩ (by rw [hpush]; simp [q0o, q00, wj]))))
  rw [q07] at g4
  obtain rfl : j = c.length := by omega
  clear hN2
  refine gg rfl (q04 (gg rfl (q04 (hN (k + 1) hlt (by omega) (q03 rfl ⟨q0b q5y _, q0b q0S _, trivial⟩ ?_)))))
  simp [q0o, q00, w1, hct, hP]
 rw [q07] at g3
 obtain rfl : k = v.length := by omega
 clear hN
 have hR2 := hPlen v.length
 have hq : q9V v sh each = (q2x (q0R v sh each v.length)).take (q42 (q2x (q0R v sh each v.length)) (q2x (q0R v sh each v.length)).length) := rfl
 rw [hq]
 change ((q2x (q0R v sh each v.length))).length ≤ _ at hR2
 refine gg rfl (q04 (gg rfl ?_))
 have hon : (q0R v sh each v.length).foldl q1k [] = q2x (q0R v sh each v.length) := rfl
 rw [hon]
 clear hq hPlen hon
 generalize q2x (q0R v sh each v.length) = R at *
 refine q0q (S := fun j : Nat => ([q0o v, .ref 1 0 j], [none, some (.row (R.map Spot.enc) 2)], [0, 0])) (C := fun j => j ≤ R.length ∧ q42 R j = q42 R R.length) (m := fun j => j) R.length ⟨Nat.le_refl _, rfl⟩ (by omega) ?_ ?_
 ·exact q03 rfl ⟨q0b q0S _, trivial⟩ (by simp [q0o])
 rintro j ⟨hj, htr⟩ N hN
 have wl : j ≠ 0 → IntKind.i64.wrap ((j : Int) - 1) = ((j - 1 : Nat) : Int) := fun h => by rw [wrap64 (by omega) (by omega)]; omega
 have hstop : ¬ (2 ≤ j ∧ pt R (j - 1) = pt R 0) → q42 R R.length = j := by
  intro h
  rw [← htr]
  cases j with
  | zero => rfl
  | succ j => rw [q42, if_neg (fun h' => h ⟨by omega, by simpa using h'.2⟩)]
 refine gg rfl (q05 rfl (fun e1 => ?_) (fun e1 => ?_))
 ·rw [q0D] at e1
  have hj2 : 2 ≤ j := by omega
  refine gg rfl (q0J (j - 1) rfl rfl rfl rfl (wl (by omega)) (by omega) ?_)
  refine gg rfl (q6O (enc := Spot.enc) R (j - 1) (pt R (j - 1)) rfl (Nat.zero_add _) (fun _ => rfl) rfl (by rw [q11 (by omega)]; exact List.getElem?_eq_getElem (by omega)) ?_)
  refine gg rfl (q0J 0 rfl rfl rfl rfl rfl (by omega) ?_)
  refine gg rfl (q6O (enc := Spot.enc) R 0 (pt R 0) rfl rfl (fun _ => rfl) rfl (by rw [q11 (by omega)]; exact List.getElem?_eq_getElem (by omega)) ?_)
  refine gg rfl (q02 rfl (fun e2 => ?_) (fun e2 => ?_))
  ·rw [q1o] at e2
   have heq : pt R (j - 1) = pt R 0 := by simpa using e2
   refine gg rfl (qmC (j - 1) rfl rfl rfl ⟨_, _, rfl, wl (by omega)⟩ (by omega) ?_)
   refine gg rfl (q04 (hN (j - 1) ⟨by omega, ?_⟩ (by omega) (q03 rfl ⟨q0b q0S _, trivial⟩ (by simp [q0o]))))
   rw [← htr]
   obtain ⟨i, rfl⟩ : ∃ i, j = i + 1 := ⟨j - 1, by omega⟩
   rw [q42, if_pos ⟨by omega, by simpa using heq⟩]; rfl
  rw [q1o] at e2
  have hne : ¬ (2 ≤ j ∧ pt R (j - 1) = pt R 0) := fun h => by rw [h.2] at e2; simp at e2
  rw [hstop hne]
  clear hN
  refine gg rfl (q04 (gg rfl ?_))
  have hrow : D.lst ((R.map Spot.enc).take j) = q0o (R.take j) := by rw [q0o, List.map_take]
  have hdat : 0 + j ≤ (R.map Spot.enc).length ∧ (((R.map Spot.enc).drop 0).take j).all (dat 4) = true := by
   refine ⟨by simp; omega, ?_⟩
   rw [List.drop_zero, ← List.map_take]; exact q1t q3E _
  have hql : (R.take j).length = j := by simp; omega
  refine q0q (S := fun k : Nat => ([q0o v, .ref 1 0 j, .ref 1 0 j, q00 j, q00 k], [none, some (.row (R.map Spot.enc) 2), none, none, none], [0, 0, 0, 0, 0])) (C := fun k => k ≤ j ∧ ∀ i, i < k → q0v (pt R i) 1048576 = true) (m := fun k => j - k) 0 ⟨Nat.zero_le _, fun i hi => by omega⟩ (by omega) ?_ ?_
  ·exact q03 rfl ⟨q0b q0S _, q0b q0S _, trivial⟩ (by simp [q0o, q00])
  rintro k ⟨hk, hin⟩ N hN
  refine gg rfl (q02 rfl (fun f1 => ?_) (fun f1 => ?_))
  ·rw [q06] at f1
   have hlt : k < j := by omega
   have w1 := wS (n := k)
   refine gg rfl (q0J k rfl rfl rfl rfl rfl hlt (gg rfl (q6O (enc := Spot.enc) R k (pt R k) rfl (Nat.zero_add _) (fun _ => rfl) rfl (by rw [q11 (by omega)]; exact List.getElem?_eq_getElem (by omega)) ?_)))
   refine gg rfl (q01 rfl rfl (q4E (pt R k) 1048576 (by decide) (by decide)) ?_)
   refine gg rfl (q02 rfl (fun f2 => ?_) (fun f2 => ?_))
   ·refine gg rfl (q04 (gg rfl (q08 rfl rfl rfl trivial ?_)))
    have : (R.take j).any (fun s => !q0v s 1048576) = true := by
     refine List.any_eq_true.2 ⟨pt R k, ?_, f2⟩
     rw [q11 (by omega)]
     exact List.mem_iff_getElem.2 ⟨k, by omega, by simp⟩
    rw [qan, if_pos this]; rfl
   refine gg rfl (q04 (hN (k + 1) ⟨hlt, fun i hi => ?_⟩ (by omega) (q03 rfl ⟨q0b q0S _, q0b q0S _, trivial⟩ (by simp [q0o, q00, w1]))))
   by_cases hik : i < k
   ·exact hin i hik
   obtain rfl : i = k := by omega
   simpa using f2
  rw [q07] at f1
  clear hN
  have hany : (R.take j).any (fun s => !q0v s 1048576) = false := by
   rw [List.any_eq_false]
   intro s hs
   obtain ⟨i, hi, rfl⟩ := List.getElem_of_mem hs
   have := hin i (by omega)
   rw [q11 (by omega)] at this
   simp [this]
  rw [qan, if_neg (by rw [hany]; decide)]
  refine gg rfl (q04 (gg rfl (q58 rfl rfl ⟨hdat, trivial⟩ (by rw [hrow]; exact q4r (R.take j)) rfl ?_)))
  refine gg rfl (q02 rfl (fun f3 => ?_) (fun f3 => ?_))
  ·rw [q0z] at f3
   refine gg rfl (q08 rfl rfl rfl trivial ?_)
   rw [if_neg f3]; rfl
  rw [q0A] at f3
  rw [if_pos f3]
  refine gg rfl (q58 rfl rfl ⟨hdat, trivial⟩ (by rw [hrow]; exact q41 (R.take j)) rfl ?_)
  refine gg rfl (q01 rfl rfl (q41 v) (gg rfl (q02 rfl (fun f4 => ?_) (fun f4 => ?_))))
  ·rw [q0z] at f4
   refine gg rfl (q08 rfl rfl rfl trivial ?_)
   rw [if_neg f4]; rfl
  rw [q0A] at f4
  rw [if_pos f4]
  refine gg rfl (q08 rfl rfl rfl ⟨hdat, trivial⟩ ?_)
  rw [hrow]; rfl
 rw [q0E] at e1
 have hne : ¬ (2 ≤ j ∧ pt R (j - 1) = pt R 0) := fun h => by omega
 rw [hstop hne]
 clear hN
 refine gg rfl (q0m rfl (gg rfl (q04 (gg rfl ?_))))
 have hrow : D.lst ((R.map Spot.enc).take j) = q0o (R.take j) := by rw [q0o, List.map_take]
 have hdat : 0 + j ≤ (R.map Spot.enc).length ∧ (((R.map Spot.enc).drop 0).take j).all (dat 4) = true := by
  refine ⟨by simp; omega, ?_⟩
  rw [List.drop_zero, ← List.map_take]; exact q1t q3E _
 have hql : (R.take j).length = j := by simp; omega
 refine q0q (S := fun k : Nat => ([q0o v, .ref 1 0 j, .ref 1 0 j, q00 j, q00 k], [none, some (.row (R.map Spot.enc) 2), none, none, none], [0, 0, 0, 0, 0])) (C := fun k => k ≤ j ∧ ∀ i, i < k → q0v (pt R i) 1048576 = true) (m := fun k => j - k) 0 ⟨Nat.zero_le _, fun i hi => by omega⟩ (by omega) ?_ ?_
 ·exact q03 rfl ⟨q0b q0S _, q0b q0S _, trivial⟩ (by simp [q0o, q00])
 rintro k ⟨hk, hin⟩ N hN
 refine gg rfl (q02 rfl (fun f1 => ?_) (fun f1 => ?_))
 ·rw [q06] at f1
  have hlt : k < j := by omega
  have w1 := wS (n := k)
  refine gg rfl (q0J k rfl rfl rfl rfl rfl hlt (gg rfl (q6O (enc := Spot.enc) R k (pt R k) rfl (Nat.zero_add _) (fun _ => rfl) rfl (by rw [q11 (by omega)]; exact List.getElem?_eq_getElem (by omega)) ?_)))
  refine gg rfl (q01 rfl rfl (q4E (pt R k) 1048576 (by decide) (by decide)) ?_)
  refine gg rfl (q02 rfl (fun f2 => ?_) (fun f2 => ?_))
  ·refine gg rfl (q04 (gg rfl (q08 rfl rfl rfl trivial ?_)))
   have : (R.take j).any (fun s => !q0v s 1048576) = true := by
    refine List.any_eq_true.2 ⟨pt R k, ?_, f2⟩
    rw [q11 (by omega)]
    exact List.mem_iff_getElem.2 ⟨k, by omega, by simp⟩
   rw [qan, if_pos this]; rfl
  refine gg rfl (q04 (hN (k + 1) ⟨hlt, fun i hi => ?_⟩ (by omega) (q03 rfl ⟨q0b q0S _, q0b q0S _, trivial⟩ (by simp [q0o, q00, w1]))))
  by_cases hik : i < k
  ·exact hin i hik
  obtain rfl : i = k := by omega
  simpa using f2
 rw [q07] at f1
 clear hN
 have hany : (R.take j).any (fun s => !q0v s 1048576) = false := by
  rw [List.any_eq_false]
  intro s hs
  obtain ⟨i, hi, rfl⟩ := List.getElem_of_mem hs
  have := hin i (by omega)
  rw [q11 (by omega)] at this
  simp [this]
 rw [qan, if_neg (by rw [hany]; decide)]
 refine gg rfl (q04 (gg rfl (q58 rfl rfl ⟨hdat, trivial⟩ (by rw [hrow]; exact q4r (R.take j)) rfl ?_)))
 refine gg rfl (q02 rfl (fun f3 => ?_) (fun f3 => ?_))
 ·rw [q0z] at f3
  refine gg rfl (q08 rfl rfl rfl trivial ?_)
  rw [if_neg f3]; rfl
 rw [q0A] at f3
 rw [if_pos f3]
 refine gg rfl (q58 rfl rfl ⟨hdat, trivial⟩ (by rw [hrow]; exact q41 (R.take j)) rfl ?_)
 refine gg rfl (q01 rfl rfl (q41 v) (gg rfl (q02 rfl (fun f4 => ?_) (fun f4 => ?_))))
 ·rw [q0z] at f4
  refine gg rfl (q08 rfl rfl rfl trivial ?_)
  rw [if_neg f4]; rfl
 rw [q0A] at f4
 rw [if_pos f4]
 refine gg rfl (q08 rfl rfl rfl ⟨hdat, trivial⟩ ?_)
 rw [hrow]; rfl
end Go.F

namespace Go.F
attribute [local irreducible] IntKind.wrap wpM
section
variable {T : Tab} {sh : Shr} {nx0 : Nat} {s : List Fr} {t : q0u} {h : q0f} {z : Frz} {nx : Nat} {q : Ex → q0u → q0f → Frz → Nat → Prop}
variable {base i : Nat} {res : List Nat} {dst : Nat} {g : Gd} {rest : List KOper}
end
end Go.F

namespace Go.F
attribute [local irreducible] IntKind.wrap wpM
end Go.F

namespace Go.F
attribute [local irreducible] IntKind.wrap wpM
end Go.F

namespace Go.F
end Go.F

namespace Go.F
end Go.F

namespace Go.F
end Go.F

namespace Go.F
def crU (U : Nat → Int) (j : Nat) (z : Int) : Prop := (U j ≤ z ∧ z < U (j + 1)) ∨ (U (j + 1) ≤ z ∧ z < U j)
instance (U : Nat → Int) (j : Nat) (z : Int) : Decidable (crU U j z) := by unfold crU; exact inferInstance
def yU (U V : Nat → Int) (t : Nat → Rat) (j : Nat) (z : Int) : Rat := (V j : Rat) + t j * ((z : Rat) - (U j : Rat))
structure ClU (n : Nat) (U V : Nat → Int) (t : Nat → Rat) : Prop where
 cU : U n = U 0
 cV : V n = V 0
 ne : ∀ j, j < n → U j ≠ U (j + 1)
 yt : ∀ j, j < n → yU U V t j (U (j + 1)) = V (j + 1)
end Go.F

namespace Go.F
def inU (U : Nat → Int) (j : Nat) (z : Int) : Prop := (U j ≤ z ∧ z ≤ U (j + 1)) ∨ (U (j + 1) ≤ z ∧ z ≤ U j)
structure SmU (n : Nat) (U V : Nat → Int) (t : Nat → Rat) : Prop extends ClU n U V t where
 n3 : 3 ≤ n
 same : ∀ i j z, i < n → j < n → i ≠ j → crU U i z → crU U j z →
  (yU U V t i z ≤ yU U V t j z ∧ yU U V t i (z + 1) ≤ yU U V t j (z + 1) ∧ yU U V t i z + yU U V t i (z + 1) < yU U V t j z + yU U V t j (z + 1)) ∨
  (yU U V t j z ≤ yU U V t i z ∧ yU U V t j (z + 1) ≤ yU U V t i (z + 1) ∧ yU U V t j z + yU U V t j (z + 1) < yU U V t i z + yU U V t i (z + 1))
 tch : ∀ i j z, i < n → j < n → i ≠ j → inU U i z → inU U j z → yU U V t i z = yU U V t j z →
  ∃ m m', (m = i ∨ m = i + 1) ∧ (m' = j ∨ m' = j + 1) ∧ U m = z ∧ (m = m' ∨ (m = 0 ∧ m' = n) ∨ (m = n ∧ m' = 0))
def hU (U V : Nat → Int) (t : Nat → Rat) (j : Nat) (z : Int) : Rat := yU U V t j z + yU U V t j (z + 1)
end Go.F

namespace Go.F
end Go.F

namespace Go.F
end Go.F

namespace Go.F
end Go.F

namespace Go.F
end Go.F

namespace Go.F
def vx (p : List Spot) (i : Nat) : Spot := pt p (i % p.length)
end Go.F

namespace Go.F
theorem qi8 {p : List Spot} (h : q1Y p = 0) {j : Nat} (hj : j < p.length) : q0v (pt p j) 1048576 = true := by
 rw [q11 hj]; exact (q3M h).2.2 _ (List.getElem_mem _)
end Go.F

namespace Go.F
attribute [local irreducible] IntKind.wrap wpM
theorem q9c {x S : Nat} (hY : x / 2 ^ S < 256) (h0 : S ≠ 0 → x / 2 ^ S ≠ 0) : S + (q25 (x / 2 ^ S)).toNat = bl x := by
 obtain ⟨_, g2, g3, g4⟩ := q1W (x / 2 ^ S) hY
 have hx : x < (x / 2 ^ S + 1) * 2 ^ S := by
  have := Nat.div_add_mod x (2 ^ S)
  have h2 := Nat.mod_lt x (Nat.pow_pos (n := S) (show 0 < 2 by decide))
  rw [Nat.add_mul, Nat.mul_comm (x / 2 ^ S)]; omega
 by_cases hy0 : x / 2 ^ S = 0
 ·have hS : S = 0 := by
   rcases Nat.eq_zero_or_pos S with h | h
   ·exact h
   exact absurd hy0 (h0 (by omega))
  subst hS
  rw [Nat.pow_zero, Nat.div_one] at hy0
  subst hy0
  decide +kernel
 have hd : x / 2 ^ S * 2 ^ S ≤ x := Nat.div_mul_le_self _ _
 have g4 := g4 hy0
 generalize (q25 (x / 2 ^ S)).toNat = e at *
 generalize x / 2 ^ S = Y at *
 have h1 : x < 2 ^ (S + e) := by
  rw [Nat.pow_add]
  calc x < (Y + 1) * 2 ^ S := hx
   _ ≤ 2 ^ e * 2 ^ S := Nat.mul_le_mul_right _ g3
   _ = 2 ^ S * 2 ^ e := Nat.mul_comm _ _
 have h2 : 2 ^ (S + e) ≤ 2 * x := by
  rw [Nat.pow_add]
  calc 2 ^ S * 2 ^ e ≤ 2 ^ S * (2 * Y) := Nat.mul_le_mul_left _ g4
   _ = 2 * (Y * 2 ^ S) := by ac_rfl
   _ ≤ 2 * x := Nat.mul_le_mul_left _ hd
 have hx0 : x ≠ 0 := by rintro rfl; have := Nat.pow_pos (n := S + e) (show 0 < 2 by decide); omega
 unfold bl
 rw [if_neg hx0]
 have a1 := (Nat.log2_lt hx0).2 h1
 have a2 : S + e - 1 ≤ x.log2 := by
  rcases Nat.eq_zero_or_pos (S + e) with h | h
  ·omega
  refine (Nat.le_log2 hx0).2 ?_
  have : 2 ^ (S + e) = 2 * 2 ^ (S + e - 1) := by rw [← Nat.pow_succ']; congr 1; omega
  omega
 omega
set_option maxHeartbeats 4000000 in
theorem qny (x : Nat) (hx : x < 18446744073709551616) : PU qaV [.int .u64 x] = some (.int .i64 (bl x)) := by
 refine q0h (fn := qaG) rfl (q0c ?_)
 refine gg rfl (q02 rfl (fun g1 => ?_) (fun g1 => ?_))
 ·rw [q0D] at g1
  refine gg rfl (q0Y x 32 rfl rfl rfl rfl (by decide) ?_)
  refine gg rfl (q02 rfl (fun g2 => ?_) (fun g2 => ?_))
  ·rw [q0D] at g2
   refine gg rfl (q0Y ((x / 2 ^ 32)) 16 rfl rfl rfl rfl (by decide) ?_)
   refine gg rfl (q02 rfl (fun g3 => ?_) (fun g3 => ?_))
   ·rw [q0D] at g3
    refine gg rfl (q0Y (((x / 2 ^ 32) / 2 ^ 16)) 8 rfl rfl rfl rfl (by decide) ?_)
    have eY : (((x / 2 ^ 32) / 2 ^ 16) / 2 ^ 8) = x / 2 ^ 56 := by simp only [Nat.div_div_eq_div_mul]; try rfl
    have hy : x / 2 ^ 56 < 256 := by rw [← eY]; omega
    have hfin := q9c (x := x) (S := 56) hy (fun h => by rw [← eY]; omega)
    rw [eY]
    obtain ⟨_, g2, g3, g4⟩ := q1W (x / 2 ^ 56) hy
    have w8 : IntKind.u8.wrap ((x / 2 ^ 56 : Nat) : Int) = ((x / 2 ^ 56 : Nat) : Int) := by simp only [IntKind.wrap, IntKind.bits, IntKind.signed]; simp; omega
    have w9 := ww (x := (((q25 (x / 2 ^ 56)).toNat : Nat) : Int))
    refine gg rfl (q1U (x / 2 ^ 56) rfl rfl w8 (q55 hy) (gg rfl (q08 rfl rfl rfl trivial ?_)))
    rw [w9, ← hfin]
    congr 1
    try simp only [wrap64 (x := 32 + 16) (by decide) (by decide), wrap64 (x := 32 + 8) (by decide) (by decide), wrap64 (x := 48 + 8) (by decide) (by decide), wrap64 (x := 0 + 16) (by decide) (by decide), wrap64 (x := 0 + 8) (by decide) (by decide), wrap64 (x := 16 + 8) (by decide) (by decide), wrap64 (x := 32 + 16 + 8) (by decide) (by decide), wrap64 (x := 0 + 16 + 8) (by decide) (by decide)]
    rw [wrap64 (by omega) (by omega)]
    omega
   rw [q0E] at g3
   have eY : (((x / 2 ^ 32) / 2 ^ 16)) = x / 2 ^ 48 := by simp only [Nat.div_div_eq_div_mul]; try rfl
   have hy : x / 2 ^ 48 < 256 := by rw [← eY]; omega
   have hfin := q9c (x := x) (S := 48) hy (fun h => by rw [← eY]; omega)
   rw [eY]
   obtain ⟨_, g2, g3, g4⟩ := q1W (x / 2 ^ 48) hy
   have w8 : IntKind.u8.wrap ((x / 2 ^ 48 : Nat) : Int) = ((x / 2 ^ 48 : Nat) : Int) := by simp only [IntKind.wrap, IntKind.bits, IntKind.signed]; simp; omega
   have w9 := ww (x := (((q25 (x / 2 ^ 48)).toNat : Nat) : Int))
   refine gg rfl (q1U (x / 2 ^ 48) rfl rfl w8 (q55 hy) (gg rfl (q08 rfl rfl rfl trivial ?_)))
   rw [w9, ← hfin]
   congr 1
   try simp only [wrap64 (x := 32 + 16) (by decide) (by decide), wrap64 (x := 32 + 8) (by decide) (by decide), wrap64 (x := 48 + 8) (by decide) (by decide), wrap64 (x := 0 + 16) (by decide) (by decide), wrap64 (x := 0 + 8) (by decide) (by decide), wrap64 (x := 16 + 8) (by decide) (by decide), wrap64 (x := 32 + 16 + 8) (by decide) (by decide), wrap64 (x := 0 + 16 + 8) (by decide) (by decide)]
   rw [wrap64 (by omega) (by omega)]
   omega
  rw [q0E] at g2
  refine gg rfl (q02 rfl (fun g3 => ?_) (fun g3 => ?_))
  ·rw [q0D] at g3
   refine gg rfl (q0Y (((x / 2 ^ 32))) 8 rfl rfl rfl rfl (by decide) ?_)
   have eY : (((x / 2 ^ 32)) / 2 ^ 8) = x / 2 ^ 40 := by simp only [Nat.div_div_eq_div_mul]; try rfl
   have hy : x / 2 ^ 40 < 256 := by rw [← eY]; omega
   have hfin := q9c (x := x) (S := 40) hy (fun h => by rw [← eY]; omega)
   rw [eY]
   obtain ⟨_, g2, g3, g4⟩ := q1W (x / 2 ^ 40) hy
   have w8 : IntKind.u8.wrap ((x / 2 ^ 40 : Nat) : Int) = ((x / 2 ^ 40 : Nat) : Int) := by simp only [IntKind.wrap, IntKind.bits, IntKind.signed]; simp; omega
   have w9 := ww (x := (((q25 (x / 2 ^ 40)).toNat : Nat) : Int))
   refine gg rfl (q1U (x / 2 ^ 40) rfl rfl w8 (q55 hy) (gg rfl (q08 rfl rfl rfl trivial ?_)))
   rw [w9, ← hfin]
   congr 1
   try simp only [wrap64 (x := 32 + 16) (by decide) (by decide), wrap64 (x := 32 + 8) (by decide) (by decide), wrap64 (x := 48 + 8) (by decide) (by decide), wrap64 (x := 0 + 16) (by decide) (by decide), wrap64 (x := 0 + 8) (by decide) (by decide), wrap64 (x := 16 + 8) (by decide) (by decide), wrap64 (x := 32 + 16 + 8) (by decide) (by decide), wrap64 (x := 0 + 16 + 8) (by decide) (by decide)]
   rw [wrap64 (by omega) (by omega)]
   omega
  rw [q0E] at g3
  have eY : (((x / 2 ^ 32))) = x / 2 ^ 32 := by simp only [Nat.div_div_eq_div_mul]; try rfl
  have hy : x / 2 ^ 32 < 256 := by rw [← eY]; omega
  have hfin := q9c (x := x) (S := 32) hy (fun h => by rw [← eY]; omega)
  rw [eY]
  obtain ⟨_, g2, g3, g4⟩ := q1W (x / 2 ^ 32) hy
  have w8 : IntKind.u8.wrap ((x / 2 ^ 32 : Nat) : Int) = ((x / 2 ^ 32 : Nat) : Int) := by simp only [IntKind.wrap, IntKind.bits, IntKind.signed]; simp; omega
  have w9 := ww (x := (((q25 (x / 2 ^ 32)).toNat : Nat) : Int))
  refine gg rfl (q1U (x / 2 ^ 32) rfl rfl w8 (q55 hy) (gg rfl (q08 rfl rfl rfl trivial ?_)))
  rw [w9, ← hfin]
  congr 1
  try simp only [wrap64 (x := 32 + 16) (by decide) (by decide), wrap64 (x := 32 + 8) (by decide) (by decide), wrap64 (x := 48 + 8) (by decide) (by decide), wrap64 (x := 0 + 16) (by decide) (by decide), wrap64 (x := 0 + 8) (by decide) (by decide), wrap64 (x := 16 + 8) (by decide) (by decide), wrap64 (x := 32 + 16 + 8) (by decide) (by decide), wrap64 (x := 0 + 16 + 8) (by decide) (by decide)]
  rw [wrap64 (by omega) (by omega)]
  omega
 rw [q0E] at g1
 refine gg rfl (q02 rfl (fun g2 => ?_) (fun g2 => ?_))
 ·rw [q0D] at g2
  refine gg rfl (q0Y (x) 16 rfl rfl rfl rfl (by decide) ?_)
  refine gg rfl (q02 rfl (fun g3 => ?_) (fun g3 => ?_))
  ·rw [q0D] at g3
   refine gg rfl (q0Y ((x / 2 ^ 16)) 8 rfl rfl rfl rfl (by decide) ?_)
   have eY : ((x / 2 ^ 16) / 2 ^ 8) = x / 2 ^ 24 := by simp only [Nat.div_div_eq_div_mul]; try rfl
   have hy : x / 2 ^ 24 < 256 := by rw [← eY]; omega
   have hfin := q9c (x := x) (S := 24) hy (fun h => by rw [← eY]; omega)
   rw [eY]
   obtain ⟨_, g2, g3, g4⟩ := q1W (x / 2 ^ 24) hy
   have w8 : IntKind.u8.wrap ((x / 2 ^ 24 : Nat) : Int) = ((x / 2 ^ 24 : Nat) : Int) := by simp only [IntKind.wrap, IntKind.bits, IntKind.signed]; simp; omega
   have w9 := ww (x := (((q25 (x / 2 ^ 24)).toNat : Nat) : Int))
   refine gg rfl (q1U (x / 2 ^ 24) rfl rfl w8 (q55 hy) (gg rfl (q08 rfl rfl rfl trivial ?_)))
   rw [w9, ← hfin]
   congr 1
   try simp only [wrap64 (x := 32 + 16) (by decide) (by decide), wrap64 (x := 32 + 8) (by decide) (by decide), wrap64 (x := 48 + 8) (by decide) (by decide), wrap64 (x := 0 + 16) (by decide) (by decide), wrap64 (x := 0 + 8) (by decide) (by decide), wrap64 (x := 16 + 8) (by decide) (by decide), wrap64 (x := 32 + 16 + 8) (by decide) (by decide), wrap64 (x := 0 + 16 + 8) (by decide) (by decide)]
   rw [wrap64 (by omega) (by omega)]
   omega
  rw [q0E] at g3
  have eY : ((x / 2 ^ 16)) = x / 2 ^ 16 := by simp only [Nat.div_div_eq_div_mul]; try rfl
  have hy : x / 2 ^ 16 < 256 := by rw [← eY]; omega
  have hfin := q9c (x := x) (S := 16) hy (fun h => by rw [← eY]; omega)
  rw [eY]
  obtain ⟨_, g2, g3, g4⟩ := q1W (x / 2 ^ 16) hy
  have w8 : IntKind.u8.wrap ((x / 2 ^ 16 : Nat) : Int) = ((x / 2 ^ 16 : Nat) : Int) := by simp only [IntKind.wrap, IntKind.bits, IntKind.signed]; simp; omega
  have w9 := ww (x := (((q25 (x / 2 ^ 16)).toNat : Nat) : Int))
  refine gg rfl (q1U (x / 2 ^ 16) rfl rfl w8 (q55 hy) (gg rfl (q08 rfl rfl rfl trivial ?_)))
  rw [w9, ← hfin]
  congr 1
  try simp only [wrap64 (x := 32 + 16) (by decide) (by decide), wrap64 (x := 32 + 8) (by decide) (by decide), wrap64 (x := 48 + 8) (by decide) (by decide), wrap64 (x := 0 + 16) (by decide) (by decide), wrap64 (x := 0 + 8) (by decide) (by decide), wrap64 (x := 16 + 8) (by decide) (by decide), wrap64 (x := 32 + 16 + 8) (by decide) (by decide), wrap64 (x := 0 + 16 + 8) (by decide) (by decide)]
  rw [wrap64 (by omega) (by omega)]
  omega
 rw [q0E] at g2
 refine gg rfl (q02 rfl (fun g3 => ?_) (fun g3 => ?_))
 ·rw [q0D] at g3
  refine gg rfl (q0Y ((x)) 8 rfl rfl rfl rfl (by decide) ?_)
  have eY : ((x) / 2 ^ 8) = x / 2 ^ 8 := by simp only [Nat.div_div_eq_div_mul]; try rfl
  have hy : x / 2 ^ 8 < 256 := by rw [← eY]; omega
  have hfin := q9c (x := x) (S := 8) hy (fun h => by rw [← eY]; omega)
  rw [eY]
  obtain ⟨_, g2, g3, g4⟩ := q1W (x / 2 ^ 8) hy
  have w8 : IntKind.u8.wrap ((x / 2 ^ 8 : Nat) : Int) = ((x / 2 ^ 8 : Nat) : Int) := by simp only [IntKind.wrap, IntKind.bits, IntKind.signed]; simp; omega
  have w9 := ww (x := (((q25 (x / 2 ^ 8)).toNat : Nat) : Int))
  refine gg rfl (q1U (x / 2 ^ 8) rfl rfl w8 (q55 hy) (gg rfl (q08 rfl rfl rfl trivial ?_)))
  rw [w9, ← hfin]
  congr 1
  try simp only [wrap64 (x := 32 + 16) (by decide) (by decide), wrap64 (x := 32 + 8) (by decide) (by decide), wrap64 (x := 48 + 8) (by decide) (by decide), wrap64 (x := 0 + 16) (by decide) (by decide), wrap64 (x := 0 + 8) (by decide) (by decide), wrap64 (x := 16 + 8) (by decide) (by decide), wrap64 (x := 32 + 16 + 8) (by decide) (by decide), wrap64 (x := 0 + 16 + 8) (by decide) (by decide)]
  rw [wrap64 (by omega) (by omega)]
  omega
 rw [q0E] at g3
 have hy : x < 256 := by omega
 have hfin := q9c (x := x) (S := 0) (by simpa using hy) (fun h => absurd rfl h)
 rw [Nat.pow_zero, Nat.div_one, Nat.zero_add] at hfin
 obtain ⟨_, g2, g3, g4⟩ := q1W x hy
 have w8 : IntKind.u8.wrap (x : Int) = (x : Int) := by simp only [IntKind.wrap, IntKind.bits, IntKind.signed]; simp; omega
 have w9 := ww (x := (((q25 x).toNat : Nat) : Int))
 refine gg rfl (q1U x rfl rfl w8 (q55 hy) (gg rfl (q08 rfl rfl rfl trivial ?_)))
 rw [w9, ← hfin, wrap64 (by omega) (by omega)]
 congr 1
 omega
theorem qnz (x : Nat) (hx : x < 18446744073709551616) : PU qiP [.int .u64 x] = some (.int .i64 (bl x)) := by
 refine q0h (fn := qep) rfl (q0c ?_)
 exact gg rfl (q0m rfl (gg rfl (q01 rfl rfl (qny x hx) (gg rfl (q08 rfl rfl rfl trivial rfl)))))
def qjq (n : Nat) : Nat := qhF n 32 0
theorem qgA {n : Nat} (h : n < 2 ^ 64) : qjq n * qjq n ≤ n ∧ n < (qjq n + 1) * (qjq n + 1) :=
 qkq n 32 0 (Nat.zero_le _) (by simp; omega)
theorem qnA {n r : Nat} (h : n < 2 ^ 64) (h1 : r * r ≤ n) (h2 : n < (r + 1) * (r + 1)) : r = qjq n := by
 obtain ⟨g1, g2⟩ := qgA h
 have := qeP (Nat.lt_of_le_of_lt h1 g2)
 have := qeP (Nat.lt_of_le_of_lt g1 h2)
 omega
theorem newton {n x : Nat} (hx : 0 < x) : n < ((x + n / x) / 2 + 1) * ((x + n / x) / 2 + 1) := by
 have h1 : n < x * (n / x + 1) := by
  have := Nat.div_add_mod n x
  have h2 := Nat.mod_lt n hx
  rw [Nat.mul_add]; omega
 generalize n / x = q at *
 have h2 : x + (q + 1) ≤ 2 * ((x + q) / 2 + 1) := by omega
 generalize (x + q) / 2 + 1 = s at *
 have h3 : 4 * (x * (q + 1)) ≤ (x + (q + 1)) * (x + (q + 1)) := by
  generalize q + 1 = r
  rcases Nat.le_total x r with h | h
  ·obtain ⟨d, rfl⟩ : ∃ d, r = x + d := ⟨r - x, by omega⟩
   have : (x + (x + d)) * (x + (x + d)) = 4 * (x * (x + d)) + d * d := by grind
   omega
  obtain ⟨d, rfl⟩ : ∃ d, x = r + d := ⟨x - r, by omega⟩
  have : (r + d + r) * (r + d + r) = 4 * ((r + d) * r) + d * d := by grind
  omega
 have h4 : (x + (q + 1)) * (x + (q + 1)) ≤ (2 * s) * (2 * s) := Nat.mul_le_mul h2 h2
 have h5 : (2 * s) * (2 * s) = 4 * (s * s) := by grind
 omega
theorem qgB (n : Nat) (hn : n < 9223372036854775808) : PU qbo [.int .i64 n] = some (.int .i64 (qjq n)) := by
 refine q0h (fn := q7o) rfl (q0c ?_)
 refine gg rfl (q02 rfl (fun h1 => ?_) (fun h1 => ?_))
 ·rw [q06] at h1
  refine gg rfl (q08 rfl rfl rfl trivial ?_)
  have : n = 0 ∨ n = 1 := by omega
  rcases this with rfl | rfl <;> rfl
 rw [q07] at h1
 have wu : IntKind.u64.wrap (n : Int) = (n : Int) := q0y (by omega)
 have hbl : bl n ≤ 63 := by
  unfold bl
  rw [if_neg (by omega)]
  have := (Nat.log2_lt (n := n) (k := 63) (by omega)).2 (by omega)
  omega
 have hblt : n < 2 ^ bl n := by
  unfold bl
  rw [if_neg (by omega)]
  exact (Nat.log2_lt (by omega)).1 (Nat.lt_succ_self _)
 have w1 : IntKind.i64.wrap ((bl n : Int) + 1) = ((bl n + 1 : Nat) : Int) := ww
 refine gg rfl ?_
 rw [wu]
 refine q01 rfl rfl (qnz n (by omega)) ?_
 refine gg rfl ?_
 rw [w1]
 refine q2L (bl n + 1) 2 rfl rfl rfl rfl (by decide) (wrap64 (by omega) (by omega)) ?_
 refine gg rfl ?_
 have hk : (bl n + 1) / 2 ≤ 32 := by omega
 have hp : 2 ^ ((bl n + 1) / 2) ≤ 4294967296 := by
  have := Nat.pow_le_pow_right (show 0 < 2 by decide) hk
  omega
 have hp0 : 0 < 2 ^ ((bl n + 1) / 2) := Nat.pow_pos (by decide)
 have hsq : n < (2 ^ ((bl n + 1) / 2) + 1) * (2 ^ ((bl n + 1) / 2) + 1) := by
  have e : 2 ^ bl n ≤ 2 ^ ((bl n + 1) / 2) * 2 ^ ((bl n + 1) / 2) := by rw [← Nat.pow_add]; exact Nat.pow_le_pow_right (by decide) (by omega)
  have e2 : 2 ^ ((bl n + 1) / 2) * 2 ^ ((bl n + 1) / 2) ≤ (2 ^ ((bl n + 1) / 2) + 1) * (2 ^ ((bl n + 1) / 2) + 1) := Nat.mul_le_mul (by omega) (by omega)
  omega
 generalize hX : 2 ^ ((bl n + 1) / 2) = X at *
 refine q6N 1 ((bl n + 1) / 2) rfl rfl rfl rfl (by show (bl n + 1) / 2 ≤ 64; omega) (by rw [hX, Nat.one_mul]; exact wrap64 (by omega) (by omega)) ?_
 rw [hX, Nat.one_mul]
 refine gg rfl (q0q (S := fun x : Nat => ([q00 n, q00 x], [none, none], [0, 0])) (C := fun x => 0 < x ∧ x ≤ 4294967296 ∧ n < (x + 1) * (x + 1)) (m := fun x => x) X ⟨hp0, hp, hsq⟩ (by omega) ?_ ?_)
 ·exact q03 rfl trivial (by simp [q00])
 rintro x ⟨hx0, hx1, hx2⟩ N hN
 have hq : n / x ≤ n := Nat.div_le_self _ _
 have w2 : IntKind.i64.wrap ((x : Int) + ((n / x : Nat) : Int)) = ((x + n / x : Nat) : Int) := by rw [← Int.natCast_add]; exact qbM (by
  have h2 : n / x * x ≤ n := Nat.div_mul_le_self _ _
  rcases Nat.lt_or_ge x 2 with h | h
  ·obtain rfl : x = 1 := by omega
   simp at hx2; omega
  have : n / x * 2 ≤ n / x * x := Nat.mul_le_mul_left _ h
  omega)
 have hne := newton (n := n) hx0
 refine gg rfl (q2L n x rfl rfl rfl rfl (by omega) (qbM (by omega)) ?_)
 refine gg rfl ?_
 rw [w2]
 refine q2L (x + n / x) 2 rfl rfl rfl rfl (by decide) (qbM (by omega)) ?_
 refine gg rfl (q02 rfl (fun g => ?_) (fun g => ?_))
 ·rw [q0D] at g
  have g' : x ≤ (x + n / x) / 2 := by omega
  have hxx : x * x ≤ n := by
   have : x ≤ n / x := by omega
   have h2 := Nat.div_mul_le_self n x
   have h3 := Nat.mul_le_mul_right x this
   omega
  refine gg rfl (q04 (gg rfl (q08 rfl rfl rfl trivial ?_)))
  rw [qnA (n := n) (r := x) (by omega) hxx hx2]
 rw [q0E] at g
 have g' : (x + n / x) / 2 < x := by omega
 have hy0 : 0 < (x + n / x) / 2 := by
  rcases Nat.lt_or_ge x 2 with h | h
  ·obtain rfl : x = 1 := by omega
   rw [Nat.div_one] at g' ⊢; omega
  clear hq w2 hne g g'
  generalize n / x = q
  omega
 exact gg rfl (q04 (hN ((x + n / x) / 2) ⟨hy0, by omega, hne⟩ g' (q03 rfl trivial (by simp [q00]))))
theorem qm4 {a b : Spot} (ha : q0v a 1048576 = true) (hb : q0v b 1048576 = true) : sqd a b ≤ 8796093022208 := by
 rw [q2p] at ha hb
 have e := qam a b
 have b1 : Bd (b.x - a.x) 2097152 := ⟨by omega⟩
 have b2 : Bd (b.y - a.y) 2097152 := ⟨by omega⟩
 have hb : Bd ((b.x - a.x) * (b.x - a.x) + (b.y - a.y) * (b.y - a.y)) _ := inferInstance
 have := hb.le
 omega
def qjr (a b : Spot) : Nat := qjq (1000000 * sqd a b)
theorem qm5 {a b : Spot} (ha : q0v a 1048576 = true) (hb : q0v b 1048576 = true) : qjr a b ≤ 4294967296 := by
 have h := qm4 ha hb
 obtain ⟨h1, _⟩ := qgA (n := 1000000 * sqd a b) (by omega)
 unfold qjr
 have : qjq (1000000 * sqd a b) < 4294967296 := qeP (by omega)
 omega
theorem qdK (a b : Spot) (ha : q0v a 1048576 = true) (hb : q0v b 1048576 = true) : PU q8E [a.enc, b.enc] = some (.int .i64 (qjr a b)) := by
 refine q0h (fn := q5i) rfl (q0c ?_)
 have h := qm4 ha hb
 have hse := qam a b
 rw [q2p] at ha hb
 have bx : Bd (b.x - a.x) 2097152 := ⟨by omega⟩
 have by' : Bd (b.y - a.y) 2097152 := ⟨by omega⟩
 have c1 : IntKind.i64.wrap (b.x - a.x) = b.x - a.x := q0K (by decide)
 have c2 : IntKind.i64.wrap (b.y - a.y) = b.y - a.y := q0K (by decide)
 refine gg rfl ?_
 rw [c1, c2]
 have c4 : IntKind.i64.wrap ((b.x - a.x) * (b.x - a.x)) = (b.x - a.x) * (b.x - a.x) := q0K (by decide)
 have c5 : IntKind.i64.wrap ((b.y - a.y) * (b.y - a.y)) = (b.y - a.y) * (b.y - a.y) := q0K (by decide)
 have c6 : IntKind.i64.wrap ((b.x - a.x) * (b.x - a.x) + (b.y - a.y) * (b.y - a.y)) = (sqd a b : Int) := by rw [hse]; exact q0K (by decide)
 have c7 : IntKind.i64.wrap (1000000 * (sqd a b : Int)) = ((1000000 * sqd a b : Nat) : Int) := by rw [wrap64 (by omega) (by omega)]; omega
 rw [c4, c5, c6, c7]
 refine q01 rfl rfl (qgB (1000000 * sqd a b) (by omega)) ?_
 exact gg rfl (q08 rfl rfl rfl trivial rfl)
end Go.F

namespace Go.F
structure Dg (U u a b : Nat) : Prop where
 hu : u < 4294967296
 a1 : 2147483648 ≤ a
 a2 : a < 4294967296
 hb : b < 4294967296
 lt : U < a * 4294967296 + b
def dgN (U u : Nat) : Nat := U * 4294967296 + u
def dgY (a b : Nat) : Nat := a * 4294967296 + b
theorem Dg.pos {U u a b : Nat} (h : Dg U u a b) : 0 < dgY a b := by have := h.a1; unfold dgY; omega
theorem Dg.qlt {U u a b : Nat} (h : Dg U u a b) : dgN U u / dgY a b < 4294967296 := by
 rw [Nat.div_lt_iff_lt_mul h.pos]
 have h1 := h.lt
 have h2 := h.hu
 have : (U + 1) * 4294967296 ≤ dgY a b * 4294967296 := Nat.mul_le_mul_right _ h1
 unfold dgN; omega
theorem Dg.first {U u a b : Nat} (h : Dg U u a b) : dgN U u / dgY a b ≤ U / a ∧ U / a ≤ 4294967297 := by
 have h1 := h.a1
 constructor
 ·rw [Nat.le_div_iff_mul_le (by omega)]
  have hd := Nat.div_mul_le_self (dgN U u) (dgY a b)
  generalize dgN U u / dgY a b = q at *
  unfold dgN dgY at hd
  have e : q * (a * 4294967296 + b) = q * a * 4294967296 + q * b := by rw [Nat.mul_add, Nat.mul_assoc]
  rw [e] at hd
  have := h.hu
  omega
 have h2 := h.lt
 have h3 := h.hb
 have : U < 4294967298 * a := by omega
 have := (Nat.div_lt_iff_lt_mul (show 0 < a by omega)).2 this
 omega
structure DgI (U u a b q r : Nat) : Prop where
 eq : q * a + r = U
 le : dgN U u / dgY a b ≤ q
 hq : q ≤ 4294967297
theorem Dg.start {U u a b : Nat} (h : Dg U u a b) : DgI U u a b (U / a) (U % a) := by
 have := Nat.div_add_mod U a
 exact ⟨by rw [Nat.mul_comm]; exact this, h.first.1, h.first.2⟩
theorem qsj (q a b : Nat) : q * dgY a b = q * a * 4294967296 + q * b := by unfold dgY; rw [Nat.mul_add, Nat.mul_assoc]
theorem qsk {q a r U : Nat} (h : q * a + r = U) (u : Nat) : dgN U u = q * a * 4294967296 + r * 4294967296 + u := by
 unfold dgN; rw [← h, Nat.add_mul]
theorem Dg.step {U u a b q r : Nat} (h : Dg U u a b) (hi : DgI U u a b q r) (hc : 4294967296 ≤ q ∨ r * 4294967296 + u < q * b) : 1 ≤ q ∧ DgI U u a b (q - 1) (r + a) ∧ q - 1 ≤ 4294967296 := by
 have hlt : dgN U u / dgY a b < q := by
  rcases hc with hc | hc
  ·exact Nat.lt_of_lt_of_le h.qlt hc
  rw [Nat.div_lt_iff_lt_mul h.pos, qsj, qsk hi.eq, Nat.add_assoc]
  exact Nat.add_lt_add_left hc _
 have h1 := hi.eq
 have h2 := hi.hq
 have h3 : 1 ≤ q := Nat.lt_of_le_of_lt (Nat.zero_le _) hlt
 refine ⟨h3, ⟨?_, Nat.le_pred_of_lt hlt, by omega⟩, by omega⟩
 obtain ⟨p, rfl⟩ : ∃ p, q = p + 1 := ⟨q - 1, by omega⟩
 rw [Nat.succ_mul] at h1
 rw [Nat.add_sub_cancel]
 omega
theorem Dg.fin {U u a b q r : Nat} (h : Dg U u a b) (hi : DgI U u a b q r) (hc : q * b ≤ r * 4294967296 + u) : q = dgN U u / dgY a b := by
 refine Nat.le_antisymm ?_ hi.le
 rw [Nat.le_div_iff_mul_le h.pos, qsj, qsk hi.eq, Nat.add_assoc]
 exact Nat.add_le_add_left hc _
theorem Dg.stop {U u a b q r : Nat} (h : Dg U u a b) (hi : DgI U u a b q r) (hq : q ≤ 4294967296) (hr : 4294967296 ≤ r) : q = dgN U u / dgY a b := by
 refine h.fin hi ?_
 have h1 := h.hb
 have h2 : q * b ≤ 4294967296 * 4294967295 := Nat.mul_le_mul hq (Nat.le_of_lt_succ h1)
 have h3 : 4294967296 * 4294967296 ≤ r * 4294967296 := Nat.mul_le_mul_right _ hr
 exact Nat.le_trans h2 (Nat.le_trans (Nat.mul_le_mul_left _ (Nat.le_succ _)) (Nat.le_trans h3 (Nat.le_add_right _ _)))
theorem qov (N u0 y L : Nat) (hy : 0 < y) : N / y * L + (N % y * L + u0) / y = (N * L + u0) / y ∧ (N % y * L + u0) % y = (N * L + u0) % y := by
 have e : N * L + u0 = (N % y * L + u0) + y * (N / y * L) := by
  have h1 := Nat.div_add_mod N y
  have h2 : N * L = y * (N / y * L) + N % y * L := by
   conv => lhs; rw [← h1]
   rw [Nat.add_mul, Nat.mul_assoc]
  omega
 constructor
 ·rw [e, Nat.add_mul_div_left _ _ hy, Nat.add_comm]
 rw [e, Nat.add_mul_mod_self_left]
theorem qu1 (m y s : Nat) (hy : 0 < y) : (m * 2 ^ s) / (y * 2 ^ s) = m / y ∧ (m * 2 ^ s) % (y * 2 ^ s) / 2 ^ s = m % y := by
 have hp : 0 < 2 ^ s := Nat.pow_pos (by decide)
 constructor
 ·exact Nat.mul_div_mul_right m y hp
 rw [Nat.mul_mod_mul_right, Nat.mul_div_cancel _ hp]
end Go.F

namespace Go.F
attribute [local irreducible] IntKind.wrap wpM
theorem qmH (x : Nat) (hx : x < 18446744073709551616) : IntKind.u64.wrap ((BitVec.ofInt IntKind.u64.bits (x : Int) &&& BitVec.ofInt IntKind.u64.bits 4294967295).toNat : Int) = ((x % 4294967296 : Nat) : Int) := by
 have e : IntKind.u64.bits = 64 := rfl
 have h3 : (BitVec.ofInt 64 4294967295).toNat = 2 ^ 32 - 1 := by decide
 rw [e, BitVec.toNat_and, h3, Nat.and_two_pow_sub_one_eq_mod, BitVec.toNat_ofInt]
 have hq : (((x : Int) % ((2 ^ 64 : Nat) : Int)).toNat % 2 ^ 32 : Nat) = x % 4294967296 := by omega
 rw [hq, q0y (by omega)]
theorem or64 (a b : Nat) (s : Nat) (hb : b < 2 ^ s) (hs : 2 ^ s * a + b < 18446744073709551616) : IntKind.u64.wrap ((BitVec.ofInt IntKind.u64.bits ((2 ^ s * a : Nat) : Int) ||| BitVec.ofInt IntKind.u64.bits (b : Int)).toNat : Int) = ((2 ^ s * a + b : Nat) : Int) := by
 have e : IntKind.u64.bits = 64 := rfl
 have f : ∀ n : Nat, n < 18446744073709551616 → (BitVec.ofInt 64 (n : Int)).toNat = n := by
  intro n hn
  rw [BitVec.toNat_ofInt]
  omega
 rw [e, BitVec.toNat_or, f _ (by omega), f _ (by omega), ← Nat.two_pow_add_eq_or_of_lt hb, q0y hs]
def w32 (x : Nat) : Nat := x % 4294967296
def h32 (x : Nat) : Nat := x / 2 ^ 32
theorem qi1 (x : Nat) : x = h32 x * 4294967296 + w32 x := by unfold h32 w32; omega
theorem qqE (x1 x0 y1 y0 : Nat) (hx : x0 < 4294967296) (hy : y0 < 4294967296) :
 x1 * y1 + h32 (x1 * y0 + h32 (x0 * y0)) + h32 (w32 (x1 * y0 + h32 (x0 * y0)) + x0 * y1) = (x1 * 4294967296 + x0) * (y1 * 4294967296 + y0) / 18446744073709551616 := by
 have e : (x1 * 4294967296 + x0) * (y1 * 4294967296 + y0) = x1 * y1 * 18446744073709551616 + (x1 * y0 + x0 * y1) * 4294967296 + x0 * y0 := by grind
 rw [e]
 generalize x1 * y1 = p
 generalize x1 * y0 = q
 generalize x0 * y1 = r
 generalize x0 * y0 = s
 unfold h32 w32
 omega
theorem q5z {a b : Nat} (ha : a < 4294967296) (hb : b < 4294967296) : a * b ≤ 18446744065119617025 :=
 Nat.le_trans (Nat.mul_le_mul (Nat.le_of_lt_succ ha) (Nat.le_of_lt_succ hb)) (by decide)
theorem qer {x : Nat} (h : x < 18446744073709551616) : h32 x < 4294967296 := by unfold h32; omega
theorem qiu (x : Nat) : w32 x < 4294967296 := by unfold w32; omega
set_option maxHeartbeats 1000000 in
theorem qsl (x y : Nat) (hx : x < 18446744073709551616) (hy : y < 18446744073709551616) : PU qfq [.int .u64 x, .int .u64 y] = some (.tup [.int .u64 ((x * y / 18446744073709551616 : Nat) : Int), .int .u64 ((x * y % 18446744073709551616 : Nat) : Int)]) := by
 have x1 := qer hx
 have y1 := qer hy
 have x0 := qiu x
 have y0 := qiu y
 have b00 := q5z x0 y0
 have b10 := q5z x1 y0
 have b01 := q5z x0 y1
 have b11 := q5z x1 y1
 have hm := qqE (h32 x) (w32 x) (h32 y) (w32 y) x0 y0
 rw [← qi1, ← qi1] at hm
 have hxy : x * y / 18446744073709551616 < 18446744073709551616 := by
  rw [Nat.div_lt_iff_lt_mul (by decide)]
  exact Nat.mul_lt_mul_of_lt_of_le hx (Nat.le_of_lt hy) (by omega)
 have a1 := qmH x hx
 have a2 := qmH y hy
 have c1 : IntKind.u64.wrap (((w32 x : Nat) : Int) * ((w32 y : Nat) : Int)) = ((w32 x * w32 y : Nat) : Int) := by rw [← Int.natCast_mul]; exact q0y (by omega)
 have c2 : IntKind.u64.wrap (((h32 x : Nat) : Int) * ((w32 y : Nat) : Int)) = ((h32 x * w32 y : Nat) : Int) := by rw [← Int.natCast_mul]; exact q0y (by omega)
 have c3 : IntKind.u64.wrap (((w32 x : Nat) : Int) * ((h32 y : Nat) : Int)) = ((w32 x * h32 y : Nat) : Int) := by rw [← Int.natCast_mul]; exact q0y (by omega)
 have c4 : IntKind.u64.wrap (((h32 x : Nat) : Int) * ((h32 y : Nat) : Int)) = ((h32 x * h32 y : Nat) : Int) := by rw [← Int.natCast_mul]; exact q0y (by omega)
 have g0 : h32 (w32 x * w32 y) < 4294967296 := qer (by omega)
 have c5 : IntKind.u64.wrap (((h32 x * w32 y : Nat) : Int) + ((h32 (w32 x * w32 y) : Nat) : Int)) = ((h32 x * w32 y + h32 (w32 x * w32 y) : Nat) : Int) := by rw [← Int.natCast_add]; exact q0y (by omega)
 have a3 := qmH (h32 x * w32 y + h32 (w32 x * w32 y)) (by omega)
 have g1 := qiu (h32 x * w32 y + h32 (w32 x * w32 y))
 have g2 := qer (x := h32 x * w32 y + h32 (w32 x * w32 y)) (by omega)
 have c6 : IntKind.u64.wrap (((w32 (h32 x * w32 y + h32 (w32 x * w32 y)) : Nat) : Int) + ((w32 x * h32 y : Nat) : Int)) = ((w32 (h32 x * w32 y + h32 (w32 x * w32 y)) + w32 x * h32 y : Nat) : Int) := by rw [← Int.natCast_add]; exact q0y (by omega)
 have g3 := qer (x := w32 (h32 x * w32 y + h32 (w32 x * w32 y)) + w32 x * h32 y) (by omega)
 have c7 : IntKind.u64.wrap (((h32 x * h32 y : Nat) : Int) + ((h32 (h32 x * w32 y + h32 (w32 x * w32 y)) : Nat) : Int)) = ((h32 x * h32 y + h32 (h32 x * w32 y + h32 (w32 x * w32 y)) : Nat) : Int) := by rw [← Int.natCast_add]; exact q0y (by omega)
 have c8 : IntKind.u64.wrap (((h32 x * h32 y + h32 (h32 x * w32 y + h32 (w32 x * w32 y)) : Nat) : Int) + ((h32 (w32 (h32 x * w32 y + h32 (w32 x * w32 y)) + w32 x * h32 y) : Nat) : Int)) = ((x * y / 18446744073709551616 : Nat) : Int) := by
  rw [← Int.natCast_add, hm]; exact q0y hxy
 have c9 : IntKind.u64.wrap ((x : Int) * (y : Int)) = ((x * y % 18446744073709551616 : Nat) : Int) := by rw [q0I, ← Int.natCast_mul]; rfl
 refine q0h (fn := qaA) rfl (q0c ?_)
 refine gg rfl ?_
 rw [a1]
 refine q0Y x 32 rfl rfl rfl rfl (by decide) ?_
 refine gg rfl ?_
 rw [a2]
 refine q0Y y 32 rfl rfl rfl rfl (by decide) ?_
 refine gg rfl ?_
 rw [show ((x % 4294967296 : Nat) : Int) = ((w32 x : Nat) : Int) from rfl, show ((y % 4294967296 : Nat) : Int) = ((w32 y : Nat) : Int) from rfl, show ((x / 2 ^ 32 : Nat) : Int) = ((h32 x : Nat) : Int) from rfl, show ((y / 2 ^ 32 : Nat) : Int) = ((h32 y : Nat) : Int) from rfl, c1, c2]
 refine q0Y (w32 x * w32 y) 32 rfl rfl rfl rfl (by decide) ?_
 refine gg rfl ?_
 rw [show ((w32 x * w32 y / 2 ^ 32 : Nat) : Int) = ((h32 (w32 x * w32 y) : Nat) : Int) from rfl, c5, a3]
 refine q0Y (h32 x * w32 y + h32 (w32 x * w32 y)) 32 rfl rfl rfl rfl (by decide) ?_
 refine gg rfl ?_
 rw [show (((h32 x * w32 y + h32 (w32 x * w32 y)) % 4294967296 : Nat) : Int) = ((w32 (h32 x * w32 y + h32 (w32 x * w32 y)) : Nat) : Int) from rfl, show (((h32 x * w32 y + h32 (w32 x * w32 y)) / 2 ^ 32 : Nat) : Int) = ((h32 (h32 x * w32 y + h32 (w32 x * w32 y)) : Nat) : Int) from rfl, c3, c6, c4, c7]
 refine q0Y (w32 (h32 x * w32 y + h32 (w32 x * w32 y)) + w32 x * h32 y) 32 rfl rfl rfl rfl (by decide) ?_
 refine gg rfl ?_
 rw [show (((w32 (h32 x * w32 y + h32 (w32 x * w32 y)) + w32 x * h32 y) / 2 ^ 32 : Nat) : Int) = ((h32 (w32 (h32 x * w32 y + h32 (w32 x * w32 y)) + w32 x * h32 y) : Nat) : Int) from rfl, c8, c9]
 exact q08 rfl rfl rfl trivial rfl
theorem qf3 (x : Nat) (hx : x < 18446744073709551616) : PU q6h [.int .u64 x] = some (.int .i64 ((64 - bl x : Nat) : Int)) := by
 have hb : bl x ≤ 64 := by
  unfold bl
  split
  ·omega
  rename_i h
  have := (Nat.log2_lt (n := x) (k := 64) h).2 (by omega)
  omega
 refine q0h (fn := q3R) rfl (q0c ?_)
 refine gg rfl (q01 rfl rfl (qny x hx) (gg rfl ?_))
 have w : IntKind.i64.wrap (64 - (bl x : Int)) = ((64 - bl x : Nat) : Int) := by rw [wrap64 (by omega) (by omega)]; omega
 rw [w]
 exact q08 rfl rfl rfl trivial rfl
end Go.F
