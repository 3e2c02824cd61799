/- Parts of the proof, part 44: D64c, Ply2, Gr2, Turn1, Turn2, Turn3, RN1, RN2, RN3, RN4, RefA, RefB, RN5, Crv1, Crv2, Map1, St2, St3, St4, St5, Pl1, Alv, Lgt, Alv2, Nst, RG1, RG2, Ply3, RG3, RG4, SPl. -/
import Derived.Test.YtdhpbljlnlpibaaGreatZ43
import Derived.Test.YtdhpbljlnlpibaaGreatZ41
set_option linter.all false
namespace Go.F
attribute [local irreducible] IntKind.wrap wpM
theorem or64' (a b : Nat) (s : Nat) (hb : b < 2 ^ s) (hs : a * 2 ^ s + b < 18446744073709551616) : IntKind.u64.wrap ((BitVec.ofInt IntKind.u64.bits ((a * 2 ^ s : Nat) : Int) ||| BitVec.ofInt IntKind.u64.bits (b : Int)).toNat : Int) = ((a * 2 ^ s + b : Nat) : Int) := by
 rw [Nat.mul_comm] at hs ⊢
 exact or64 a b s hb hs
structure Nrm (hi lo y s : Nat) : Prop where
 s63 : s ≤ 63
 y2 : y * 2 ^ s < 18446744073709551616
 y1 : 9223372036854775808 ≤ y * 2 ^ s
 l : lo / 2 ^ (64 - s) < 2 ^ s
 u : hi * 2 ^ s + lo / 2 ^ (64 - s) < y * 2 ^ s
 h : hi * 2 ^ s < 18446744073709551616
 e : (hi * 2 ^ s + lo / 2 ^ (64 - s)) * 18446744073709551616 + lo * 2 ^ s % 18446744073709551616 = (hi * 18446744073709551616 + lo) * 2 ^ s
theorem nrm_of {hi lo y : Nat} (hh : hi < y) (hy : y < 18446744073709551616) (hl : lo < 18446744073709551616) : Nrm hi lo y (64 - bl y) := by
 have hy0 : y ≠ 0 := by omega
 have hb : bl y = y.log2 + 1 := by unfold bl; rw [if_neg hy0]
 have hlg : y.log2 < 64 := (Nat.log2_lt hy0).2 (by omega)
 have h1 : 2 ^ y.log2 ≤ y := (Nat.le_log2 hy0).1 (Nat.le_refl _)
 have h2 : y < 2 ^ (y.log2 + 1) := (Nat.log2_lt hy0).1 (Nat.lt_succ_self _)
 generalize hs : 64 - bl y = s
 have es : y.log2 + 1 + s = 64 := by omega
 have hP : 0 < 2 ^ s := Nat.pow_pos (by decide)
 have hPQ : 2 ^ (64 - s) * 2 ^ s = 18446744073709551616 := by
  rw [← Nat.pow_add, show 64 - s + s = 64 by omega]
 have e1 : 2 ^ (y.log2 + 1) * 2 ^ s = 18446744073709551616 := by rw [← Nat.pow_add, es]
 have e2 : 2 ^ y.log2 * 2 ^ s * 2 = 18446744073709551616 := by
  rw [Nat.pow_succ] at e1
  rw [← e1]; ac_rfl
 have f1 : y * 2 ^ s < 18446744073709551616 := by rw [← e1]; exact Nat.mul_lt_mul_of_pos_right h2 hP
 have f2 : 9223372036854775808 ≤ y * 2 ^ s := by
  have := Nat.mul_le_mul_right (2 ^ s) h1
  omega
 have hQ : 0 < 2 ^ (64 - s) := Nat.pow_pos (by decide)
 have f3 : lo / 2 ^ (64 - s) < 2 ^ s := by
  rw [Nat.div_lt_iff_lt_mul hQ, Nat.mul_comm, hPQ]; exact hl
 have fd : lo * 2 ^ s / 18446744073709551616 = lo / 2 ^ (64 - s) := by
  rw [← hPQ, Nat.mul_div_mul_right _ _ hP]
 have fe : (hi * 2 ^ s + lo / 2 ^ (64 - s)) * 18446744073709551616 + lo * 2 ^ s % 18446744073709551616 = (hi * 18446744073709551616 + lo) * 2 ^ s := by
  have hdm := Nat.div_add_mod (lo * 2 ^ s) 18446744073709551616
  rw [fd] at hdm
  have g : (hi * 18446744073709551616 + lo) * 2 ^ s = hi * 2 ^ s * 18446744073709551616 + lo * 2 ^ s := by
   rw [Nat.add_mul]; congr 1; ac_rfl
  rw [g, Nat.add_mul]
  omega
 have fh : hi * 2 ^ s < 18446744073709551616 := Nat.lt_of_le_of_lt (Nat.mul_le_mul_right _ (Nat.le_of_lt hh)) f1
 refine ⟨by omega, f1, f2, f3, ?_, fh, fe⟩
 have hle : (hi + 1) * 2 ^ s ≤ y * 2 ^ s := Nat.mul_le_mul_right _ hh
 rw [Nat.add_mul, Nat.one_mul] at hle
 omega
theorem qjV {x y : Nat} (h : y ≤ x) (hx : x < 18446744073709551616) : IntKind.u64.wrap ((x : Int) - (y : Int)) = ((x - y : Nat) : Int) := by
 rw [q0I]; omega
theorem qbG {x y : Nat} (h : x + y < 18446744073709551616) : IntKind.u64.wrap ((x : Int) + (y : Int)) = ((x + y : Nat) : Int) := by
 rw [← Int.natCast_add]; exact q0y h
theorem qaH {x y : Nat} (h : x * y < 18446744073709551616) : IntKind.u64.wrap ((x : Int) * (y : Int)) = ((x * y : Nat) : Int) := by
 rw [← Int.natCast_mul]; exact q0y h
theorem qhJ {U u q y : Nat} (hq : q = dgN U u / y) (hy0 : 0 < y) (hy : y < 18446744073709551616) :
 IntKind.u64.wrap (IntKind.u64.wrap (IntKind.u64.wrap ((U : Int) * 4294967296) + (u : Int)) - IntKind.u64.wrap ((q : Int) * (y : Int))) = ((dgN U u % y : Nat) : Int) := by
 have h1 := Nat.div_add_mod (dgN U u) y
 have h2 := Nat.mod_lt (dgN U u) hy0
 rw [← hq, Nat.mul_comm] at h1
 have h3 : ((dgN U u : Nat) : Int) = (U : Int) * 4294967296 + u := by unfold dgN; simp
 have h4 : ((q * y : Nat) : Int) + ((dgN U u % y : Nat) : Int) = (U : Int) * 4294967296 + u := by rw [← h3, ← Int.natCast_add, h1]
 rw [Int.natCast_mul] at h4
 simp only [q0I]
 have hR : (0 : Int) ≤ ((dgN U u % y : Nat) : Int) ∧ ((dgN U u % y : Nat) : Int) < 18446744073709551616 := by omega
 generalize ((dgN U u % y : Nat) : Int) = R at *
 generalize (U : Int) * 4294967296 = A at *
 generalize (q : Int) * (y : Int) = B at *
 omega
structure Dv64 (hi lo y s a b U u1 u0 : Nat) : Prop where
 n : Nrm hi lo y s
 hy : y * 2 ^ s = dgY a b
 a1 : 2147483648 ≤ a
 a2 : a < 4294967296
 b2 : b < 4294967296
 hu1 : u1 < 4294967296
 hu0 : u0 < 4294967296
 lt : U < dgY a b
 y0 : 0 < y
 e : dgN U u1 * 4294967296 + u0 = (hi * 18446744073709551616 + lo) * 2 ^ s
theorem Dv64.d1 {hi lo y s a b U u1 u0 : Nat} (h : Dv64 hi lo y s a b U u1 u0) : Dg U u1 a b := ⟨h.hu1, h.a1, h.a2, h.b2, h.lt⟩
theorem Dv64.d0 {hi lo y s a b U u1 u0 : Nat} (h : Dv64 hi lo y s a b U u1 u0) : Dg (dgN U u1 % dgY a b) u0 a b := ⟨h.hu0, h.a1, h.a2, h.b2, Nat.mod_lt _ h.d1.pos⟩
theorem Dv64.y64 {hi lo y s a b U u1 u0 : Nat} (h : Dv64 hi lo y s a b U u1 u0) : dgY a b < 18446744073709551616 := by rw [← h.hy]; exact h.n.y2
theorem Dv64.quo {hi lo y s a b U u1 u0 : Nat} (h : Dv64 hi lo y s a b U u1 u0) :
 dgN U u1 / dgY a b * 4294967296 + dgN (dgN U u1 % dgY a b) u0 / dgY a b = (hi * 18446744073709551616 + lo) / y ∧ dgN (dgN U u1 % dgY a b) u0 % dgY a b / 2 ^ s = (hi * 18446744073709551616 + lo) % y := by
 obtain ⟨t1, t2⟩ := qov (dgN U u1) u0 (dgY a b) 4294967296 h.d1.pos
 obtain ⟨s1, s2⟩ := qu1 (hi * 18446744073709551616 + lo) y s h.y0
 constructor
 ·rw [← s1, ← h.e, h.hy, ← t1]; rfl
 rw [← s2, ← h.e, h.hy, ← t2]; rfl
theorem dvd_of {hi lo y : Nat} (hh : hi < y) (hy : y < 18446744073709551616) (hl : lo < 18446744073709551616) :
 Dv64 hi lo y (64 - bl y) (h32 (y * 2 ^ (64 - bl y))) (w32 (y * 2 ^ (64 - bl y))) (hi * 2 ^ (64 - bl y) + lo / 2 ^ (64 - (64 - bl y))) (h32 (lo * 2 ^ (64 - bl y) % 18446744073709551616)) (w32 (lo * 2 ^ (64 - bl y) % 18446744073709551616)) := by
 have n := nrm_of hh hy hl
 generalize 64 - bl y = s at *
 have hY : y * 2 ^ s = dgY (h32 (y * 2 ^ s)) (w32 (y * 2 ^ s)) := qi1 _
 have hL := qi1 (lo * 2 ^ s % 18446744073709551616)
 have hlt : lo * 2 ^ s % 18446744073709551616 < 18446744073709551616 := Nat.mod_lt _ (by decide)
 refine ⟨n, hY, ?_, qer n.y2, qiu _, qer hlt, qiu _, by rw [← hY]; exact n.u, by omega, ?_⟩
 ·have := n.y1
  generalize y * 2 ^ s = Y at *
  unfold h32; omega
 have e := n.e
 generalize hi * 2 ^ s + lo / 2 ^ (64 - s) = U at *
 generalize lo * 2 ^ s % 18446744073709551616 = L at *
 have hB : 4294967296 * 4294967296 = 18446744073709551616 := by decide
 rw [← e, dgN, Nat.add_mul, Nat.mul_assoc, hB, Nat.add_assoc, ← hL]
theorem shlU (lo s : Nat) (hs : s ≤ 63) : IntKind.u64.wrap ((lo : Int) * 2 ^ min ((s : Nat) : Int).toNat IntKind.u64.bits) = ((lo * 2 ^ s % 18446744073709551616 : Nat) : Int) := by
 have e : IntKind.u64.bits = 64 := rfl
 rw [e, Int.toNat_natCast, Nat.min_eq_left (by omega), q0I]
 have : (lo : Int) * 2 ^ s = ((lo * 2 ^ s : Nat) : Int) := by simp
 rw [this]; omega
theorem qi2 {U a : Nat} (hU : U < 18446744073709551616) : IntKind.u64.wrap ((U : Int) - IntKind.u64.wrap (((U / a : Nat) : Int) * (a : Int))) = ((U % a : Nat) : Int) := by
 have h1 := Nat.div_mul_le_self U a
 have h2 := Nat.mod_add_div U a
 rw [qaH (by omega), qjV h1 hU]
 congr 1
 rw [Nat.mul_comm] at h2
 omega
set_option maxHeartbeats 8000000 in
theorem qsm (hi lo y : Nat) (hh : hi < y) (hy : y < 18446744073709551616) (hl : lo < 18446744073709551616) :
 PU qfr [.int .u64 hi, .int .u64 lo, .int .u64 y] = some (.tup [.int .u64 (((hi * 18446744073709551616 + lo) / y : Nat) : Int), .int .u64 (((hi * 18446744073709551616 + lo) % y : Nat) : Int)]) := by
 have D := dvd_of hh hy hl
 have lz := qf3 y hy
 have hs63 := D.n.s63
 generalize 64 - bl y = s at *
 refine q0h (fn := qaB) rfl (q0c ?_)
 refine gg rfl (q02 rfl (fun e => absurd (q12.1 e) (by omega)) (fun _ => ?_))
 refine gg rfl (q02 rfl (fun e => absurd (q0D.1 e) (by omega)) (fun _ => ?_))
 refine gg rfl (q02 rfl (fun e => ?_) (fun e => ?_))
 ·rw [q12] at e
  obtain rfl : hi = 0 := by omega
  refine gg rfl (q2L lo y rfl rfl rfl rfl (by omega) (q0y (Nat.lt_of_le_of_lt (Nat.div_le_self _ _) hl)) ?_)
  refine gg rfl (q7x lo y rfl rfl rfl rfl (by omega) ?_)
  refine gg rfl (q08 rfl rfl rfl trivial ?_)
  rw [Nat.zero_mul, Nat.zero_add]
 have e64 : IntKind.u64.wrap (64 - (s : Int)) = ((64 - s : Nat) : Int) := qjV (x := 64) (by omega) (by decide)
 have a1 := qmH (y * 2 ^ s) D.n.y2
 have hL64 : lo * 2 ^ s % 18446744073709551616 < 18446744073709551616 := Nat.mod_lt _ (by decide)
 have a2 := qmH (lo * 2 ^ s % 18446744073709551616) hL64
 have o1 := or64' hi (lo / 2 ^ (64 - s)) s D.n.l (Nat.lt_trans D.n.u D.n.y2)
 have sl := shlU lo s hs63
 refine gg rfl (q01 rfl rfl lz (gg rfl ?_))
 rw [q0y (n := s) (by omega)]
 refine q6N y s rfl rfl rfl rfl (by show s ≤ 64; omega) (q0y D.n.y2) ?_
 refine gg rfl (q0Y (y * 2 ^ s) 32 rfl rfl rfl rfl (by decide) ?_)
 refine gg rfl ?_
 rw [a1]
 refine q6N hi s rfl rfl rfl rfl (by show s ≤ 64; omega) (q0y D.n.h) ?_
 refine gg rfl ?_
 rw [e64]
 refine q0Y lo (64 - s) rfl rfl rfl rfl (by show 64 - s ≤ 64; omega) ?_
 refine gg rfl ?_
 rw [o1]
 refine atShl rfl rfl (by omega) ?_
 rw [sl]
 refine gg rfl (q0Y (lo * 2 ^ s % 18446744073709551616) 32 rfl rfl rfl rfl (by decide) ?_)
 refine gg rfl ?_
 rw [a2]
 have hY := D.hy
 rw [hY]
 rw [show ((dgY (h32 (y * 2 ^ s)) (w32 (y * 2 ^ s)) / 2 ^ 32 : Nat) : Int) = ((h32 (y * 2 ^ s) : Nat) : Int) by rw [← hY]; rfl, show ((dgY (h32 (y * 2 ^ s)) (w32 (y * 2 ^ s)) % 4294967296 : Nat) : Int) = ((w32 (y * 2 ^ s) : Nat) : Int) by rw [← hY]; rfl, show ((lo * 2 ^ s % 18446744073709551616 / 2 ^ 32 : Nat) : Int) = ((h32 (lo * 2 ^ s % 18446744073709551616) : Nat) : Int) from rfl, show ((lo * 2 ^ s % 18446744073709551616 % 4294967296 : Nat) : Int) = ((w32 (lo * 2 ^ s % 18446744073709551616) : Nat) : Int) from rfl]
 clear a1 a2 o1 sl e64 lz hY
 generalize h32 (y * 2 ^ s) = a at *
 generalize w32 (y * 2 ^ s) = b at *
 generalize h32 (lo * 2 ^ s % 18446744073709551616) = u1 at *
 generalize w32 (lo * 2 ^ s % 18446744073709551616) = u0 at *
 generalize hi * 2 ^ s + lo / 2 ^ (64 - s) = U at *
 have DD := D.d1
 have hU : U < 18446744073709551616 := Nat.lt_trans DD.lt D.y64
 refine q2L U a rfl rfl rfl rfl (by have := D.a1; omega) (q0y (Nat.lt_of_le_of_lt (Nat.div_le_self _ _) hU)) ?_
 refine gg rfl ?_
 rw [qi2 hU]
 refine q0q (S := fun x : Nat × Nat => ([.int .u64 (dgY a b : Nat), .int .u64 s, .int .u64 a, .int .u64 b, .int .u64 U, .int .u64 u1, .int .u64 u0, .int .u64 x.1, .int .u64 x.2], [none, none, none, none, none, none, none, none, none], [0, 0, 0, 0, 0, 0, 0, 0, 0])) (C := fun x => DgI U u1 a b x.1 x.2 ∧ x.2 < 4294967296) (m := fun x => x.1) (U / a, U % a) ⟨DD.start, Nat.lt_trans (Nat.mod_lt _ (by have := D.a1; omega)) D.a2⟩ (by have := DD.start.hq; show U / a < _; omega) ?_ ?_
 ·exact q03 rfl trivial rfl
 rintro ⟨q, r⟩ ⟨hi1, hr⟩ N hN
 simp only at hi1 hr
 have hq := hi1.hq
 have hb' := D.b2
 have w1 : q < 4294967296 → IntKind.u64.wrap ((q : Int) * (b : Int)) = ((q * b : Nat) : Int) := fun h => qaH (by have := q5z h hb'; omega)
 have w2 : IntKind.u64.wrap ((4294967296 : Int) * (r : Int)) = ((4294967296 * r : Nat) : Int) := qaH (x := 4294967296) (by omega)
 have w3 : IntKind.u64.wrap (((4294967296 * r : Nat) : Int) + (u1 : Int)) = ((4294967296 * r + u1 : Nat) : Int) := qbG (by have := DD.hu; omega)
 have body : (4294967296 ≤ q ∨ r * 4294967296 + u1 < q * b) → 1 ≤ q ∧ DgI U u1 a b (q - 1) (r + a) ∧ q - 1 ≤ 4294967296 := DD.step hi1
 have a2 := D.a2
 have w5 : IntKind.u64.wrap ((r : Int) + (a : Int)) = ((r + a : Nat) : Int) := qbG (by omega)
 refine gg rfl (q05 rfl (fun g1 => ?_) (fun g1 => ?_))
 ·rw [q0D] at g1
  obtain ⟨k1, k2, k3⟩ := body (.inl (by omega))
  have w4 : IntKind.u64.wrap ((q : Int) - 1) = ((q - 1 : Nat) : Int) := qjV (y := 1) k1 (by omega)
  refine gg rfl (q0g rfl (gg rfl ?_))
  rw [w4, w5]
  refine q02 rfl (fun g2 => ?_) (fun g2 => ?_)
  ·rw [q0D] at g2
   have hq1 := DD.stop k2 k3 (by omega)
   generalize q - 1 = q' at *
   refine gg rfl (q04 ?_)
   have hp := hq1
   have hplt := D.d1.qlt
   rw [← hp] at hplt
   clear hq1
   generalize q' = p at hp hplt
   have hrm := qhJ (U := U) (u := u1) hp D.d1.pos D.y64
   refine gg rfl ?_
   rw [hrm]
   have DD := D.d0
   have hV : dgN U u1 % dgY a b < 18446744073709551616 := Nat.lt_trans DD.lt D.y64
   clear hi1 hN
   refine q2L (dgN U u1 % dgY a b) a rfl rfl rfl rfl (by have := D.a1; omega) (q0y (Nat.lt_of_le_of_lt (Nat.div_le_self _ _) hV)) ?_
   refine gg rfl ?_
   rw [qi2 hV]
   refine q0q (S := fun x : Nat × Nat => ([.int .u64 (dgY a b : Nat), .int .u64 s, .int .u64 a, .int .u64 b, .int .u64 u0, .int .u64 p, .int .u64 x.2, .int .u64 ((dgN U u1 % dgY a b : Nat) : Int), .int .u64 x.1], [none, none, none, none, none, none, none, none, none], [0, 0, 0, 0, 0, 0, 0, 0, 0])) (C := fun x => DgI (dgN U u1 % dgY a b) u0 a b x.1 x.2 ∧ x.2 < 4294967296) (m := fun x => x.1) ((dgN U u1 % dgY a b) / a, (dgN U u1 % dgY a b) % a) ⟨DD.start, Nat.lt_trans (Nat.mod_lt _ (by have := D.a1; omega)) D.a2⟩ (by have := DD.start.hq; show _ / a < _; omega) ?_ ?_
   ·exact q03 rfl trivial rfl
   rintro ⟨q, r⟩ ⟨hi1, hr⟩ N hN
   simp only at hi1 hr
   have hq := hi1.hq
   have hb' := D.b2
   have w1 : q < 4294967296 → IntKind.u64.wrap ((q : Int) * (b : Int)) = ((q * b : Nat) : Int) := fun h => qaH (by have := q5z h hb'; omega)
   have w2 : IntKind.u64.wrap ((4294967296 : Int) * (r : Int)) = ((4294967296 * r : Nat) : Int) := qaH (x := 4294967296) (by omega)
   have w3 : IntKind.u64.wrap (((4294967296 * r : Nat) : Int) + (u0 : Int)) = ((4294967296 * r + u0 : Nat) : Int) := qbG (by have := DD.hu; omega)
   have body : (4294967296 ≤ q ∨ r * 4294967296 + u0 < q * b) → 1 ≤ q ∧ DgI (dgN U u1 % dgY a b) u0 a b (q - 1) (r + a) ∧ q - 1 ≤ 4294967296 := DD.step hi1
   have a2 := D.a2
   have w5 : IntKind.u64.wrap ((r : Int) + (a : Int)) = ((r + a : Nat) : Int) := qbG (by omega)
   refine gg rfl (q05 rfl (fun g1 => ?_) (fun g1 => ?_))
   ·rw [q0D] at g1
    obtain ⟨k1, k2, k3⟩ := body (.inl (by omega))
    have w4 : IntKind.u64.wrap ((q : Int) - 1) = ((q - 1 : Nat) : Int) := qjV (y := 1) k1 (by omega)
    refine gg rfl (q0g rfl (gg rfl ?_))
    rw [w4, w5]
    refine q02 rfl (fun g2 => ?_) (fun g2 => ?_)
    ·rw [q0D] at g2
     have hq1 := DD.stop k2 k3 (by omega)
     generalize q - 1 = q' at *
     refine gg rfl (q04 ?_)
     have hq0lt := D.d0.qlt
     rw [← hq1] at hq0lt
     have m1 : IntKind.u64.wrap ((p : Int) * 4294967296) = ((p * 4294967296 : Nat) : Int) := qaH (y := 4294967296) (by omega)
     have m2 : IntKind.u64.wrap (((p * 4294967296 : Nat) : Int) + (q' : Int)) = ((p * 4294967296 + q' : Nat) : Int) := qbG (by omega)
     have m3 := qhJ (U := dgN U u1 % dgY a b) (u := u0) hq1 D.d1.pos D.y64
     obtain ⟨z1, z2⟩ := D.quo
     refine gg rfl ?_
     rw [m1, m2, m3]
     refine q0Y (dgN (dgN U u1 % dgY a b) u0 % dgY a b) s rfl rfl rfl rfl (by show s ≤ 64; have := D.n.s63; omega) ?_
     refine gg rfl (q08 rfl rfl rfl trivial ?_)
     rw [z2, ← z1, hp, hq1]
    rw [q0E] at g2
    exact gg rfl (q04 (hN (q - 1, r + a) ⟨k2, by show r + a < _; omega⟩ (by show q - 1 < q; omega) (q03 rfl trivial rfl)))
   rw [q0E] at g1
   refine gg rfl ?_
   rw [w1 (by omega), w2, w3]
   refine q02 rfl (fun g2 => ?_) (fun g2 => ?_)
   ·rw [q06] at g2
    obtain ⟨k1, k2, k3⟩ := body (.inr (by omega))
    have w4 : IntKind.u64.wrap ((q : Int) - 1) = ((q - 1 : Nat) : Int) := qjV (y := 1) k1 (by omega)
    refine gg rfl ?_
    rw [w4, w5]
    refine q02 rfl (fun g3 => ?_) (fun g3 => ?_)
    ·rw [q0D] at g3
     have hq1 := DD.stop k2 k3 (by omega)
     generalize q - 1 = q' at *
     refine gg rfl (q04 ?_)
     have hq0lt := D.d0.qlt
     rw [← hq1] at hq0lt
     have m1 : IntKind.u64.wrap ((p : Int) * 4294967296) = ((p * 4294967296 : Nat) : Int) := qaH (y := 4294967296) (by omega)
     have m2 : IntKind.u64.wrap (((p * 4294967296 : Nat) : Int) + (q' : Int)) = ((p * 4294967296 + q' : Nat) : Int) := qbG (by omega)
     have m3 := qhJ (U := dgN U u1 % dgY a b) (u := u0) hq1 D.d1.pos D.y64
     obtain ⟨z1, z2⟩ := D.quo
     refine gg rfl ?_
     rw [m1, m2, m3]
     refine q0Y (dgN (dgN U u1 % dgY a b) u0 % dgY a b) s rfl rfl rfl rfl (by show s ≤ 64; have := D.n.s63; omega) ?_
     refine gg rfl (q08 rfl rfl rfl trivial ?_)
     rw [z2, ← z1, hp, hq1]
    rw [q0E] at g3
    exact gg rfl (q04 (hN (q - 1, r + a) ⟨k2, by show r + a < _; omega⟩ (by show q - 1 < q; omega) (q03 rfl trivial rfl)))
   rw [q07] at g2
   have hq1 := DD.fin hi1 (by omega)
   refine gg rfl (q04 ?_)
   have hq0lt := D.d0.qlt
   rw [← hq1] at hq0lt
   have m1 : IntKind.u64.wrap ((p : Int) * 4294967296) = ((p * 4294967296 : Nat) : Int) := qaH (y := 4294967296) (by omega)
   have m2 : IntKind.u64.wrap (((p * 4294967296 : Nat) : Int) + (q : Int)) = ((p * 4294967296 + q : Nat) : Int) := qbG (by omega)
   have m3 := qhJ (U := dgN U u1 % dgY a b) (u := u0) hq1 D.d1.pos D.y64
   obtain ⟨z1, z2⟩ := D.quo
   refine gg rfl ?_
   rw [m1, m2, m3]
   refine q0Y (dgN (dgN U u1 % dgY a b) u0 % dgY a b) s rfl rfl rfl rfl (by show s ≤ 64; have := D.n.s63; omega) ?_
   refine gg rfl (q08 rfl rfl rfl trivial ?_)
   rw [z2, ← z1, hp, hq1]
  rw [q0E] at g2
  exact gg rfl (q04 (hN (q - 1, r + a) ⟨k2, by show r + a < _; omega⟩ (by show q - 1 < q; omega) (q03 rfl trivial rfl)))
 rw [q0E] at g1
 refine gg rfl ?_
 rw [w1 (by omega), w2, w3]
 refine q02 rfl (fun g2 => ?_) (fun g2 => ?_)
 ·rw [q06] at g2
  obtain ⟨k1, k2, k3⟩ := body (.inr (by omega))
  have w4 : IntKind.u64.wrap ((q : Int) - 1) = ((q - 1 : Nat) : Int) := qjV (y := 1) k1 (by omega)
  refine gg rfl ?_
  rw [w4, w5]
  refine q02 rfl (fun g3 => ?_) (fun g3 => ?_)
  ·rw [q0D] at g3
   have hq1 := DD.stop k2 k3 (by omega)
   generalize q - 1 = q' at *
   refine gg rfl (q04 ?_)
   have hp := hq1
   have hplt := D.d1.qlt
   rw [← hp] at hplt
   clear hq1
   generalize q' = p at hp hplt
   have hrm := qhJ (U := U) (u := u1) hp D.d1.pos D.y64
   refine gg rfl ?_
   rw [hrm]
   have DD := D.d0
   have hV : dgN U u1 % dgY a b < 18446744073709551616 := Nat.lt_trans DD.lt D.y64
   clear hi1 hN
   refine q2L (dgN U u1 % dgY a b) a rfl rfl rfl rfl (by have := D.a1; omega) (q0y (Nat.lt_of_le_of_lt (Nat.div_le_self _ _) hV)) ?_
   refine gg rfl ?_
   rw [qi2 hV]
   refine q0q (S := fun x : Nat × Nat => ([.int .u64 (dgY a b : Nat), .int .u64 s, .int .u64 a, .int .u64 b, .int .u64 u0, .int .u64 p, .int .u64 x.2, .int .u64 ((dgN U u1 % dgY a b : Nat) : Int), .int .u64 x.1], [none, none, none, none, none, none, none, none, none], [0, 0, 0, 0, 0, 0, 0, 0, 0])) (C := fun x => DgI (dgN U u1 % dgY a b) u0 a b x.1 x.2 ∧ x.2 < 4294967296) (m := fun x => x.1) ((dgN U u1 % dgY a b) / a, (dgN U u1 % dgY a b) % a) ⟨DD.start, Nat.lt_trans (Nat.mod_lt _ (by have := D.a1; omega)) D.a2⟩ (by have := DD.start.hq; show _ / a < _; omega) ?_ ?_
   ·exact q03 rfl trivial rfl
   rintro ⟨q, r⟩ ⟨hi1, hr⟩ N hN
   simp only at hi1 hr
   have hq := hi1.hq
   have hb' := D.b2
   have w1 : q < 4294967296 → IntKind.u64.wrap ((q : Int) * (b : Int)) = ((q * b : Nat) : Int) := fun h => qaH (by have := q5z h hb'; omega)
   have w2 : IntKind.u64.wrap ((4294967296 : Int) * (r : Int)) = ((4294967296 * r : Nat) : Int) := qaH (x := 4294967296) (by omega)
   have w3 : IntKind.u64.wrap (((4294967296 * r : Nat) : Int) + (u0 : Int)) = ((4294967296 * r + u0 : Nat) : Int) := qbG (by have := DD.hu; omega)
   have body : (4294967296 ≤ q ∨ r * 4294967296 + u0 < q * b) → 1 ≤ q ∧ DgI (dgN U u1 % dgY a b) u0 a b (q - 1) (r + a) ∧ q - 1 ≤ 4294967296 := DD.step hi1
   have a2 := D.a2
   have w5 : IntKind.u64.wrap ((r : Int) + (a : Int)) = ((r + a : Nat) : Int) := qbG (by omega)
   refine gg rfl (q05 rfl (fun g1 => ?_) (fun g1 => ?_))
   ·rw [q0D] at g1
    obtain ⟨k1, k2, k3⟩ := body (.inl (by omega))
    have w4 : IntKind.u64.wrap ((q : Int) - 1) = ((q - 1 : Nat) : Int) := qjV (y := 1) k1 (by omega)
    refine gg rfl (q0g rfl (gg rfl ?_))
    rw [w4, w5]
    refine q02 rfl (fun g2 => ?_) (fun g2 => ?_)
    ·rw [q0D] at g2
     have hq1 := DD.stop k2 k3 (by omega)
     generalize q - 1 = q' at *
     refine gg rfl (q04 ?_)
     have hq0lt := D.d0.qlt
     rw [← hq1] at hq0lt
     have m1 : IntKind.u64.wrap ((p : Int) * 4294967296) = ((p * 4294967296 : Nat) : Int) := qaH (y := 4294967296) (by omega)
     have m2 : IntKind.u64.wrap (((p * 4294967296 : Nat) : Int) + (q' : Int)) = ((p * 4294967296 + q' : Nat) : Int) := qbG (by omega)
     have m3 := qhJ (U := dgN U u1 % dgY a b) (u := u0) hq1 D.d1.pos D.y64
     obtain ⟨z1, z2⟩ := D.quo
     refine gg rfl ?_
     rw [m1, m2, m3]
     refine q0Y (dgN (dgN U u1 % dgY a b) u0 % dgY a b) s rfl rfl rfl rfl (by show s ≤ 64; have := D.n.s63; omega) ?_
     refine gg rfl (q08 rfl rfl rfl trivial ?_)
     rw [z2, ← z1, hp, hq1]
    rw [q0E] at g2
    exact gg rfl (q04 (hN (q - 1, r + a) ⟨k2, by show r + a < _; omega⟩ (by show q - 1 < q; omega) (q03 rfl trivial rfl)))
   rw [q0E] at g1
   refine gg rfl ?_
   rw [w1 (by omega), w2, w3]
   refine q02 rfl (fun g2 => ?_) (fun g2 => ?_)
   ·rw [q06] at g2
    obtain ⟨k1, k2, k3⟩ := body (.inr (by omega))
    have w4 : IntKind.u64.wrap ((q : Int) - 1) = ((q - 1 : Nat) : Int) := qjV (y := 1) k1 (by omega)
    refine gg rfl ?_
    rw [w4, w5]
    refine q02 rfl (fun g3 => ?_) (fun g3 => ?_)
    ·rw [q0D] at g3
     have hq1 := DD.stop k2 k3 (by omega)
     generalize q - 1 = q' at *
     refine gg rfl (q04 ?_)
     have hq0lt := D.d0.qlt
     rw [← hq1] at hq0lt
     have m1 : IntKind.u64.wrap ((p : Int) * 4294967296) = ((p * 4294967296 : Nat) : Int) := qaH (y := 4294967296) (by omega)
     have m2 : IntKind.u64.wrap (((p * 4294967296 : Nat) : Int) + (q' : Int)) = ((p * 4294967296 + q' : Nat) : Int) := qbG (by omega)
     have m3 := qhJ (U := dgN U u1 % dgY a b) (u := u0) hq1 D.d1.pos D.y64
     obtain ⟨z1, z2⟩ := D.quo
     refine gg rfl ?_
     rw [m1, m2, m3]
     refine q0Y (dgN (dgN U u1 % dgY a b) u0 % dgY a b) s rfl rfl rfl rfl (by show s ≤ 64; have := D.n.s63; omega) ?_
     refine gg rfl (q08 rfl rfl rfl trivial ?_)
     rw [z2, ← z1, hp, hq1]
    rw [q0E] at g3
    exact gg rfl (q04 (hN (q - 1, r + a) ⟨k2, by show r + a < _; omega⟩ (by show q - 1 < q; omega) (q03 rfl trivial rfl)))
   rw [q07] at g2
   have hq1 := DD.fin hi1 (by omega)
   refine gg rfl (q04 ?_)
   have hq0lt := D.d0.qlt
   rw [← hq1] at hq0lt
   have m1 : IntKind.u64.wrap ((p : Int) * 4294967296) = ((p * 4294967296 : Nat) : Int) := qaH (y := 4294967296) (by omega)
   have m2 : IntKind.u64.wrap (((p * 4294967296 : Nat) : Int) + (q : Int)) = ((p * 4294967296 + q : Nat) : Int) := qbG (by omega)
   have m3 := qhJ (U := dgN U u1 % dgY a b) (u := u0) hq1 D.d1.pos D.y64
   obtain ⟨z1, z2⟩ := D.quo
   refine gg rfl ?_
   rw [m1, m2, m3]
   refine q0Y (dgN (dgN U u1 % dgY a b) u0 % dgY a b) s rfl rfl rfl rfl (by show s ≤ 64; have := D.n.s63; omega) ?_
   refine gg rfl (q08 rfl rfl rfl trivial ?_)
   rw [z2, ← z1, hp, hq1]
  rw [q0E] at g3
  exact gg rfl (q04 (hN (q - 1, r + a) ⟨k2, by show r + a < _; omega⟩ (by show q - 1 < q; omega) (q03 rfl trivial rfl)))
 rw [q07] at g2
 have hq1 := DD.fin hi1 (by omega)
 refine gg rfl (q04 ?_)
 have hp := hq1
 have hplt := D.d1.qlt
 rw [← hp] at hplt
 clear hq1
 generalize q = p at hp hplt
 have hrm := qhJ (U := U) (u := u1) hp D.d1.pos D.y64
 refine gg rfl ?_
 rw [hrm]
 have DD := D.d0
 have hV : dgN U u1 % dgY a b < 18446744073709551616 := Nat.lt_trans DD.lt D.y64
 clear hi1 hN
 refine q2L (dgN U u1 % dgY a b) a rfl rfl rfl rfl (by have := D.a1; omega) (q0y (Nat.lt_of_le_of_lt (Nat.div_le_self _ _) hV)) ?_
 refine gg rfl ?_
 rw [qi2 hV]
 refine q0q (S := fun x : Nat × Nat => ([.int .u64 (dgY a b : Nat), .int .u64 s, .int .u64 a, .int .u64 b, .int .u64 u0, .int .u64 p, .int .u64 x.2, .int .u64 ((dgN U u1 % dgY a b : Nat) : Int), .int .u64 x.1], [none, none, none, none, none, none, none, none, none], [0, 0, 0, 0, 0, 0, 0, 0, 0])) (C := fun x => DgI (dgN U u1 % dgY a b) u0 a b x.1 x.2 ∧ x.2 < 4294967296) (m := fun x => x.1) ((dgN U u1 % dgY a b) / a, (dgN U u1 % dgY a b) % a) ⟨DD.start, Nat.lt_trans (Nat.mod_lt _ (by have := D.a1; omega)) D.a2⟩ (by have := DD.start.hq; show _ / a < _; omega) ?_ ?_
 ·exact q03 rfl trivial rfl
 rintro ⟨q, r⟩ ⟨hi1, hr⟩ N hN
 simp only at hi1 hr
 have hq := hi1.hq
 have hb' := D.b2
 have w1 : q < 4294967296 → IntKind.u64.wrap ((q : Int) * (b : Int)) = ((q * b : Nat) : Int) := fun h => qaH (by have := q5z h hb'; omega)
 have w2 : IntKind.u64.wrap ((4294967296 : Int) * (r : Int)) = ((4294967296 * r : Nat) : Int) := qaH (x := 4294967296) (by omega)
 have w3 : IntKind.u64.wrap (((4294967296 * r : Nat) : Int) + (u0 : Int)) = ((4294967296 * r + u0 : Nat) : Int) := qbG (by have := DD.hu; omega)
 have body : (4294967296 ≤ q ∨ r * 4294967296 + u0 < q * b) → 1 ≤ q ∧ DgI (dgN U u1 % dgY a b) u0 a b (q - 1) (r + a) ∧ q - 1 ≤ 4294967296 := DD.step hi1
 have a2 := D.a2
 have w5 : IntKind.u64.wrap ((r : Int) + (a : Int)) = ((r + a : Nat) : Int) := qbG (by omega)
 refine gg rfl (q05 rfl (fun g1 => ?_) (fun g1 => ?_))
 ·rw [q0D] at g1
  obtain ⟨k1, k2, k3⟩ := body (.inl (by omega))
  have w4 : IntKind.u64.wrap ((q : Int) - 1) = ((q - 1 : Nat) : Int) := qjV (y := 1) k1 (by omega)
  refine gg rfl (q0g rfl (gg rfl ?_))
  rw [w4, w5]
  refine q02 rfl (fun g2 => ?_) (fun g2 => ?_)
  ·rw [q0D] at g2
   have hq1 := DD.stop k2 k3 (by omega)
   generalize q - 1 = q' at *
   refine gg rfl (q04 ?_)
   have hq0lt := D.d0.qlt
   rw [← hq1] at hq0lt
   have m1 : IntKind.u64.wrap ((p : Int) * 4294967296) = ((p * 4294967296 : Nat) : Int) := qaH (y := 4294967296) (by omega)
   have m2 : IntKind.u64.wrap (((p * 4294967296 : Nat) : Int) + (q' : Int)) = ((p * 4294967296 + q' : Nat) : Int) := qbG (by omega)
   have m3 := qhJ (U := dgN U u1 % dgY a b) (u := u0) hq1 D.d1.pos D.y64
   obtain ⟨z1, z2⟩ := D.quo
   refine gg rfl ?_
   rw [m1, m2, m3]
   refine q0Y (dgN (dgN U u1 % dgY a b) u0 % dgY a b) s rfl rfl rfl rfl (by show s ≤ 64; have := D.n.s63; omega) ?_
   refine gg rfl (q08 rfl rfl rfl trivial ?_)
   rw [z2, ← z1, hp, hq1]
  rw [q0E] at g2
  exact gg rfl (q04 (hN (q - 1, r + a) ⟨k2, by show r + a < _; omega⟩ (by show q - 1 < q; omega) (q03 rfl trivial rfl)))
 rw [q0E] at g1
 refine gg rfl ?_
 rw [w1 (by omega), w2, w3]
 refine q02 rfl (fun g2 => ?_) (fun g2 => ?_)
 ·rw [q06] at g2
  obtain ⟨k1, k2, k3⟩ := body (.inr (by omega))
  have w4 : IntKind.u64.wrap ((q : Int) - 1) = ((q - 1 : Nat) : Int) := qjV (y := 1) k1 (by omega)
  refine gg rfl ?_
  rw [w4, w5]
  refine q02 rfl (fun g3 => ?_) (fun g3 => ?_)
  ·rw [q0D] at g3
   have hq1 := DD.stop k2 k3 (by omega)
   generalize q - 1 = q' at *
   refine gg rfl (q04 ?_)
   have hq0lt := D.d0.qlt
   rw [← hq1] at hq0lt
   have m1 : IntKind.u64.wrap ((p : Int) * 4294967296) = ((p * 4294967296 : Nat) : Int) := qaH (y := 4294967296) (by omega)
   have m2 : IntKind.u64.wrap (((p * 4294967296 : Nat) : Int) + (q' : Int)) = ((p * 4294967296 + q' : Nat) : Int) := qbG (by omega)
   have m3 := qhJ (U := dgN U u1 % dgY a b) (u := u0) hq1 D.d1.pos D.y64
   obtain ⟨z1, z2⟩ := D.quo
   refine gg rfl ?_
   rw [m1, m2, m3]
   refine q0Y (dgN (dgN U u1 % dgY a b) u0 % dgY a b) s rfl rfl rfl rfl (by show s ≤ 64; have := D.n.s63; omega) ?_
   refine gg rfl (q08 rfl rfl rfl trivial ?_)
   rw [z2, ← z1, hp, hq1]
  rw [q0E] at g3
  exact gg rfl (q04 (hN (q - 1, r + a) ⟨k2, by show r + a < _; omega⟩ (by show q - 1 < q; omega) (q03 rfl trivial rfl)))
 rw [q07] at g2
 have hq1 := DD.fin hi1 (by omega)
 refine gg rfl (q04 ?_)
 have hq0lt := D.d0.qlt
 rw [← hq1] at hq0lt
 have m1 : IntKind.u64.wrap ((p : Int) * 4294967296) = ((p * 4294967296 : Nat) : Int) := qaH (y := 4294967296) (by omega)
 have m2 : IntKind.u64.wrap (((p * 4294967296 : Nat) : Int) + (q : Int)) = ((p * 4294967296 + q : Nat) : Int) := qbG (by omega)
 have m3 := qhJ (U := dgN U u1 % dgY a b) (u := u0) hq1 D.d1.pos D.y64
 obtain ⟨z1, z2⟩ := D.quo
 refine gg rfl ?_
 rw [m1, m2, m3]
 refine q0Y (dgN (dgN U u1 % dgY a b) u0 % dgY a b) s rfl rfl rfl rfl (by show s ≤ 64; have := D.n.s63; omega) ?_
 refine gg rfl (q08 rfl rfl rfl trivial ?_)
 rw [z2, ← z1, hp, hq1]
end Go.F

namespace Go.F
attribute [local irreducible] IntKind.wrap wpM
def q4i (p : List Spot) : Nat → Nat
 | 0 => 0
 | k + 1 => q4i p k + qjr (pt p k) (pt p (k + 1))
theorem qnB {p : List Spot} (h : ∀ i, i < p.length → q0v (pt p i) 1048576 = true) : ∀ k, k < p.length → q4i p k ≤ k * 4294967296 := by
 intro k
 induction k with
 | zero => intro _; simp [q4i]
 | succ k ih =>
   intro hk
   have := ih (by omega)
   have := qm5 (h k (by omega)) (h (k + 1) hk)
   rw [q4i]; omega
def q2E (p : List Spot) : Int × Int := if q1Y p = 0 then ((q4i p (p.length - 1) : Int), 0) else (0, q1Y p)
theorem q8K (p : List Spot) : PU q65 [q0o p] = some (.tup [.int .i64 (q2E p).1, .int .i64 (q2E p).2]) := by
 refine q0h (fn := q5T) rfl (q0c ?_)
 refine gg rfl (q01 rfl rfl (q92 p) (gg rfl (q02 rfl (fun h => ?_) (fun h => ?_))))
 ·rw [q0z] at h
  refine gg rfl (q08 rfl rfl rfl trivial ?_)
  rw [q2E, if_neg h]
 rw [q0A] at h
 rw [q2E, if_pos h]
 obtain ⟨n2, n40, _⟩ := q3M h
 have hin : ∀ i, i < p.length → q0v (pt p i) 1048576 = true := fun i hi => qi8 h hi
 refine gg rfl (q0q (S := fun k : Nat => ([q0o p, q00 (q4i p k), q00 (p.length - 1 : Nat), q00 k], [none, none, none, none], [0, 0, 0, 0])) (C := fun k => k ≤ p.length - 1) (m := fun k => p.length - k) 0 (Nat.zero_le _) (by omega) ?_ ?_)
 ·refine q03 rfl trivial ?_
  have : IntKind.i64.wrap ((p.length : Int) - 1) = ((p.length - 1 : Nat) : Int) := by rw [wrap64 (by omega) (by omega)]; omega
  simp [q0o, q00, q4i, this]
 intro k hk N hN
 refine gg rfl (q02 rfl (fun g1 => ?_) (fun g1 => ?_))
 ·rw [q06] at g1
  have hlt : k + 1 < p.length := by omega
  have w1 := wS (n := k)
  have hin1 := hin k (by omega)
  have hin2 := hin (k + 1) hlt
  have hsl' := qm5 hin1 hin2
  have hle := qnB hin k (by omega)
  have w2 : IntKind.i64.wrap ((q4i p k : Int) + (qjr (pt p k) (pt p (k + 1)) : Int)) = (q4i p (k + 1) : Int) := by rw [wrap64 (by omega) (by omega)]; rfl
  refine gg rfl (q0k k rfl rfl rfl (q0T (by omega)) rfl ?_)
  refine gg rfl (q0k (k + 1) rfl rfl w1 (q0T hlt) rfl (gg rfl (q01 rfl rfl (qdK (pt p k) (pt p (k + 1)) hin1 hin2) (gg rfl ?_))))
  rw [w2]
  exact q04 (hN (k + 1) (by omega) (by omega) (q03 rfl trivial (by simp [q0o, q00, w1])))
 rw [q07] at g1
 obtain rfl : k = p.length - 1 := by omega
 exact gg rfl (q04 (gg rfl (q08 rfl rfl rfl trivial rfl)))
theorem qnC (n : Nat) (hn : n < 9223372036854775808) : PU qiN [.int .i64 n] = some (.int .i64 (qjq n)) := by
 refine q0h (fn := qek) rfl (q0c ?_)
 refine gg rfl (q0q (S := fun q : Nat × Nat => ([q00 n, q00 q.2, .int .i64 ((q.1 : Int) - 1)], [none, none, none], [0, 0, 0])) (C := fun q => q.1 ≤ 32 ∧ q.2 + 2 ^ q.1 ≤ 4294967296 ∧ qhF n q.1 q.2 = qjq n) (m := fun q => q.1) (32, 0) ⟨by decide, by decide, rfl⟩ (by decide) ?_ ?_)
 ·exact q03 rfl trivial (by simp [q00])
 rintro ⟨j, r⟩ ⟨hj, hr, hinv⟩ N hN
 simp only at hj hr hinv
 refine gg rfl (q02 rfl (fun g => ?_) (fun g => ?_))
 ·rw [q0D] at g
  simp only at g
  obtain ⟨k, rfl⟩ : ∃ k, j = k + 1 := ⟨j - 1, by omega⟩
  have ek : ((k + 1 : Nat) : Int) - 1 = (k : Int) := by omega
  have hp : 2 ^ (k + 1) = 2 * 2 ^ k := by rw [Nat.pow_succ]; omega
  have hp0 : 0 < 2 ^ k := Nat.pow_pos (by decide)
  rw [qhF] at hinv
  rw [hp] at hr
  generalize hP : 2 ^ k = P at *
  have wk : IntKind.u64.wrap (k : Int) = (k : Int) := q0y (by omega)
  have wk1 := ww (x := (k : Int) - 1)
  have wt : IntKind.i64.wrap ((r : Int) + (P : Int)) = ((r + P : Nat) : Int) := by rw [wrap64 (by omega) (by omega)]; omega
  have wt2 : IntKind.u64.wrap ((r + P : Nat) : Int) = ((r + P : Nat) : Int) := q0y (by omega)
  have hmul : (r + P) * (r + P) ≤ 4294967295 * 4294967295 := Nat.mul_le_mul (by omega) (by omega)
  have wm : IntKind.u64.wrap (((r + P : Nat) : Int) * ((r + P : Nat) : Int)) = (((r + P) * (r + P) : Nat) : Int) := by rw [← Int.natCast_mul]; exact q0y (by omega)
  have wn : IntKind.u64.wrap (n : Int) = (n : Int) := q0y (by omega)
  have wb := ww (x := ((r + P : Nat) : Int))
  simp only
  rw [ek]
  refine gg rfl ?_
  rw [wk]
  refine q6N 1 k rfl rfl rfl rfl (by show k ≤ 64; omega) (by rw [hP, Nat.one_mul]; exact wrap64 (by omega) (by omega)) ?_
  rw [hP, Nat.one_mul]
  refine gg rfl ?_
  rw [wt, wt2, wm, wn]
  refine q02 rfl (fun g2 => ?_) (fun g2 => ?_)
  ·rw [q0D] at g2
   rw [if_pos (by omega)] at hinv
   refine gg rfl ?_
   rw [wb]
   exact q04 (hN (k, r + P) ⟨by simp only; omega, by simp only; rw [hP]; omega, hinv⟩ (by simp only; omega) (q03 rfl trivial (by simp [q00, wk1])))
  rw [q0E] at g2
  rw [if_neg (by omega)] at hinv
  exact gg rfl (q04 (hN (k, r) ⟨by simp only; omega, by simp only; rw [hP]; omega, hinv⟩ (by simp only; omega) (q03 rfl trivial (by simp [q00, wk1]))))
 rw [q0E] at g
 simp only at g
 obtain rfl : j = 0 := by omega
 refine gg rfl (q04 (gg rfl (q08 rfl rfl rfl trivial ?_)))
 rw [← hinv]; rfl
theorem qjs (a b : Spot) (ha : q0v a 1048576 = true) (hb : q0v b 1048576 = true) : PU qdT [a.enc, b.enc] = some (.int .i64 (qjr a b)) := by
 refine q0h (fn := q9w) rfl (q0c ?_)
 have h := qm4 ha hb
 have hse := qam a b
 rw [q2p] at ha hb
 have bx : Bd (b.x - a.x) 2097152 := ⟨by omega⟩
 have by' : Bd (b.y - a.y) 2097152 := ⟨by omega⟩
 have c1 : IntKind.i64.wrap (b.x - a.x) = b.x - a.x := q0K (by decide)
 have c2 : IntKind.i64.wrap (b.y - a.y) = b.y - a.y := q0K (by decide)
 refine gg rfl ?_
 rw [c1, c2]
 have c4 : IntKind.i64.wrap ((b.x - a.x) * (b.x - a.x)) = (b.x - a.x) * (b.x - a.x) := q0K (by decide)
 have c5 : IntKind.i64.wrap ((b.y - a.y) * (b.y - a.y)) = (b.y - a.y) * (b.y - a.y) := q0K (by decide)
 have c6 : IntKind.i64.wrap ((b.x - a.x) * (b.x - a.x) + (b.y - a.y) * (b.y - a.y)) = (sqd a b : Int) := by rw [hse]; exact q0K (by decide)
 have c7 : IntKind.i64.wrap (1000000 * (sqd a b : Int)) = ((1000000 * sqd a b : Nat) : Int) := by rw [wrap64 (by omega) (by omega)]; omega
 rw [c4, c5, c6, c7]
 refine q01 rfl rfl (qnC (1000000 * sqd a b) (by omega)) ?_
 exact gg rfl (q08 rfl rfl rfl trivial rfl)
end Go.F

namespace Go.F
attribute [local irreducible] IntKind.wrap wpM
def qdq (fr to at_ : Int) : Prop := fr < 1 ∨ 1099511627776 < fr ∨ to < 0 ∨ 1099511627776 < to ∨ at_ < 0 ∨ fr < at_
instance (a b c : Int) : Decidable (qdq a b c) := by unfold qdq; exact inferInstance
def qfg (fr to : Int) (rev : Bool) (at_ : Int) : Int × Int :=
 if qdq fr to at_ then (0, 3) else (if rev then to - q1q (at_ * to) fr else q1q (at_ * to) fr, 0)
theorem qu5 {a b : Nat} (hb : 0 < b) : q1q (a : Int) b = ((a / b + if b ≤ 2 * (a % b) then 1 else 0 : Nat) : Int) := by
 rw [q1q, if_neg (by omega)]
 have h1 := Nat.div_add_mod a b
 have h2 := Nat.mod_lt a hb
 generalize a / b = q at *
 generalize a % b = r at *
 have e : (2 * (a : Int) + b) = (2 * (r : Int) + b) + (2 * (b : Int)) * q := by
  rw [← h1]; simp only [Int.natCast_add, Int.natCast_mul]; grind
 rw [e, Int.add_mul_ediv_left _ _ (by omega)]
 split
 ·have : (2 * (r : Int) + b) / (2 * b) = 1 := by
   rw [Int.ediv_eq_iff_of_pos (by omega)]; omega
  rw [this]; omega
 have : (2 * (r : Int) + b) / (2 * b) = 0 := Int.ediv_eq_zero_of_lt (by omega) (by omega)
 rw [this]; omega
set_option maxHeartbeats 2000000 in
theorem qoF (fr to : Int) (rev : Bool) (at_ : Int) : PU qcI [.int .i64 fr, .int .i64 to, .bool rev, .int .i64 at_] = some (.tup [.int .i64 (qfg fr to rev at_).1, .int .i64 (qfg fr to rev at_).2]) := by
 by_cases hb : qdq fr to at_
 ·rw [qfg, if_pos hb]
  unfold qdq at hb
  refine q0h (fn := q5U) rfl (q0c ?_)
  repeat' (first
   | refine goP 800 rfl rfl ?_
   | refine q0e rfl ?_ | refine q0j rfl ?_ | refine q05 rfl (fun _ => ?_) (fun _ => ?_)
   | refine q0g rfl ?_ | refine q0m rfl ?_ | refine q02 rfl (fun _ => ?_) (fun _ => ?_)
   | refine q0G rfl (fun _ => ?_) (fun _ => ?_)
   | refine q08 rfl rfl rfl trivial ?_)
  all_goals first
   | rfl
   | (exfalso; simp only [q06, q07] at *; omega)
 rw [qfg, if_neg hb]
 unfold qdq at hb
 obtain ⟨F, rfl⟩ : ∃ n : Nat, fr = n := ⟨fr.toNat, by omega⟩
 obtain ⟨T, rfl⟩ : ∃ n : Nat, to = n := ⟨to.toNat, by omega⟩
 obtain ⟨A, rfl⟩ : ∃ n : Nat, at_ = n := ⟨at_.toNat, by omega⟩
 have hF : 0 < F := by omega
 have hprod : A * T ≤ F * T := Nat.mul_le_mul_right _ (by omega)
 have hm := qsl A T (by omega) (by omega)
 have hquo : A * T / F ≤ T := by
  rw [Nat.div_le_iff_le_mul_add_pred hF]
  omega
 have hhi : A * T / 18446744073709551616 < F := by
  rw [Nat.div_lt_iff_lt_mul (by decide)]
  exact Nat.lt_of_le_of_lt hprod (Nat.mul_lt_mul_of_pos_left (by omega) hF)
 have hd := qsm (A * T / 18446744073709551616) (A * T % 18446744073709551616) F hhi (by omega) (Nat.mod_lt _ (by decide))
 have e0 : A * T / 18446744073709551616 * 18446744073709551616 + A * T % 18446744073709551616 = A * T := by
  have := Nat.div_add_mod (A * T) 18446744073709551616
  rw [Nat.mul_comm] at this; exact this
 rw [e0] at hd
 have hr := qu5 (a := A * T) hF
 rw [Int.natCast_mul] at hr
 rw [hr]
 have hmod := Nat.mod_lt (A * T) hF
 have w1 : IntKind.u64.wrap ((A : Nat) : Int) = (A : Int) := q0y (by omega)
 have w2 : IntKind.u64.wrap ((T : Nat) : Int) = (T : Int) := q0y (by omega)
 have w3 : IntKind.u64.wrap ((F : Nat) : Int) = (F : Int) := q0y (by omega)
 have no : ∀ {x y : Int} {P : Prop}, ¬ x < y → ltb x y = true → P := fun h g => absurd (q06.1 g) h
 generalize A * T / F = q at *
 generalize A * T % F = r at *
 have w4 : IntKind.u64.wrap (2 * (r : Int)) = ((2 * r : Nat) : Int) := qaH (x := 2) (by omega)
 have w5 : IntKind.u64.wrap ((q : Int) + 1) = ((q + 1 : Nat) : Int) := qbG (y := 1) (by omega)
 refine q0h (fn := q5U) rfl (q0c ?_)
 refine gg rfl (q05 rfl (no (by omega)) (fun _ => ?_))
 refine gg rfl (q05 rfl (no (by omega)) (fun _ => ?_))
 refine gg rfl (q05 rfl (no (by omega)) (fun _ => ?_))
 refine gg rfl (q05 rfl (no (by omega)) (fun _ => ?_))
 refine gg rfl (q05 rfl (no (by omega)) (fun _ => ?_))
 refine gg rfl (q02 rfl (no (by omega)) (fun _ => ?_))
 refine gg rfl ?_
 rw [w1, w2]
 refine q01 rfl rfl hm (gg rfl ?_)
 rw [w3]
 refine q01 rfl rfl hd (gg rfl ?_)
 rw [w4, w3]
 refine q02 rfl (fun g => ?_) (fun g => ?_)
 ·rw [q0D] at g
  have ei : (if F ≤ 2 * r then 1 else 0 : Nat) = 1 := if_pos (by omega)
  simp only [ei]
  have w6 := ww (x := ((q + 1 : Nat) : Int))
  have w7 := ww (x := (T : Int) - ((q + 1 : Nat) : Int))
  refine gg rfl ?_
  rw [w5, w6]
  cases rev with
  | true =>
    refine q0g rfl (gg rfl ?_)
    rw [w7]
    exact q08 rfl rfl rfl trivial rfl
  | false =>
    exact q0m rfl (gg rfl (q08 rfl rfl rfl trivial rfl))
 rw [q0E] at g
 have ei : (if F ≤ 2 * r then 1 else 0 : Nat) = 0 := if_neg (by omega)
 simp only [ei]
 have w6 := ww (x := ((q : Nat) : Int))
 have w7 := ww (x := (T : Int) - ((q : Nat) : Int))
 refine gg rfl ?_
 rw [w6]
 cases rev with
 | true =>
   refine q0g rfl (gg rfl ?_)
   rw [w7]
   exact q08 rfl rfl rfl trivial rfl
 | false =>
   exact q0m rfl (gg rfl (q08 rfl rfl rfl trivial rfl))
def q3T (p : Piece) (g : List Edge) (n : Ntc) : Int × Int :=
 if n.edge < 0 ∨ (p.edges.length : Int) ≤ n.edge then (0, 3)
 else if (q2E (eg p.edges n.edge.toNat).line).2 ≠ 0 then (0, (q2E (eg p.edges n.edge.toNat).line).2)
 else if (q2E (eg g n.edge.toNat).line).2 ≠ 0 then (0, (q2E (eg g n.edge.toNat).line).2)
 else qfg (q2E (eg p.edges n.edge.toNat).line).1 (q2E (eg g n.edge.toNat).line).1 false n.at_
def q5X (p : Piece) (g : List Edge) : List Ntc → Int
 | [] => 0
 | n :: l => if (q3T p g n).2 = 0 then q5X p g l else (q3T p g n).2
def q29 (p : Piece) (m : Int) : List Int × Int :=
 if (q0B p m).2 ≠ 0 then ([], (q0B p m).2)
 else if 16 < p.notches.length then ([], 5)
 else if q5X p (q0B p m).1 p.notches ≠ 0 then ([], q5X p (q0B p m).1 p.notches)
 else (p.notches.map fun n => (q3T p (q0B p m).1 n).1, 0)
theorem q5D {p : Piece} {m : Int} (h : (q0B p m).2 = 0) : (q0B p m).1.length = p.edges.length ∧ q0Q p.edges = 0 ∧ q0Q (q0B p m).1 = 0 ∧ p.corners.length = p.edges.length := by
 unfold q0B at h ⊢
 split at h
 ·cases h
 rename_i h1
 rw [if_neg h1]
 split at h
 ·cases h
 rename_i h2
 rw [if_neg h2]
 split at h
 ·cases h
 rename_i h3
 rw [if_neg h3]
 split at h
 ·rename_i h4; exact absurd h h4
 rename_i h4
 rw [if_neg h4]
 split at h
 ·rename_i h5; exact absurd h h5
 rename_i h5
 rw [if_neg h5]
 exact ⟨by simp [q3t], by simpa using h4, by simpa using h5, by simpa using h2⟩
set_option maxHeartbeats 4000000 in
theorem qqL (p : Piece) (m : Int) (hc : p.corners.length ≤ 1000000) :
 PU qcB [p.enc, .int .i64 m] = some (.tup [ints (q29 p m).1, edges (if (q29 p m).2 = 0 then (q0B p m).1 else []), .int .i64 (q29 p m).2]) := by
 refine q0h (fn := q8a) rfl (q0c ?_)
 refine gg rfl (q01 rfl rfl (q7R p m hc) (gg rfl (q02 rfl (fun h => ?_) (fun h => ?_))))
 ·rw [q0z] at h
  refine gg rfl (q08 rfl rfl rfl trivial ?_)
  rw [q29, if_pos h, if_neg h]; rfl
 have h : (q0B p m).2 = 0 := q0A.1 h
 obtain ⟨hg, _, _⟩ := q5D h
 have hr : q29 p m = if 16 < p.notches.length then ([], 5)
  else if q5X p (q0B p m).1 p.notches ≠ 0 then ([], q5X p (q0B p m).1 p.notches)
  else (p.notches.map fun n => (q3T p (q0B p m).1 n).1, 0) := by rw [q29, if_neg (by omega)]
 rw [hr]
 generalize (q0B p m).1 = G at *
 refine gg rfl ?_
 rw [List.length_map]
 refine q02 rfl (fun h2 => ?_) (fun h2 => ?_)
 ·rw [q06] at h2
  refine gg rfl (q08 rfl rfl rfl trivial ?_)
  rw [if_pos (by omega)]; rfl
 rw [q07] at h2
 rw [if_neg (by omega)]
 refine gg rfl ?_
 rw [List.length_map]
 refine q0q (S := fun k : Nat => ([.ptr 0 0 0, edges G, .ref 2 0 k, qpt p.notches, q00 p.notches.length, q00 k], [some (.row [p.enc] 7), none, some (.row (((p.notches.take k).map fun n => (q3T p G n).1).map q00) 1), none, none, none], [0, 0, 0, 0, 0, 0])) (C := fun k => k ≤ p.notches.length ∧ q5X p G p.notches = q5X p G (p.notches.drop k)) (m := fun k => p.notches.length - k) 0 ⟨Nat.zero_le _, rfl⟩ (by omega) ?_ ?_
 ·exact q03 rfl ⟨rfl, rfl, trivial⟩ rfl
 rintro k ⟨hk, hke⟩ N hN
 refine gg rfl (q02 rfl (fun e1 => ?_) (fun e1 => ?_))
 ·rw [q06] at e1
  have hlt : k < p.notches.length := by omega
  have w1 := wS (n := k)
  have hdr : p.notches.drop k = nt p.notches k :: p.notches.drop (k + 1) := by rw [List.drop_eq_getElem_cons hlt, qtI hlt]
  have hst : (((p.notches.take (k + 1)).map fun n => (q3T p G n).1).map q00) = ((p.notches.take k).map fun n => (q3T p G n).1).map q00 ++ [q00 (q3T p G (nt p.notches k)).1] := by
   rw [List.take_succ_eq_append_getElem hlt, List.map_append, List.map_append, qtI hlt]; rfl
  have hne := qvu hlt
  rw [hdr, q5X] at hke
  generalize nt p.notches k = n at *
  have bad : (q3T p G n).2 ≠ 0 → q5X p G p.notches = (q3T p G n).2 := fun h => by rw [hke, if_neg h]
  refine gg rfl (q0k k rfl rfl rfl hne rfl (gg rfl (q05 rfl (fun f1 => ?_) (fun f1 => ?_))))
  ·rw [q06] at f1
   have hn : q3T p G n = (0, 3) := by rw [q3T, if_pos (.inl f1)]
   rw [hn] at bad
   refine gg rfl (q0g rfl (gg rfl (q04 (gg rfl (q08 rfl rfl rfl trivial ?_)))))
   rw [bad (by decide)]; rfl
  rw [q07] at f1
  refine gg rfl ?_
  rw [List.length_map]
  refine q02 rfl (fun f2 => ?_) (fun f2 => ?_)
  ·rw [q0D] at f2
   have hn : q3T p G n = (0, 3) := by rw [q3T, if_pos (.inr f2)]
   rw [hn] at bad
   refine gg rfl (q04 (gg rfl (q08 rfl rfl rfl trivial ?_)))
   rw [bad (by decide)]; rfl
  rw [q0E] at f2
  have ei : n.edge = ((n.edge.toNat : Nat) : Int) := by omega
  have hl1 : n.edge.toNat < p.edges.length := by omega
  have hl2 : n.edge.toNat < G.length := by omega
  have l1 := q8K (eg p.edges n.edge.toNat).line
  have l2 := q8K (eg G n.edge.toNat).line
  have hn0 : q3T p G n = if (q2E (eg p.edges n.edge.toNat).line).2 ≠ 0 then (0, (q2E (eg p.edges n.edge.toNat).line).2)
   else if (q2E (eg G n.edge.toNat).line).2 ≠ 0 then (0, (q2E (eg G n.edge.toNat).line).2)
   else qfg (q2E (eg p.edges n.edge.toNat).line).1 (q2E (eg G n.edge.toNat).line).1 false n.at_ := by rw [q3T, if_neg (by omega)]
  refine gg rfl (q0k n.edge.toNat rfl rfl ei (q24 hl1) rfl (gg rfl (q01 rfl rfl l1 (gg rfl (q02 rfl (fun f3 => ?_) (fun f3 => ?_))))))
  ·rw [q0z] at f3
   rw [if_pos f3] at hn0
   rw [hn0] at bad
   refine gg rfl (q04 (gg rfl (q08 rfl rfl rfl trivial ?_)))
   rw [bad f3, if_pos f3, if_neg f3]; rfl
  rw [q0A] at f3
  rw [if_neg (by simp [f3])] at hn0
  refine gg rfl (q0k n.edge.toNat rfl rfl ei (q24 hl2) rfl (gg rfl (q01 rfl rfl l2 (gg rfl (q02 rfl (fun f4 => ?_) (fun f4 => ?_))))))
  ·rw [q0z] at f4
   rw [if_pos f4] at hn0
   rw [hn0] at bad
   refine gg rfl (q04 (gg rfl (q08 rfl rfl rfl trivial ?_)))
   rw [bad f4, if_pos f4, if_neg f4]; rfl
  rw [q0A] at f4
  rw [if_neg (by simp [f4])] at hn0
  refine gg rfl (q01 rfl rfl (qoF (q2E (eg p.edges n.edge.toNat).line).1 (q2E (eg G n.edge.toNat).line).1 false n.at_) ?_)
  rw [← hn0]
  refine gg rfl (q02 rfl (fun f5 => ?_) (fun f5 => ?_))
  ·rw [q0z] at f5
   refine gg rfl (q04 (gg rfl (q08 rfl rfl rfl trivial ?_)))
   rw [bad f5, if_pos f5, if_neg f5]; rfl
  rw [q0A] at f5
  rw [if_pos f5] at hke
  refine gg rfl (q1E rfl rfl rfl rfl rfl rfl (by simp; omega) (Nat.zero_le _) (by simp [q0U]; omega) ?_)
  refine gg rfl (q04 (hN (k + 1) ⟨hlt, hke⟩ (by omega) (q03 rfl ⟨rfl, ?_, trivial⟩ ?_)))
  ·rw [List.all_append, q0b q9W]; rfl
  rw [hst, w1]; rfl
 rw [q07] at e1
 obtain rfl : k = p.notches.length := by omega
 have hz : q5X p G p.notches = 0 := by rw [hke, List.drop_length]; rfl
 rw [hz, List.take_length]
 refine gg rfl (q04 (gg rfl (q08 rfl rfl rfl ⟨q3s (by simp) (q1t qln _), trivial⟩ ?_)))
 rw [q5n (by simp)]; rfl
theorem qgp (p : Piece) (m : Int) (hc : p.corners.length ≤ 1000000) : PU qcz [p.enc, .int .i64 m] = some (.tup [ints (q29 p m).1, .int .i64 (q29 p m).2]) := by
 have h := qqL p m hc
 refine q0h (fn := q88) rfl (q0c ?_)
 exact gg rfl (q01 rfl rfl h (gg rfl (q08 rfl rfl rfl trivial rfl)))
end Go.F

namespace Go.F
attribute [local irreducible] IntKind.wrap wpM
structure Turn where
 flip : Bool
 quarter : Int
def Turn.enc (t : Turn) : D := .agg [.bool t.flip, .int .i64 t.quarter]
end Go.F

namespace Go.F
attribute [local irreducible] IntKind.wrap wpM
end Go.F

namespace Go.F
attribute [local irreducible] IntKind.wrap wpM
end Go.F

namespace Go.F
attribute [local irreducible] IntKind.wrap wpM
end Go.F

namespace Go.F
attribute [local irreducible] IntKind.wrap wpM
end Go.F

namespace Go.F
attribute [local irreducible] IntKind.wrap wpM
end Go.F

namespace Go.F
attribute [local irreducible] IntKind.wrap wpM
end Go.F

namespace Go.F
attribute [local irreducible] IntKind.wrap wpM
structure RSeg where
 a : Spot
 b : Spot
 w : Int
 s : Spot
def RSeg.enc (g : RSeg) : D := .agg [.int .i64 g.a.x, .int .i64 g.a.y, .int .i64 g.b.x, .int .i64 g.b.y, .int .i64 g.w, .int .i64 g.s.x, .int .i64 g.s.y]
end Go.F

namespace Go.F
attribute [local irreducible] IntKind.wrap wpM
end Go.F

namespace Go.F
attribute [local irreducible] IntKind.wrap wpM
class RSegOk (g : RSeg) : Prop where
 a : OkS g.a
 b : OkS g.b
 s : g.s.x.natAbs ≤ 4294967296 ∧ g.s.y.natAbs ≤ 4294967296
 w0 : 0 ≤ g.w
 w1 : g.w ≤ 500
end Go.F

namespace Go.F
attribute [local irreducible] IntKind.wrap wpM
def rp0 : RP := ⟨⟨false, [], []⟩, ⟨false, [], []⟩⟩
def rp (c : List RP) (i : Nat) : RP := c.getD i rp0
def RB (k : Nat) (c : List RP) : Prop := ∀ p ∈ c, SzP p k
theorem qou {c : List RP} {i : Nat} (h : i < c.length) : rp c i = c[i] := by simp [rp, h]
theorem RB.at {k : Nat} {c : List RP} (h : RB k c) {i : Nat} (hi : i < c.length) : SzP (rp c i) k := by
 rw [qou hi]; exact h _ (List.getElem_mem _)
section
variable {t : q0u} {h : q0f} {z : Frz} {nx : Nat}
end
end Go.F

namespace Go.F
attribute [local irreducible] IntKind.wrap wpM
end Go.F

namespace Go.F
section
variable {T : Tab} {sh : Shr} {nx0 : Nat} {s : List Fr} {t : q0u} {h : q0f} {z : Frz} {nx : Nat} {q : Ex → q0u → q0f → Frz → Nat → Prop}
variable {base i : Nat} {res : List Nat} {g : Gd} {rest : List KOper}
def qbs (t : q0u) : Live → List Rep → q0f → Frz → Option (List Obl × q0f × Frz)
 | [], _, h, z => some ([], h, z)
 | x :: rest, reps, h, z =>
   match q2V (t x.1) with
   | none =>
     match plain 4 (t x.1) with
     | true => qbs t rest reps h z
     | false => none
   | some id =>
     match h id with
     | some (.row es esz) =>
       match reps with
       | [] => none
       | none :: reps =>
         match qbs t rest reps h z with
         | some (o, h', z') => some (.p es :: o, h', z')
         | none => none
       | some (l, rs) :: reps =>
         match qbs t rest reps (upd h id (some (.row l esz))) (qaJ h z rs) with
         | some (o, h', z') => some (.s h es l rs :: o, h', z')
         | none => none
     | some (.mp _ vs) =>
       match qbs t rest reps h z with
       | some (o, h', z') => some (.p vs :: o, h', z')
       | none => none
     | none => qbs t rest reps h z
theorem qsO {t : q0u} : ∀ {live : Live} {reps : List Rep} {h : q0f} {z : Frz} {o : List Obl} {h' : q0f} {z' : Frz} {k : q0f → Frz → Prop}, qbs t live reps h z = some (o, h', z') → qgM o → k h' z' → q2Q live t h z k := by
 intro live
 induction live with
 | nil => intro reps h z o h' z' k hr _ hk; simp only [qbs, Option.some.injEq, Prod.mk.injEq] at hr; obtain ⟨_, rfl, rfl⟩ := hr; exact hk
 | cons x live ih =>
   intro reps h z o h' z' k hr ho hk
   simp only [qbs] at hr
   simp only [q2Q]
   cases hid : q2V (t x.1) with
   | none =>
     rw [hid] at hr
     simp only at hr ⊢
     cases hb : plain 4 (t x.1) with
     | true => rw [hb] at hr; exact ih hr ho hk
     | false => rw [hb] at hr; cases hr
   | some id =>
     rw [hid] at hr
     simp only at hr ⊢
     cases hb : h id with
     | none => rw [hb] at hr; exact ih hr ho hk
     | some b =>
       rw [hb] at hr
       cases b with
       | mp ks vs =>
         simp only at hr ⊢
         cases hx : qbs t live reps h z with
         | none => rw [hx] at hr; cases hr
         | some y =>
           obtain ⟨o1, h1, z1⟩ := y
           rw [hx] at hr
           simp only [Option.some.injEq, Prod.mk.injEq] at hr
           obtain ⟨rfl, rfl, rfl⟩ := hr
           exact q1p ho.1 (ih hx ho.2 hk)
       | row es esz =>
         simp only at hr ⊢
         match reps, hr with
         | none :: reps, hr =>
           simp only at hr
           cases hx : qbs t live reps h z with
           | none => rw [hx] at hr; cases hr
           | some y =>
             obtain ⟨o1, h1, z1⟩ := y
             rw [hx] at hr
             simp only [Option.some.injEq, Prod.mk.injEq] at hr
             obtain ⟨rfl, rfl, rfl⟩ := hr
             unfold qaX
             exact .inl ⟨ho.1, ih hx ho.2 hk⟩
         | some (l, rs) :: reps, hr =>
           simp only at hr
           cases hx : qbs t live reps (upd h id (some (.row l esz))) (qaJ h z rs) with
           | none => rw [hx] at hr; cases hr
           | some y =>
             obtain ⟨o1, h1, z1⟩ := y
             rw [hx] at hr
             simp only [Option.some.injEq, Prod.mk.injEq] at hr
             obtain ⟨rfl, rfl, rfl⟩ := hr
             obtain ⟨g1, g2, g3, g4⟩ := ho.1
             unfold qaX
             exact .inr ⟨l, rs, g1, g2, g3, g4, ih hx ho.2 hk⟩
def setZ (live : Live) (reps : List Rep) (t : q0u) (h : q0f) (z : Frz) (nx : Nat) : Option (List Obl × Kept) :=
 match qbC live t h z nx with
 | (t, h, z) =>
   match qbs t live reps h z with
   | some (o, h', z') => fL1 (q9R 0 (q0x t live) t live) fun vs => fLi (q9S 0 (q0x t live) h' (q0x t live) 0) fun bs => fLi (qfu 0 (q0x t live) z' (q0x t live) 0) fun zs => some (o, vs, bs, zs)
   | none => none
theorem qq2 {live : Live} (reps : List Rep) {o : List Obl} {kp : Kept} {K : Kept → Prop} (hs : setZ live reps t h z nx = some (o, kp)) (hp : qgM o) (hk : K kp) (hnst : q6u live = false := by rfl) : q0Z 0 live t h z nx fun _ _ kp => K kp := by
 unfold setZ at hs
 split at hs
 rename_i t1 h1 z1 hn
 split at hs
 ·rename_i o1 h2 z2 hr
  simp only [q5w, qjM, Option.some.injEq, Prod.mk.injEq] at hs
  obtain ⟨rfl, rfl⟩ := hs
  unfold q0Z
  simp only [hnst]
  unfold q75
  refine qfV _ _ _ _ _ _ fun nx' => ?_
  rw [hn]
  refine qsO hr hp ?_
  rw [q6K, q6L]
  exact hk
 cases hs
def qeC (m : List (ByteArray × D)) (s : ByteArray) : Option D := (m.find? fun p => s == p.1).map (·.2)
theorem q99 (m : List (ByteArray × D)) (s : ByteArray) : ∀ n, match findKey s (m.map (·.1)) n with
 | some i => n ≤ i ∧ ∃ v, (m.map (·.2))[i - n]? = some v ∧ qeC m s = some v
 | none => qeC m s = none := by
 induction m with
 | nil => intro n; rfl
 | cons p m ih =>
   intro n
   simp only [List.map_cons, findKey]
   by_cases e : (s == p.1) = true
   ·rw [if_pos e]
    refine ⟨Nat.le_refl _, p.2, by simp, by simp [qeC, List.find?_cons, e]⟩
   rw [if_neg e]
   have h := ih (n + 1)
   have em : qeC (p :: m) s = qeC m s := by
    unfold qeC; rw [List.find?_cons]
    simp only [Bool.not_eq_true] at e
    rw [e]
   cases hf : findKey s (m.map (·.1)) (n + 1) with
   | none => rw [hf] at h; simp only at h ⊢; rw [em]; exact h
   | some i =>
     rw [hf] at h
     simp only at h ⊢
     obtain ⟨h1, v, h2, h3⟩ := h
     refine ⟨by omega, v, ?_, by rw [em]; exact h3⟩
     have : i - n = (i - (n + 1)) + 1 := by omega
     rw [this, List.getElem?_cons_succ]; exact h2
theorem atPut {mx kx vx : X} {dst : Option Nat} {m : List (ByteArray × D)} {st : ByteArray} {id : Nat} (hx : mx.ev t = .mref id) (hh : g.h base h id = some (.mp (m.map (·.1)) (m.map (·.2)))) (hz : g.z base z id = 0) (hkx : kx.ev t = .str st) (hn : qeC m st = none)
 (hk : wpM T sh nx0 (.ops base res rest :: s) .normal (put t dst (.tup [])) (upd h id (some (.mp ((m ++ [(st, vx.ev t)]).map (·.1)) ((m ++ [(st, vx.ev t)]).map (·.2))))) z nx q) :
 wpM T sh nx0 (.ops base res (⟨i, dst, none, g, .mapset mx kx vx⟩ :: rest) :: s) .normal t h z nx q := by
 refine q4A ?_
 have hf := q99 m st 0
 simp only [kop, qi5, hx, hh, hkx, hz, qlH]
 cases hk' : findKey st (m.map (·.1)) 0 with
 | none => rw [List.map_append, List.map_append] at hk; exact hk
 | some j =>
   rw [hk'] at hf
   obtain ⟨_, v, h2, h3⟩ := hf
   rw [hn] at h3; cases h3
end
end Go.F

namespace Go.F
attribute [local irreducible] IntKind.wrap wpM
section
variable {T : Tab} {sh : Shr} {nx0 : Nat} {s : List Fr} {t : q0u} {h : q0f} {z : Frz} {nx : Nat} {q : Ex → q0u → q0f → Frz → Nat → Prop}
variable {base i : Nat} {res : List Nat} {g : Gd} {rest : List KOper}
end
def q2B (n : Nat) : Bool := (decide (65 ≤ n) && decide (n ≤ 90)) || (decide (48 ≤ n) && decide (n ≤ 57))
def sizeS (s : ByteArray) : Bool := decide (1 ≤ s.size) && (decide (s.size ≤ 8) && decide (∀ i, i < s.size → q2B (q23 s i).toNat = true))
theorem qoa {s : ByteArray} {k : Nat} (hk : k < s.size) (h : q2B (q23 s k).toNat = false) : sizeS s = false := by
 unfold sizeS
 rw [Bool.and_eq_false_iff, Bool.and_eq_false_iff]
 right; right
 rw [decide_eq_false_iff_not]
 intro g
 rw [g k hk] at h; cases h
theorem q1j (n : Nat) : q2B n = ((leb 65 n && leb n 90) || (leb 48 n && leb n 57)) := by
 simp only [q2B, q1I]
 congr 1
 ·congr 1 <;> (apply decide_eq_decide.2; omega)
 congr 1 <;> (apply decide_eq_decide.2; omega)
set_option maxHeartbeats 2000000 in
theorem qhW (s : ByteArray) (hs : s.size ≤ 1000000) : PU qcH [.str s] = some (.bool (sizeS s)) := by
 refine q0h (fn := q8e) rfl (q0c ?_)
 refine gg rfl (q0q (S := fun k : Nat => ([.str s, q00 s.size, q00 k], [none, none, none], [0, 0, 0])) (C := fun k => k ≤ s.size ∧ ∀ i, i < k → q2B (q23 s i).toNat = true) (m := fun k => s.size - k) 0 ⟨by omega, fun i hi => by omega⟩ (by omega) ?_ ?_)
 ·exact q03 rfl trivial (by simp [q00])
 intro k ⟨hk, hall⟩ N hN
 refine gg rfl (q02 rfl (fun g1 => ?_) (fun g1 => ?_))
 ·rw [q06] at g1
  have hlt : k < s.size := by omega
  have w1 := wS (n := k)
  have hb := q6w hlt
  have hno := qoa hlt
  have hyes : q2B (q23 s k).toNat = true → ∀ i, i < k + 1 → q2B (q23 s i).toNat = true := by
   intro h i hi
   by_cases e : i = k
   ·subst e; exact h
   exact hall i (by omega)
  generalize q23 s k = c at *
  refine gg rfl (q1U k rfl rfl rfl hb (gg rfl (q05 rfl (fun a1 => ?_) (fun a1 => ?_))))
  ·refine gg rfl (q1U k rfl rfl rfl hb (gg rfl (q1U k rfl rfl rfl hb (gg rfl (q05 rfl (fun d1 => ?_) (fun d1 => ?_))))))
   ·refine gg rfl (q1U k rfl rfl rfl hb (gg rfl (q05 rfl (fun e1 => ?_) (fun e1 => ?_))))
    ·refine gg rfl (q02 rfl (fun e2 => ?_) (fun e2 => ?_))
     ·have hc : q2B c.toNat = false := by rw [q1j]; simp_all
      refine gg rfl (q04 (gg rfl (q08 rfl rfl rfl trivial ?_)))
      rw [hno hc]
     have hc : q2B c.toNat = true := by rw [q1j]; simp_all
     exact gg rfl (q04 (hN (k + 1) ⟨hlt, hyes hc⟩ (by omega) (q03 rfl trivial (by simp [q00, w1]))))
    refine gg rfl (q0m rfl ?_)
    have hc : q2B c.toNat = true := by rw [q1j]; simp_all
    exact gg rfl (q04 (hN (k + 1) ⟨hlt, hyes hc⟩ (by omega) (q03 rfl trivial (by simp [q00, w1]))))
   refine gg rfl (q05 rfl (fun e1 => ?_) (fun e1 => ?_))
   ·refine gg rfl (q02 rfl (fun e2 => ?_) (fun e2 => ?_))
    ·have hc : q2B c.toNat = false := by rw [q1j]; simp_all
     refine gg rfl (q04 (gg rfl (q08 rfl rfl rfl trivial ?_)))
     rw [hno hc]
    have hc : q2B c.toNat = true := by rw [q1j]; simp_all
    exact gg rfl (q04 (hN (k + 1) ⟨hlt, hyes hc⟩ (by omega) (q03 rfl trivial (by simp [q00, w1]))))
   refine gg rfl (q0m rfl ?_)
   have hc : q2B c.toNat = true := by rw [q1j]; simp_all
   exact gg rfl (q04 (hN (k + 1) ⟨hlt, hyes hc⟩ (by omega) (q03 rfl trivial (by simp [q00, w1]))))
  refine gg rfl (q1U k rfl rfl rfl hb (gg rfl (q05 rfl (fun d1 => ?_) (fun d1 => ?_))))
  ·refine gg rfl (q1U k rfl rfl rfl hb (gg rfl (q05 rfl (fun e1 => ?_) (fun e1 => ?_))))
   ·refine gg rfl (q02 rfl (fun e2 => ?_) (fun e2 => ?_))
    ·have hc : q2B c.toNat = false := by rw [q1j]; simp_all
     refine gg rfl (q04 (gg rfl (q08 rfl rfl rfl trivial ?_)))
     rw [hno hc]
    have hc : q2B c.toNat = true := by rw [q1j]; simp_all
    exact gg rfl (q04 (hN (k + 1) ⟨hlt, hyes hc⟩ (by omega) (q03 rfl trivial (by simp [q00, w1]))))
   refine gg rfl (q0m rfl ?_)
   have hc : q2B c.toNat = true := by rw [q1j]; simp_all
   exact gg rfl (q04 (hN (k + 1) ⟨hlt, hyes hc⟩ (by omega) (q03 rfl trivial (by simp [q00, w1]))))
  refine gg rfl (q05 rfl (fun e1 => ?_) (fun e1 => ?_))
  ·refine gg rfl (q02 rfl (fun e2 => ?_) (fun e2 => ?_))
   ·have hc : q2B c.toNat = false := by rw [q1j]; simp_all
    refine gg rfl (q04 (gg rfl (q08 rfl rfl rfl trivial ?_)))
    rw [hno hc]
   have hc : q2B c.toNat = true := by rw [q1j]; simp_all
   exact gg rfl (q04 (hN (k + 1) ⟨hlt, hyes hc⟩ (by omega) (q03 rfl trivial (by simp [q00, w1]))))
  refine gg rfl (q0m rfl ?_)
  have hc : q2B c.toNat = true := by rw [q1j]; simp_all
  exact gg rfl (q04 (hN (k + 1) ⟨hlt, hyes hc⟩ (by omega) (q03 rfl trivial (by simp [q00, w1]))))
 rw [q07] at g1
 obtain rfl : k = s.size := by omega
 have hA : decide (∀ i, i < s.size → q2B (q23 s i).toNat = true) = true := decide_eq_true hall
 refine gg rfl (q04 (gg rfl (q05 rfl (fun h1 => ?_) (fun h1 => ?_))))
 ·rw [q0D] at h1
  refine gg rfl (q08 rfl rfl rfl trivial ?_)
  rw [sizeS, hA, q1I, decide_eq_true (show 1 ≤ s.size by omega)]
  simp
  omega
 rw [q0E] at h1
 refine gg rfl (q08 rfl rfl rfl trivial ?_)
 rw [sizeS, decide_eq_false (show ¬ 1 ≤ s.size by omega)]; rfl
theorem qbA (s : ByteArray) : PU q8B [.str s] = some (.bool (q1L s)) := by
 refine q0h (fn := q86) rfl (q0c ?_)
 refine gg rfl (q01 rfl rfl (qa1 s) ?_)
 repeat' (first
  | refine goP 800 rfl rfl ?_
  | refine q0e rfl ?_ | refine q0j rfl ?_ | refine q05 rfl (fun _ => ?_) (fun _ => ?_)
  | refine q0g rfl ?_ | refine q0m rfl ?_ | refine q02 rfl (fun _ => ?_) (fun _ => ?_)
  | refine q0G rfl (fun _ => ?_) (fun _ => ?_)
  | refine q08 rfl rfl rfl trivial ?_)
 cases q1L s <;> simp [eqb]
theorem qkk (s : ByteArray) : PU q3H [.lst [], .str s] = some (.int .i64 (-1)) := by
 refine q0h (fn := q2d) rfl (q0c ?_)
 refine gg rfl (q0q (S := fun k : Nat => ([.lst [], .str s, q00 0, q00 k], [none, none, none, none], [0, 0, 0, 0])) (C := fun k => k = 0) (m := fun k => 0) 0 rfl (by omega) ?_ ?_)
 ·exact q03 rfl trivial rfl
 rintro k rfl N hN
 refine gg rfl (q02 rfl (fun g => absurd (q06.1 g) (by simp)) (fun _ => ?_))
 exact gg rfl (q04 (gg rfl (q08 rfl rfl rfl trivial rfl)))
theorem qgJ (s : ByteArray) : PU q34 [.lst [], .str s] = some (.bool false) := by
 refine q0h (fn := q1S) rfl (q0c ?_)
 refine gg rfl (q01 rfl rfl (qkk s) (gg rfl (q08 rfl rfl rfl trivial ?_)))
 rw [q1I]; rfl
def qgK (s : ByteArray) : D := .agg [.lst [.str s], .int .i64 0, .lst []]
theorem qpx (s : ByteArray) : PU qbm [qgK s, .int .i64 0] = some (.bool true) := by
 refine q0h (fn := q7k) rfl (q0c ?_)
 repeat' (first
  | refine goP 800 rfl rfl ?_
  | refine q0e rfl ?_ | refine q0j rfl ?_ | refine q05 rfl (fun _ => ?_) (fun _ => ?_)
  | refine q0g rfl ?_ | refine q0m rfl ?_ | refine q02 rfl (fun _ => ?_) (fun _ => ?_)
  | refine q0G rfl (fun _ => ?_) (fun _ => ?_)
  | refine q08 rfl rfl rfl trivial ?_)
 all_goals (first | rfl | (simp_all [q1I, q1H]; done) | (simp only [q0E, q07] at *; omega))
set_option maxHeartbeats 4000000 in
theorem qjL (s : ByteArray) (hs : s.size ≤ 1000000) : PU qdP [qgK s] = some (.int .i64 (if sizeS s then 0 else 1)) := by
 have hz := qhW s hs
 refine q0h (fn := q9n) rfl (q0c ?_)
 refine gg rfl (q05 rfl (fun g => absurd (q06.1 g) (by simp)) (fun _ => ?_))
 refine gg rfl (q02 rfl (fun g => absurd (q06.1 g) (by simp)) (fun _ => ?_))
 refine gg rfl (q02 rfl (fun g => absurd (q12.1 g) (by simp)) (fun _ => ?_))
 refine gg rfl (q0q (S := fun k : Nat => ([.ptr 0 0 0, .lst [.str s], q00 1, q00 k], [some (.row [qgK s] 3), none, none, none], [0, 0, 0, 0])) (C := fun k => k ≤ 1 ∧ (k = 1 → sizeS s = true)) (m := fun k => 1 - k) 0 ⟨by omega, fun h => by omega⟩ (by omega) ?_ ?_)
 ·exact q03 rfl ⟨rfl, trivial⟩ rfl
 rintro k ⟨hk, hks⟩ N hN
 refine gg rfl (q02 rfl (fun g => ?_) (fun g => ?_))
 ·rw [q06] at g
  obtain rfl : k = 0 := by omega
  refine gg rfl (q0k 0 rfl rfl rfl rfl rfl (gg rfl (q01 rfl rfl hz ?_)))
  cases hv : sizeS s with
  | false =>
    exact gg rfl (q0g rfl (gg rfl (q04 (gg rfl (q08 rfl rfl rfl trivial rfl)))))
  | true =>
    refine gg rfl (q0m rfl (gg rfl (q04 (hN 1 ⟨by omega, fun _ => hv⟩ (by omega) (q03 rfl ⟨rfl, trivial⟩ ?_)))))
    have w : IntKind.i64.wrap (((0 : Nat) : Int) + 1) = ((1 : Nat) : Int) := ww
    rw [w]; rfl
 rw [q07] at g
 obtain rfl : k = 1 := by omega
 clear hN
 rw [hks rfl]
 refine gg rfl (q04 (gg rfl (q0q (S := fun k : Nat => ([.ptr 0 0 0, .lst [], q00 0, q00 0], [some (.row [qgK s] 3), none, none, none], [0, 0, 0, 0])) (C := fun k => k = 0) (m := fun k => 0) 0 rfl (by omega) ?_ ?_)))
 ·exact q03 rfl ⟨rfl, trivial⟩ rfl
 rintro k rfl N hN
 refine gg rfl (q02 rfl (fun g => absurd (q06.1 g) (by simp)) (fun _ => ?_))
 clear hN
 refine gg rfl (q04 (gg rfl (q0q (S := fun k : Nat => ([.ptr 0 0 0, .lst [.str s], q00 1, q00 k], [some (.row [qgK s] 3), none, none, none], [0, 0, 0, 0])) (C := fun k => k ≤ 1) (m := fun k => 1 - k) 0 (by omega) (by omega) ?_ ?_)))
 ·exact q03 rfl ⟨rfl, trivial⟩ rfl
 intro k hk N hN
 refine gg rfl (q02 rfl (fun g => ?_) (fun g => ?_))
 ·rw [q06] at g
  obtain rfl : k = 0 := by omega
  refine gg rfl (q0k 0 rfl rfl rfl rfl rfl (gg rfl (qdM 0 rfl rfl ⟨_, _, rfl, rfl⟩ (Nat.zero_le _) (gg rfl (q01 rfl rfl (qgJ s) (gg rfl (q0m rfl (gg rfl (q04 (hN 1 (by omega) (by omega) (q03 rfl ⟨rfl, trivial⟩ ?_)))))))))))
  have w : IntKind.i64.wrap (((0 : Nat) : Int) + 1) = ((1 : Nat) : Int) := ww
  rw [w]; rfl
 rw [q07] at g
 clear hN
 refine gg rfl (q04 (gg rfl (q0q (S := fun k : Nat => ([.ptr 0 0 0, .lst [], q00 0, q00 0], [some (.row [qgK s] 3), none, none, none], [0, 0, 0, 0])) (C := fun k => k = 0) (m := fun k => 0) 0 rfl (by omega) ?_ ?_)))
 ·exact q03 rfl ⟨rfl, trivial⟩ rfl
 rintro k rfl N hN
 refine gg rfl (q02 rfl (fun g => absurd (q06.1 g) (by simp)) (fun _ => ?_))
 clear hN
 exact gg rfl (q04 (gg rfl (q01 rfl rfl (qpx s) (gg rfl (q0m rfl (gg rfl (q08 rfl rfl rfl trivial rfl)))))))
theorem qhX (s : ByteArray) (hs : s.size ≤ 1000000) : PU qcy [.str s] = some (.bool (sizeS s)) := by
 have hz := qjL s hs
 refine q0h (fn := q87) rfl (q0c ?_)
 refine gg rfl (q58 rfl rfl ⟨⟨Nat.le_refl _, rfl⟩, trivial⟩ hz rfl (gg rfl (q08 rfl rfl rfl trivial ?_)))
 cases sizeS s <;> simp [q2i]
theorem qmy (l : List Int) (v : Int) (hl : l.length ≤ 1000000) : PU q64 [ints l, .int .i64 v] = some (.int .i64 (qcu (fun x => decide (v = x)) l)) := by
 refine q0h (fn := q3o) rfl (q0c ?_)
 refine gg rfl ?_
 rw [List.length_map]
 refine q0q (S := fun k : Nat => ([ints l, .int .i64 v, q00 l.length, q00 k], [none, none, none, none], [0, 0, 0, 0])) (C := fun k => k ≤ l.length ∧ ∀ j (hj : j < l.length), j < k → decide (v = l[j]) = false) (m := fun k => l.length - k) 0 ⟨Nat.zero_le _, fun j _ h => by omega⟩ (by omega) ?_ ?_
 ·exact q03 rfl trivial (by simp [ints, q00])
 rintro k ⟨hk, hno⟩ N hN
 refine gg rfl (q02 rfl (fun g => ?_) (fun g => ?_))
 ·rw [q06] at g
  have hlt : k < l.length := by omega
  have w1 := wS (n := k)
  refine gg rfl (q0k k rfl rfl rfl (q1J hlt) rfl (gg rfl (q02 rfl (fun e => ?_) (fun e => ?_))))
  ·rw [q12] at e
   refine gg rfl (q04 (gg rfl (q08 rfl rfl rfl trivial ?_)))
   rw [qeu hlt hno (decide_eq_true e)]
  rw [q1a] at e
  refine gg rfl (q04 (hN (k + 1) ⟨hlt, fun j hj hjk => ?_⟩ (by omega) (q03 rfl trivial (by simp [ints, q00, w1]))))
  by_cases ej : j = k
  ·subst ej; exact decide_eq_false e
  exact hno j hj (by omega)
 rw [q07] at g
 obtain rfl : k = l.length := by omega
 refine gg rfl (q04 (gg rfl (q08 rfl rfl rfl trivial ?_)))
 rw [qev fun j hj => hno j hj hj]
theorem qhY (l : List Int) (v : Int) (hl : l.length ≤ 1000000) : PU q4D [ints l, .int .i64 v] = some (.bool (decide (v ∈ l))) := by
 have h := qmy l v hl
 have e : decide (v ∈ l) = decide (0 ≤ qcu (fun x => decide (v = x)) l) := by
  rw [qaK]
  rw [Bool.eq_iff_iff]
  simp
 refine q0h (fn := q2H) rfl (q0c ?_)
 refine gg rfl (q01 rfl rfl h (gg rfl (q08 rfl rfl rfl trivial ?_)))
 rw [e, q1I]
end Go.F

namespace Go.F
attribute [local irreducible] IntKind.wrap wpM
section
variable {T : Tab} {sh : Shr} {nx0 : Nat} {s : List Fr} {t : q0u} {h : q0f} {z : Frz} {nx : Nat} {q : Ex → q0u → q0f → Frz → Nat → Prop}
variable {base i : Nat} {res : List Nat} {g : Gd} {rest : List KOper}
theorem quM {zv : D} {x kx : X} {dst : Nat} {m : List (ByteArray × D)} {st : ByteArray} {id : Nat} (hx : x.ev t = .mref id) (hh : g.h base h id = some (.mp (m.map (·.1)) (m.map (·.2)))) (hkx : kx.ev t = .str st)
 (hs : ∀ v, qeC m st = some v → wpM T sh nx0 (.ops base res rest :: s) .normal (upd t dst v) h z nx q)
 (hn : qeC m st = none → wpM T sh nx0 (.ops base res rest :: s) .normal (upd t dst zv) h z nx q) :
 wpM T sh nx0 (.ops base res (⟨i, some dst, none, g, .lookup zv x kx false⟩ :: rest) :: s) .normal t h z nx q := by
 refine q4A ?_
 have hf := q99 m st 0
 simp only [kop, qft, hx, hh, q6E, hkx, qlH]
 cases hk : findKey st (m.map (·.1)) 0 with
 | none => rw [hk] at hf; exact hn hf
 | some j =>
   rw [hk] at hf
   obtain ⟨_, v, h2, h3⟩ := hf
   exact q9f h2 (hs v h3)
end
theorem quN {a b : ByteArray} (h : a.toList = b.toList) : a = b := by
 rw [Go.ByteArray.toList_eq, Go.ByteArray.toList_eq] at h
 exact ByteArray.ext (Array.ext' h)
theorem ba_eq2 (a b : ByteArray) : (a == b) = (a.toList == b.toList) := by
 have e : (a == b) = (a.data == b.data) := rfl
 rw [e, Bool.eq_iff_iff, beq_iff_eq, beq_iff_eq]
 exact ⟨fun h => by rw [Go.ByteArray.toList_eq, Go.ByteArray.toList_eq, h], fun h => by rw [quN h]⟩
def q7b (l : List ByteArray) : List (ByteArray × D) := l.map fun x => (x, D.bool true)
theorem qpy (l : List ByteArray) (x : ByteArray) : q7b (l ++ [x]) = q7b l ++ [(x, .bool true)] := by simp [q7b]
theorem qrR (l : List ByteArray) (s : ByteArray) : qeC (q7b l) s = cond (l.any fun x => x.toList == s.toList) (some (.bool true)) none := by
 induction l with
 | nil => rfl
 | cons x l ih =>
   unfold qeC q7b at *
   simp only [List.map_cons, List.find?_cons, List.any_cons]
   rw [ba_eq2, Bool.beq_comm]
   cases x.toList == s.toList with
   | true => rfl
   | false => exact ih
theorem qob (l : List ByteArray) : ((q7b l).map (·.2)).all (plain 4) = true := by
 unfold q7b; rw [List.map_map]; exact q0b (fun _ => rfl) _
def q4o (l : List ByteArray) : Bool := (List.range l.length).any fun i => (l.take i).any fun x => x.toList == (sz l i).toList
def q26 (s : Sty) : Int :=
 if q1L s.name = false ∨ s.sizes.length = 0 then 1
 else if s.sizes.any (fun x => !sizeS x) then 1
 else if s.mults.length ≠ s.sizes.length ∨ 0 ∉ s.mults then 1
 else if q4o s.sizes then 7
 else if 12 < s.sizes.length ∨ 12 < s.pieces.length ∨ 12 < s.uses.length then 5
 else if 24 < s.seams.length ∨ 16 < s.ops.length then 5
 else if s.mults.any (fun m => decide (m < -100) || decide (100 < m)) then 3 else 0
structure StyB (s : Sty) : Prop where
 sizes : s.sizes.length ≤ 1000
 size : ∀ x ∈ s.sizes, x.size ≤ 1000
 mults : s.mults.length ≤ 1000
 pieces : s.pieces.length ≤ 1000
 uses : s.uses.length ≤ 1000
 seams : s.seams.length ≤ 1000
 ops : s.ops.length ≤ 1000
 corners : ∀ p ∈ s.pieces, p.corners.length ≤ 1000
 widths : ∀ p ∈ s.pieces, p.widths.length ≤ 1000
 notches : ∀ p ∈ s.pieces, p.notches.length ≤ 1000
theorem qbd (s : Sty) : s.enc = .agg [.str s.name, .lst (s.sizes.map .str), .lst (s.mults.map q00), .lst (s.pieces.map Piece.enc), .lst (s.uses.map Use.enc), .lst (s.seams.map Sew.enc), .lst (s.ops.map Opn.enc)] := rfl
set_option maxHeartbeats 8000000 in
theorem qkl (s : Sty) (hB : StyB s) : PU q8w [s.enc] = some (.int .i64 (q26 s)) := by
 have b1 := hB.sizes
 have b2 := hB.mults
 refine q0h (fn := q5a) rfl (q0c ?_)
 refine gg rfl (q01 rfl rfl (qbA s.name) ?_)
 cases hn : q1L s.name with
 | false =>
   refine gg rfl (q0e rfl (gg rfl (q0g rfl (gg rfl (q08 rfl rfl rfl trivial ?_)))))
   rw [q26, if_pos (.inl hn)]
 | true =>
   refine gg rfl (q0j rfl (gg rfl ?_))
   rw [List.length_map]
   refine q02 rfl (fun g => ?_) (fun g => ?_)
   ·rw [q12] at g
    refine gg rfl (q08 rfl rfl rfl trivial ?_)
    rw [q26, if_pos (.inr (by omega))]
   rw [q1a] at g
   have hc1 : ¬ (q1L s.name = false ∨ s.sizes.length = 0) := by
    rintro (h | h)
    ·rw [hn] at h; cases h
    omega
   refine gg rfl ?_
   rw [List.length_map]
   refine q0q (S := fun k : Nat => ([.ptr 0 0 0, strs s.sizes, q00 s.sizes.length, q00 k], [some (.row [s.enc] 7), none, none, none], [0, 0, 0, 0])) (C := fun k => k ≤ s.sizes.length ∧ ∀ j (hj : j < s.sizes.length), j < k → sizeS s.sizes[j] = true) (m := fun k => s.sizes.length - k) 0 ⟨Nat.zero_le _, fun j _ h => by omega⟩ (by omega) ?_ ?_
   ·exact q03 rfl ⟨rfl, trivial⟩ rfl
   rintro k ⟨hk, hall⟩ N hN
   refine gg rfl (q02 rfl (fun e => ?_) (fun e => ?_))
   ·rw [q06] at e
    have hlt : k < s.sizes.length := by omega
    have w1 := wS (n := k)
    have hz := qhX s.sizes[k] (by have := hB.size _ (List.getElem_mem hlt); omega)
    refine gg rfl (q0k k rfl rfl rfl (q1J hlt) rfl (gg rfl (q01 rfl rfl hz ?_)))
    cases hv : sizeS s.sizes[k] with
    | false =>
      refine gg rfl (q0g rfl (gg rfl (q04 (gg rfl (q08 rfl rfl rfl trivial ?_)))))
      rw [q26, if_neg hc1, if_pos (q3c hlt (by rw [hv]; rfl))]
    | true =>
      refine gg rfl (q0m rfl (gg rfl (q04 (hN (k + 1) ⟨hlt, fun j hj hjk => ?_⟩ (by omega) (q03 rfl ⟨rfl, trivial⟩ (by rw [w1]; rfl))))))
      by_cases ej : j = k
      ·subst ej; exact hv
      exact hall j hj (by omega)
   rw [q07] at e
   obtain rfl : k = s.sizes.length := by omega
   clear hN
   have hc2 : ¬ (s.sizes.any (fun x => !sizeS x)) = true := by rw [q2N fun j hj => by rw [hall j hj hj]; rfl]; decide
   refine gg rfl (q04 (gg rfl ?_))
   rw [List.length_map, List.length_map]
   refine q05 rfl (fun g2 => ?_) (fun g2 => ?_)
   ·rw [q0z] at g2
    refine gg rfl (q0g rfl (gg rfl (q08 rfl rfl rfl trivial ?_)))
    rw [q26, if_neg hc1, if_neg hc2, if_pos (.inl (by omega))]
   rw [q0A] at g2
   have g2' : s.mults.length = s.sizes.length := by omega
   refine gg rfl (q01 rfl rfl (qhY s.mults 0 (by omega)) ?_)
   cases hz : decide (0 ∈ s.mults) with
   | false =>
     have hz := of_decide_eq_false hz
     refine gg rfl (q0g rfl (gg rfl (q08 rfl rfl rfl trivial ?_)))
     rw [q26, if_neg hc1, if_neg hc2, if_pos (.inr hz)]
   | true =>
     have hz := of_decide_eq_true hz
     have hc3 : ¬ (s.mults.length ≠ s.sizes.length ∨ 0 ∉ s.mults) := by
      rintro (h | h)
      ·exact h g2'
      exact h hz
     refine gg rfl (q0m rfl (gg rfl ?_))
     rw [List.length_map]
     refine q0q (S := fun k : Nat => ([.ptr 0 0 0, .mref 1, strs s.sizes, q00 s.sizes.length, q00 k], [some (.row [s.enc] 7), some (.mp ((q7b (s.sizes.take k)).map (·.1)) ((q7b (s.sizes.take k)).map (·.2))), none, none, none], [0, 0, 0, 0, 0])) (C := fun k => k ≤ s.sizes.length ∧ ∀ i, i < k → ((s.sizes.take i).any fun x => x.toList == (sz s.sizes i).toList) = false) (m := fun k => s.sizes.length - k) 0 ⟨Nat.zero_le _, fun j h => by omega⟩ (by omega) ?_ ?_
     ·exact qq2 (o := [.p _, .p _]) (kp := ([.ptr 0 0 0, .mref 1, strs s.sizes, q00 s.sizes.length, q00 0], [some (.row [s.enc] 7), some (.mp [] []), none, none, none], [0, 0, 0, 0, 0])) [none] rfl ⟨rfl, rfl, trivial⟩ rfl
     rintro k ⟨hk, htw⟩ N hN
     refine gg rfl (q02 rfl (fun e => ?_) (fun e => ?_))
     ·rw [q06] at e
      have hlt : k < s.sizes.length := by omega
      have w1 := wS (n := k)
      have hst : q7b (s.sizes.take (k + 1)) = q7b (s.sizes.take k) ++ [(sz s.sizes k, .bool true)] := by
       rw [List.take_succ_eq_append_getElem hlt, qpy, qjK hlt]
      have hgt := qrR (s.sizes.take k) (sz s.sizes k)
      refine gg rfl (q0k k rfl rfl rfl (qpv hlt) rfl (gg rfl (quM (m := q7b (s.sizes.take k)) rfl rfl rfl (fun v hv => ?_) (fun hv => ?_))))
      ·rw [hgt] at hv
       cases ha : ((s.sizes.take k).any fun x => x.toList == (sz s.sizes k).toList) with
       | true =>
         rw [ha] at hv
         cases hv
         refine gg rfl (q0g rfl (gg rfl (q04 (gg rfl (q08 rfl rfl rfl trivial ?_)))))
         have ht : q4o s.sizes = true := by
          unfold q4o
          rw [List.any_eq_true]
          exact ⟨k, List.mem_range.2 hlt, ha⟩
         rw [q26, if_neg hc1, if_neg hc2, if_neg hc3, if_pos ht]
       | false => rw [ha] at hv; cases hv
      have ha : ((s.sizes.take k).any fun x => x.toList == (sz s.sizes k).toList) = false := by
       rw [hgt] at hv
       cases ha : ((s.sizes.take k).any fun x => x.toList == (sz s.sizes k).toList) with
       | true => rw [ha] at hv; cases hv
       | false => rfl
      refine gg rfl (q0m rfl (gg rfl (atPut (m := q7b (s.sizes.take k)) rfl rfl rfl rfl hv (gg rfl (q04 (hN (k + 1) ⟨hlt, fun i hi => ?_⟩ (by omega) (qq2 (o := [.p [s.enc], .p ((q7b (s.sizes.take k) ++ [(sz s.sizes k, D.bool true)] : List (ByteArray × D)).map (·.2))]) (kp := ([.ptr 0 0 0, .mref 1, strs s.sizes, q00 s.sizes.length, .int .i64 (IntKind.i64.wrap ((k : Int) + 1))], [some (.row [s.enc] 7), some (.mp ((q7b (s.sizes.take k) ++ [(sz s.sizes k, D.bool true)] : List (ByteArray × D)).map (·.1)) ((q7b (s.sizes.take k) ++ [(sz s.sizes k, D.bool true)] : List (ByteArray × D)).map (·.2))), none, none, none], [0, 0, 0, 0, 0])) [none] rfl ⟨rfl, ?_, trivial⟩ ?_)))))))
      ·by_cases ei : i = k
       ·subst ei; exact ha
       exact htw i (by omega)
      ·show List.all ((q7b (s.sizes.take k) ++ [(sz s.sizes k, D.bool true)] : List (ByteArray × D)).map (·.2)) _ = true
       rw [← hst]; exact qob _
      rw [w1, hst]; rfl
     rw [q07] at e
     obtain rfl : k = s.sizes.length := by omega
     clear hN
     have hc4 : ¬ q4o s.sizes = true := by
      unfold q4o
      rw [List.any_eq_true]
      rintro ⟨i, hi, h⟩
      rw [htw i (List.mem_range.1 hi)] at h; cases h
     have hw : q26 s = if 12 < s.sizes.length ∨ 12 < s.pieces.length ∨ 12 < s.uses.length then 5
      else if 24 < s.seams.length ∨ 16 < s.ops.length then 5
      else if s.mults.any (fun m => decide (m < -100) || decide (100 < m)) then 3 else 0 := by
      rw [q26, if_neg hc1, if_neg hc2, if_neg hc3, if_neg hc4]
     rw [hw]
     refine gg rfl (q04 (gg rfl ?_))
     rw [List.length_map]
     refine q05 rfl (fun g3 => ?_) (fun g3 => ?_)
     ·rw [q06] at g3
      refine gg rfl (q0e rfl (gg rfl (q0g rfl (gg rfl (q08 rfl rfl rfl trivial ?_)))))
      rw [if_pos (.inl (by omega))]
     rw [q07] at g3
     refine gg rfl ?_
     rw [List.length_map]
     refine q05 rfl (fun g4 => ?_) (fun g4 => ?_)
     ·rw [q06] at g4
      refine gg rfl (q0g rfl (gg rfl (q08 rfl rfl rfl trivial ?_)))
      rw [if_pos (.inr (.inl (by omega)))]
     rw [q07] at g4
     refine gg rfl ?_
     rw [List.length_map]
     refine q02 rfl (fun g5 => ?_) (fun g5 => ?_)
     ·rw [q06] at g5
      refine gg rfl (q08 rfl rfl rfl trivial ?_)
      rw [if_pos (.inr (.inr (by omega)))]
     rw [q07] at g5
     rw [if_neg (by omega)]
     refine gg rfl ?_
     rw [List.length_map]
     refine q05 rfl (fun g6 => ?_) (fun g6 => ?_)
     ·rw [q06] at g6
      refine gg rfl (q0g rfl (gg rfl (q08 rfl rfl rfl trivial ?_)))
      rw [if_pos (.inl (by omega))]
     rw [q07] at g6
     refine gg rfl ?_
     rw [List.length_map]
     refine q02 rfl (fun g7 => ?_) (fun g7 => ?_)
     ·rw [q06] at g7
      refine gg rfl (q08 rfl rfl rfl trivial ?_)
      rw [if_pos (.inr (by omega))]
     rw [q07] at g7
     rw [if_neg (by omega)]
     refine gg rfl ?_
     rw [List.length_map]
     refine q0q (S := fun k : Nat => ([ints s.mults, q00 s.mults.length, q00 k], [none, none, none], [0, 0, 0])) (C := fun k => k ≤ s.mults.length ∧ ∀ j (hj : j < s.mults.length), j < k → (decide (s.mults[j] < -100) || decide (100 < s.mults[j])) = false) (m := fun k => s.mults.length - k) 0 ⟨Nat.zero_le _, fun j _ h => by omega⟩ (by omega) ?_ ?_
     ·exact q03 rfl trivial rfl
     rintro k ⟨hk, hm⟩ N hN
     refine gg rfl (q02 rfl (fun e => ?_) (fun e => ?_))
     ·rw [q06] at e
      have hlt : k < s.mults.length := by omega
      have w1 := wS (n := k)
      have bad : (decide (s.mults[k] < -100) || decide (100 < s.mults[k])) = true → (s.mults.any fun m => decide (m < -100) || decide (100 < m)) = true := fun h => q3c hlt h
      have hx : (s.mults.map q00)[k]? = some (.int .i64 s.mults[k]) := q1J hlt
      refine gg rfl (q0k k rfl rfl rfl hx rfl (gg rfl (q05 rfl (fun f1 => ?_) (fun f1 => ?_))))
      ·rw [q06] at f1
       refine gg rfl (q0g rfl (gg rfl (q04 (gg rfl (q08 rfl rfl rfl trivial ?_)))))
       rw [if_pos (bad (by simp; omega))]
      rw [q07] at f1
      refine gg rfl (q02 rfl (fun f2 => ?_) (fun f2 => ?_))
      ·rw [q06] at f2
       refine gg rfl (q04 (gg rfl (q08 rfl rfl rfl trivial ?_)))
       rw [if_pos (bad (by simp; omega))]
      rw [q07] at f2
      refine gg rfl (q04 (hN (k + 1) ⟨hlt, fun j hj hjk => ?_⟩ (by omega) (q03 rfl trivial (by rw [w1]; rfl))))
      by_cases ej : j = k
      ·subst ej; simp; omega
      exact hm j hj (by omega)
     rw [q07] at e
     obtain rfl : k = s.mults.length := by omega
     rw [if_neg (by rw [q2N fun j hj => hm j hj hj]; decide)]
     exact gg rfl (q04 (gg rfl (q08 rfl rfl rfl trivial rfl)))
end Go.F

namespace Go.F
attribute [local irreducible] IntKind.wrap wpM
def q3W (b : List Piece) (p : Piece) : Int :=
 if q1L p.name = false then 1
 else if p.grain ≠ 1 ∧ p.grain ≠ 2 ∧ p.grain ≠ 4 then 1
 else if (b.any fun o => o.name.toList == p.name.toList) then 7
 else if (q0B p 0).2 ≠ 0 then (q0B p 0).2
 else if (q29 p 0).2 ≠ 0 then (q29 p 0).2
 else if p.widths.length ≠ p.edges.length then 1
 else if p.widths.any q2t then 3 else 0
set_option maxHeartbeats 8000000 in
theorem qkm (b : List Piece) (p : Piece) (hb : b.length ≤ 1000) (h1 : p.corners.length ≤ 1000) (h2 : p.widths.length ≤ 1000) : PU q8x [Go.F.pieces b, p.enc] = some (.int .i64 (q3W b p)) := by
 refine q0h (fn := q5b) rfl (q0c ?_)
 refine gg rfl (q01 rfl rfl (qbA p.name) ?_)
 cases hn : q1L p.name with
 | false =>
   refine gg rfl (q0g rfl (gg rfl (q08 rfl rfl rfl trivial ?_)))
   rw [q3W, if_pos hn]
 | true =>
   have hc1 : ¬ q1L p.name = false := by rw [hn]; decide
   refine gg rfl (q0m rfl (gg rfl (q05 rfl (fun g1 => ?_) (fun g1 => ?_))))
   ·rw [q0z] at g1
    refine gg rfl (q05 rfl (fun g2 => ?_) (fun g2 => ?_))
    ·rw [q0z] at g2
     refine gg rfl (q02 rfl (fun g3 => ?_) (fun g3 => ?_))
     ·rw [q0z] at g3
      refine gg rfl (q08 rfl rfl rfl trivial ?_)
      rw [q3W, if_neg hc1, if_pos ⟨g1, g2, g3⟩]
     rw [q0A] at g3
     have hc2 : ¬ (p.grain ≠ 1 ∧ p.grain ≠ 2 ∧ p.grain ≠ 4) := fun h => h.2.2 g3
     refine gg rfl ?_
     rw [List.length_map]
     refine q0q (S := fun k : Nat => ([.ptr 0 0 0, Go.F.pieces b, q00 b.length, q00 k], [some (.row [p.enc] 7), none, none, none], [0, 0, 0, 0])) (C := fun k => k ≤ b.length ∧ ∀ j (hj : j < b.length), j < k → (b[j].name.toList == p.name.toList) = false) (m := fun k => b.length - k) 0 ⟨Nat.zero_le _, fun j _ h => by omega⟩ (by omega) ?_ ?_
     ·exact q03 rfl ⟨rfl, trivial⟩ rfl
     rintro k ⟨hk, hno⟩ N hN
     refine gg rfl (q02 rfl (fun e => ?_) (fun e => ?_))
     ·rw [q06] at e
      have hlt : k < b.length := by omega
      have w1 := wS (n := k)
      refine gg rfl (q0k k rfl rfl rfl (q1J hlt) rfl (gg rfl (q02 rfl (fun f => ?_) (fun f => ?_))))
      ·refine gg rfl (q04 (gg rfl (q08 rfl rfl rfl trivial ?_)))
       rw [q3W, if_neg hc1, if_neg hc2, if_pos (q3c hlt f)]
      refine gg rfl (q04 (hN (k + 1) ⟨hlt, fun j hj hjk => ?_⟩ (by omega) (q03 rfl ⟨rfl, trivial⟩ (by rw [w1]; rfl))))
      by_cases ej : j = k
      ·subst ej; exact f
      exact hno j hj (by omega)
     rw [q07] at e
     obtain rfl : k = b.length := by omega
     clear hN
     have hc3 : ¬ (b.any fun o => o.name.toList == p.name.toList) = true := by rw [q2N fun j hj => hno j hj hj]; decide
     have hw : q3W b p = if (q0B p 0).2 ≠ 0 then (q0B p 0).2
      else if (q29 p 0).2 ≠ 0 then (q29 p 0).2
      else if p.widths.length ≠ p.edges.length then 1
      else if p.widths.any q2t then 3 else 0 := by rw [q3W, if_neg hc1, if_neg hc2, if_neg hc3]
     rw [hw]
     refine gg rfl (q04 (gg rfl (q01 rfl rfl (q7R p 0 (by omega)) ?_)))
     refine gg rfl (q02 rfl (fun f => ?_) (fun f => ?_))
     ·rw [q0z] at f
      refine gg rfl (q08 rfl rfl rfl trivial ?_)
      rw [if_pos f]
     rw [q0A] at f
     rw [if_neg (by simp [f])]
     refine gg rfl (q01 rfl rfl (qgp p 0 (by omega)) ?_)
     refine gg rfl (q02 rfl (fun f2 => ?_) (fun f2 => ?_))
     ·rw [q0z] at f2
      refine gg rfl (q08 rfl rfl rfl trivial ?_)
      rw [if_pos f2]
     rw [q0A] at f2
     rw [if_neg (by simp [f2])]
     refine gg rfl ?_
     rw [List.length_map, List.length_map]
     refine q02 rfl (fun f3 => ?_) (fun f3 => ?_)
     ·rw [q0z] at f3
      refine gg rfl (q08 rfl rfl rfl trivial ?_)
      rw [if_pos (by omega)]
     rw [q0A] at f3
     rw [if_neg (by omega)]
     refine gg rfl ?_
     rw [List.length_map]
     refine q0q (S := fun k : Nat => ([ints p.widths, q00 p.widths.length, q00 k], [none, none, none], [0, 0, 0])) (C := fun k => k ≤ p.widths.length ∧ ∀ j (hj : j < p.widths.length), j < k → q2t p.widths[j] = false) (m := fun k => p.widths.length - k) 0 ⟨Nat.zero_le _, fun j _ h => by omega⟩ (by omega) ?_ ?_
     ·exact q03 rfl trivial rfl
     rintro k ⟨hk, hm⟩ N hN
     refine gg rfl (q02 rfl (fun e => ?_) (fun e => ?_))
     ·rw [q06] at e
      have hlt : k < p.widths.length := by omega
      have w1 := wS (n := k)
      have bad : q2t p.widths[k] = true → p.widths.any q2t = true := fun h => q3c hlt h
      have hx : (p.widths.map q00)[k]? = some (.int .i64 p.widths[k]) := q1J hlt
      refine gg rfl (q0k k rfl rfl rfl hx rfl (gg rfl (q05 rfl (fun f1 => ?_) (fun f1 => ?_))))
      ·rw [q06] at f1
       refine gg rfl (q0g rfl (gg rfl (q04 (gg rfl (q08 rfl rfl rfl trivial ?_)))))
       rw [if_pos (bad (by simp [q2t]; omega))]
      rw [q07] at f1
      refine gg rfl (q02 rfl (fun f2 => ?_) (fun f2 => ?_))
      ·rw [q06] at f2
       refine gg rfl (q04 (gg rfl (q08 rfl rfl rfl trivial ?_)))
       rw [if_pos (bad (by simp [q2t]; omega))]
      rw [q07] at f2
      refine gg rfl (q04 (hN (k + 1) ⟨hlt, fun j hj hjk => ?_⟩ (by omega) (q03 rfl trivial (by rw [w1]; rfl))))
      by_cases ej : j = k
      ·subst ej; simp [q2t]; omega
      exact hm j hj (by omega)
     rw [q07] at e
     obtain rfl : k = p.widths.length := by omega
     rw [if_neg (by rw [q2N fun j hj => hm j hj hj]; decide)]
     exact gg rfl (q04 (gg rfl (q08 rfl rfl rfl trivial rfl)))
    rw [q0A] at g2
    have hc2 : ¬ (p.grain ≠ 1 ∧ p.grain ≠ 2 ∧ p.grain ≠ 4) := fun h => h.2.1 g2
    refine gg rfl (q0m rfl (gg rfl ?_))
    rw [List.length_map]
    refine q0q (S := fun k : Nat => ([.ptr 0 0 0, Go.F.pieces b, q00 b.length, q00 k], [some (.row [p.enc] 7), none, none, none], [0, 0, 0, 0])) (C := fun k => k ≤ b.length ∧ ∀ j (hj : j < b.length), j < k → (b[j].name.toList == p.name.toList) = false) (m := fun k => b.length - k) 0 ⟨Nat.zero_le _, fun j _ h => by omega⟩ (by omega) ?_ ?_
    ·exact q03 rfl ⟨rfl, trivial⟩ rfl
    rintro k ⟨hk, hno⟩ N hN
    refine gg rfl (q02 rfl (fun e => ?_) (fun e => ?_))
    ·rw [q06] at e
     have hlt : k < b.length := by omega
     have w1 := wS (n := k)
     refine gg rfl (q0k k rfl rfl rfl (q1J hlt) rfl (gg rfl (q02 rfl (fun f => ?_) (fun f => ?_))))
     ·refine gg rfl (q04 (gg rfl (q08 rfl rfl rfl trivial ?_)))
      rw [q3W, if_neg hc1, if_neg hc2, if_pos (q3c hlt f)]
     refine gg rfl (q04 (hN (k + 1) ⟨hlt, fun j hj hjk => ?_⟩ (by omega) (q03 rfl ⟨rfl, trivial⟩ (by rw [w1]; rfl))))
     by_cases ej : j = k
     ·subst ej; exact f
     exact hno j hj (by omega)
    rw [q07] at e
    obtain rfl : k = b.length := by omega
    clear hN
    have hc3 : ¬ (b.any fun o => o.name.toList == p.name.toList) = true := by rw [q2N fun j hj => hno j hj hj]; decide
    have hw : q3W b p = if (q0B p 0).2 ≠ 0 then (q0B p 0).2
     else if (q29 p 0).2 ≠ 0 then (q29 p 0).2
     else if p.widths.length ≠ p.edges.length then 1
     else if p.widths.any q2t then 3 else 0 := by rw [q3W, if_neg hc1, if_neg hc2, if_neg hc3]
    rw [hw]
    refine gg rfl (q04 (gg rfl (q01 rfl rfl (q7R p 0 (by omega)) ?_)))
    refine gg rfl (q02 rfl (fun f => ?_) (fun f => ?_))
    ·rw [q0z] at f
     refine gg rfl (q08 rfl rfl rfl trivial ?_)
     rw [if_pos f]
    rw [q0A] at f
    rw [if_neg (by simp [f])]
    refine gg rfl (q01 rfl rfl (qgp p 0 (by omega)) ?_)
    refine gg rfl (q02 rfl (fun f2 => ?_) (fun f2 => ?_))
    ·rw [q0z] at f2
     refine gg rfl (q08 rfl rfl rfl trivial ?_)
     rw [if_pos f2]
    rw [q0A] at f2
    rw [if_neg (by simp [f2])]
    refine gg rfl ?_
    rw [List.length_map, List.length_map]
    refine q02 rfl (fun f3 => ?_) (fun f3 => ?_)
    ·rw [q0z] at f3
     refine gg rfl (q08 rfl rfl rfl trivial ?_)
     rw [if_pos (by omega)]
    rw [q0A] at f3
    rw [if_neg (by omega)]
    refine gg rfl ?_
    rw [List.length_map]
    refine q0q (S := fun k : Nat => ([ints p.widths, q00 p.widths.length, q00 k], [none, none, none], [0, 0, 0])) (C := fun k => k ≤ p.widths.length ∧ ∀ j (hj : j < p.widths.length), j < k → q2t p.widths[j] = false) (m := fun k => p.widths.length - k) 0 ⟨Nat.zero_le _, fun j _ h => by omega⟩ (by omega) ?_ ?_
    ·exact q03 rfl trivial rfl
    rintro k ⟨hk, hm⟩ N hN
    refine gg rfl (q02 rfl (fun e => ?_) (fun e => ?_))
    ·rw [q06] at e
     have hlt : k < p.widths.length := by omega
     have w1 := wS (n := k)
     have bad : q2t p.widths[k] = true → p.widths.any q2t = true := fun h => q3c hlt h
     have hx : (p.widths.map q00)[k]? = some (.int .i64 p.widths[k]) := q1J hlt
     refine gg rfl (q0k k rfl rfl rfl hx rfl (gg rfl (q05 rfl (fun f1 => ?_) (fun f1 => ?_))))
     ·rw [q06] at f1
      refine gg rfl (q0g rfl (gg rfl (q04 (gg rfl (q08 rfl rfl rfl trivial ?_)))))
      rw [if_pos (bad (by simp [q2t]; omega))]
     rw [q07] at f1
     refine gg rfl (q02 rfl (fun f2 => ?_) (fun f2 => ?_))
     ·rw [q06] at f2
      refine gg rfl (q04 (gg rfl (q08 rfl rfl rfl trivial ?_)))
      rw [if_pos (bad (by simp [q2t]; omega))]
     rw [q07] at f2
     refine gg rfl (q04 (hN (k + 1) ⟨hlt, fun j hj hjk => ?_⟩ (by omega) (q03 rfl trivial (by rw [w1]; rfl))))
     by_cases ej : j = k
     ·subst ej; simp [q2t]; omega
     exact hm j hj (by omega)
    rw [q07] at e
    obtain rfl : k = p.widths.length := by omega
    rw [if_neg (by rw [q2N fun j hj => hm j hj hj]; decide)]
    exact gg rfl (q04 (gg rfl (q08 rfl rfl rfl trivial rfl)))
   rw [q0A] at g1
   have hc2 : ¬ (p.grain ≠ 1 ∧ p.grain ≠ 2 ∧ p.grain ≠ 4) := fun h => h.1 g1
   refine gg rfl (q0j rfl (gg rfl (q0m rfl (gg rfl ?_))))
   rw [List.length_map]
   refine q0q (S := fun k : Nat => ([.ptr 0 0 0, Go.F.pieces b, q00 b.length, q00 k], [some (.row [p.enc] 7), none, none, none], [0, 0, 0, 0])) (C := fun k => k ≤ b.length ∧ ∀ j (hj : j < b.length), j < k → (b[j].name.toList == p.name.toList) = false) (m := fun k => b.length - k) 0 ⟨Nat.zero_le _, fun j _ h => by omega⟩ (by omega) ?_ ?_
   ·exact q03 rfl ⟨rfl, trivial⟩ rfl
   rintro k ⟨hk, hno⟩ N hN
   refine gg rfl (q02 rfl (fun e => ?_) (fun e => ?_))
   ·rw [q06] at e
    have hlt : k < b.length := by omega
    have w1 := wS (n := k)
    refine gg rfl (q0k k rfl rfl rfl (q1J hlt) rfl (gg rfl (q02 rfl (fun f => ?_) (fun f => ?_))))
    ·refine gg rfl (q04 (gg rfl (q08 rfl rfl rfl trivial ?_)))
     rw [q3W, if_neg hc1, if_neg hc2, if_pos (q3c hlt f)]
    refine gg rfl (q04 (hN (k + 1) ⟨hlt, fun j hj hjk => ?_⟩ (by omega) (q03 rfl ⟨rfl, trivial⟩ (by rw [w1]; rfl))))
    by_cases ej : j = k
    ·subst ej; exact f
    exact hno j hj (by omega)
   rw [q07] at e
   obtain rfl : k = b.length := by omega
   clear hN
   have hc3 : ¬ (b.any fun o => o.name.toList == p.name.toList) = true := by rw [q2N fun j hj => hno j hj hj]; decide
   have hw : q3W b p = if (q0B p 0).2 ≠ 0 then (q0B p 0).2
    else if (q29 p 0).2 ≠ 0 then (q29 p 0).2
    else if p.widths.length ≠ p.edges.length then 1
    else if p.widths.any q2t then 3 else 0 := by rw [q3W, if_neg hc1, if_neg hc2, if_neg hc3]
   rw [hw]
   refine gg rfl (q04 (gg rfl (q01 rfl rfl (q7R p 0 (by omega)) ?_)))
   refine gg rfl (q02 rfl (fun f => ?_) (fun f => ?_))
   ·rw [q0z] at f
    refine gg rfl (q08 rfl rfl rfl trivial ?_)
    rw [if_pos f]
   rw [q0A] at f
   rw [if_neg (by simp [f])]
   refine gg rfl (q01 rfl rfl (qgp p 0 (by omega)) ?_)
   refine gg rfl (q02 rfl (fun f2 => ?_) (fun f2 => ?_))
   ·rw [q0z] at f2
    refine gg rfl (q08 rfl rfl rfl trivial ?_)
    rw [if_pos f2]
   rw [q0A] at f2
   rw [if_neg (by simp [f2])]
   refine gg rfl ?_
   rw [List.length_map, List.length_map]
   refine q02 rfl (fun f3 => ?_) (fun f3 => ?_)
   ·rw [q0z] at f3
    refine gg rfl (q08 rfl rfl rfl trivial ?_)
    rw [if_pos (by omega)]
   rw [q0A] at f3
   rw [if_neg (by omega)]
   refine gg rfl ?_
   rw [List.length_map]
   refine q0q (S := fun k : Nat => ([ints p.widths, q00 p.widths.length, q00 k], [none, none, none], [0, 0, 0])) (C := fun k => k ≤ p.widths.length ∧ ∀ j (hj : j < p.widths.length), j < k → q2t p.widths[j] = false) (m := fun k => p.widths.length - k) 0 ⟨Nat.zero_le _, fun j _ h => by omega⟩ (by omega) ?_ ?_
   ·exact q03 rfl trivial rfl
   rintro k ⟨hk, hm⟩ N hN
   refine gg rfl (q02 rfl (fun e => ?_) (fun e => ?_))
   ·rw [q06] at e
    have hlt : k < p.widths.length := by omega
    have w1 := wS (n := k)
    have bad : q2t p.widths[k] = true → p.widths.any q2t = true := fun h => q3c hlt h
    have hx : (p.widths.map q00)[k]? = some (.int .i64 p.widths[k]) := q1J hlt
    refine gg rfl (q0k k rfl rfl rfl hx rfl (gg rfl (q05 rfl (fun f1 => ?_) (fun f1 => ?_))))
    ·rw [q06] at f1
     refine gg rfl (q0g rfl (gg rfl (q04 (gg rfl (q08 rfl rfl rfl trivial ?_)))))
     rw [if_pos (bad (by simp [q2t]; omega))]
    rw [q07] at f1
    refine gg rfl (q02 rfl (fun f2 => ?_) (fun f2 => ?_))
    ·rw [q06] at f2
     refine gg rfl (q04 (gg rfl (q08 rfl rfl rfl trivial ?_)))
     rw [if_pos (bad (by simp [q2t]; omega))]
    rw [q07] at f2
    refine gg rfl (q04 (hN (k + 1) ⟨hlt, fun j hj hjk => ?_⟩ (by omega) (q03 rfl trivial (by rw [w1]; rfl))))
    by_cases ej : j = k
    ·subst ej; simp [q2t]; omega
    exact hm j hj (by omega)
   rw [q07] at e
   obtain rfl : k = p.widths.length := by omega
   rw [if_neg (by rw [q2N fun j hj => hm j hj hj]; decide)]
   exact gg rfl (q04 (gg rfl (q08 rfl rfl rfl trivial rfl)))
def q4Q (s : Sty) (p e : Int) : Bool := decide (0 ≤ p) && (decide (p < s.pieces.length) && (decide (0 ≤ e) && decide (e < (pc s.pieces p.toNat).edges.length)))
theorem qlb (s : Sty) (p e : Int) : PU q8y [s.enc, .int .i64 p, .int .i64 e] = some (.bool (q4Q s p e)) := by
 refine q0h (fn := q84) rfl (q0c ?_)
 refine gg rfl (q05 rfl (fun g1 => ?_) (fun g1 => ?_))
 ·rw [q0D] at g1
  refine gg rfl ?_
  rw [List.length_map]
  refine q05 rfl (fun g2 => ?_) (fun g2 => ?_)
  ·rw [q06] at g2
   refine gg rfl (q05 rfl (fun g3 => ?_) (fun g3 => ?_))
   ·rw [q0D] at g3
    refine gg rfl (q0k p.toNat rfl rfl (by omega) (qeL (by omega)) rfl ?_)
    refine gg rfl (q08 rfl rfl rfl trivial ?_)
    rw [q4Q, decide_eq_true g1, decide_eq_true g2, decide_eq_true g3, q1H, List.length_map]; rfl
   rw [q0E] at g3
   refine gg rfl (q08 rfl rfl rfl trivial ?_)
   rw [q4Q, decide_eq_false (show ¬ 0 ≤ e by omega)]; simp
  rw [q07] at g2
  refine gg rfl (q0j rfl (gg rfl (q08 rfl rfl rfl trivial ?_)))
  rw [q4Q, decide_eq_false (show ¬ p < s.pieces.length by omega)]; simp
 rw [q0E] at g1
 refine gg rfl (q0j rfl (gg rfl (q0j rfl (gg rfl (q08 rfl rfl rfl trivial ?_)))))
 rw [q4Q, decide_eq_false (show ¬ 0 ≤ p by omega)]; rfl
def q2C (n : Nat) (u : Use) : Bool := decide (u.piece < 0) || (decide ((n : Int) ≤ u.piece) || (decide (u.count < 1) || decide (4 < u.count)))
def qe2 (s : Sty) (m : Sew) : Int := if q4Q s m.pa m.ea = false ∨ q4Q s m.pb m.eb = false then 3 else if m.ease < 0 then 1 else 0
def q38 (s : Sty) (i : Nat) : Int := q3W (s.pieces.take i) (pc s.pieces i)
def q7A (s : Sty) (i : Nat) : Int := qe2 s (sw s.seams i)
def q32 (s : Sty) : Int :=
 if q26 s ≠ 0 then q26 s
 else if q0F (q38 s) s.pieces.length ≠ 0 then q0F (q38 s) s.pieces.length
 else if s.uses.any (q2C s.pieces.length) then 3
 else q0F (q7A s) s.seams.length
set_option maxHeartbeats 8000000 in
theorem q1c (s : Sty) (hB : StyB s) : PU q0W [s.enc] = some (.int .i64 (q32 s)) := by
 have b1 := hB.pieces
 have b2 := hB.uses
 have b3 := hB.seams
 refine q0h (fn := q9j) rfl (q0c ?_)
 refine gg rfl (q01 rfl rfl (qkl s hB) (gg rfl (q02 rfl (fun g => ?_) (fun g => ?_))))
 ·rw [q0z] at g
  refine gg rfl (q08 rfl rfl rfl trivial ?_)
  rw [q32, if_pos g]
 have g : q26 s = 0 := q0A.1 g
 have hw : q32 s = if q0F (q38 s) s.pieces.length ≠ 0 then q0F (q38 s) s.pieces.length
  else if s.uses.any (q2C s.pieces.length) then 3
  else q0F (q7A s) s.seams.length := by rw [q32, if_neg (by simp [g])]
 rw [hw]
 refine gg rfl ?_
 rw [List.length_map]
 refine q0q (S := fun k : Nat => ([.ptr 0 0 0, Go.F.pieces s.pieces, q00 s.pieces.length, q00 k], [some (.row [s.enc] 7), none, none, none], [0, 0, 0, 0])) (C := fun k => k ≤ s.pieces.length ∧ q0F (q38 s) k = 0) (m := fun k => s.pieces.length - k) 0 ⟨Nat.zero_le _, rfl⟩ (by omega) ?_ ?_
 ·exact q03 rfl ⟨rfl, trivial⟩ rfl
 rintro k ⟨hk, h0⟩ N hN
 refine gg rfl (q02 rfl (fun e => ?_) (fun e => ?_))
 ·rw [q06] at e
  have hlt : k < s.pieces.length := by omega
  have w1 := wS (n := k)
  have hp := qkm (s.pieces.take k) (pc s.pieces k) (by rw [List.length_take]; omega) (hB.corners _ (qpu hlt)) (hB.widths _ (qpu hlt))
  refine gg rfl (q0k k rfl rfl rfl (qeL hlt) rfl (gg rfl (qdM k rfl (q1X (n := 7) (fun _ => rfl) _) ⟨_, _, rfl, rfl⟩ (by rw [List.length_map]; omega) ?_)))
  rw [← List.map_take]
  refine gg rfl (q01 rfl rfl hp (gg rfl (q02 rfl (fun f => ?_) (fun f => ?_))))
  ·rw [q0z] at f
   refine gg rfl (q04 (gg rfl (q08 rfl rfl rfl trivial ?_)))
   have f' : q38 s k ≠ 0 := f
   have hf := q5C (f := q38 s) h0 f' hlt
   rw [hf, if_pos f']; rfl
  rw [q0A] at f
  exact gg rfl (q04 (hN (k + 1) ⟨hlt, q3L h0 f⟩ (by omega) (q03 rfl ⟨rfl, trivial⟩ (by rw [w1]; rfl))))
 rw [q07] at e
 obtain rfl : k = s.pieces.length := by omega
 clear hN
 rw [if_neg (by simp [h0])]
 refine gg rfl (q04 (gg rfl ?_))
 rw [List.length_map]
 refine q0q (S := fun k : Nat => ([.ptr 0 0 0, Go.F.uses s.uses, q00 s.uses.length, q00 k], [some (.row [s.enc] 7), none, none, none], [0, 0, 0, 0])) (C := fun k => k ≤ s.uses.length ∧ ∀ j (hj : j < s.uses.length), j < k → q2C s.pieces.length s.uses[j] = false) (m := fun k => s.uses.length - k) 0 ⟨Nat.zero_le _, fun j _ h => by omega⟩ (by omega) ?_ ?_
 ·exact q03 rfl ⟨rfl, trivial⟩ rfl
 rintro k ⟨hk, hu⟩ N hN
 refine gg rfl (q02 rfl (fun e => ?_) (fun e => ?_))
 ·rw [q06] at e
  have hlt : k < s.uses.length := by omega
  have w1 := wS (n := k)
  have hx : (s.uses.map Use.enc)[k]? = some s.uses[k].enc := q1J hlt
  have bad : q2C s.pieces.length s.uses[k] = true → s.uses.any (q2C s.pieces.length) = true := fun h => q3c hlt h
  have hnx : q2C s.pieces.length s.uses[k] = false → ∀ j (hj : j < s.uses.length), j < k + 1 → q2C s.pieces.length s.uses[j] = false := by
   intro h j hj hjk
   by_cases ej : j = k
   ·subst ej; exact h
   exact hu j hj (by omega)
  generalize s.uses[k] = u at *
  refine gg rfl (q0k k rfl rfl rfl hx rfl (gg rfl (q05 rfl (fun f1 => ?_) (fun f1 => ?_))))
  ·rw [q06] at f1
   refine gg rfl (q0e rfl (gg rfl (q0e rfl (gg rfl (q0g rfl (gg rfl (q04 (gg rfl (q08 rfl rfl rfl trivial ?_)))))))))
   rw [if_pos (bad (by simp [q2C]; omega))]
  rw [q07] at f1
  refine gg rfl ?_
  rw [List.length_map]
  refine q05 rfl (fun f2 => ?_) (fun f2 => ?_)
  ·rw [q0D] at f2
   refine gg rfl (q0e rfl (gg rfl (q0g rfl (gg rfl (q04 (gg rfl (q08 rfl rfl rfl trivial ?_)))))))
   rw [if_pos (bad (by simp [q2C]; omega))]
  rw [q0E] at f2
  refine gg rfl (q05 rfl (fun f3 => ?_) (fun f3 => ?_))
  ·rw [q06] at f3
   refine gg rfl (q0g rfl (gg rfl (q04 (gg rfl (q08 rfl rfl rfl trivial ?_)))))
   rw [if_pos (bad (by simp [q2C]; omega))]
  rw [q07] at f3
  refine gg rfl (q02 rfl (fun f4 => ?_) (fun f4 => ?_))
  ·rw [q06] at f4
   refine gg rfl (q04 (gg rfl (q08 rfl rfl rfl trivial ?_)))
   rw [if_pos (bad (by simp [q2C]; omega))]
  rw [q07] at f4
  exact gg rfl (q04 (hN (k + 1) ⟨hlt, hnx (by simp [q2C]; omega)⟩ (by omega) (q03 rfl ⟨rfl, trivial⟩ (by rw [w1]; rfl))))
 rw [q07] at e
 obtain rfl : k = s.uses.length := by omega
 clear hN
 rw [if_neg (by rw [q2N fun j hj => hu j hj hj]; decide)]
 refine gg rfl (q04 (gg rfl ?_))
 rw [List.length_map]
 refine q0q (S := fun k : Nat => ([.ptr 0 0 0, sews s.seams, q00 s.seams.length, q00 k], [some (.row [s.enc] 7), none, none, none], [0, 0, 0, 0])) (C := fun k => k ≤ s.seams.length ∧ q0F (q7A s) k = 0) (m := fun k => s.seams.length - k) 0 ⟨Nat.zero_le _, rfl⟩ (by omega) ?_ ?_
 ·exact q03 rfl ⟨rfl, trivial⟩ rfl
 rintro k ⟨hk, h0⟩ N hN
 refine gg rfl (q02 rfl (fun e => ?_) (fun e => ?_))
 ·rw [q06] at e
  have hlt : k < s.seams.length := by omega
  have w1 := wS (n := k)
  have hx := qvv hlt
  have bad : ∀ x, qe2 s (sw s.seams k) = x → x ≠ 0 → q0F (q7A s) s.seams.length = x := by
   intro x h hx0
   have := q5C (f := q7A s) h0 (by show qe2 s (sw s.seams k) ≠ 0; rw [h]; exact hx0) hlt
   rw [this]; exact h
  have good : qe2 s (sw s.seams k) = 0 → q0F (q7A s) (k + 1) = 0 := fun h => q3L h0 h
  generalize sw s.seams k = m at *
  have e1 := qlb s m.pa m.ea
  have e2 := qlb s m.pb m.eb
  refine gg rfl (q0k k rfl rfl rfl hx rfl (gg rfl (q01 rfl rfl e1 ?_)))
  cases ha : q4Q s m.pa m.ea with
  | false =>
    refine gg rfl (q0e rfl (gg rfl (q0g rfl (gg rfl (q04 (gg rfl (q08 rfl rfl rfl trivial ?_)))))))
    rw [bad 3 (by rw [qe2, if_pos (.inl ha)]) (by decide)]
  | true =>
    refine gg rfl (q0j rfl (gg rfl (q01 rfl rfl e2 ?_)))
    cases hb : q4Q s m.pb m.eb with
    | false =>
      refine gg rfl (q0g rfl (gg rfl (q04 (gg rfl (q08 rfl rfl rfl trivial ?_)))))
      rw [bad 3 (by rw [qe2, if_pos (.inr hb)]) (by decide)]
    | true =>
      have hn : ¬ (q4Q s m.pa m.ea = false ∨ q4Q s m.pb m.eb = false) := by rw [ha, hb]; simp
      refine gg rfl (q0m rfl (gg rfl (q02 rfl (fun f => ?_) (fun f => ?_))))
      ·rw [q06] at f
       refine gg rfl (q04 (gg rfl (q08 rfl rfl rfl trivial ?_)))
       rw [bad 1 (by rw [qe2, if_neg hn, if_pos f]) (by decide)]
      rw [q07] at f
      exact gg rfl (q04 (hN (k + 1) ⟨hlt, good (by rw [qe2, if_neg hn, if_neg (by omega)])⟩ (by omega) (q03 rfl ⟨rfl, trivial⟩ (by rw [w1]; rfl))))
 rw [q07] at e
 obtain rfl : k = s.seams.length := by omega
 refine gg rfl (q04 (gg rfl (q08 rfl rfl rfl trivial ?_)))
 rw [h0]
end Go.F

namespace Go.F
attribute [local irreducible] IntKind.wrap wpM
def qgL : Piece := ⟨⟨#[]⟩, [], 0, [], [], [], false⟩
structure StyOk (s : Sty) : Prop where
 mults : s.mults.length = s.sizes.length
 size : 0 < s.sizes.length
 sizes : s.sizes.length ≤ 12
 pieces : s.pieces.length ≤ 12
 uses : s.uses.length ≤ 12
 seams : s.seams.length ≤ 24
 use : ∀ u ∈ s.uses, 0 ≤ u.piece ∧ u.piece < s.pieces.length ∧ 1 ≤ u.count ∧ u.count ≤ 4
 piece : ∀ i, i < s.pieces.length → q38 s i = 0
 mult : ∀ m ∈ s.mults, -100 ≤ m ∧ m ≤ 100
 base : 0 ∈ s.mults
theorem qdC {s : Sty} (h : q32 s = 0) : StyOk s := by
 unfold q32 at h
 split at h
 ·rename_i h1; exact absurd h h1
 rename_i h1
 split at h
 ·rename_i h2; exact absurd h h2
 rename_i h2
 split at h
 ·cases h
 rename_i h3
 have h1 : q26 s = 0 := by simpa using h1
 have h2 : q0F (q38 s) s.pieces.length = 0 := by simpa using h2
 unfold q26 at h1
 split at h1
 ·cases h1
 split at h1
 ·cases h1
 split at h1
 ·cases h1
 split at h1
 ·cases h1
 split at h1
 ·cases h1
 split at h1
 ·cases h1
 split at h1
 ·cases h1
 rename_i g1 g2 g3 g4 g5 g6 g7
 refine ⟨by omega, by omega, by omega, by omega, by omega, by omega, fun u hu => ?_, fun i hi => q1B h2 hi, fun m hm => ?_, ?_⟩
 ·have hb : q2C s.pieces.length u = false := by
   cases hb : q2C s.pieces.length u with
   | false => rfl
   | true => exact absurd (List.any_eq_true.2 ⟨u, hu, hb⟩) h3
  simp [q2C] at hb
  omega
 ·have hb : (decide (m < -100) || decide (100 < m)) = false := by
   cases hb : (decide (m < -100) || decide (100 < m)) with
   | false => rfl
   | true => exact absurd (List.any_eq_true.2 ⟨m, hm, hb⟩) g7
  simp at hb
  omega
 rcases Classical.em (0 ∈ s.mults) with h | h
 ·exact h
 exact absurd (.inr h) g3
def qbe (s : Sty) (size use : Int) : Prop := size < 0 ∨ (s.sizes.length : Int) ≤ size ∨ use < 0 ∨ (s.uses.length : Int) ≤ use
instance (s : Sty) (a b : Int) : Decidable (qbe s a b) := by unfold qbe; exact inferInstance
def q2S (s : Sty) (use : Int) : Piece := pc s.pieces (us s.uses use.toNat).piece.toNat
def q3i (s : Sty) (size use : Int) : List Edge × Piece × Int :=
 if q32 s ≠ 0 then ([], qgL, q32 s)
 else if qbe s size use then ([], qgL, 3)
 else ((q0B (q2S s use) (mu s.mults size.toNat)).1, q2S s use, (q0B (q2S s use) (mu s.mults size.toNat)).2)
set_option maxHeartbeats 4000000 in
theorem qfU (s : Sty) (size use : Int) (hB : StyB s) : PU q60 [s.enc, .int .i64 size, .int .i64 use] = some (.tup [edges (q3i s size use).1, (q3i s size use).2.1.enc, .int .i64 (q3i s size use).2.2]) := by
 refine q0h (fn := q5N) rfl (q0c ?_)
 refine gg rfl (q01 rfl rfl (q1c s hB) (gg rfl (q02 rfl (fun g => ?_) (fun g => ?_))))
 ·rw [q0z] at g
  refine gg rfl (q08 rfl rfl rfl trivial ?_)
  rw [q3i, if_pos g]; rfl
 have g : q32 s = 0 := q0A.1 g
 have hok := qdC g
 have hw : q3i s size use = if qbe s size use then ([], qgL, 3) else ((q0B (q2S s use) (mu s.mults size.toNat)).1, q2S s use, (q0B (q2S s use) (mu s.mults size.toNat)).2) := by rw [q3i, if_neg (by simp [g])]
 rw [hw]
 refine gg rfl (q05 rfl (fun f1 => ?_) (fun f1 => ?_))
 ·rw [q06] at f1
  refine gg rfl (q0e rfl (gg rfl (q0e rfl (gg rfl (q0g rfl (gg rfl (q08 rfl rfl rfl trivial ?_)))))))
  rw [if_pos (.inl f1)]; rfl
 rw [q07] at f1
 refine gg rfl ?_
 rw [List.length_map]
 refine q05 rfl (fun f2 => ?_) (fun f2 => ?_)
 ·rw [q0D] at f2
  refine gg rfl (q0e rfl (gg rfl (q0g rfl (gg rfl (q08 rfl rfl rfl trivial ?_)))))
  rw [if_pos (.inr (.inl f2))]; rfl
 rw [q0E] at f2
 refine gg rfl (q05 rfl (fun f3 => ?_) (fun f3 => ?_))
 ·rw [q06] at f3
  refine gg rfl (q0g rfl (gg rfl (q08 rfl rfl rfl trivial ?_)))
  rw [if_pos (.inr (.inr (.inl f3)))]; rfl
 rw [q07] at f3
 refine gg rfl ?_
 rw [List.length_map]
 refine q02 rfl (fun f4 => ?_) (fun f4 => ?_)
 ·rw [q0D] at f4
  refine gg rfl (q08 rfl rfl rfl trivial ?_)
  rw [if_pos (.inr (.inr (.inr f4)))]; rfl
 rw [q0E] at f4
 have hno : ¬ qbe s size use := by unfold qbe; omega
 rw [if_neg hno]
 have hu : use.toNat < s.uses.length := by omega
 have hup := hok.use (us s.uses use.toNat) (by rw [q9Q hu]; exact List.getElem_mem _)
 have hpl : (us s.uses use.toNat).piece.toNat < s.pieces.length := by omega
 have hml : size.toNat < s.mults.length := by rw [hok.mults]; omega
 have hg := q7R (q2S s use) (mu s.mults size.toNat) (by have := hB.corners _ (qpu hpl); unfold q2S; omega)
 refine gg rfl (q0k use.toNat rfl rfl (by omega) (qde hu) rfl ?_)
 refine gg rfl (q0k (us s.uses use.toNat).piece.toNat rfl rfl (by omega) (qeL hpl) rfl ?_)
 refine gg rfl (q0k size.toNat rfl rfl (by omega) (qpw hml) rfl ?_)
 refine gg rfl (q01 rfl rfl hg (gg rfl (q08 rfl rfl rfl trivial ?_)))
 rfl
def qdL (s : Sty) (size use : Int) : List Spot × Int :=
 if (q3i s size use).2.2 ≠ 0 then ([], (q3i s size use).2.2) else q2F (q3i s size use).1 (q3i s size use).2.1.widths
theorem qtJ (s : Sty) (size use : Int) (hB : StyB s) : PU q48 [s.enc, .int .i64 size, .int .i64 use] = some (qll (qdL s size use)) := by
 have h := qfU s size use hB
 unfold qdL
 generalize q3i s size use = o at *
 refine q0h (fn := qbP) rfl (q0c ?_)
 refine gg rfl (q01 rfl rfl h (gg rfl (q02 rfl (fun g => ?_) (fun g => ?_))))
 ·rw [q0z] at g
  refine gg rfl (q08 rfl rfl rfl trivial ?_)
  rw [if_pos g]; rfl
 rw [q0A] at g
 rw [if_neg (by simp [g])]
 exact gg rfl (q01 rfl rfl (qmE o.1 o.2.1.widths) (gg rfl (q08 rfl rfl rfl trivial rfl)))
def qbB (s : Sty) (size use : Int) : Spot × Int :=
 if (q3i s size use).2.2 ≠ 0 then (⟨0, 0⟩, (q3i s size use).2.2) else (pt (eg (q3i s size use).1 0).line 0, 0)
theorem qtK {s : Sty} {size use : Int} (h : (q3i s size use).2.2 = 0) : q0Q (q3i s size use).1 = 0 ∧ q32 s = 0 ∧ ¬ qbe s size use := by
 unfold q3i at h ⊢
 split at h
 ·rename_i h1; exact absurd h h1
 rename_i h1
 rw [if_neg h1]
 split at h
 ·cases h
 rename_i h2
 rw [if_neg h2]
 exact ⟨(q5D h).2.2.1, by simpa using h1, h2⟩
theorem qlc (s : Sty) (size use : Int) (hB : StyB s) : PU q49 [s.enc, .int .i64 size, .int .i64 use] = some (.tup [(qbB s size use).1.enc, .int .i64 (qbB s size use).2]) := by
 have h := qfU s size use hB
 have hk := qtK (s := s) (size := size) (use := use)
 unfold qbB
 generalize q3i s size use = o at *
 refine q0h (fn := q80) rfl (q0c ?_)
 refine gg rfl (q01 rfl rfl h (gg rfl (q02 rfl (fun g => ?_) (fun g => ?_))))
 ·rw [q0z] at g
  refine gg rfl (q08 rfl rfl rfl trivial ?_)
  rw [if_pos g]; rfl
 rw [q0A] at g
 have hc := (hk g).1
 have h2 := (q1w hc).1
 have hl := (q20 hc (eg o.1 0) (by rw [q8s (by omega)]; exact List.getElem_mem _)).1
 rw [if_neg (by simp [g])]
 refine gg rfl (q0k 0 rfl rfl rfl (q24 (by omega)) rfl ?_)
 refine gg rfl (q0k 0 rfl rfl rfl (q0T (by omega)) rfl ?_)
 exact gg rfl (q08 rfl rfl rfl trivial rfl)
structure Plc where
 garment : Int
 use : Int
 copy : Int
 flip : Bool
 quarter : Int
 x : Int
 y : Int
 deriving DecidableEq
def Plc.enc (p : Plc) : D := .agg [.int .i64 p.garment, .int .i64 p.use, .int .i64 p.copy, .bool p.flip, .int .i64 p.quarter, .int .i64 p.x, .int .i64 p.y]
def qoc (l : List Plc) : D := .lst (l.map Plc.enc)
theorem qdD (p : Plc) : plain 4 p.enc = true := rfl
theorem quO (p : Plc) : dat 4 p.enc = true := rfl
def qbf (u : Use) (i k : Nat) : Plc := ⟨0, i, k, u.pair && decide (k % 2 = 1), 0, 0, 0⟩
def q1y (u : Use) (i n : Nat) : List Plc := (List.range n).map (qbf u i)
def q13 (l : List Use) : Nat → List Plc
 | 0 => []
 | i + 1 => q13 l i ++ q1y (us l i) i (us l i).count.toNat
def q7O (s : Sty) : List Plc := if q32 s ≠ 0 then [] else q13 s.uses s.uses.length
theorem qbg {l : List Use} (h : ∀ u ∈ l, u.count ≤ 4) : ∀ i, i ≤ l.length → (q13 l i).length ≤ 4 * i
 | 0, _ => by simp [q13]
 | i + 1, hi => by
   have h1 := qbg h i (by omega)
   have h2 := h (us l i) (by rw [q9Q (by omega)]; exact List.getElem_mem _)
   rw [q13, List.length_append]
   simp only [q1y, List.length_map, List.length_range]
   omega
theorem tmod2 (k : Nat) : ((k : Int)).tmod 2 = ((k % 2 : Nat) : Int) := by
 rw [Int.tmod_eq_emod_of_nonneg (by omega)]; omega
set_option maxHeartbeats 8000000 in
theorem qld (s : Sty) (hB : StyB s) : PU q5Y [s.enc] = some (qoc (q7O s)) := by
 refine q0h (fn := q81) rfl (q0c ?_)
 refine gg rfl (q01 rfl rfl (q1c s hB) (gg rfl (q02 rfl (fun g => ?_) (fun g => ?_))))
 ·rw [q0z] at g
  refine gg rfl (q08 rfl rfl rfl trivial ?_)
  rw [q7O, if_pos g]; rfl
 have g : q32 s = 0 := q0A.1 g
 have hok := qdC g
 have hlen := qbg (l := s.uses) (fun u hu => (hok.use u hu).2.2.2)
 have hu12 := hok.uses
 rw [q7O, if_neg (by simp [g])]
 refine gg rfl ?_
 rw [List.length_map]
 refine q0q (S := fun k : Nat => ([.ref 0 0 (q13 s.uses k).length, Go.F.uses s.uses, q00 s.uses.length, q00 k], [some (.row ((q13 s.uses k).map Plc.enc) 7), none, none, none], [0, 0, 0, 0])) (C := fun k => k ≤ s.uses.length) (m := fun k => s.uses.length - k) 0 (Nat.zero_le _) (by omega) ?_ ?_
 ·exact q03 rfl ⟨rfl, trivial⟩ rfl
 intro k hk N hN
 refine gg rfl (q02 rfl (fun e => ?_) (fun e => ?_))
 ·rw [q06] at e
  have hlt : k < s.uses.length := by omega
  have w1 := wS (n := k)
  have hx := qde hlt
  have huk := hok.use (us s.uses k) (by rw [q9Q hlt]; exact List.getElem_mem _)
  have hl0 := hlen k hk
  have hstep : q13 s.uses (k + 1) = q13 s.uses k ++ q1y (us s.uses k) k (us s.uses k).count.toNat := rfl
  generalize us s.uses k = u at *
  generalize q13 s.uses k = L at *
  have ec : u.count = ((u.count.toNat : Nat) : Int) := by omega
  refine gg rfl (q0k k rfl rfl rfl hx rfl (gg rfl (q0q (S := fun n : Nat => ([.ref 0 0 (L ++ q1y u k n).length, q00 k, .ptr 2 0 0, Go.F.uses s.uses, q00 s.uses.length, q00 k, .int .i64 u.count, q00 n], [some (.row ((L ++ q1y u k n).map Plc.enc) 7), none, some (.row [u.enc] 3), none, none, none, none, none], [0, 0, 0, 0, 0, 0, 0, 0])) (C := fun n => n ≤ u.count.toNat) (m := fun n => u.count.toNat - n) 0 (Nat.zero_le _) (by omega) ?_ ?_)))
  ·exact q03 rfl ⟨q0b qdD _, rfl, trivial⟩ (by simp [q1y, uses, q00, Use.enc])
  intro n hn N2 hN2
  refine gg rfl (q02 rfl (fun f => ?_) (fun f => ?_))
  ·rw [q06] at f
   have wn := wS (n := n)
   have hst : (L ++ q1y u k (n + 1)).map Plc.enc = (L ++ q1y u k n).map Plc.enc ++ [(qbf u k n).enc] := by
    simp [q1y, List.range_succ]
   refine gg rfl (q05 rfl (fun p1 => ?_) (fun p1 => ?_))
   ·have p1 : u.pair = true := p1
    have hcp : qbf u k n = ⟨0, k, n, decide (n % 2 = 1), 0, 0, 0⟩ := by rw [qbf, p1]; rfl
    have hbq : eqb ((n : Int).tmod 2) 1 = decide (n % 2 = 1) := by
     rw [tmod2, q2i]; apply decide_eq_decide.2; omega
    rw [hcp] at hst
    refine gg rfl (q4R rfl rfl (by decide) ?_)
    refine gg rfl ?_
    rw [hbq]
    refine gg rfl (q1E rfl rfl rfl rfl rfl rfl (by simp [q1y]) (Nat.zero_le _) (by simp [q0U, q1y]; omega) ?_)
    refine gg rfl (q04 (hN2 (n + 1) (by omega) (by omega) (q03 rfl ⟨?_, rfl, trivial⟩ ?_)))
    ·rw [List.all_append, q0b qdD]; rfl
    rw [hst, wn]
    simp [q1y, uses, q00, Use.enc]
    exact ⟨by omega, rfl⟩
   have p1 : u.pair = false := p1
   have hcp : qbf u k n = ⟨0, k, n, false, 0, 0, 0⟩ := by rw [qbf, p1]; rfl
   rw [hcp] at hst
   refine gg rfl (q1E rfl rfl rfl rfl rfl rfl (by simp [q1y]) (Nat.zero_le _) (by simp [q0U, q1y]; omega) ?_)
   refine gg rfl (q04 (hN2 (n + 1) (by omega) (by omega) (q03 rfl ⟨?_, rfl, trivial⟩ ?_)))
   ·rw [List.all_append, q0b qdD]; rfl
   rw [hst, wn]
   simp [q1y, uses, q00, Use.enc]
   exact ⟨by omega, rfl⟩
  rw [q07] at f
  obtain rfl : n = u.count.toNat := by omega
  clear hN2
  refine gg rfl (q04 (gg rfl (q04 (hN (k + 1) hlt (by omega) (q03 rfl ⟨q0b qdD _, trivial⟩ ?_)))))
  rw [hstep, w1]; rfl
 rw [q07] at e
 obtain rfl : k = s.uses.length := by omega
 refine gg rfl (q04 (gg rfl (q08 rfl rfl rfl ⟨q3s (by simp) (q1t quO _), trivial⟩ ?_)))
 rw [q5n (by simp)]; rfl
def q6e (s : Sty) (sizes : List Int) : List Int × Int :=
 if q32 s ≠ 0 then ([], q32 s)
 else if (sizes.any fun z => decide (z < 0) || decide ((s.sizes.length : Int) ≤ z)) then ([], 3)
 else (s.uses.map fun u => u.count * sizes.length, 0)
set_option maxHeartbeats 8000000 in
theorem qod (s : Sty) (sizes : List Int) (hB : StyB s) (hz : sizes.length ≤ 1000) : PU q6T [s.enc, ints sizes] = some (.tup [ints (q6e s sizes).1, .int .i64 (q6e s sizes).2]) := by
 refine q0h (fn := q9k) rfl (q0c ?_)
 refine gg rfl (q01 rfl rfl (q1c s hB) (gg rfl (q02 rfl (fun g => ?_) (fun g => ?_))))
 ·rw [q0z] at g
  refine gg rfl (q08 rfl rfl rfl trivial ?_)
  rw [q6e, if_pos g]; rfl
 have g : q32 s = 0 := q0A.1 g
 have hok := qdC g
 have hu12 := hok.uses
 have hw : q6e s sizes = if (sizes.any fun z => decide (z < 0) || decide ((s.sizes.length : Int) ≤ z)) then (([], 3) : List Int × Int) else (s.uses.map fun u => u.count * (sizes.length : Int), 0) := by rw [q6e, if_neg (by simp [g])]
 rw [hw]
 refine gg rfl ?_
 rw [List.length_map]
 refine q0q (S := fun k : Nat => ([ints sizes, .ptr 1 0 0, ints sizes, q00 sizes.length, q00 k], [none, some (.row [s.enc] 7), none, none, none], [0, 0, 0, 0, 0])) (C := fun k => k ≤ sizes.length ∧ ∀ j (hj : j < sizes.length), j < k → (decide (sizes[j] < 0) || decide ((s.sizes.length : Int) ≤ sizes[j])) = false) (m := fun k => sizes.length - k) 0 ⟨Nat.zero_le _, fun j _ h => by omega⟩ (by omega) ?_ ?_
 ·exact q03 rfl ⟨rfl, trivial⟩ rfl
 rintro k ⟨hk, hm⟩ N hN
 refine gg rfl (q02 rfl (fun e => ?_) (fun e => ?_))
 ·rw [q06] at e
  have hlt : k < sizes.length := by omega
  have w1 := wS (n := k)
  have bad : (decide (sizes[k] < 0) || decide ((s.sizes.length : Int) ≤ sizes[k])) = true → (sizes.any fun z => decide (z < 0) || decide ((s.sizes.length : Int) ≤ z)) = true := fun h => q3c hlt h
  have hx : (sizes.map q00)[k]? = some (.int .i64 sizes[k]) := q1J hlt
  refine gg rfl (q0k k rfl rfl rfl hx rfl (gg rfl (q05 rfl (fun f1 => ?_) (fun f1 => ?_))))
  ·rw [q06] at f1
   refine gg rfl (q0g rfl (gg rfl (q04 (gg rfl (q08 rfl rfl rfl trivial ?_)))))
   rw [if_pos (bad (by simp; omega))]; rfl
  rw [q07] at f1
  refine gg rfl ?_
  rw [List.length_map]
  refine q02 rfl (fun f2 => ?_) (fun f2 => ?_)
  ·rw [q0D] at f2
   refine gg rfl (q04 (gg rfl (q08 rfl rfl rfl trivial ?_)))
   rw [if_pos (bad (by simp; omega))]; rfl
  rw [q0E] at f2
  refine gg rfl (q04 (hN (k + 1) ⟨hlt, fun j hj hjk => ?_⟩ (by omega) (q03 rfl ⟨rfl, trivial⟩ (by rw [w1]; rfl))))
  by_cases ej : j = k
  ·subst ej; simp; omega
  exact hm j hj (by omega)
 rw [q07] at e
 obtain rfl : k = sizes.length := by omega
 clear hN
 rw [if_neg (by rw [q2N fun j hj => hm j hj hj]; decide)]
 refine gg rfl (q04 (gg rfl ?_))
 rw [List.length_map]
 refine q0q (S := fun k : Nat => ([ints sizes, .ref 1 0 k, Go.F.uses s.uses, q00 s.uses.length, q00 k], [none, some (.row (((s.uses.take k).map fun u => u.count * (sizes.length : Int)).map q00) 1), none, none, none], [0, 0, 0, 0, 0])) (C := fun k => k ≤ s.uses.length) (m := fun k => s.uses.length - k) 0 (Nat.zero_le _) (by omega) ?_ ?_
 ·exact q03 rfl ⟨rfl, trivial⟩ rfl
 intro k hk N hN
 refine gg rfl (q02 rfl (fun e => ?_) (fun e => ?_))
 ·rw [q06] at e
  have hlt : k < s.uses.length := by omega
  have w1 := wS (n := k)
  have huk := hok.use (us s.uses k) (by rw [q9Q hlt]; exact List.getElem_mem _)
  have hst : (((s.uses.take (k + 1)).map fun u => u.count * (sizes.length : Int)).map q00) = ((s.uses.take k).map fun u => u.count * (sizes.length : Int)).map q00 ++ [q00 ((us s.uses k).count * sizes.length)] := by
   rw [List.take_succ_eq_append_getElem hlt, List.map_append, List.map_append, q9Q hlt]; rfl
  have hp : (us s.uses k).count * (sizes.length : Int) ≤ 4 * 1000 := Int.mul_le_mul (by omega) (by omega) (by omega) (by omega)
  have hp0 : 0 ≤ (us s.uses k).count * (sizes.length : Int) := Int.mul_nonneg (by omega) (by omega)
  have w2 : IntKind.i64.wrap ((us s.uses k).count * (((sizes.map q00).length : Nat) : Int)) = (us s.uses k).count * (sizes.length : Int) := by rw [List.length_map]; exact wrap64 (by omega) (by omega)
  refine gg rfl (q0k k rfl rfl rfl (qde hlt) rfl (gg rfl ?_))
  rw [w2]
  refine q1E rfl rfl rfl rfl rfl rfl (by simp; omega) (Nat.zero_le _) (by simp [q0U]; omega) ?_
  refine gg rfl (q04 (hN (k + 1) hlt (by omega) (q03 rfl ⟨?_, trivial⟩ ?_)))
  ·rw [List.all_append, q0b q9W]; rfl
  rw [hst, w1]; rfl
 rw [q07] at e
 obtain rfl : k = s.uses.length := by omega
 rw [List.take_length]
 refine gg rfl (q04 (gg rfl (q08 rfl rfl rfl ⟨q3s (by simp) (q1t qln _), trivial⟩ ?_)))
 rw [q5n (by simp)]; rfl
end Go.F

namespace Go.F
mutual
def eqD : D → D → Bool
 | .bool a, .bool b => a == b
 | .int k n, .int k' n' => decide (k = k') && decide (n = n')
 | .str a, .str b => decide (a = b)
 | .lst l, .lst m => eqL l m
 | .agg l, .agg m => eqL l m
 | .tup l, .tup m => eqL l m
 | _, _ => false
def eqL : List D → List D → Bool
 | [], [] => true
 | a :: l, b :: m => eqD a b && eqL l m
 | _, _ => false
end
mutual
theorem qtb : ∀ {a b : D}, eqD a b = true → a = b
 | .bool a, .bool b, h => by simp [eqD] at h; rw [h]
 | .int k n, .int k' n', h => by simp [eqD] at h; rw [h.1, h.2]
 | .str a, .str b, h => by simp [eqD] at h; rw [h]
 | .lst l, .lst m, h => by rw [eqD] at h; rw [qm3 h]
 | .agg l, .agg m, h => by rw [eqD] at h; rw [qm3 h]
 | .tup l, .tup m, h => by rw [eqD] at h; rw [qm3 h]
 | .float .., _, h => by simp [eqD] at h
 | .nilsl, _, h => by simp [eqD] at h
 | .ref .., _, h => by simp [eqD] at h
 | .pl .., _, h => by simp [eqD] at h
 | .ptr .., _, h => by simp [eqD] at h
 | .fn .., _, h => by simp [eqD] at h
 | .mref .., _, h => by simp [eqD] at h
 | .mlst .., _, h => by simp [eqD] at h
 | .opq .., _, h => by simp [eqD] at h
 | .bad, _, h => by simp [eqD] at h
theorem qm3 : ∀ {a b : List D}, eqL a b = true → a = b
 | [], [], _ => rfl
 | a :: l, b :: m, h => by rw [eqL, Bool.and_eq_true] at h; rw [qtb h.1, qm3 h.2]
 | [], _ :: _, h => by simp [eqL] at h
 | _ :: _, [], h => by simp [eqL] at h
end
def eqO : Option D → D → Bool
 | some a, b => eqD a b
 | none, _ => false
theorem eqO_eq {a : Option D} {b : D} (h : eqO a b = true) : a = some b := by
 cases a with
 | none => simp [eqO] at h
 | some a => rw [qtb h]
def qul : Piece := ⟨⟨#[102, 114, 111, 110, 116]⟩,
 [⟨⟨#[101, 97]⟩, [⟨0, 0⟩, ⟨10, 0⟩]⟩, ⟨⟨#[101, 98]⟩, [⟨10, 0⟩, ⟨10, 10⟩]⟩, ⟨⟨#[101, 99]⟩, [⟨10, 10⟩, ⟨0, 10⟩]⟩, ⟨⟨#[101, 100]⟩, [⟨0, 10⟩, ⟨0, 0⟩]⟩],
 2, [], [⟨0, 0⟩, ⟨2, 0⟩, ⟨2, 0⟩, ⟨0, 0⟩], [1, 1, 1, 1], false⟩
def plainS : Sty := ⟨⟨#[115, 104, 105, 114, 116]⟩, [⟨#[83]⟩, ⟨#[77]⟩], [0, 3], [qul], [⟨0, 3, true⟩], [], []⟩
theorem qro : eqO (run prog q6Z q0r 12 qcx []) plainS.enc = true := by
 decide +kernel
theorem qtc : PU qcx [] = some plainS.enc := qoo (eqO_eq qro)
end Go.F

namespace Go.F
attribute [local irreducible] IntKind.wrap wpM
def nI (l : List Int) (i : Nat) : Int := l.getD i 0
theorem qs9 {l : List Int} {i : Nat} (h : i < l.length) : (l.map q00)[i]? = some (.int .i64 (nI l i)) := by simp [nI, h, q00]
theorem qsa {l : List Int} {i : Nat} (h : i < l.length) : nI l i = l[i] := by simp [nI, h]
theorem qhG (p q : List Int) (hp : p.length < 4611686018427387904) : PU q8v [ints p, ints q] = some (.bool (decide (p = q))) := by
 refine q0h (fn := q82) rfl (q0c ?_)
 refine gg rfl (q02 rfl (fun h1 => ?_) (fun h1 => ?_))
 ·refine gg rfl (q08 rfl rfl rfl trivial ?_)
  rw [q0z, List.length_map, List.length_map] at h1
  have : p ≠ q := by rintro rfl; exact h1 rfl
  simp [this]
 rw [q0A, List.length_map, List.length_map] at h1
 refine gg rfl (q0q (S := fun k : Nat => ([ints p, ints q, q00 k], [none, none, none], [0, 0, 0])) (C := fun k => k ≤ p.length ∧ ∀ i, i < k → nI p i = nI q i) (m := fun k => p.length - k) 0 ⟨by omega, fun i hi => by omega⟩ (by omega) ?_ ?_)
 ·exact q03 rfl trivial (by simp [ints, q00])
 intro k ⟨hk, hall⟩ N hN
 refine gg rfl (q02 rfl (fun g1 => ?_) (fun g1 => ?_))
 ·rw [q06, List.length_map] at g1
  have hlt : k < p.length := by omega
  have w1 := wS (n := k)
  refine gg rfl (q0k k rfl rfl rfl (qs9 hlt) rfl (gg rfl (q0k k rfl rfl rfl (qs9 (by omega)) rfl ?_)))
  refine gg rfl (q02 rfl (fun g2 => ?_) (fun g2 => ?_))
  ·rw [q0z] at g2
   refine gg rfl (q04 (gg rfl (q08 rfl rfl rfl trivial ?_)))
   have : p ≠ q := by rintro rfl; exact g2 rfl
   simp [this]
  rw [q0A] at g2
  refine gg rfl (q04 (hN (k + 1) ⟨by omega, fun i hi => ?_⟩ (by omega) (q03 rfl trivial (by simp [ints, q00, w1]))))
  by_cases hik : i < k
  ·exact hall i hik
  obtain rfl : i = k := by omega
  exact g2
 rw [q07, List.length_map] at g1
 refine gg rfl (q04 (gg rfl (q08 rfl rfl rfl trivial ?_)))
 have : p = q := by
  refine List.ext_getElem (by omega) fun i h1 h2 => ?_
  have := hall i (by omega)
  rwa [qsa h1, qsa h2] at this
 simp [this]
theorem qom : q32 plainS = 0 := by decide +kernel
theorem pl_cut : qdL plainS 1 0 = ([⟨-1, -1⟩, ⟨17, -1⟩, ⟨17, 11⟩, ⟨-1, 11⟩], 0) := by decide +kernel
theorem qu0 : qbB plainS 1 0 = (⟨0, 0⟩, 0) := by decide +kernel
theorem qqz : (q7O plainS).map Plc.enc = [(⟨0, 0, 0, false, 0, 0, 0⟩ : Plc).enc, (⟨0, 0, 1, true, 0, 0, 0⟩ : Plc).enc, (⟨0, 0, 2, false, 0, 0, 0⟩ : Plc).enc] := by
 rw [q7O, if_neg (by rw [qom]; decide)]; rfl
theorem qsb : q6e plainS [0, 1, 1] = ([9], 0) := by
 rw [q6e, if_neg (by rw [qom]; decide)]; decide
def qon : Sty := ⟨⟨#[]⟩, [], [], [], [], [], []⟩
theorem qsc : q32 qon = 1 := by decide +kernel
end Go.F

namespace Go.F
theorem qu6 {f : FuncId} {fn : KFn} {args : List D} {Q : D → Prop} (hf : tab f = some fn) (hw : wp TT (shr TT 6) 0 fn.code (enter args) empty qf9 0 (qgt fn fun d h _ _ => ws2 h d Q)) : ∃ r, Q r ∧ PU f args = some r := by
 obtain ⟨F, cd, h1, h2, h3⟩ := tt_ok.tab f fn hf
 obtain ⟨d, h', z', nx', q1, e1⟩ := qcZ tt_ok (qkL tt_ok 6) h2 h3 hw
 obtain ⟨d', h4, h5⟩ := qq0 q1
 refine ⟨d', h5, qlO (e1.up.mono fun M hM => ?_)⟩
 obtain ⟨M', rfl, hM'⟩ := hM
 simp only [EM, env, h1, h2]
 have hM2 : body prog (env prog q6Z q0r M') (q0r f) F cd args empty qf9 0 = some (d, h', z', nx') := hM'
 rw [hM2]
 exact h4
theorem boolI {f : FuncId} {fn : KFn} {args : List D} {R : Prop} (hf : tab f = some fn)
 (hw : wpM TT (shr TT 6) 0 [.code fn.code] .normal (enter args) empty qf9 0 (qgt fn fun d h _ _ => ws2 h d fun d => ∃ b : Bool, d = .bool b ∧ (b = true → R))) : ∃ b : Bool, PU f args = some (.bool b) ∧ (b = true → R) := by
 simp only [wpM] at hw
 obtain ⟨r, ⟨b, rfl, hb⟩, h2⟩ := qu6 hf hw
 exact ⟨b, h2, hb⟩
attribute [local irreducible] IntKind.wrap wpM
section
variable {T : Tab} {sh : Shr} {nx0 : Nat} {t : q0u} {h : q0f} {z : Frz} {nx : Nat}
theorem qbI {fn : KFn} {ex : Ex} {Q : D → Prop} {d d' : D} {rows : List (List D × Nat × Nat)} (hex : (match ex with | .exit _ => false | _ => true) = true) (hd : dres t h fn.res = some d) (hs : dr2 h d = some (rows, d')) (hr : q4B rows) (he : Q d') :
 wpM T sh nx0 [] ex t h z nx (qgt fn fun d h _ _ => ws2 h d Q) := by
 refine q04 ?_
 cases ex with
 | exit i => cases hex
 | normal => exact q6M hd (qdG hs hr he)
 | ret => exact q6M hd (qdG hs hr he)
end
structure PcL (p : Piece) : Prop where
 edges : p.edges.length ≤ 20
 corners : p.corners.length ≤ 20
 widths : p.widths.length ≤ 20
 notches : p.notches.length ≤ 20
 line : ∀ i, i < p.edges.length → (eg p.edges i).line.length ≤ 80 ∧ (eg p.edges i).name.size ≤ 100
theorem qiZ (p : Piece) : p.enc = .agg [.str p.name, .lst (p.edges.map Edge.enc), .int .i64 p.grain, .lst (p.notches.map Ntc.enc), .lst (p.corners.map Spot.enc), .lst (p.widths.map q00), .bool p.match_] := rfl
set_option maxHeartbeats 8000000 in
theorem qlP (p : Piece) : ∃ b : Bool, PU qh2 [p.enc, .int .i64 80] = some (.bool b) ∧ (b = true → PcL p) := by
 refine boolI (fn := qbQ) rfl ?_
 rw [qiZ]
 refine gg rfl (q05 rfl (fun g0 => ?_) (fun g0 => ?_))
 ·exact gg rfl (q0e rfl (gg rfl (q0e rfl (gg rfl (q0g rfl (gg rfl (qbI rfl rfl rfl trivial ⟨false, rfl, fun h => by cases h⟩)))))))
 refine gg rfl (q05 rfl (fun g1 => ?_) (fun g1 => ?_))
 ·exact gg rfl (q0e rfl (gg rfl (q0g rfl (gg rfl (qbI rfl rfl rfl trivial ⟨false, rfl, fun h => by cases h⟩)))))
 refine gg rfl (q05 rfl (fun g2 => ?_) (fun g2 => ?_))
 ·exact gg rfl (q0g rfl (gg rfl (qbI rfl rfl rfl trivial ⟨false, rfl, fun h => by cases h⟩)))
 refine gg rfl (q02 rfl (fun g3 => ?_) (fun g3 => ?_))
 ·exact gg rfl (qbI rfl rfl rfl trivial ⟨false, rfl, fun h => by cases h⟩)
 rw [q07, List.length_map] at g0 g1 g2 g3
 refine gg rfl (q0q (S := fun a : Nat × Nat => ([.int .i64 80, .ptr 1 0 0, q00 a.2, q00 a.1], [none, some (.row [p.enc] 7), none, none], [0, 0, 0, 0])) (C := fun a => a.1 ≤ p.edges.length ∧ a.2 ≤ 80 * a.1 ∧ ∀ j, j < a.1 → (eg p.edges j).line.length ≤ 80 ∧ (eg p.edges j).name.size ≤ 100) (m := fun a => p.edges.length - a.1) (0, 0) ⟨Nat.zero_le _, Nat.zero_le _, fun j h => by simp at h⟩ (by show p.edges.length - 0 < _; omega) ?_ ?_)
 ·exact q03 rfl ⟨rfl, trivial⟩ rfl
 rintro ⟨k, n⟩ ⟨hk, hn, hj⟩ N hN
 simp only at hk hn hj
 simp only [qiZ]
 refine gg rfl ?_
 rw [List.length_map]
 refine q02 rfl (fun e => ?_) (fun e => ?_)
 ·rw [q06] at e
  have hlt : k < p.edges.length := by omega
  have w1 := wS (n := k)
  refine gg rfl (q0k k rfl rfl rfl (q24 hlt) rfl (gg rfl ?_))
  rw [List.length_map]
  refine q05 rfl (fun f1 => ?_) (fun f1 => ?_)
  ·exact gg rfl (q0g rfl (gg rfl (q04 (gg rfl (qbI rfl rfl rfl trivial ⟨false, rfl, fun h => by cases h⟩)))))
  rw [q07] at f1
  refine gg rfl (q0k k rfl rfl rfl (q24 hlt) rfl (gg rfl (q02 rfl (fun f2 => ?_) (fun f2 => ?_))))
  ·exact gg rfl (q04 (gg rfl (qbI rfl rfl rfl trivial ⟨false, rfl, fun h => by cases h⟩)))
  rw [q07] at f2
  have w2 : IntKind.i64.wrap ((n : Int) + ((eg p.edges k).line.length : Nat)) = ((n + (eg p.edges k).line.length : Nat) : Int) := ww
  refine gg rfl (q0k k rfl rfl rfl (q24 hlt) rfl (gg rfl ?_))
  rw [List.length_map]
  refine q04 (hN (k + 1, n + (eg p.edges k).line.length) ⟨hlt, by show _ ≤ 80 * (k + 1); omega, fun j hjk => ?_⟩ (by show p.edges.length - (k + 1) < p.edges.length - k; omega) (q03 rfl ⟨rfl, trivial⟩ (by rw [w1, w2]; rfl)))
  have hjk : j < k + 1 := hjk
  by_cases ej : j = k
  ·subst ej; omega
  exact hj j (by omega)
 rw [q07] at e
 obtain rfl : k = p.edges.length := by omega
 exact gg rfl (q04 (gg rfl (qbI rfl rfl rfl trivial ⟨_, rfl, fun _ => ⟨by omega, by omega, by omega, by omega, hj⟩⟩)))
structure StyL (s : Sty) : Prop where
 name : s.name.size ≤ 100
 sizes : s.sizes.length ≤ 30
 mults : s.mults.length ≤ 30
 uses : s.uses.length ≤ 30
 seams : s.seams.length ≤ 30
 ops : s.ops.length ≤ 30
 pieces : s.pieces.length ≤ 14
 size : ∀ i (h : i < s.sizes.length), s.sizes[i].size ≤ 100
 piece : ∀ i, i < s.pieces.length → PcL (pc s.pieces i)
theorem StyL.B {s : Sty} (h : StyL s) : StyB s where
 sizes := Nat.le_trans h.sizes (by decide)
 size := fun x hx => by
  obtain ⟨i, hi, rfl⟩ := List.mem_iff_getElem.1 hx
  exact Nat.le_trans (h.size i hi) (by decide)
 mults := Nat.le_trans h.mults (by decide)
 pieces := Nat.le_trans h.pieces (by decide)
 uses := Nat.le_trans h.uses (by decide)
 seams := Nat.le_trans h.seams (by decide)
 ops := Nat.le_trans h.ops (by decide)
 corners := fun p hp => by
  obtain ⟨i, hi, rfl⟩ := List.mem_iff_getElem.1 hp
  exact q7z hi ▸ Nat.le_trans (h.piece i hi).corners (by decide)
 widths := fun p hp => by
  obtain ⟨i, hi, rfl⟩ := List.mem_iff_getElem.1 hp
  exact q7z hi ▸ Nat.le_trans (h.piece i hi).widths (by decide)
 notches := fun p hp => by
  obtain ⟨i, hi, rfl⟩ := List.mem_iff_getElem.1 hp
  exact q7z hi ▸ Nat.le_trans (h.piece i hi).notches (by decide)
set_option maxHeartbeats 8000000 in
theorem qaY (s : Sty) : ∃ b : Bool, PU q2O [s.enc] = some (.bool b) ∧ (b = true → StyL s) := by
 refine boolI (fn := qbN) rfl ?_
 rw [qbd]
 refine gg rfl (q05 rfl (fun g0 => ?_) (fun g0 => ?_))
 ·exact gg rfl (q0e rfl (gg rfl (q0e rfl (gg rfl (q0e rfl (gg rfl (q0e rfl (gg rfl (q0e rfl (gg rfl (q0g rfl (gg rfl (qbI rfl rfl rfl trivial ⟨false, rfl, fun h => by cases h⟩)))))))))))))
 refine gg rfl (q05 rfl (fun g1 => ?_) (fun g1 => ?_))
 ·exact gg rfl (q0e rfl (gg rfl (q0e rfl (gg rfl (q0e rfl (gg rfl (q0e rfl (gg rfl (q0g rfl (gg rfl (qbI rfl rfl rfl trivial ⟨false, rfl, fun h => by cases h⟩)))))))))))
 refine gg rfl (q05 rfl (fun g2 => ?_) (fun g2 => ?_))
 ·exact gg rfl (q0e rfl (gg rfl (q0e rfl (gg rfl (q0e rfl (gg rfl (q0g rfl (gg rfl (qbI rfl rfl rfl trivial ⟨false, rfl, fun h => by cases h⟩)))))))))
 refine gg rfl (q05 rfl (fun g3 => ?_) (fun g3 => ?_))
 ·exact gg rfl (q0e rfl (gg rfl (q0e rfl (gg rfl (q0g rfl (gg rfl (qbI rfl rfl rfl trivial ⟨false, rfl, fun h => by cases h⟩)))))))
 refine gg rfl (q05 rfl (fun g4 => ?_) (fun g4 => ?_))
 ·exact gg rfl (q0e rfl (gg rfl (q0g rfl (gg rfl (qbI rfl rfl rfl trivial ⟨false, rfl, fun h => by cases h⟩)))))
 refine gg rfl (q05 rfl (fun g5 => ?_) (fun g5 => ?_))
 ·exact gg rfl (q0g rfl (gg rfl (qbI rfl rfl rfl trivial ⟨false, rfl, fun h => by cases h⟩)))
 refine gg rfl (q02 rfl (fun g6 => ?_) (fun g6 => ?_))
 ·exact gg rfl (qbI rfl rfl rfl trivial ⟨false, rfl, fun h => by cases h⟩)
 rw [q07] at g0 g1 g2 g3 g4 g5 g6
 rw [List.length_map] at g1 g2 g3 g4 g5 g6
 refine gg rfl (q0q (S := fun k : Nat => ([.ptr 0 0 0, q00 k], [some (.row [s.enc] 7), none], [0, 0])) (C := fun k => k ≤ s.sizes.length ∧ ∀ j (h : j < s.sizes.length), j < k → s.sizes[j].size ≤ 100) (m := fun k => s.sizes.length - k) 0 ⟨Nat.zero_le _, fun j _ h => by omega⟩ (by omega) ?_ ?_)
 ·exact q03 rfl ⟨rfl, trivial⟩ rfl
 rintro k ⟨hk, hj⟩ N hN
 simp only [qbd]
 refine gg rfl ?_
 rw [List.length_map]
 refine q02 rfl (fun e => ?_) (fun e => ?_)
 ·rw [q06] at e
  have hlt : k < s.sizes.length := by omega
  have w1 := wS (n := k)
  have hx : (s.sizes.map D.str)[k]? = some (.str s.sizes[k]) := q1J hlt
  refine gg rfl (q0k k rfl rfl rfl hx rfl (gg rfl (q02 rfl (fun f1 => ?_) (fun f1 => ?_))))
  ·exact gg rfl (q04 (gg rfl (qbI rfl rfl rfl trivial ⟨false, rfl, fun h => by cases h⟩)))
  rw [q07] at f1
  refine gg rfl (q04 (hN (k + 1) ⟨hlt, fun j hj2 hjk => ?_⟩ (by omega) (q03 rfl ⟨rfl, trivial⟩ (by rw [w1]; rfl))))
  by_cases ej : j = k
  ·subst ej; omega
  exact hj j hj2 (by omega)
 rw [q07] at e
 obtain rfl : k = s.sizes.length := by omega
 clear hN
 refine gg rfl (q04 (gg rfl (q0q (S := fun k : Nat => ([.ptr 0 0 0, q00 k], [some (.row [s.enc] 7), none], [0, 0])) (C := fun k => k ≤ s.pieces.length ∧ ∀ j, j < k → PcL (pc s.pieces j)) (m := fun k => s.pieces.length - k) 0 ⟨Nat.zero_le _, fun j h => by omega⟩ (by omega) ?_ ?_)))
 ·exact q03 rfl ⟨rfl, trivial⟩ rfl
 rintro k ⟨hk, hp⟩ N hN
 simp only [qbd]
 refine gg rfl ?_
 rw [List.length_map]
 refine q02 rfl (fun e => ?_) (fun e => ?_)
 ·rw [q06] at e
  have hlt : k < s.pieces.length := by omega
  have w1 := wS (n := k)
  obtain ⟨b, hb, hbs⟩ := qlP (pc s.pieces k)
  refine gg rfl (q0k k rfl rfl rfl (qeL hlt) rfl (gg rfl (q05 rfl (fun f1 => ?_) (fun f1 => ?_))))
  ·exact gg rfl (q0g rfl (gg rfl (q04 (gg rfl (qbI rfl rfl rfl trivial ⟨false, rfl, fun h => by cases h⟩)))))
  refine gg rfl (q0k k rfl rfl rfl (qeL hlt) rfl (gg rfl (q01 rfl rfl hb (gg rfl ?_))))
  cases b with
  | false =>
    exact q0g rfl (gg rfl (q04 (gg rfl (qbI rfl rfl rfl trivial ⟨false, rfl, fun h => by cases h⟩))))
  | true =>
    refine q0m rfl (gg rfl (q04 (hN (k + 1) ⟨hlt, fun j hjk => ?_⟩ (by omega) (q03 rfl ⟨rfl, trivial⟩ (by rw [w1]; rfl)))))
    by_cases ej : j = k
    ·subst ej; exact hbs rfl
    exact hp j (by omega)
 rw [q07] at e
 obtain rfl : k = s.pieces.length := by omega
 exact gg rfl (q04 (gg rfl (qbI rfl rfl rfl trivial ⟨_, rfl, fun _ => ⟨by omega, by omega, by omega, by omega, by omega, by omega, by omega, fun i hi => hj i hi hi, hp⟩⟩)))
end Go.F

namespace Go.F
attribute [local irreducible] IntKind.wrap wpM
theorem plB : StyB plainS := ⟨by decide, by decide, by decide, by decide, by decide, by decide, by decide, by decide, by decide, by decide⟩
theorem emB : StyB qon := ⟨by decide, by decide, by decide, by decide, by decide, by decide, by decide, by decide, by decide, by decide⟩
set_option maxRecDepth 100000 in
set_option maxHeartbeats 8000000 in
theorem q22 : PU q0X [] = some (.bool true) := by
 have s1 := qtJ plainS 1 0 plB
 have s2 := qlc plainS 1 0 plB
 have s3 := qld plainS plB
 have s4 := qod plainS [0, 1, 1] plB (by decide)
 have s5 := q1c plainS plB
 have s6 := q1c qon emB
 rw [pl_cut] at s1
 rw [qu0] at s2
 rw [qoc, qqz] at s3
 rw [qsb] at s4
 rw [qom] at s5
 rw [qsc] at s6
 have hn : ∀ {x : Int} {P : Prop}, nqb x x = true → P := fun h => absurd rfl (q0z.1 h)
 have s7 := qhv [⟨-1, -1⟩, ⟨17, -1⟩, ⟨17, 11⟩, ⟨-1, 11⟩] [⟨-1, -1⟩, ⟨17, -1⟩, ⟨17, 11⟩, ⟨-1, 11⟩] (by decide)
 have s8 := qhG [9] [9] (by decide)
 rw [decide_eq_true rfl] at s7 s8
 have e0 : eqb 0 0 = true := q12.2 rfl
 have e1 : eqb 1 1 = true := q12.2 rfl
 refine q0h (fn := qbO) rfl (q0c ?_)
 refine gg rfl (q01 rfl rfl qtc (gg rfl (q01 rfl rfl s1 (gg rfl (q01 rfl rfl s2 (gg rfl (q01 rfl rfl s3 (gg rfl (q2o rfl rfl ⟨⟨by decide, rfl⟩, trivial⟩ s4 fun z => (gg rfl (q05 rfl hn (fun _ => ?_))))))))))))
 refine gg rfl (q05 rfl hn (fun _ => ?_))
 refine gg rfl (q05 rfl hn (fun _ => ?_))
 refine gg rfl (q05 rfl hn (fun _ => ?_))
 refine gg rfl (q01 rfl rfl s5 (gg rfl (q05 rfl hn (fun _ => ?_))))
 refine gg rfl (q01 rfl rfl s6 (gg rfl (q02 rfl hn (fun _ => ?_))))
 refine gg rfl (q2o rfl rfl ⟨⟨by decide, rfl⟩, trivial⟩ s7 fun z => (gg rfl (q0e rfl (gg rfl (q05 rfl (fun _ => ?_) (fun h => by simp [e0] at h))))))
 refine gg rfl (q0k 1 rfl rfl rfl rfl rfl (gg rfl (q05 rfl (fun _ => ?_) (fun h => by simp [e0, e1] at h))))
 exact gg rfl (q2o rfl rfl ⟨⟨by decide, rfl⟩, trivial⟩ s8 fun z => (gg rfl (q08 rfl rfl rfl trivial rfl)))
end Go.F

namespace Go.F
section
variable {t : q0u} {h : q0f} {z : Frz} {nx : Nat}
def qj5 (nx0 : Nat) (ids : List (Option Nat)) (t : q0u) : Live → List D
 | [] => []
 | x :: rest => (match q8o x.1 with | true => .bad | false => q15 nx0 ids (t x.1)) :: qj5 nx0 ids t rest
theorem qkR (nx0 : Nat) (ids : List (Option Nat)) (t : q0u) : ∀ live, qes nx0 ids t live = mkT live (qj5 nx0 ids t live)
 | [] => rfl
 | x :: rest => by rw [qes, qj5, mkT, qkR nx0 ids t rest]; rfl
theorem qr1 {nx0 : Nat} {ids : List (Option Nat)} {s : St} : ∀ {live : Live}, q91 nx0 ids s.heap s.tmps live = true → q6v nx0 ids live s = some s := by
 intro live
 induction live with
 | nil => intro _; rfl
 | cons x rest ih =>
   intro hk
   rw [q91, Bool.and_eq_true] at hk
   rw [q6v]
   have e : qf8 nx0 ids x.1 s = some s := by
    unfold qf8
    have h1 := hk.1
    split
    ·rename_i hid
     rw [hid] at h1
     split
     ·rfl
     rename_i hp
     rw [hp] at h1
     have hl : look s.tmps s.heap x.1 = s.tmps x.1 := by unfold look; rw [hp]
     rw [hl] at hid
     unfold qgm
     rw [hid]
     simp only
     simp only at h1
     rw [h1]
    rename_i id hid
    rw [hid] at h1
    split
    ·rename_i es esz hh
     have h1 : qpO nx0 ids (s.heap id) = true := h1
     rw [hh] at h1
     have h1 : es.all (okD nx0 ids) = true := h1
     rw [h1]
    rfl
   rw [e]
   exact ih hk.2
theorem qu7 {live : Live} {s1 : St} {ids : List (Option Nat)} {vs : List D} {bs : List (Option Blk)} {zs : List Nat} {K : Kept → Prop}
 (hn : q6R live ⟨t, h, z, nx⟩ = s1) (hi : q2k s1.tmps s1.heap live = ids) (ho : q91 0 ids s1.heap s1.tmps live = true)
 (hv : qj5 0 ids s1.tmps live = vs) (hb : qcY 0 ids none (fun i => q8p 0 ids (s1.heap i)) ids 0 = bs) (hz : qcY 0 ids 0 s1.frz ids 0 = zs)
 (hk : K (vs, bs, zs)) (hnst : q6u live = true := by rfl) : q0Z 0 live t h z nx fun _ _ kp => K kp := by
 unfold q0Z
 rw [hnst]
 simp only
 refine ⟨s1.heap, s1.frz, (vs, bs, zs), hk, ?_⟩
 unfold qdn
 rw [hn, hi, qr1 ho]
 simp only
 unfold qpP
 rw [hi, ho]
 simp only
 rw [qkR, hv, qdv _ _ (Nat.le_refl _), qdv _ _ (Nat.le_refl _), hb, hz]
theorem qqb {live : Live} {s1 : St} {ids : List (Option Nat)} {vs : List D} {bs : List (Option Blk)} {zs : List Nat}
 (hn : q6R live ⟨t, h, z, nx⟩ = s1) (hi : q2k s1.tmps s1.heap live = ids) (ho : q91 0 ids s1.heap s1.tmps live = true)
 (hv : qj5 0 ids s1.tmps live = vs) (hb : qcY 0 ids none (fun i => q8p 0 ids (s1.heap i)) ids 0 = bs) (hz : qcY 0 ids 0 s1.frz ids 0 = zs)
 (hnst : q6u live = true := by rfl) : q0Z 0 live t h z nx fun _ _ kp => kp = (vs, bs, zs) :=
 qu7 hn hi ho hv hb hz rfl hnst
end
theorem qr2 (ids : List (Option Nat)) (l : List Spot) : (l.map Spot.enc).all (okD 0 ids) = true := by
 rw [List.all_map, List.all_eq_true]
 intro x _; rfl
theorem qr3 (ids : List (Option Nat)) (l : List Spot) : (l.map Spot.enc).map (renE 0 ids) = l.map Spot.enc := by
 rw [List.map_map]
 apply List.map_congr_left
 intro x _; rfl
end Go.F

namespace Go.F
attribute [local irreducible] IntKind.wrap wpM
theorem q9M (n m : Int) (h0 : 0 ≤ m) (h1 : m ≤ 1000000) : PU q7J [.int .i64 n, .int .i64 m] = some (.bool (inB n m)) := by
 have w : IntKind.i64.wrap (0 - m) = -m := by rw [wrap64 (by omega) (by omega)]; omega
 have w' : IntKind.i64.wrap (-m) = -m := ww
 refine q0h (fn := qav) rfl (q0c ?_)
 refine gg rfl ?_
 repeat' (first
  | refine goP 800 rfl rfl ?_
  | refine q0e rfl ?_ | refine q0j rfl ?_ | refine q05 rfl (fun _ => ?_) (fun _ => ?_)
  | refine q0g rfl ?_ | refine q0m rfl ?_ | refine q02 rfl (fun _ => ?_) (fun _ => ?_)
  | refine q0G rfl (fun _ => ?_) (fun _ => ?_)
  | refine q08 rfl rfl rfl trivial ?_)
 all_goals (try simp only [w, w'] at *)
 all_goals ((try simp only [q1H, q1I, q2i, q3Q, decide_eq_true_eq, decide_eq_false_iff_not, Bool.not_eq_true, Bool.not_eq_false, Int.not_lt, Int.not_le] at *); first | (simp_all [inB]; done) | (simp_all [inB]; omega) | (rw [D.bool.injEq, Bool.eq_iff_iff]; simp [inB]; omega) | (rw [D.bool.injEq, Bool.eq_iff_iff]; simp_all [inB]; omega) | (simp [inB]; split <;> (try split) <;> omega))
theorem qfG (a b : Int) (ha0 : -1099511627776 ≤ a) (ha : a ≤ 1099511627776) (hb : 0 < b) (hb' : b ≤ 1099511627776) : PU qcK [.int .i64 a, .int .i64 b] = some (.int .i64 (q1q a b)) := by
 have w3 := ww (x := 2 * b)
 refine q0h (fn := qc8) rfl (q0c ?_)
 refine gg rfl (q02 rfl (fun h => ?_) (fun h => ?_))
 ·rw [q06] at h
  have w1 := ww (x := -2 * a)
  have w2 := ww (x := -2 * a + b)
  refine gg rfl (qbD rfl rfl (by rw [w3]; omega) ?_)
  refine gg rfl (q08 rfl rfl rfl trivial ?_)
  have hd : (-2 * a + b).tdiv (2 * b) = (-2 * a + b) / (2 * b) := Int.tdiv_eq_ediv_of_nonneg (by omega)
  have hq : (-2 * a + b) / (2 * b) ≤ -2 * a + b := Int.ediv_le_self _ (by omega)
  have hq0 : 0 ≤ (-2 * a + b) / (2 * b) := Int.ediv_nonneg (by omega) (by omega)
  rw [w1, w2, w3, hd, wrap64 (x := (-2 * a + b) / (2 * b)) (by omega) (by omega), wrap64 (by omega) (by omega), q1q, if_pos (by omega), show 2 * -a + b = -2 * a + b by omega]
  simp
 rw [q07] at h
 have w1 := ww (x := 2 * a)
 have w2 := ww (x := 2 * a + b)
 refine gg rfl (qbD rfl rfl (by rw [w3]; omega) ?_)
 refine gg rfl (q08 rfl rfl rfl trivial ?_)
 have hd : (2 * a + b).tdiv (2 * b) = (2 * a + b) / (2 * b) := Int.tdiv_eq_ediv_of_nonneg (by omega)
 have hq : (2 * a + b) / (2 * b) ≤ 2 * a + b := Int.ediv_le_self _ (by omega)
 have hq0 : 0 ≤ (2 * a + b) / (2 * b) := Int.ediv_nonneg (by omega) (by omega)
 rw [w1, w2, w3, hd, wrap64 (by omega) (by omega), q1q, if_neg (by omega)]
set_option maxHeartbeats 4000000 in
theorem qkb (e : Edge) (a b : Spot) (h2 : 2 ≤ e.line.length) (h40 : e.line.length ≤ 40) (hw : ∀ s ∈ e.line, q0v s 1048576 = true) (ha : qff a 100000) (hb : qff b 100000) :
 PU qfn [e.enc, a.enc, b.enc] = some (Edge.enc ⟨e.name, qlz e.line a b⟩) := by
 obtain ⟨name, l⟩ := e
 simp only at h2 h40 hw ⊢
 have w0 := ww (x := (l.length : Int) - 1)
 refine q0h (fn := qaw) rfl (q0c ?_)
 refine gg rfl ?_
 rw [List.length_map, w0]
 refine q0q (S := fun k : Nat => ([.ptr 0 0 0, .ptr 1 0 0, .ptr 2 0 0, .ptr 3 0 0, .ptr 4 0 0, .int .i64 ((l.length : Int) - 1), q00 k, .bad], [some (.row [Edge.enc ⟨name, l⟩] 2), some (.row [a.enc] 2), some (.row [b.enc] 2), some (.row [.agg [.str ⟨#[]⟩, .nilsl]] 2), some (.row [.agg [.str name, .ref 7 0 k]] 2), none, none, some (.row (((List.range k).map (qdJ l a b)).map Spot.enc) 2)], [0, 0, 0, 0, 0, 0, 0, 0])) (C := fun k => k ≤ l.length) (m := fun k => l.length - k) 0 (Nat.zero_le _) (by omega) ?_ ?_
 ·exact qqb rfl rfl rfl rfl rfl rfl
 intro k hk N hN
 refine gg rfl (q02 rfl (fun e1 => ?_) (fun e1 => ?_))
 ·rw [q0D] at e1
  have hlt : k < l.length := by omega
  have w1 := wS (n := k)
  have hin := hw (pt l k) (by rw [q11 hlt]; exact List.getElem_mem _)
  rw [q2p] at hin
  have c1 := qi4 hlt h40 ha.1 hb.1
  have c2 := qi4 hlt h40 ha.2 hb.2
  have d0 : IntKind.i64.wrap ((l.length : Int) - 1 - (k : Int)) = (l.length : Int) - 1 - k := ww
  have d1 := ww (x := ((l.length : Int) - 1 - k) * a.x)
  have d2 := ww (x := (k : Int) * b.x)
  have d3 := ww (x := ((l.length : Int) - 1 - k) * a.x + (k : Int) * b.x)
  have d4 := ww (x := ((l.length : Int) - 1 - k) * a.y)
  have d5 := ww (x := (k : Int) * b.y)
  have d6 := ww (x := ((l.length : Int) - 1 - k) * a.y + (k : Int) * b.y)
  have q1 := qfG (((l.length : Int) - 1 - k) * a.x + (k : Int) * b.x) ((l.length : Int) - 1) (by omega) (by omega) (by omega) (by omega)
  have q2 := qfG (((l.length : Int) - 1 - k) * a.y + (k : Int) * b.y) ((l.length : Int) - 1) (by omega) (by omega) (by omega) (by omega)
  have hst : (((List.range (k + 1)).map (qdJ l a b)).map Spot.enc) = ((List.range k).map (qdJ l a b)).map Spot.enc ++ [(qdJ l a b k).enc] := by
   rw [List.range_succ, List.map_append, List.map_append]; rfl
  have hro := fun ids => qr2 ids ((List.range (k + 1)).map (qdJ l a b))
  have hrr := fun ids => qr3 ids ((List.range (k + 1)).map (qdJ l a b))
  have r1 := q8V (a := ((l.length : Int) - 1 - k) * a.x + (k : Int) * b.x) (b := (l.length : Int) - 1) (m := 8000000) (by omega) (by omega) (by omega)
  have r2 := q8V (a := ((l.length : Int) - 1 - k) * a.y + (k : Int) * b.y) (b := (l.length : Int) - 1) (m := 8000000) (by omega) (by omega) (by omega)
  have d7 := ww (x := (pt l k).x + q1q (((l.length : Int) - 1 - k) * a.x + (k : Int) * b.x) ((l.length : Int) - 1))
  have d8 := ww (x := (pt l k).y + q1q (((l.length : Int) - 1 - k) * a.y + (k : Int) * b.y) ((l.length : Int) - 1))
  refine gg rfl ?_
  rw [d0, d1, d2, d3]
  refine q01 rfl rfl q1 (gg rfl ?_)
  rw [d0, d4, d5, d6]
  refine q01 rfl rfl q2 (gg rfl (q0k k rfl rfl rfl (q0T hlt) rfl (gg rfl ?_)))
  rw [d7]
  refine q0k k rfl rfl rfl (q0T hlt) rfl (gg rfl ?_)
  rw [d8]
  refine q1E rfl rfl rfl rfl rfl rfl (by simp) (Nat.zero_le _) (by simp [q0U]; omega) ?_
  refine gg rfl (q04 ?_)
  have hst2 : ((List.range k).map (qdJ l a b)).map Spot.enc ++ [.agg [.int .i64 ((pt l k).x + q1q (((l.length : Int) - 1 - k) * a.x + (k : Int) * b.x) ((l.length : Int) - 1)), .int .i64 ((pt l k).y + q1q (((l.length : Int) - 1 - k) * a.y + (k : Int) * b.y) ((l.length : Int) - 1))]] = ((List.range (k + 1)).map (qdJ l a b)).map Spot.enc := hst.symm
  rw [hst2, w1]
  refine hN (k + 1) (by omega) (by omega) (qqb rfl rfl ?_ rfl ?_ rfl)
  ·show ((((List.range (k + 1)).map (qdJ l a b)).map Spot.enc).all (okD 0 _) && true) = true
   rw [hro]; rfl
  exact congrArg (fun r : List D => ([some (.row [Edge.enc ⟨name, l⟩] 2), some (.row [a.enc] 2), some (.row [b.enc] 2), some (.row [.agg [.str ⟨#[]⟩, .nilsl]] 2), some (.row [.agg [.str name, .ref 7 0 (k + 1)]] 2), none, none, some (.row r 2)] : List (Option Blk))) (hrr _)
 rw [q0E] at e1
 obtain rfl : k = l.length := by omega
 refine gg rfl (q04 (gg rfl (q08 rfl rfl rfl ⟨q3s (by simp) (q1t q3E _), trivial⟩ ?_)))
 rw [q5n (by simp)]; rfl
end Go.F

namespace Go.F
attribute [local irreducible] IntKind.wrap wpM
set_option maxHeartbeats 4000000 in
theorem qtU (p : Piece) (m : Int) (hc : p.corners.length ≤ 1000000) : PU q7I [p.enc, .int .i64 m] = some (encGr (q0B p m)) := by
 refine q0h (fn := qap) rfl (q0c ?_)
 refine gg rfl (q01 rfl rfl (q9M m 100 (by decide) (by decide)) ?_)
 cases hm : inB m 100 with
 | false =>
   refine gg rfl (q0g rfl (gg rfl (q08 rfl rfl rfl trivial ?_)))
   rw [q0B, if_pos hm]; rfl
 | true =>
   have hm1 : ¬ inB m 100 = false := by rw [hm]; decide
   rw [qdp] at hm
   refine gg rfl (q0m rfl (gg rfl ?_))
   rw [List.length_map, List.length_map]
   refine q02 rfl (fun g1 => ?_) (fun g1 => ?_)
   ·rw [q0z] at g1
    refine gg rfl (q08 rfl rfl rfl trivial ?_)
    rw [q0B, if_neg hm1, if_pos (by omega)]; rfl
   rw [q0A] at g1
   have g1' : p.corners.length = p.edges.length := by omega
   refine gg rfl (q0q (S := fun k : Nat => ([.int .i64 m, .ptr 1 0 0, q00 p.edges.length, q00 k], [none, some (.row [p.enc] 7), none, none], [0, 0, 0, 0])) (C := fun k => k ≤ p.corners.length ∧ ∀ j (hj : j < p.corners.length), j < k → (inB p.corners[j].x 1000 && inB p.corners[j].y 1000) = true) (m := fun k => p.corners.length - k) 0 ⟨Nat.zero_le _, fun j _ hj => by omega⟩ (by omega) ?_ ?_)
   ·exact q03 rfl ⟨rfl, trivial⟩ (by simp [q0o, q00, Piece.enc, edges, qpt, ints])
   rintro k ⟨hk, hin⟩ N hN
   refine gg rfl (q02 rfl (fun e1 => ?_) (fun e1 => ?_))
   ·rw [q06] at e1
    have hlt : k < p.corners.length := by omega
    have w1 := wS (n := k)
    have hx := q9M (pt p.corners k).x 1000 (by decide) (by decide)
    have hy := q9M (pt p.corners k).y 1000 (by decide) (by decide)
    have bad : (inB (pt p.corners k).x 1000 && inB (pt p.corners k).y 1000) = false → q0B p m = ([], 3) := by
     intro h
     rw [q0B, if_neg hm1, if_neg (by omega), if_pos]
     refine q3c hlt ?_
     rw [← q11 hlt, h]; rfl
    refine gg rfl (q0k k rfl rfl rfl (q0T hlt) rfl (gg rfl (q01 rfl rfl hx ?_)))
    cases bx : inB (pt p.corners k).x 1000 with
    | false =>
      refine gg rfl (q0e rfl (gg rfl (q0g rfl (gg rfl (q04 (gg rfl (q08 rfl rfl rfl trivial ?_)))))))
      rw [bad (by rw [bx]; rfl)]; rfl
    | true =>
      refine gg rfl (q0j rfl (gg rfl (q0k k rfl rfl rfl (q0T hlt) rfl (gg rfl (q01 rfl rfl hy ?_)))))
      cases by' : inB (pt p.corners k).y 1000 with
      | false =>
        refine gg rfl (q0g rfl (gg rfl (q04 (gg rfl (q08 rfl rfl rfl trivial ?_)))))
        rw [bad (by rw [bx, by']; rfl)]; rfl
      | true =>
        refine gg rfl (q0m rfl (gg rfl (q04 (hN (k + 1) ⟨hlt, fun j hj hjk => ?_⟩ (by omega) (q03 rfl ⟨rfl, trivial⟩ (by simp [q0o, q00, Piece.enc, edges, qpt, ints, w1]))))))
        by_cases e : j = k
        ·subst e; rw [← q11 hj, bx, by']; rfl
        exact hin j hj (by omega)
   rw [q07] at e1
   obtain rfl : k = p.corners.length := by omega
   clear hN
   have hany : ¬ (p.corners.any fun s => !(inB s.x 1000 && inB s.y 1000)) = true := by
    rw [q2N fun k hk => by rw [hin k hk hk]; rfl]; decide
   have hnear : ∀ s ∈ p.corners, qff s 1000 := by
    intro s hs
    obtain ⟨j, hj, rfl⟩ := List.getElem_of_mem hs
    have := hin j hj hj
    rw [Bool.and_eq_true, qdp, qdp] at this
    exact ⟨by omega, by omega⟩
   refine gg rfl (q04 (gg rfl (q01 rfl rfl (q7N p.edges) (gg rfl (q02 rfl (fun g2 => ?_) (fun g2 => ?_))))))
   ·rw [q0z] at g2
    refine gg rfl (q08 rfl rfl rfl trivial ?_)
    rw [q0B, if_neg hm1, if_neg (by omega), if_neg hany, if_pos g2]; rfl
   have g2 : q0Q p.edges = 0 := q0A.1 g2
   obtain ⟨c1, c2, c3, c4, c5⟩ := q1w g2
   have hr : q0B p m = if q0Q (q3t p m) ≠ 0 then ([], q0Q (q3t p m)) else (q3t p m, 0) := by
    rw [q0B, if_neg hm1, if_neg (by omega), if_neg hany, if_neg (by omega)]
   rw [hr]
   have hm2 : m.natAbs ≤ 100 := by omega
   refine gg rfl (q0q (S := fun k : Nat => ([.int .i64 m, .ptr 1 0 0, q00 p.edges.length, .ref 3 0 k, q00 k], [none, some (.row [p.enc] 7), none, some (.row (((List.range k).map (q7t p m)).map Edge.enc) 2), none], [0, 0, 0, 0, 0])) (C := fun k => k ≤ p.edges.length) (m := fun k => p.edges.length - k) 0 (Nat.zero_le _) (by omega) ?_ ?_)
   ·exact q03 rfl ⟨rfl, rfl, trivial⟩ rfl
   intro k hk N hN
   refine gg rfl (q02 rfl (fun e2 => ?_) (fun e2 => ?_))
   ·rw [q06] at e2
    have hlt : k < p.edges.length := by omega
    have w1 := wS (n := k)
    have hL := q5o (q1B c3 hlt)
    obtain ⟨n2, n40, hw⟩ := q3M hL
    have na := q8u hnear hm2 (by omega) k
    have nb := q8u hnear hm2 (by omega) (k + 1)
    have mv := qkb (eg p.edges k) (q7D p.corners m k) (q7D p.corners m (k + 1)) n2 n40 hw na nb
    have hst : (((List.range (k + 1)).map (q7t p m)).map Edge.enc) = ((List.range k).map (q7t p m)).map Edge.enc ++ [(q7t p m k).enc] := by
     rw [List.range_succ, List.map_append, List.map_append]; rfl
    have hka : q7D p.corners m k = ⟨m * (pt p.corners k).x, m * (pt p.corners k).y⟩ := by unfold q7D; rw [Nat.mod_eq_of_lt (by omega)]
    have hkb : q7D p.corners m (k + 1) = ⟨m * (pt p.corners ((k + 1) % p.edges.length)).x, m * (pt p.corners ((k + 1) % p.edges.length)).y⟩ := by unfold q7D; rw [g1']
    have hge : q7t p m k = ⟨(eg p.edges k).name, qlz (eg p.edges k).line ⟨m * (pt p.corners k).x, m * (pt p.corners k).y⟩ ⟨m * (pt p.corners ((k + 1) % p.edges.length)).x, m * (pt p.corners ((k + 1) % p.edges.length)).y⟩⟩ := by unfold q7t; rw [hka, hkb]
    rw [hge] at hst
    have hml : (k + 1) % p.edges.length < p.corners.length := by rw [g1']; exact Nat.mod_lt _ (by omega)
    have hrem : (((k + 1 : Nat) : Int)).tmod (p.edges.length : Nat) = (((k + 1) % p.edges.length : Nat) : Int) := by rw [Int.tmod_eq_emod_of_nonneg (by omega)]; omega
    rw [hka, hkb] at mv
    rw [hka] at na
    rw [hkb] at nb
    obtain ⟨na1, na2⟩ := na
    obtain ⟨nb1, nb2⟩ := nb
    simp only at na1 na2 nb1 nb2
    generalize (k + 1) % p.edges.length = k2 at *
    have wa := ww (x := m * (pt p.corners k).x)
    have wb := ww (x := m * (pt p.corners k).y)
    have wc := ww (x := m * (pt p.corners k2).x)
    have wd := ww (x := m * (pt p.corners k2).y)
    refine gg rfl (q0k k rfl rfl rfl (q0T (by omega)) rfl ?_)
    refine gg rfl ?_
    rw [w1]
    refine q4R rfl rfl (by omega) ?_
    rw [hrem]
    refine gg rfl (q0k k2 rfl rfl rfl (q0T hml) rfl (gg rfl (q0k k rfl rfl rfl (q24 hlt) rfl (gg rfl ?_))))
    rw [wa, wb, wc, wd]
    refine q01 rfl rfl mv (gg rfl (q1E rfl rfl rfl rfl rfl rfl (by simp) (Nat.zero_le _) (by simp [q0U]; omega) ?_))
    refine gg rfl (q04 (hN (k + 1) hlt (by omega) (q03 rfl ⟨rfl, ?_, trivial⟩ ?_)))
    ·rw [List.all_append, q0b qik]; rfl
    rw [hst]; simp [q0o, edges, q00, w1]; rfl
   rw [q07] at e2
   obtain rfl : k = p.edges.length := by omega
   have hgl : (q3t p m).length = p.edges.length := by simp [q3t]
   refine gg rfl (q04 (gg rfl (q58 rfl rfl ⟨q3s (by simp) (q1t qeS _), trivial⟩ (by rw [q5n (by simp)]; exact q7N (q3t p m)) rfl ?_)))
   refine gg rfl (q02 rfl (fun g3 => ?_) (fun g3 => ?_))
   ·rw [q0z] at g3
    refine gg rfl (q08 rfl rfl rfl trivial ?_)
    rw [if_pos g3]; rfl
   rw [q0A] at g3
   refine gg rfl (q08 rfl rfl rfl ⟨q3s (by simp) (q1t qeS _), trivial⟩ ?_)
   rw [q5n (by simp), if_neg (by simp [g3])]; rfl
end Go.F

namespace Go.F
attribute [local irreducible] IntKind.wrap wpM
theorem qun (p : List Spot) (h : q1Y p = 0) : PU qha [q0o p] = some (.int .i64 (q4i p (p.length - 1))) := by
 obtain ⟨n2, n40, _⟩ := q3M h
 have hin : ∀ i, i < p.length → q0v (pt p i) 1048576 = true := fun i hi => qi8 h hi
 refine q0h (fn := qc9) rfl (q0c ?_)
 refine gg rfl (q0q (S := fun k : Nat => ([q0o p, q00 (q4i p k), q00 (k + 1 : Nat)], [none, none, none], [0, 0, 0])) (C := fun k => k ≤ p.length - 1) (m := fun k => p.length - k) 0 (Nat.zero_le _) (by omega) ?_ ?_)
 ·exact q03 rfl trivial (by simp [q0o, q00, q4i])
 intro k hk N hN
 refine gg rfl ?_
 rw [List.length_map]
 refine q02 rfl (fun g1 => ?_) (fun g1 => ?_)
 ·rw [q06] at g1
  have hlt : k + 1 < p.length := by omega
  have w0 : IntKind.i64.wrap (((k + 1 : Nat) : Int) - 1) = (k : Int) := by rw [wrap64 (by omega) (by omega)]; omega
  have w1 := ww (x := (k : Int) + 1 + 1)
  have hin1 := hin k (by omega)
  have hin2 := hin (k + 1) hlt
  have hsl' := qm5 hin1 hin2
  have hle := qnB hin k (by omega)
  have w2 : IntKind.i64.wrap ((q4i p k : Int) + (qjr (pt p k) (pt p (k + 1)) : Int)) = (q4i p (k + 1) : Int) := by rw [wrap64 (by omega) (by omega)]; rfl
  refine gg rfl (q0k k rfl rfl w0 (q0T (by omega)) rfl ?_)
  refine gg rfl (q0k (k + 1) rfl rfl rfl (q0T hlt) rfl (gg rfl (q01 rfl rfl (qjs (pt p k) (pt p (k + 1)) hin1 hin2) (gg rfl ?_))))
  rw [w2]
  exact q04 (hN (k + 1) (by omega) (by omega) (q03 rfl trivial (by simp [q0o, q00, w1])))
 rw [q07] at g1
 obtain rfl : k = p.length - 1 := by omega
 exact gg rfl (q04 (gg rfl (q08 rfl rfl rfl trivial rfl)))
end Go.F

namespace Go.F
attribute [local irreducible] IntKind.wrap wpM
theorem qvi (p : List Spot) : PU qfo [q0o p] = some (.tup [.int .i64 (q2E p).1, .int .i64 (q2E p).2]) := by
 refine q0h (fn := qeZ) rfl (q0c ?_)
 refine gg rfl (q01 rfl rfl (qmj p) (gg rfl (q02 rfl (fun h => ?_) (fun h => ?_))))
 ·rw [q0z] at h
  refine gg rfl (q08 rfl rfl rfl trivial ?_)
  rw [q2E, if_neg h]
 rw [q0A] at h
 refine gg rfl (q01 rfl rfl (qun p h) (gg rfl (q08 rfl rfl rfl trivial ?_)))
 rw [q2E, if_pos h]
theorem qvq {A rest c bit : Nat} (hc : 0 < c) : 2 * (A * rest / c) + (2 * (A * rest % c) + bit * rest) / c = (2 * A + bit) * rest / c ∧ (2 * (A * rest % c) + bit * rest) % c = (2 * A + bit) * rest % c := by
 have h1 := Nat.div_add_mod (A * rest) c
 have e : (2 * A + bit) * rest = (2 * (A * rest % c) + bit * rest) + c * (2 * (A * rest / c)) := by
  have : (2 * A + bit) * rest = 2 * (A * rest) + bit * rest := by rw [Nat.add_mul, Nat.mul_assoc]
  rw [this]
  generalize A * rest = X at *
  generalize X / c = q at *
  generalize X % c = r at *
  rw [← h1, Nat.mul_add]
  rw [← Nat.mul_assoc c 2 q, Nat.mul_comm c 2, Nat.mul_assoc]
  omega
 rw [e, Nat.add_mul_div_left _ _ hc, Nat.add_mul_mod_self_left]
 exact ⟨Nat.add_comm _ _, rfl⟩
theorem qvs (a k : Nat) (hk : k ≤ 40) : a / 2 ^ (40 - k) = 2 * (a / 2 ^ (41 - k)) + a / 2 ^ (40 - k) % 2 := by
 have e : 41 - k = 40 - k + 1 := by omega
 rw [e, Nat.pow_succ, ← Nat.div_div_eq_div_mul]
 omega
set_option maxHeartbeats 4000000 in
theorem qvl (a b c : Nat) (hc : 0 < c) (hc2 : c ≤ 1099511627776) (hb : b ≤ 1099511627776) (ha : a ≤ c) :
 PU qn0 [.int .i64 a, .int .i64 b, .int .i64 c] = some (.int .i64 (q1q ((a : Int) * b) c)) := by
 have hr := qu5 (a := a * b) hc
 rw [Int.natCast_mul] at hr
 rw [hr]
 have e1 : ((b : Int)).tdiv (c : Int) = ((b / c : Nat) : Int) := by rw [Int.tdiv_eq_ediv_of_nonneg (by omega)]; rfl
 have e2 : ((b : Int)).tmod (c : Int) = ((b % c : Nat) : Int) := by rw [Int.tmod_eq_emod_of_nonneg (by omega)]; rfl
 have hdm := Nat.div_add_mod b c
 have hrest := Nat.mod_lt b hc
 have hW : a * (b / c) ≤ b := Nat.le_trans (Nat.mul_le_mul_right _ ha) (by rw [Nat.mul_comm]; exact Nat.div_mul_le_self b c)
 have hW2 : b / c ≤ b := Nat.div_le_self _ _
 have hab : a * b = a * (b % c) + c * (a * (b / c)) := by
  conv => lhs; rw [← hdm]
  rw [Nat.mul_add, ← Nat.mul_assoc, Nat.mul_comm a c, Nat.mul_assoc, Nat.add_comm]
 have hq : a * b / c = a * (b / c) + a * (b % c) / c := by rw [hab, Nat.add_mul_div_left _ _ hc, Nat.add_comm]
 have hm : a * b % c = a * (b % c) % c := by rw [hab, Nat.add_mul_mod_self_left]
 rw [hq, hm]
 generalize b / c = wh at *
 generalize b % c = rest at *
 clear hr hab hq hm hdm
 have w0 := ww (x := (wh : Int))
 have w1 : IntKind.i64.wrap ((a : Int) * (wh : Int)) = ((a * wh : Nat) : Int) := by
  rw [← Int.natCast_mul]
  generalize a * wh = x at *
  exact wrap64 (by omega) (by omega)
 have hpow : a / 2 ^ 41 = 0 := Nat.div_eq_of_lt (by omega)
 refine q0h (fn := qgV) rfl (q0c ?_)
 refine gg rfl (qbD rfl rfl (by omega) ?_)
 rw [e1, w0]
 refine gg rfl (q4R rfl rfl (by omega) ?_)
 rw [e2]
 refine gg rfl ?_
 rw [w1]
 refine q0q (S := fun k : Nat => ([.int .i64 a, .int .i64 c, .int .i64 rest, .int .i64 ((a * wh : Nat) : Int), .int .i64 ((a / 2 ^ (41 - k) * rest / c : Nat) : Int), .int .i64 ((a / 2 ^ (41 - k) * rest % c : Nat) : Int), .int .i64 (40 - (k : Int))], [none, none, none, none, none, none, none], [0, 0, 0, 0, 0, 0, 0])) (C := fun k => k ≤ 41) (m := fun k => 41 - k) 0 (Nat.zero_le _) (by omega) ?_ ?_
 ·refine q03 rfl trivial ?_
  show _ = ([D.int .i64 a, .int .i64 c, .int .i64 rest, .int .i64 ((a * wh : Nat) : Int), .int .i64 ((a / 2 ^ 41 * rest / c : Nat) : Int), .int .i64 ((a / 2 ^ 41 * rest % c : Nat) : Int), .int .i64 (40 - ((0 : Nat) : Int))], _, _)
  rw [hpow]
  simp
 intro k hk N hN
 refine gg rfl (q02 rfl (fun g => ?_) (fun g => ?_))
 ·rw [q0D] at g
  have hk40 : k ≤ 40 := by omega
  have hh := qvs a k hk40
  have hB : a / 2 ^ (40 - k) ≤ a := Nat.div_le_self _ _
  have hbit : a / 2 ^ (40 - k) % 2 < 2 := Nat.mod_lt _ (by decide)
  have hs := qvq (A := a / 2 ^ (41 - k)) (rest := rest) (c := c) (bit := a / 2 ^ (40 - k) % 2) hc
  rw [← hh] at hs
  have hl := Nat.mod_lt (a / 2 ^ (41 - k) * rest) hc
  have hq : a / 2 ^ (40 - k) * rest / c ≤ a := Nat.le_trans (Nat.div_le_of_le_mul (by rw [Nat.mul_comm]; exact Nat.mul_le_mul_right _ (by omega))) hB
  have sh : IntKind.u64.wrap (40 - (k : Int)) = ((40 - k : Nat) : Int) := by
   rw [show (40 - (k : Int)) = ((40 - k : Nat) : Int) by omega]; exact q0y (by omega)
  have ek : (40 - ((k + 1 : Nat) : Int)) = 40 - (k : Int) - 1 := by omega
  have wk := ww (x := 40 - (k : Int) - 1)
  have e41 : 41 - (k + 1) = 40 - k := by omega
  generalize hX : a / 2 ^ (40 - k) * rest / c = q' at *
  generalize hY : a / 2 ^ (40 - k) * rest % c = l' at *
  generalize a / 2 ^ (41 - k) * rest / c = q at *
  generalize a / 2 ^ (41 - k) * rest % c = l at *
  obtain ⟨hs1, hs2⟩ := hs
  have h2q : 2 * q ≤ q' := by rw [← hs1]; exact Nat.le_add_right _ _
  have w2 := ww (x := 2 * (q : Int))
  have w3 := ww (x := 2 * (l : Int))
  refine gg rfl ?_
  rw [w2, w3, sh]
  refine q0Y a (40 - k) rfl rfl rfl rfl (by show 40 - k ≤ 64; omega) ?_
  generalize hBB : a / 2 ^ (40 - k) = B at *
  have e3 : ((B : Nat) : Int).tmod 2 = ((B % 2 : Nat) : Int) := by rw [Int.tmod_eq_emod_of_nonneg (by omega)]; rfl
  have fin : ∀ L : Nat, L = 2 * l + B % 2 * rest → ((L : Int)).tdiv (c : Int) = ((L / c : Nat) : Int) ∧ ((L : Int)).tmod (c : Int) = ((l' : Nat) : Int) ∧ L / c ≤ L ∧ 2 * q + L / c = q' := by
   rintro L rfl
   refine ⟨by rw [Int.tdiv_eq_ediv_of_nonneg (by omega)]; rfl, ?_, Nat.div_le_self _ _, hs1⟩
   rw [Int.tmod_eq_emod_of_nonneg (by omega), ← hs2]; rfl
  refine gg rfl (q4R rfl rfl (by decide) ?_)
  rw [e3]
  refine gg rfl (q02 rfl (fun f => ?_) (fun f => ?_))
  ·rw [q12] at f
   have f : B % 2 = 1 := by omega
   have hf := fin (2 * l + rest) (by rw [f]; omega)
   have w4 : IntKind.i64.wrap (2 * (l : Int) + (rest : Int)) = ((2 * l + rest : Nat) : Int) := by rw [wrap64 (by omega) (by omega)]; omega
   obtain ⟨f1, f2, f3, f4⟩ := hf
   refine gg rfl ?_
   rw [w4]
   refine qbD rfl rfl (by omega) ?_
   rw [f1]
   generalize (2 * l + rest) / c = v at *
   have w5 := ww (x := (v : Int))
   rw [w5]
   have w6 : IntKind.i64.wrap (2 * (q : Int) + (v : Int)) = (q' : Int) := by rw [wrap64 (by omega) (by omega)]; omega
   refine gg rfl ?_
   rw [w6]
   refine q4R rfl rfl (by omega) ?_
   rw [f2]
   refine gg rfl (q04 (hN (k + 1) (by omega) (by omega) (q03 rfl trivial ?_)))
   rw [e41, hBB, hX, hY, ek, wk]
  rw [q1a] at f
  have f : B % 2 = 0 := by omega
  have hf := fin (2 * l) (by rw [f]; omega)
  obtain ⟨f1, f2, f3, f4⟩ := hf
  have el : (2 * (l : Int)) = ((2 * l : Nat) : Int) := by omega
  refine gg rfl ?_
  rw [el]
  refine qbD rfl rfl (by omega) ?_
  rw [f1]
  generalize (2 * l) / c = v at *
  have w5 := ww (x := (v : Int))
  rw [w5]
  have w6 : IntKind.i64.wrap (2 * (q : Int) + (v : Int)) = (q' : Int) := by rw [wrap64 (by omega) (by omega)]; omega
  refine gg rfl ?_
  rw [w6]
  refine q4R rfl rfl (by omega) ?_
  rw [f2]
  refine gg rfl (q04 (hN (k + 1) (by omega) (by omega) (q03 rfl trivial ?_)))
  rw [e41, hBB, hX, hY, ek, wk]
 rw [q0E] at g
 obtain rfl : k = 41 := by omega
 clear hN
 have e0 : a / 2 ^ (41 - 41) = a := by simp
 rw [e0]
 have hl := Nat.mod_lt (a * rest) hc
 have hq : a * rest / c ≤ a := Nat.div_le_of_le_mul (by rw [Nat.mul_comm]; exact Nat.mul_le_mul_right _ (by omega))
 generalize a * rest / c = q at *
 generalize a * rest % c = l at *
 have w2 := ww (x := 2 * (l : Int))
 refine gg rfl (q04 (gg rfl ?_))
 rw [w2]
 refine q02 rfl (fun f => ?_) (fun f => ?_)
 ·rw [q0D] at f
  rw [if_pos (by omega)]
  have w3 := ww (x := (q : Int) + 1)
  have w4 : IntKind.i64.wrap (((a * wh : Nat) : Int) + ((q : Int) + 1)) = ((a * wh + q + 1 : Nat) : Int) := by rw [wrap64 (by omega) (by omega)]; omega
  refine gg rfl ?_
  rw [w3, w4]
  exact q08 rfl rfl rfl trivial rfl
 rw [q0E] at f
 rw [if_neg (by omega)]
 have w4 : IntKind.i64.wrap (((a * wh : Nat) : Int) + (q : Int)) = ((a * wh + q + 0 : Nat) : Int) := by rw [wrap64 (by omega) (by omega)]; omega
 refine gg rfl ?_
 rw [w4]
 exact q08 rfl rfl rfl trivial rfl
theorem qvj (fr to : Int) (rev : Bool) (at_ : Int) : PU qjW [.int .i64 fr, .int .i64 to, .bool rev, .int .i64 at_] = some (.tup [.int .i64 (qfg fr to rev at_).1, .int .i64 (qfg fr to rev at_).2]) := by
 by_cases hb : qdq fr to at_
 ·rw [qfg, if_pos hb]
  unfold qdq at hb
  refine q0h (fn := qdN) rfl (q0c ?_)
  repeat' (first
   | refine goP 800 rfl rfl ?_
   | refine q0e rfl ?_ | refine q0j rfl ?_ | refine q05 rfl (fun _ => ?_) (fun _ => ?_)
   | refine q0g rfl ?_ | refine q0m rfl ?_ | refine q02 rfl (fun _ => ?_) (fun _ => ?_)
   | refine q0G rfl (fun _ => ?_) (fun _ => ?_)
   | refine q08 rfl rfl rfl trivial ?_)
  all_goals first
   | rfl
   | (exfalso; simp only [q06, q07] at *; omega)
 rw [qfg, if_neg hb]
 unfold qdq at hb
 obtain ⟨F, rfl⟩ : ∃ n : Nat, fr = n := ⟨fr.toNat, by omega⟩
 obtain ⟨T, rfl⟩ : ∃ n : Nat, to = n := ⟨to.toNat, by omega⟩
 obtain ⟨A, rfl⟩ : ∃ n : Nat, at_ = n := ⟨at_.toNat, by omega⟩
 have hs := qvl A T F (by omega) (by omega) (by omega) (by omega)
 have hr := qu5 (a := A * T) (b := F) (by omega)
 rw [Int.natCast_mul] at hr
 have hquo : A * T / F ≤ T := Nat.div_le_of_le_mul (Nat.mul_le_mul_right _ (by omega))
 have hR : 0 ≤ q1q ((A : Int) * T) F ∧ q1q ((A : Int) * T) F ≤ T + 1 := by
  rw [hr]
  generalize A * T / F = x at *
  split <;> omega
 generalize q1q ((A : Int) * T) F = R at *
 have w7 := ww (x := (T : Int) - R)
 have no : ∀ {x y : Int} {P : Prop}, ¬ x < y → ltb x y = true → P := fun h g => absurd (q06.1 g) h
 refine q0h (fn := qdN) rfl (q0c ?_)
 refine gg rfl (q05 rfl (no (by omega)) (fun _ => ?_))
 refine gg rfl (q05 rfl (no (by omega)) (fun _ => ?_))
 refine gg rfl (q05 rfl (no (by omega)) (fun _ => ?_))
 refine gg rfl (q05 rfl (no (by omega)) (fun _ => ?_))
 refine gg rfl (q05 rfl (no (by omega)) (fun _ => ?_))
 refine gg rfl (q02 rfl (no (by omega)) (fun _ => ?_))
 refine gg rfl (q01 rfl rfl hs (gg rfl ?_))
 cases rev with
 | true =>
   refine q0g rfl (gg rfl ?_)
   rw [w7]
   exact q08 rfl rfl rfl trivial rfl
 | false =>
   exact q0m rfl (gg rfl (q08 rfl rfl rfl trivial rfl))
theorem qvo {l : List Edge} (h : q0Q l = 0) {k : Nat} (hk : k < l.length) : q1Y (eg l k).line = 0 := q5o (q1B (q1w h).2.2.1 hk)
set_option maxHeartbeats 4000000 in
theorem qvg (p : Piece) (m : Int) (hc : p.corners.length ≤ 1000000) :
 PU qlD [p.enc, .int .i64 m] = some (.tup [ints (q29 p m).1, .int .i64 (q29 p m).2]) := by
 refine q0h (fn := qeX) rfl (q0c ?_)
 refine gg rfl (q01 rfl rfl (qtU p m hc) (gg rfl (q02 rfl (fun h => ?_) (fun h => ?_))))
 ·rw [q0z] at h
  refine gg rfl (q08 rfl rfl rfl trivial ?_)
  rw [q29, if_pos h]; rfl
 have h : (q0B p m).2 = 0 := q0A.1 h
 obtain ⟨hg, hck1, hck2, _⟩ := q5D h
 have hr : q29 p m = if 16 < p.notches.length then ([], 5)
  else if q5X p (q0B p m).1 p.notches ≠ 0 then ([], q5X p (q0B p m).1 p.notches)
  else (p.notches.map fun n => (q3T p (q0B p m).1 n).1, 0) := by rw [q29, if_neg (by omega)]
 rw [hr]
 generalize (q0B p m).1 = G at *
 refine gg rfl ?_
 rw [List.length_map]
 refine q02 rfl (fun h2 => ?_) (fun h2 => ?_)
 ·rw [q06] at h2
  refine gg rfl (q08 rfl rfl rfl trivial ?_)
  rw [if_pos (by omega)]; rfl
 rw [q07] at h2
 rw [if_neg (by omega)]
 refine gg rfl (q0q (S := fun k : Nat => ([.ptr 0 0 0, edges G, .ref 2 0 k, q00 k], [some (.row [p.enc] 7), none, some (.row (((p.notches.take k).map fun n => (q3T p G n).1).map q00) 1), none], [0, 0, 0, 0])) (C := fun k => k ≤ p.notches.length ∧ q5X p G p.notches = q5X p G (p.notches.drop k)) (m := fun k => p.notches.length - k) 0 ⟨Nat.zero_le _, rfl⟩ (by omega) ?_ ?_)
 ·exact q03 rfl ⟨rfl, rfl, trivial⟩ rfl
 rintro k ⟨hk, hke⟩ N hN
 refine gg rfl ?_
 rw [List.length_map]
 refine q02 rfl (fun e1 => ?_) (fun e1 => ?_)
 ·rw [q06] at e1
  have hlt : k < p.notches.length := by omega
  have w1 := wS (n := k)
  have hdr : p.notches.drop k = nt p.notches k :: p.notches.drop (k + 1) := by rw [List.drop_eq_getElem_cons hlt, qtI hlt]
  have hst : (((p.notches.take (k + 1)).map fun n => (q3T p G n).1).map q00) = ((p.notches.take k).map fun n => (q3T p G n).1).map q00 ++ [q00 (q3T p G (nt p.notches k)).1] := by
   rw [List.take_succ_eq_append_getElem hlt, List.map_append, List.map_append, qtI hlt]; rfl
  have hne := qvu hlt
  rw [hdr, q5X] at hke
  generalize nt p.notches k = n at *
  have bad : (q3T p G n).2 ≠ 0 → q5X p G p.notches = (q3T p G n).2 := fun h => by rw [hke, if_neg h]
  refine gg rfl (q0k k rfl rfl rfl hne rfl (gg rfl (q05 rfl (fun f1 => ?_) (fun f1 => ?_))))
  ·rw [q06] at f1
   have hn : q3T p G n = (0, 3) := by rw [q3T, if_pos (.inl f1)]
   rw [hn] at bad
   refine gg rfl (q0g rfl (gg rfl (q04 (gg rfl (q08 rfl rfl rfl trivial ?_)))))
   rw [bad (by decide)]; rfl
  rw [q07] at f1
  refine gg rfl ?_
  rw [List.length_map]
  refine q02 rfl (fun f2 => ?_) (fun f2 => ?_)
  ·rw [q0D] at f2
   have hn : q3T p G n = (0, 3) := by rw [q3T, if_pos (.inr f2)]
   rw [hn] at bad
   refine gg rfl (q04 (gg rfl (q08 rfl rfl rfl trivial ?_)))
   rw [bad (by decide)]; rfl
  rw [q0E] at f2
  have ei : n.edge = ((n.edge.toNat : Nat) : Int) := by omega
  have hl1 : n.edge.toNat < p.edges.length := by omega
  have hl2 : n.edge.toNat < G.length := by omega
  have l1 := qvi (eg p.edges n.edge.toNat).line
  have l2 := qvi (eg G n.edge.toNat).line
  have hn0 : q3T p G n = if (q2E (eg p.edges n.edge.toNat).line).2 ≠ 0 then (0, (q2E (eg p.edges n.edge.toNat).line).2)
   else if (q2E (eg G n.edge.toNat).line).2 ≠ 0 then (0, (q2E (eg G n.edge.toNat).line).2)
   else qfg (q2E (eg p.edges n.edge.toNat).line).1 (q2E (eg G n.edge.toNat).line).1 false n.at_ := by rw [q3T, if_neg (by omega)]
  have f3 : (q2E (eg p.edges n.edge.toNat).line).2 = 0 := by rw [q2E, if_pos (qvo hck1 hl1)]
  have f4 : (q2E (eg G n.edge.toNat).line).2 = 0 := by rw [q2E, if_pos (qvo hck2 hl2)]
  rw [if_neg (by simp [f3]), if_neg (by simp [f4])] at hn0
  refine gg rfl (q0k n.edge.toNat rfl rfl ei (q24 hl1) rfl (gg rfl (q01 rfl rfl l1 (gg rfl (q0k n.edge.toNat rfl rfl ei (q24 hl2) rfl (gg rfl (q01 rfl rfl l2 (gg rfl (q01 rfl rfl (qvj (q2E (eg p.edges n.edge.toNat).line).1 (q2E (eg G n.edge.toNat).line).1 false n.at_) ?_)))))))))
  rw [← hn0]
  refine gg rfl (q02 rfl (fun f5 => ?_) (fun f5 => ?_))
  ·rw [q0z] at f5
   refine gg rfl (q04 (gg rfl (q08 rfl rfl rfl trivial ?_)))
   rw [bad f5, if_pos f5]; rfl
  rw [q0A] at f5
  rw [if_pos f5] at hke
  refine gg rfl (q1E rfl rfl rfl rfl rfl rfl (by simp; omega) (Nat.zero_le _) (by simp [q0U]; omega) ?_)
  refine gg rfl (q04 (hN (k + 1) ⟨hlt, hke⟩ (by omega) (q03 rfl ⟨rfl, ?_, trivial⟩ ?_)))
  ·rw [List.all_append, q0b q9W]; rfl
  rw [hst, w1]; rfl
 rw [q07] at e1
 obtain rfl : k = p.notches.length := by omega
 have hz : q5X p G p.notches = 0 := by rw [hke, List.drop_length]; rfl
 rw [hz, List.take_length]
 refine gg rfl (q04 (gg rfl (q08 rfl rfl rfl ⟨q3s (by simp) (q1t qln _), trivial⟩ ?_)))
 rw [q5n (by simp)]; rfl
end Go.F

namespace Go.F
attribute [local irreducible] IntKind.wrap wpM
set_option maxHeartbeats 2000000 in
theorem qnF (s : ByteArray) : PU qiE [.str s] = some (.bool (sizeS s)) := by
 refine q0h (fn := qe7) rfl (q0c ?_)
 refine gg rfl (q05 rfl (fun h0 => ?_) (fun h0 => ?_))
 ·repeat' (first
   | refine goP 800 rfl rfl ?_
   | refine q0e rfl ?_ | refine q0j rfl ?_ | refine q05 rfl (fun _ => ?_) (fun _ => ?_)
   | refine q0g rfl ?_ | refine q0m rfl ?_ | refine q02 rfl (fun _ => ?_) (fun _ => ?_)
   | refine q0G rfl (fun _ => ?_) (fun _ => ?_)
   | refine q08 rfl rfl rfl trivial ?_)
  rw [qaL, qfd, decide_eq_true_eq] at h0
  simp [sizeS, h0]
 refine gg rfl ?_
 rw [qaL, qfd, decide_eq_false_iff_not] at h0
 refine q02 rfl (fun h1 => ?_) (fun h1 => ?_)
 ·refine gg rfl (q08 rfl rfl rfl trivial ?_)
  rw [q06] at h1
  have : ¬ s.size ≤ 8 := by omega
  simp [sizeS, this]
 rw [q07] at h1
 refine gg rfl (q0q (S := fun k : Nat => ([.str s, q00 k], [none, none], [0, 0])) (C := fun k => k ≤ s.size ∧ ∀ i, i < k → q2B (q23 s i).toNat = true) (m := fun k => s.size - k) 0 ⟨by omega, fun i hi => by omega⟩ (by omega) ?_ ?_)
 ·exact q03 rfl trivial (by simp [q00])
 intro k ⟨hk, hall⟩ N hN
 refine gg rfl (q02 rfl (fun g1 => ?_) (fun g1 => ?_))
 ·rw [q06] at g1
  have hlt : k < s.size := by omega
  have w1 := wS (n := k)
  have hb := q6w hlt
  have hno := qoa hlt
  have hyes : q2B (q23 s k).toNat = true → ∀ i, i < k + 1 → q2B (q23 s i).toNat = true := by
   intro h i hi
   by_cases e : i = k
   ·subst e; exact h
   exact hall i (by omega)
  generalize q23 s k = c at *
  refine gg rfl (q1U k rfl rfl rfl hb (gg rfl (q05 rfl (fun a1 => ?_) (fun a1 => ?_))))
  ·refine gg rfl (q1U k rfl rfl rfl hb (gg rfl (q05 rfl (fun a2 => ?_) (fun a2 => ?_))))
   ·have hc : q2B c.toNat = true := by rw [q1j]; simp_all
    exact gg rfl (q0m rfl (gg rfl (q04 (hN (k + 1) ⟨hlt, hyes hc⟩ (by omega) (q03 rfl trivial (by simp [q00, w1]))))))
   refine gg rfl (q1U k rfl rfl rfl hb (gg rfl (q05 rfl (fun d1 => ?_) (fun d1 => ?_))))
   ·refine gg rfl (q1U k rfl rfl rfl hb (gg rfl (q02 rfl (fun d2 => ?_) (fun d2 => ?_))))
    ·have hc : q2B c.toNat = false := by rw [q1j]; simp_all
     refine gg rfl (q04 (gg rfl (q08 rfl rfl rfl trivial ?_)))
     rw [hno hc]
    have hc : q2B c.toNat = true := by rw [q1j]; simp_all
    exact gg rfl (q04 (hN (k + 1) ⟨hlt, hyes hc⟩ (by omega) (q03 rfl trivial (by simp [q00, w1]))))
   have hc : q2B c.toNat = false := by rw [q1j]; simp_all
   refine gg rfl (q0g rfl (gg rfl (q04 (gg rfl (q08 rfl rfl rfl trivial ?_)))))
   rw [hno hc]
  refine gg rfl (q0j rfl (gg rfl (q1U k rfl rfl rfl hb (gg rfl (q05 rfl (fun d1 => ?_) (fun d1 => ?_))))))
  ·refine gg rfl (q1U k rfl rfl rfl hb (gg rfl (q02 rfl (fun d2 => ?_) (fun d2 => ?_))))
   ·have hc : q2B c.toNat = false := by rw [q1j]; simp_all
    refine gg rfl (q04 (gg rfl (q08 rfl rfl rfl trivial ?_)))
    rw [hno hc]
   have hc : q2B c.toNat = true := by rw [q1j]; simp_all
   exact gg rfl (q04 (hN (k + 1) ⟨hlt, hyes hc⟩ (by omega) (q03 rfl trivial (by simp [q00, w1]))))
  have hc : q2B c.toNat = false := by rw [q1j]; simp_all
  refine gg rfl (q0g rfl (gg rfl (q04 (gg rfl (q08 rfl rfl rfl trivial ?_)))))
  rw [hno hc]
 rw [q07] at g1
 obtain rfl : k = s.size := by omega
 refine gg rfl (q04 (gg rfl (q08 rfl rfl rfl trivial ?_)))
 rw [sizeS, decide_eq_true hall, decide_eq_true (show 1 ≤ s.size by omega), decide_eq_true (show s.size ≤ 8 by omega)]; rfl
def sizedB (s : Sty) : Bool := decide (q1L s.name = true ∧ s.sizes.length ≠ 0 ∧ s.sizes.any (fun x => !sizeS x) = false ∧ 0 ∈ s.mults ∧ s.mults.length = s.sizes.length)
set_option maxHeartbeats 4000000 in
theorem quq (s : Sty) (hB : StyB s) : PU qh3 [s.enc] = some (.bool (sizedB s)) := by
 have b1 := hB.sizes
 have b2 := hB.mults
 refine q0h (fn := qbR) rfl (q0c ?_)
 refine gg rfl (q01 rfl rfl (qh0 s.name) ?_)
 cases hn : q1L s.name with
 | false =>
   refine gg rfl (q0e rfl (gg rfl (q0g rfl (gg rfl (q08 rfl rfl rfl trivial ?_)))))
   simp [sizedB, hn]
 | true =>
   refine gg rfl (q0j rfl (gg rfl ?_))
   rw [List.length_map]
   refine q02 rfl (fun g => ?_) (fun g => ?_)
   ·rw [q12] at g
    refine gg rfl (q08 rfl rfl rfl trivial ?_)
    have : s.sizes.length = 0 := by omega
    rw [sizedB, decide_eq_false (fun h => h.2.1 this)]
   rw [q1a] at g
   refine gg rfl (q0q (S := fun k : Nat => ([.ptr 0 0 0, q00 k], [some (.row [s.enc] 7), none], [0, 0])) (C := fun k => k ≤ s.sizes.length ∧ ∀ j (hj : j < s.sizes.length), j < k → sizeS s.sizes[j] = true) (m := fun k => s.sizes.length - k) 0 ⟨Nat.zero_le _, fun j _ h => by omega⟩ (by omega) ?_ ?_)
   ·exact q03 rfl ⟨rfl, trivial⟩ rfl
   rintro k ⟨hk, hall⟩ N hN
   refine gg rfl ?_
   rw [List.length_map]
   refine q02 rfl (fun e => ?_) (fun e => ?_)
   ·rw [q06] at e
    have hlt : k < s.sizes.length := by omega
    have w1 := wS (n := k)
    have hz := qnF s.sizes[k]
    refine gg rfl (q0k k rfl rfl rfl (q1J hlt) rfl (gg rfl (q01 rfl rfl hz ?_)))
    cases hv : sizeS s.sizes[k] with
    | false =>
      refine gg rfl (q0g rfl (gg rfl (q04 (gg rfl (q08 rfl rfl rfl trivial ?_)))))
      have ha : s.sizes.any (fun x => !sizeS x) = true := q3c hlt (by rw [hv]; rfl)
      rw [sizedB, decide_eq_false (fun h => by rw [ha] at h; cases h.2.2.1)]
    | true =>
      refine gg rfl (q0m rfl (gg rfl (q04 (hN (k + 1) ⟨hlt, fun j hj hjk => ?_⟩ (by omega) (q03 rfl ⟨rfl, trivial⟩ (by rw [w1]; rfl))))))
      by_cases ej : j = k
      ·subst ej; exact hv
      exact hall j hj (by omega)
   rw [q07] at e
   obtain rfl : k = s.sizes.length := by omega
   clear hN
   have hc2 : s.sizes.any (fun x => !sizeS x) = false := q2N fun j hj => by rw [hall j hj hj]; rfl
   refine gg rfl (q04 (gg rfl (q0q (S := fun k : Nat => ([.ptr 0 0 0, .bool (decide (0 ∈ s.mults.take k)), q00 k], [some (.row [s.enc] 7), none, none], [0, 0, 0])) (C := fun k => k ≤ s.mults.length) (m := fun k => s.mults.length - k) 0 (Nat.zero_le _) (by omega) ?_ ?_)))
   ·exact q03 rfl ⟨rfl, trivial⟩ (by simp [q00])
   intro k hk N hN
   refine gg rfl ?_
   rw [List.length_map]
   refine q02 rfl (fun e => ?_) (fun e => ?_)
   ·rw [q06] at e
    have hlt : k < s.mults.length := by omega
    have w1 := wS (n := k)
    have hst : (0 ∈ s.mults.take (k + 1)) ↔ (0 ∈ s.mults.take k ∨ mu s.mults k = 0) := by
     rw [List.take_succ_eq_append_getElem hlt, List.mem_append, List.mem_singleton, qvO hlt]
     exact ⟨fun h => h.imp id Eq.symm, fun h => h.imp id Eq.symm⟩
    cases hb : decide (0 ∈ s.mults.take k) with
    | true =>
      have hb := of_decide_eq_true hb
      refine gg rfl (q0e rfl (gg rfl (q04 (hN (k + 1) hlt (by omega) (q03 rfl ⟨rfl, trivial⟩ ?_)))))
      rw [w1, decide_eq_true (hst.2 (.inl hb))]; rfl
    | false =>
      have hb := of_decide_eq_false hb
      refine gg rfl (q0j rfl (gg rfl (q0k k rfl rfl rfl (qpw hlt) rfl (gg rfl (q04 (hN (k + 1) hlt (by omega) (q03 rfl ⟨rfl, trivial⟩ ?_)))))))
      have e2 : decide (0 ∈ s.mults.take (k + 1)) = eqb (mu s.mults k) 0 := by
       rw [q2i]
       exact decide_eq_decide.2 ⟨fun h => (hst.1 h).resolve_left hb, fun h => hst.2 (.inr h)⟩
      rw [w1, e2]; rfl
   rw [q07] at e
   obtain rfl : k = s.mults.length := by omega
   clear hN
   rw [List.take_length]
   refine gg rfl (q04 (gg rfl ?_))
   cases hz : decide (0 ∈ s.mults) with
   | false =>
     have hz := of_decide_eq_false hz
     refine q0j rfl (gg rfl (q08 rfl rfl rfl trivial ?_))
     rw [sizedB, decide_eq_false (fun h => hz h.2.2.2.1)]
   | true =>
     have hz := of_decide_eq_true hz
     refine q0e rfl (gg rfl (q08 rfl rfl rfl trivial ?_))
     rw [List.length_map, List.length_map, q2i, sizedB]
     congr 1
     refine decide_eq_decide.2 ⟨fun h => ⟨hn, by omega, hc2, hz, by omega⟩, fun h => ?_⟩
     have := h.2.2.2.2
     omega
set_option maxHeartbeats 4000000 in
theorem qur (l : List ByteArray) (hl : l.length ≤ 1000) : PU qh4 [strs l] = some (.bool (q4o l)) := by
 refine q0h (fn := qbS) rfl (q0c ?_)
 refine gg rfl (q0q (S := fun k : Nat => ([strs l, q00 k], [none, none], [0, 0])) (C := fun k => k ≤ l.length ∧ ∀ i, i < k → ((l.take i).any fun x => x.toList == (sz l i).toList) = false) (m := fun k => l.length - k) 0 ⟨Nat.zero_le _, fun j h => by omega⟩ (by omega) ?_ ?_)
 ·exact q03 rfl trivial rfl
 rintro k ⟨hk, htw⟩ N hN
 refine gg rfl ?_
 rw [List.length_map]
 refine q02 rfl (fun e => ?_) (fun e => ?_)
 ·rw [q06] at e
  have hlt : k < l.length := by omega
  have w1 := wS (n := k)
  refine gg rfl (q0q (S := fun j : Nat => ([strs l, q00 k, q00 j], [none, none, none], [0, 0, 0])) (C := fun j => j ≤ k ∧ ∀ i (hi : i < l.length), i < j → (l[i].toList == (sz l k).toList) = false) (m := fun j => k - j) 0 ⟨Nat.zero_le _, fun j _ h => by omega⟩ (by omega) ?_ ?_)
  ·exact q03 rfl trivial rfl
  rintro j ⟨hj, hno⟩ N2 hN2
  refine gg rfl (q02 rfl (fun f => ?_) (fun f => ?_))
  ·rw [q06] at f
   have hjk : j < k := by omega
   have w2 := wS (n := j)
   refine gg rfl (q0k k rfl rfl rfl (qpv hlt) rfl (gg rfl (q0k j rfl rfl rfl (qpv (by omega)) rfl ?_)))
   refine gg rfl (q02 rfl (fun g => ?_) (fun g => ?_))
   ·refine gg rfl (q04 (gg rfl (q04 (gg rfl (q08 rfl rfl rfl trivial ?_)))))
    have ht : q4o l = true := by
     unfold q4o
     rw [List.any_eq_true]
     refine ⟨k, List.mem_range.2 hlt, ?_⟩
     rw [List.any_eq_true]
     refine ⟨sz l j, ?_, ?_⟩
     ·rw [qjK (by omega)]
      have h1 : (l.take k)[j]'(by rw [List.length_take]; omega) = l[j] := by simp
      rw [← h1]
      exact List.getElem_mem _
     have g : ((sz l k).toList == (sz l j).toList) = true := g
     rw [beq_iff_eq] at g ⊢
     exact g.symm
    rw [ht]
   refine gg rfl (q04 (hN2 (j + 1) ⟨hjk, fun i hi hij => ?_⟩ (by omega) (q03 rfl trivial (by rw [w2]; rfl))))
   by_cases ei : i = j
   ·subst ei
    have g : ((sz l k).toList == (sz l i).toList) = false := g
    rw [beq_eq_false_iff_ne] at g ⊢
    rw [← qjK hi]
    exact fun h => g h.symm
   exact hno i hi (by omega)
  rw [q07] at f
  obtain rfl : j = k := by omega
  clear hN2
  refine gg rfl (q04 (gg rfl (q04 (hN (j + 1) ⟨hlt, fun i hi => ?_⟩ (by omega) (q03 rfl trivial (by rw [w1]; rfl))))))
  by_cases ei : i = j
  ·subst ei
   refine q2N fun a ha => ?_
   rw [List.length_take] at ha
   have h1 : (l.take i)[a]'(by rw [List.length_take]; omega) = l[a] := by simp
   rw [h1]
   exact hno a (by omega) (by omega)
  exact htw i (by omega)
 rw [q07] at e
 obtain rfl : k = l.length := by omega
 clear hN
 refine gg rfl (q04 (gg rfl (q08 rfl rfl rfl trivial ?_)))
 have ht : q4o l = false := by
  unfold q4o
  rw [List.any_eq_false]
  intro i hi h
  rw [htw i (List.mem_range.1 hi)] at h; cases h
 rw [ht]
def ql1 (s : Sty) : Bool := decide (12 < s.sizes.length ∨ 12 < s.pieces.length ∨ 24 < s.seams.length ∨ 16 < s.ops.length ∨ 12 < s.uses.length)
theorem quZ (s : Sty) : PU qiD [s.enc] = some (.bool (ql1 s)) := by
 refine q0h (fn := qe5) rfl (q0c ?_)
 refine gg rfl ?_
 rw [List.length_map]
 refine q05 rfl (fun e1 => ?_) (fun e1 => ?_)
 ·rw [q06] at e1
  repeat' (first
   | refine goP 800 rfl rfl ?_
   | refine q0e rfl ?_ | refine q0j rfl ?_ | refine q05 rfl (fun _ => ?_) (fun _ => ?_)
   | refine q0g rfl ?_ | refine q0m rfl ?_ | refine q02 rfl (fun _ => ?_) (fun _ => ?_)
   | refine q0G rfl (fun _ => ?_) (fun _ => ?_)
   | refine q08 rfl rfl rfl trivial ?_)
  rw [ql1, decide_eq_true (.inl (by omega))]
 rw [q07] at e1
 refine gg rfl ?_
 rw [List.length_map]
 refine q05 rfl (fun e2 => ?_) (fun e2 => ?_)
 ·rw [q06] at e2
  repeat' (first
   | refine goP 800 rfl rfl ?_
   | refine q0e rfl ?_ | refine q0j rfl ?_ | refine q05 rfl (fun _ => ?_) (fun _ => ?_)
   | refine q0g rfl ?_ | refine q0m rfl ?_ | refine q02 rfl (fun _ => ?_) (fun _ => ?_)
   | refine q0G rfl (fun _ => ?_) (fun _ => ?_)
   | refine q08 rfl rfl rfl trivial ?_)
  rw [ql1, decide_eq_true (.inr (.inl (by omega)))]
 rw [q07] at e2
 refine gg rfl ?_
 rw [List.length_map]
 refine q05 rfl (fun e3 => ?_) (fun e3 => ?_)
 ·rw [q06] at e3
  repeat' (first
   | refine goP 800 rfl rfl ?_
   | refine q0e rfl ?_ | refine q0j rfl ?_ | refine q05 rfl (fun _ => ?_) (fun _ => ?_)
   | refine q0g rfl ?_ | refine q0m rfl ?_ | refine q02 rfl (fun _ => ?_) (fun _ => ?_)
   | refine q0G rfl (fun _ => ?_) (fun _ => ?_)
   | refine q08 rfl rfl rfl trivial ?_)
  rw [ql1, decide_eq_true (.inr (.inr (.inl (by omega))))]
 rw [q07] at e3
 refine gg rfl ?_
 rw [List.length_map]
 refine q05 rfl (fun e4 => ?_) (fun e4 => ?_)
 ·rw [q06] at e4
  repeat' (first
   | refine goP 800 rfl rfl ?_
   | refine q0e rfl ?_ | refine q0j rfl ?_ | refine q05 rfl (fun _ => ?_) (fun _ => ?_)
   | refine q0g rfl ?_ | refine q0m rfl ?_ | refine q02 rfl (fun _ => ?_) (fun _ => ?_)
   | refine q0G rfl (fun _ => ?_) (fun _ => ?_)
   | refine q08 rfl rfl rfl trivial ?_)
  rw [ql1, decide_eq_true (.inr (.inr (.inr (.inl (by omega)))))]
 rw [q07] at e4
 refine gg rfl (q08 rfl rfl rfl trivial ?_)
 rw [List.length_map, q1H, ql1]
 congr 1
 exact decide_eq_decide.2 ⟨fun h => by omega, fun h => by omega⟩
theorem qtV (s : Sty) (p e : Int) : PU qaN [s.enc, .int .i64 p, .int .i64 e] = some (.bool (q4Q s p e)) := by
 refine q0h (fn := qaq) rfl (q0c ?_)
 refine gg rfl (q05 rfl (fun g1 => ?_) (fun g1 => ?_))
 ·rw [q0D] at g1
  refine gg rfl ?_
  rw [List.length_map]
  refine q05 rfl (fun g2 => ?_) (fun g2 => ?_)
  ·rw [q06] at g2
   refine gg rfl (q05 rfl (fun g3 => ?_) (fun g3 => ?_))
   ·rw [q0D] at g3
    refine gg rfl (q0k p.toNat rfl rfl (by omega) (qeL (by omega)) rfl ?_)
    refine gg rfl (q08 rfl rfl rfl trivial ?_)
    rw [q4Q, decide_eq_true g1, decide_eq_true g2, decide_eq_true g3, q1H, List.length_map]; rfl
   rw [q0E] at g3
   refine gg rfl (q08 rfl rfl rfl trivial ?_)
   rw [q4Q, decide_eq_false (show ¬ 0 ≤ e by omega)]; simp
  rw [q07] at g2
  refine gg rfl (q0j rfl (gg rfl (q08 rfl rfl rfl trivial ?_)))
  rw [q4Q, decide_eq_false (show ¬ p < s.pieces.length by omega)]; simp
 rw [q0E] at g1
 refine gg rfl (q0j rfl (gg rfl (q0j rfl (gg rfl (q08 rfl rfl rfl trivial ?_)))))
 rw [q4Q, decide_eq_false (show ¬ 0 ≤ p by omega)]; rfl
def qvt (p : Piece) : Int := if p.widths.length ≠ p.edges.length then 1 else if p.widths.any q2t then 3 else 0
end Go.F

namespace Go.F
structure WholeOk (s : Sty) : Prop where
 name : q1L s.name = true
 size : s.sizes.length ≠ 0
 sizeS : ∀ x ∈ s.sizes, sizeS x = true
 mults : s.mults.length = s.sizes.length
 base : 0 ∈ s.mults
 once : q4o s.sizes = false
 sizes : s.sizes.length ≤ 12
 pieces : s.pieces.length ≤ 12
 uses : s.uses.length ≤ 12
 seams : s.seams.length ≤ 24
 ops : s.ops.length ≤ 16
 mult : ∀ m ∈ s.mults, -100 ≤ m ∧ m ≤ 100
end Go.F
