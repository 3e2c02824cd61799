/- Parts of the proof, part 48: Ply1, D64, D64b, D64c, Ply2, Gr2, Turn1, Turn2, Turn3, RN1, RN2, RN3, RN4, RefA, RefB, RN5, Crv1, Crv2, Map1, St2, St3, St4, St5, Pl1, Alv, Lgt, Alv2, SLay, SPl, SSz. -/
import Derived.Test.YtdhpbljlnlpibaaGreatZ47
set_option linter.all false
namespace Go.F
attribute [local irreducible] IntKind.wrap wpM
theorem q9c {x S : Nat} (hY : x / 2 ^ S < 256) (h0 : S ≠ 0 → x / 2 ^ S ≠ 0) : S + (q25 (x / 2 ^ S)).toNat = bl x := by
 obtain ⟨_, g2, g3, g4⟩ := q1W (x / 2 ^ S) hY
 have hx : x < (x / 2 ^ S + 1) * 2 ^ S := by
  have := Nat.div_add_mod x (2 ^ S)
  have h2 := Nat.mod_lt x (Nat.pow_pos (n := S) (show 0 < 2 by decide))
  rw [Nat.add_mul, Nat.mul_comm (x / 2 ^ S)]; omega
 by_cases hy0 : x / 2 ^ S = 0
 ·have hS : S = 0 := by
   rcases Nat.eq_zero_or_pos S with h | h
   ·exact h
   ·exact absurd hy0 (h0 (by omega))
  subst hS
  rw [Nat.pow_zero, Nat.div_one] at hy0
  subst hy0
  decide +kernel
 ·have hd : x / 2 ^ S * 2 ^ S ≤ x := Nat.div_mul_le_self _ _
  have g4 := g4 hy0
  generalize (q25 (x / 2 ^ S)).toNat = e at *
  generalize x / 2 ^ S = Y at *
  have h1 : x < 2 ^ (S + e) := by
   rw [Nat.pow_add]
   calc x < (Y + 1) * 2 ^ S := hx
    _ ≤ 2 ^ e * 2 ^ S := Nat.mul_le_mul_right _ g3
    _ = 2 ^ S * 2 ^ e := Nat.mul_comm _ _
  have h2 : 2 ^ (S + e) ≤ 2 * x := by
   rw [Nat.pow_add]
   calc 2 ^ S * 2 ^ e ≤ 2 ^ S * (2 * Y) := Nat.mul_le_mul_left _ g4
    _ = 2 * (Y * 2 ^ S) := by ac_rfl
    _ ≤ 2 * x := Nat.mul_le_mul_left _ hd
  have hx0 : x ≠ 0 := by rintro rfl; have := Nat.pow_pos (n := S + e) (show 0 < 2 by decide); omega
  unfold bl
  rw [if_neg hx0]
  have a1 := (Nat.log2_lt hx0).2 h1
  have a2 : S + e - 1 ≤ x.log2 := by
   rcases Nat.eq_zero_or_pos (S + e) with h | h
   ·omega
   ·refine (Nat.le_log2 hx0).2 ?_
    have : 2 ^ (S + e) = 2 * 2 ^ (S + e - 1) := by rw [← Nat.pow_succ']; congr 1; omega
    omega
  omega
set_option maxHeartbeats 4000000 in
theorem qny (x : Nat) (hx : x < 18446744073709551616) : PU qaV [.int .u64 x] = some (.int .i64 (bl x)) := by
 refine q0h (fn := qaG) rfl (q0c ?_)
 refine go 800 rfl ?_
 refine q02 rfl (fun g1 => ?_) (fun g1 => ?_)
 ·rw [q0D] at g1
  refine go 800 rfl ?_
  refine q0Y x 32 rfl rfl rfl rfl (by decide) ?_
  refine go 800 rfl ?_
  refine q02 rfl (fun g2 => ?_) (fun g2 => ?_)
  ·rw [q0D] at g2
   refine go 800 rfl ?_
   refine q0Y ((x / 2 ^ 32)) 16 rfl rfl rfl rfl (by decide) ?_
   refine go 800 rfl ?_
   refine q02 rfl (fun g3 => ?_) (fun g3 => ?_)
   ·rw [q0D] at g3
    refine go 800 rfl ?_
    refine q0Y (((x / 2 ^ 32) / 2 ^ 16)) 8 rfl rfl rfl rfl (by decide) ?_
    have eY : (((x / 2 ^ 32) / 2 ^ 16) / 2 ^ 8) = x / 2 ^ 56 := by simp only [Nat.div_div_eq_div_mul]; try rfl
    have hy : x / 2 ^ 56 < 256 := by rw [← eY]; omega
    have hfin := q9c (x := x) (S := 56) hy (fun h => by rw [← eY]; omega)
    rw [eY]
    obtain ⟨_, g2, g3, g4⟩ := q1W (x / 2 ^ 56) hy
    have w8 : IntKind.u8.wrap ((x / 2 ^ 56 : Nat) : Int) = ((x / 2 ^ 56 : Nat) : Int) := by simp only [IntKind.wrap, IntKind.bits, IntKind.signed]; simp; omega
    have w9 : IntKind.i64.wrap (((q25 (x / 2 ^ 56)).toNat : Nat) : Int) = (((q25 (x / 2 ^ 56)).toNat : Nat) : Int) := wrap64 (by omega) (by omega)
    refine go 800 rfl ?_
    refine q1U (x / 2 ^ 56) rfl rfl w8 (q55 hy) ?_
    refine go 800 rfl ?_
    refine q08 rfl rfl rfl trivial ?_
    rw [w9, ← hfin]
    congr 1
    try simp only [wrap64 (x := 32 + 16) (by decide) (by decide), wrap64 (x := 32 + 8) (by decide) (by decide), wrap64 (x := 48 + 8) (by decide) (by decide), wrap64 (x := 0 + 16) (by decide) (by decide), wrap64 (x := 0 + 8) (by decide) (by decide), wrap64 (x := 16 + 8) (by decide) (by decide), wrap64 (x := 32 + 16 + 8) (by decide) (by decide), wrap64 (x := 0 + 16 + 8) (by decide) (by decide)]
    rw [wrap64 (by omega) (by omega)]
    omega
   ·rw [q0E] at g3
    have eY : (((x / 2 ^ 32) / 2 ^ 16)) = x / 2 ^ 48 := by simp only [Nat.div_div_eq_div_mul]; try rfl
    have hy : x / 2 ^ 48 < 256 := by rw [← eY]; omega
    have hfin := q9c (x := x) (S := 48) hy (fun h => by rw [← eY]; omega)
    rw [eY]
    obtain ⟨_, g2, g3, g4⟩ := q1W (x / 2 ^ 48) hy
    have w8 : IntKind.u8.wrap ((x / 2 ^ 48 : Nat) : Int) = ((x / 2 ^ 48 : Nat) : Int) := by simp only [IntKind.wrap, IntKind.bits, IntKind.signed]; simp; omega
    have w9 : IntKind.i64.wrap (((q25 (x / 2 ^ 48)).toNat : Nat) : Int) = (((q25 (x / 2 ^ 48)).toNat : Nat) : Int) := wrap64 (by omega) (by omega)
    refine go 800 rfl ?_
    refine q1U (x / 2 ^ 48) rfl rfl w8 (q55 hy) ?_
    refine go 800 rfl ?_
    refine q08 rfl rfl rfl trivial ?_
    rw [w9, ← hfin]
    congr 1
    try simp only [wrap64 (x := 32 + 16) (by decide) (by decide), wrap64 (x := 32 + 8) (by decide) (by decide), wrap64 (x := 48 + 8) (by decide) (by decide), wrap64 (x := 0 + 16) (by decide) (by decide), wrap64 (x := 0 + 8) (by decide) (by decide), wrap64 (x := 16 + 8) (by decide) (by decide), wrap64 (x := 32 + 16 + 8) (by decide) (by decide), wrap64 (x := 0 + 16 + 8) (by decide) (by decide)]
    rw [wrap64 (by omega) (by omega)]
    omega
  ·rw [q0E] at g2
   refine go 800 rfl ?_
   refine q02 rfl (fun g3 => ?_) (fun g3 => ?_)
   ·rw [q0D] at g3
    refine go 800 rfl ?_
    refine q0Y (((x / 2 ^ 32))) 8 rfl rfl rfl rfl (by decide) ?_
    have eY : (((x / 2 ^ 32)) / 2 ^ 8) = x / 2 ^ 40 := by simp only [Nat.div_div_eq_div_mul]; try rfl
    have hy : x / 2 ^ 40 < 256 := by rw [← eY]; omega
    have hfin := q9c (x := x) (S := 40) hy (fun h => by rw [← eY]; omega)
    rw [eY]
    obtain ⟨_, g2, g3, g4⟩ := q1W (x / 2 ^ 40) hy
    have w8 : IntKind.u8.wrap ((x / 2 ^ 40 : Nat) : Int) = ((x / 2 ^ 40 : Nat) : Int) := by simp only [IntKind.wrap, IntKind.bits, IntKind.signed]; simp; omega
    have w9 : IntKind.i64.wrap (((q25 (x / 2 ^ 40)).toNat : Nat) : Int) = (((q25 (x / 2 ^ 40)).toNat : Nat) : Int) := wrap64 (by omega) (by omega)
    refine go 800 rfl ?_
    refine q1U (x / 2 ^ 40) rfl rfl w8 (q55 hy) ?_
    refine go 800 rfl ?_
    refine q08 rfl rfl rfl trivial ?_
    rw [w9, ← hfin]
    congr 1
    try simp only [wrap64 (x := 32 + 16) (by decide) (by decide), wrap64 (x := 32 + 8) (by decide) (by decide), wrap64 (x := 48 + 8) (by decide) (by decide), wrap64 (x := 0 + 16) (by decide) (by decide), wrap64 (x := 0 + 8) (by decide) (by decide), wrap64 (x := 16 + 8) (by decide) (by decide), wrap64 (x := 32 + 16 + 8) (by decide) (by decide), wrap64 (x := 0 + 16 + 8) (by decide) (by decide)]
    rw [wrap64 (by omega) (by omega)]
    omega
   ·rw [q0E] at g3
    have eY : (((x / 2 ^ 32))) = x / 2 ^ 32 := by simp only [Nat.div_div_eq_div_mul]; try rfl
    have hy : x / 2 ^ 32 < 256 := by rw [← eY]; omega
    have hfin := q9c (x := x) (S := 32) hy (fun h => by rw [← eY]; omega)
    rw [eY]
    obtain ⟨_, g2, g3, g4⟩ := q1W (x / 2 ^ 32) hy
    have w8 : IntKind.u8.wrap ((x / 2 ^ 32 : Nat) : Int) = ((x / 2 ^ 32 : Nat) : Int) := by simp only [IntKind.wrap, IntKind.bits, IntKind.signed]; simp; omega
    have w9 : IntKind.i64.wrap (((q25 (x / 2 ^ 32)).toNat : Nat) : Int) = (((q25 (x / 2 ^ 32)).toNat : Nat) : Int) := wrap64 (by omega) (by omega)
    refine go 800 rfl ?_
    refine q1U (x / 2 ^ 32) rfl rfl w8 (q55 hy) ?_
    refine go 800 rfl ?_
    refine q08 rfl rfl rfl trivial ?_
    rw [w9, ← hfin]
    congr 1
    try simp only [wrap64 (x := 32 + 16) (by decide) (by decide), wrap64 (x := 32 + 8) (by decide) (by decide), wrap64 (x := 48 + 8) (by decide) (by decide), wrap64 (x := 0 + 16) (by decide) (by decide), wrap64 (x := 0 + 8) (by decide) (by decide), wrap64 (x := 16 + 8) (by decide) (by decide), wrap64 (x := 32 + 16 + 8) (by decide) (by decide), wrap64 (x := 0 + 16 + 8) (by decide) (by decide)]
    rw [wrap64 (by omega) (by omega)]
    omega
 ·rw [q0E] at g1
  refine go 800 rfl ?_
  refine q02 rfl (fun g2 => ?_) (fun g2 => ?_)
  ·rw [q0D] at g2
   refine go 800 rfl ?_
   refine q0Y (x) 16 rfl rfl rfl rfl (by decide) ?_
   refine go 800 rfl ?_
   refine q02 rfl (fun g3 => ?_) (fun g3 => ?_)
   ·rw [q0D] at g3
    refine go 800 rfl ?_
    refine q0Y ((x / 2 ^ 16)) 8 rfl rfl rfl rfl (by decide) ?_
    have eY : ((x / 2 ^ 16) / 2 ^ 8) = x / 2 ^ 24 := by simp only [Nat.div_div_eq_div_mul]; try rfl
    have hy : x / 2 ^ 24 < 256 := by rw [← eY]; omega
    have hfin := q9c (x := x) (S := 24) hy (fun h => by rw [← eY]; omega)
    rw [eY]
    obtain ⟨_, g2, g3, g4⟩ := q1W (x / 2 ^ 24) hy
    have w8 : IntKind.u8.wrap ((x / 2 ^ 24 : Nat) : Int) = ((x / 2 ^ 24 : Nat) : Int) := by simp only [IntKind.wrap, IntKind.bits, IntKind.signed]; simp; omega
    have w9 : IntKind.i64.wrap (((q25 (x / 2 ^ 24)).toNat : Nat) : Int) = (((q25 (x / 2 ^ 24)).toNat : Nat) : Int) := wrap64 (by omega) (by omega)
    refine go 800 rfl ?_
    refine q1U (x / 2 ^ 24) rfl rfl w8 (q55 hy) ?_
    refine go 800 rfl ?_
    refine q08 rfl rfl rfl trivial ?_
    rw [w9, ← hfin]
    congr 1
    try simp only [wrap64 (x := 32 + 16) (by decide) (by decide), wrap64 (x := 32 + 8) (by decide) (by decide), wrap64 (x := 48 + 8) (by decide) (by decide), wrap64 (x := 0 + 16) (by decide) (by decide), wrap64 (x := 0 + 8) (by decide) (by decide), wrap64 (x := 16 + 8) (by decide) (by decide), wrap64 (x := 32 + 16 + 8) (by decide) (by decide), wrap64 (x := 0 + 16 + 8) (by decide) (by decide)]
    rw [wrap64 (by omega) (by omega)]
    omega
   ·rw [q0E] at g3
    have eY : ((x / 2 ^ 16)) = x / 2 ^ 16 := by simp only [Nat.div_div_eq_div_mul]; try rfl
    have hy : x / 2 ^ 16 < 256 := by rw [← eY]; omega
    have hfin := q9c (x := x) (S := 16) hy (fun h => by rw [← eY]; omega)
    rw [eY]
    obtain ⟨_, g2, g3, g4⟩ := q1W (x / 2 ^ 16) hy
    have w8 : IntKind.u8.wrap ((x / 2 ^ 16 : Nat) : Int) = ((x / 2 ^ 16 : Nat) : Int) := by simp only [IntKind.wrap, IntKind.bits, IntKind.signed]; simp; omega
    have w9 : IntKind.i64.wrap (((q25 (x / 2 ^ 16)).toNat : Nat) : Int) = (((q25 (x / 2 ^ 16)).toNat : Nat) : Int) := wrap64 (by omega) (by omega)
    refine go 800 rfl ?_
    refine q1U (x / 2 ^ 16) rfl rfl w8 (q55 hy) ?_
    refine go 800 rfl ?_
    refine q08 rfl rfl rfl trivial ?_
    rw [w9, ← hfin]
    congr 1
    try simp only [wrap64 (x := 32 + 16) (by decide) (by decide), wrap64 (x := 32 + 8) (by decide) (by decide), wrap64 (x := 48 + 8) (by decide) (by decide), wrap64 (x := 0 + 16) (by decide) (by decide), wrap64 (x := 0 + 8) (by decide) (by decide), wrap64 (x := 16 + 8) (by decide) (by decide), wrap64 (x := 32 + 16 + 8) (by decide) (by decide), wrap64 (x := 0 + 16 + 8) (by decide) (by decide)]
    rw [wrap64 (by omega) (by omega)]
    omega
  ·rw [q0E] at g2
   refine go 800 rfl ?_
   refine q02 rfl (fun g3 => ?_) (fun g3 => ?_)
   ·rw [q0D] at g3
    refine go 800 rfl ?_
    refine q0Y ((x)) 8 rfl rfl rfl rfl (by decide) ?_
    have eY : ((x) / 2 ^ 8) = x / 2 ^ 8 := by simp only [Nat.div_div_eq_div_mul]; try rfl
    have hy : x / 2 ^ 8 < 256 := by rw [← eY]; omega
    have hfin := q9c (x := x) (S := 8) hy (fun h => by rw [← eY]; omega)
    rw [eY]
    obtain ⟨_, g2, g3, g4⟩ := q1W (x / 2 ^ 8) hy
    have w8 : IntKind.u8.wrap ((x / 2 ^ 8 : Nat) : Int) = ((x / 2 ^ 8 : Nat) : Int) := by simp only [IntKind.wrap, IntKind.bits, IntKind.signed]; simp; omega
    have w9 : IntKind.i64.wrap (((q25 (x / 2 ^ 8)).toNat : Nat) : Int) = (((q25 (x / 2 ^ 8)).toNat : Nat) : Int) := wrap64 (by omega) (by omega)
    refine go 800 rfl ?_
    refine q1U (x / 2 ^ 8) rfl rfl w8 (q55 hy) ?_
    refine go 800 rfl ?_
    refine q08 rfl rfl rfl trivial ?_
    rw [w9, ← hfin]
    congr 1
    try simp only [wrap64 (x := 32 + 16) (by decide) (by decide), wrap64 (x := 32 + 8) (by decide) (by decide), wrap64 (x := 48 + 8) (by decide) (by decide), wrap64 (x := 0 + 16) (by decide) (by decide), wrap64 (x := 0 + 8) (by decide) (by decide), wrap64 (x := 16 + 8) (by decide) (by decide), wrap64 (x := 32 + 16 + 8) (by decide) (by decide), wrap64 (x := 0 + 16 + 8) (by decide) (by decide)]
    rw [wrap64 (by omega) (by omega)]
    omega
   ·rw [q0E] at g3
    have hy : x < 256 := by omega
    have hfin := q9c (x := x) (S := 0) (by simpa using hy) (fun h => absurd rfl h)
    rw [Nat.pow_zero, Nat.div_one, Nat.zero_add] at hfin
    obtain ⟨_, g2, g3, g4⟩ := q1W x hy
    have w8 : IntKind.u8.wrap (x : Int) = (x : Int) := by simp only [IntKind.wrap, IntKind.bits, IntKind.signed]; simp; omega
    have w9 : IntKind.i64.wrap (((q25 x).toNat : Nat) : Int) = (((q25 x).toNat : Nat) : Int) := wrap64 (by omega) (by omega)
    refine go 800 rfl ?_
    refine q1U x rfl rfl w8 (q55 hy) ?_
    refine go 800 rfl ?_
    refine q08 rfl rfl rfl trivial ?_
    rw [w9, ← hfin, wrap64 (by omega) (by omega)]
    congr 1
    omega
theorem qnz (x : Nat) (hx : x < 18446744073709551616) : PU qiP [.int .u64 x] = some (.int .i64 (bl x)) := by
 refine q0h (fn := qep) rfl (q0c ?_)
 refine go 800 rfl ?_
 refine q0m rfl ?_
 refine go 800 rfl ?_
 refine q01 rfl rfl (qny x hx) ?_
 refine go 800 rfl ?_
 exact q08 rfl rfl rfl trivial rfl
def qjq (n : Nat) : Nat := qhF n 32 0
theorem qgA {n : Nat} (h : n < 2 ^ 64) : qjq n * qjq n ≤ n ∧ n < (qjq n + 1) * (qjq n + 1) :=
 qkq n 32 0 (Nat.zero_le _) (by simp; omega)
theorem qnA {n r : Nat} (h : n < 2 ^ 64) (h1 : r * r ≤ n) (h2 : n < (r + 1) * (r + 1)) : r = qjq n := by
 obtain ⟨g1, g2⟩ := qgA h
 have := qeP (Nat.lt_of_le_of_lt h1 g2)
 have := qeP (Nat.lt_of_le_of_lt g1 h2)
 omega
theorem newton {n x : Nat} (hx : 0 < x) : n < ((x + n / x) / 2 + 1) * ((x + n / x) / 2 + 1) := by
 have h1 : n < x * (n / x + 1) := by
  have := Nat.div_add_mod n x
  have h2 := Nat.mod_lt n hx
  rw [Nat.mul_add]; omega
 generalize n / x = q at *
 have h2 : x + (q + 1) ≤ 2 * ((x + q) / 2 + 1) := by omega
 generalize (x + q) / 2 + 1 = s at *
 have h3 : 4 * (x * (q + 1)) ≤ (x + (q + 1)) * (x + (q + 1)) := by
  generalize q + 1 = r
  rcases Nat.le_total x r with h | h
  ·obtain ⟨d, rfl⟩ : ∃ d, r = x + d := ⟨r - x, by omega⟩
   have : (x + (x + d)) * (x + (x + d)) = 4 * (x * (x + d)) + d * d := by grind
   omega
  ·obtain ⟨d, rfl⟩ : ∃ d, x = r + d := ⟨x - r, by omega⟩
   have : (r + d + r) * (r + d + r) = 4 * ((r + d) * r) + d * d := by grind
   omega
 have h4 : (x + (q + 1)) * (x + (q + 1)) ≤ (2 * s) * (2 * s) := Nat.mul_le_mul h2 h2
 have h5 : (2 * s) * (2 * s) = 4 * (s * s) := by grind
 omega
theorem qgB (n : Nat) (hn : n < 9223372036854775808) : PU qbo [.int .i64 n] = some (.int .i64 (qjq n)) := by
 refine q0h (fn := q7o) rfl (q0c ?_)
 refine go 800 rfl ?_
 refine q02 rfl (fun h1 => ?_) (fun h1 => ?_)
 ·rw [q06] at h1
  refine go 800 rfl ?_
  refine q08 rfl rfl rfl trivial ?_
  have : n = 0 ∨ n = 1 := by omega
  rcases this with rfl | rfl <;> rfl
 rw [q07] at h1
 have wu : IntKind.u64.wrap (n : Int) = (n : Int) := q0y (by omega)
 have hbl : bl n ≤ 63 := by
  unfold bl
  rw [if_neg (by omega)]
  have := (Nat.log2_lt (n := n) (k := 63) (by omega)).2 (by omega)
  omega
 have hblt : n < 2 ^ bl n := by
  unfold bl
  rw [if_neg (by omega)]
  exact (Nat.log2_lt (by omega)).1 (Nat.lt_succ_self _)
 have w1 : IntKind.i64.wrap ((bl n : Int) + 1) = ((bl n + 1 : Nat) : Int) := wrap64 (by omega) (by omega)
 refine go 800 rfl ?_
 rw [wu]
 refine q01 rfl rfl (qnz n (by omega)) ?_
 refine go 800 rfl ?_
 rw [w1]
 refine q2L (bl n + 1) 2 rfl rfl rfl rfl (by decide) (wrap64 (by omega) (by omega)) ?_
 refine go 800 rfl ?_
 have hk : (bl n + 1) / 2 ≤ 32 := by omega
 have hp : 2 ^ ((bl n + 1) / 2) ≤ 4294967296 := by
  have := Nat.pow_le_pow_right (show 0 < 2 by decide) hk
  omega
 have hp0 : 0 < 2 ^ ((bl n + 1) / 2) := Nat.pow_pos (by decide)
 have hsq : n < (2 ^ ((bl n + 1) / 2) + 1) * (2 ^ ((bl n + 1) / 2) + 1) := by
  have e : 2 ^ bl n ≤ 2 ^ ((bl n + 1) / 2) * 2 ^ ((bl n + 1) / 2) := by rw [← Nat.pow_add]; exact Nat.pow_le_pow_right (by decide) (by omega)
  have e2 : 2 ^ ((bl n + 1) / 2) * 2 ^ ((bl n + 1) / 2) ≤ (2 ^ ((bl n + 1) / 2) + 1) * (2 ^ ((bl n + 1) / 2) + 1) := Nat.mul_le_mul (by omega) (by omega)
  omega
 generalize hX : 2 ^ ((bl n + 1) / 2) = X at *
 refine q6N 1 ((bl n + 1) / 2) rfl rfl rfl rfl (by show (bl n + 1) / 2 ≤ 64; omega) (by rw [hX, Nat.one_mul]; exact wrap64 (by omega) (by omega)) ?_
 rw [hX, Nat.one_mul]
 refine go 800 rfl ?_
 refine q0q (S := fun x : Nat => ([q00 n, q00 x], [none, none], [0, 0])) (C := fun x => 0 < x ∧ x ≤ 4294967296 ∧ n < (x + 1) * (x + 1)) (m := fun x => x) X ⟨hp0, hp, hsq⟩ (by omega) ?_ ?_
 ·exact q03 rfl trivial (by simp [q00])
 rintro x ⟨hx0, hx1, hx2⟩ N hN
 have hq : n / x ≤ n := Nat.div_le_self _ _
 have w2 : IntKind.i64.wrap ((x : Int) + ((n / x : Nat) : Int)) = ((x + n / x : Nat) : Int) := by rw [← Int.natCast_add]; exact qbM (by
  have h2 : n / x * x ≤ n := Nat.div_mul_le_self _ _
  rcases Nat.lt_or_ge x 2 with h | h
  ·obtain rfl : x = 1 := by omega
   simp at hx2; omega
  ·have : n / x * 2 ≤ n / x * x := Nat.mul_le_mul_left _ h
   omega)
 have hne := newton (n := n) hx0
 refine go 800 rfl ?_
 refine q2L n x rfl rfl rfl rfl (by omega) (qbM (by omega)) ?_
 refine go 800 rfl ?_
 rw [w2]
 refine q2L (x + n / x) 2 rfl rfl rfl rfl (by decide) (qbM (by omega)) ?_
 refine go 800 rfl ?_
 refine q02 rfl (fun g => ?_) (fun g => ?_)
 ·rw [q0D] at g
  have g' : x ≤ (x + n / x) / 2 := by omega
  have hxx : x * x ≤ n := by
   have : x ≤ n / x := by omega
   have h2 := Nat.div_mul_le_self n x
   have h3 := Nat.mul_le_mul_right x this
   omega
  refine go 800 rfl ?_
  refine q04 ?_
  refine go 800 rfl ?_
  refine q08 rfl rfl rfl trivial ?_
  rw [qnA (n := n) (r := x) (by omega) hxx hx2]
 ·rw [q0E] at g
  have g' : (x + n / x) / 2 < x := by omega
  have hy0 : 0 < (x + n / x) / 2 := by
   rcases Nat.lt_or_ge x 2 with h | h
   ·obtain rfl : x = 1 := by omega
    rw [Nat.div_one] at g' ⊢; omega
   ·clear hq w2 hne g g'
    generalize n / x = q
    omega
  refine go 800 rfl ?_
  refine q04 ?_
  exact hN ((x + n / x) / 2) ⟨hy0, by omega, hne⟩ g' (q03 rfl trivial (by simp [q00]))
theorem qm4 {a b : Spot} (ha : q0v a 1048576 = true) (hb : q0v b 1048576 = true) : sqd a b ≤ 8796093022208 := by
 rw [q2p] at ha hb
 have e := qam a b
 have b1 : Bd (b.x - a.x) 2097152 := ⟨by omega⟩
 have b2 : Bd (b.y - a.y) 2097152 := ⟨by omega⟩
 have hb : Bd ((b.x - a.x) * (b.x - a.x) + (b.y - a.y) * (b.y - a.y)) _ := inferInstance
 have := hb.le
 omega
def qjr (a b : Spot) : Nat := qjq (1000000 * sqd a b)
theorem qm5 {a b : Spot} (ha : q0v a 1048576 = true) (hb : q0v b 1048576 = true) : qjr a b ≤ 4294967296 := by
 have h := qm4 ha hb
 obtain ⟨h1, _⟩ := qgA (n := 1000000 * sqd a b) (by omega)
 unfold qjr
 have : qjq (1000000 * sqd a b) < 4294967296 := qeP (by omega)
 omega
theorem qdK (a b : Spot) (ha : q0v a 1048576 = true) (hb : q0v b 1048576 = true) : PU q8E [a.enc, b.enc] = some (.int .i64 (qjr a b)) := by
 refine q0h (fn := q5i) rfl (q0c ?_)
 have h := qm4 ha hb
 have hse := qam a b
 rw [q2p] at ha hb
 have bx : Bd (b.x - a.x) 2097152 := ⟨by omega⟩
 have by' : Bd (b.y - a.y) 2097152 := ⟨by omega⟩
 have c1 : IntKind.i64.wrap (b.x - a.x) = b.x - a.x := q0K (by decide)
 have c2 : IntKind.i64.wrap (b.y - a.y) = b.y - a.y := q0K (by decide)
 refine go 800 rfl ?_
 rw [c1, c2]
 have c4 : IntKind.i64.wrap ((b.x - a.x) * (b.x - a.x)) = (b.x - a.x) * (b.x - a.x) := q0K (by decide)
 have c5 : IntKind.i64.wrap ((b.y - a.y) * (b.y - a.y)) = (b.y - a.y) * (b.y - a.y) := q0K (by decide)
 have c6 : IntKind.i64.wrap ((b.x - a.x) * (b.x - a.x) + (b.y - a.y) * (b.y - a.y)) = (sqd a b : Int) := by rw [hse]; exact q0K (by decide)
 have c7 : IntKind.i64.wrap (1000000 * (sqd a b : Int)) = ((1000000 * sqd a b : Nat) : Int) := by rw [wrap64 (by omega) (by omega)]; omega
 rw [c4, c5, c6, c7]
 refine q01 rfl rfl (qgB (1000000 * sqd a b) (by omega)) ?_
 refine go 800 rfl ?_
 exact q08 rfl rfl rfl trivial rfl
end Go.F

namespace Go.F
structure Dg (U u a b : Nat) : Prop where
 hu : u < 4294967296
 a1 : 2147483648 ≤ a
 a2 : a < 4294967296
 hb : b < 4294967296
 lt : U < a * 4294967296 + b
def dgN (U u : Nat) : Nat := U * 4294967296 + u
def dgY (a b : Nat) : Nat := a * 4294967296 + b
theorem Dg.pos {U u a b : Nat} (h : Dg U u a b) : 0 < dgY a b := by have := h.a1; unfold dgY; omega
theorem Dg.qlt {U u a b : Nat} (h : Dg U u a b) : dgN U u / dgY a b < 4294967296 := by
 rw [Nat.div_lt_iff_lt_mul h.pos]
 have h1 := h.lt
 have h2 := h.hu
 have : (U + 1) * 4294967296 ≤ dgY a b * 4294967296 := Nat.mul_le_mul_right _ h1
 unfold dgN; omega
theorem Dg.first {U u a b : Nat} (h : Dg U u a b) : dgN U u / dgY a b ≤ U / a ∧ U / a ≤ 4294967297 := by
 have h1 := h.a1
 constructor
 ·rw [Nat.le_div_iff_mul_le (by omega)]
  have hd := Nat.div_mul_le_self (dgN U u) (dgY a b)
  generalize dgN U u / dgY a b = q at *
  unfold dgN dgY at hd
  have e : q * (a * 4294967296 + b) = q * a * 4294967296 + q * b := by rw [Nat.mul_add, Nat.mul_assoc]
  rw [e] at hd
  have := h.hu
  omega
 ·have h2 := h.lt
  have h3 := h.hb
  have : U < 4294967298 * a := by omega
  have := (Nat.div_lt_iff_lt_mul (show 0 < a by omega)).2 this
  omega
structure DgI (U u a b q r : Nat) : Prop where
 eq : q * a + r = U
 le : dgN U u / dgY a b ≤ q
 hq : q ≤ 4294967297
theorem Dg.start {U u a b : Nat} (h : Dg U u a b) : DgI U u a b (U / a) (U % a) := by
 have := Nat.div_add_mod U a
 exact ⟨by rw [Nat.mul_comm]; exact this, h.first.1, h.first.2⟩
theorem qsj (q a b : Nat) : q * dgY a b = q * a * 4294967296 + q * b := by unfold dgY; rw [Nat.mul_add, Nat.mul_assoc]
theorem qsk {q a r U : Nat} (h : q * a + r = U) (u : Nat) : dgN U u = q * a * 4294967296 + r * 4294967296 + u := by
 unfold dgN; rw [← h, Nat.add_mul]
theorem Dg.step {U u a b q r : Nat} (h : Dg U u a b) (hi : DgI U u a b q r) (hc : 4294967296 ≤ q ∨ r * 4294967296 + u < q * b) : 1 ≤ q ∧ DgI U u a b (q - 1) (r + a) ∧ q - 1 ≤ 4294967296 := by
 have hlt : dgN U u / dgY a b < q := by
  rcases hc with hc | hc
  ·exact Nat.lt_of_lt_of_le h.qlt hc
  ·rw [Nat.div_lt_iff_lt_mul h.pos, qsj, qsk hi.eq, Nat.add_assoc]
   exact Nat.add_lt_add_left hc _
 have h1 := hi.eq
 have h2 := hi.hq
 have h3 : 1 ≤ q := Nat.lt_of_le_of_lt (Nat.zero_le _) hlt
 refine ⟨h3, ⟨?_, Nat.le_pred_of_lt hlt, by omega⟩, by omega⟩
 obtain ⟨p, rfl⟩ : ∃ p, q = p + 1 := ⟨q - 1, by omega⟩
 rw [Nat.succ_mul] at h1
 rw [Nat.add_sub_cancel]
 omega
theorem Dg.fin {U u a b q r : Nat} (h : Dg U u a b) (hi : DgI U u a b q r) (hc : q * b ≤ r * 4294967296 + u) : q = dgN U u / dgY a b := by
 refine Nat.le_antisymm ?_ hi.le
 rw [Nat.le_div_iff_mul_le h.pos, qsj, qsk hi.eq, Nat.add_assoc]
 exact Nat.add_le_add_left hc _
theorem Dg.stop {U u a b q r : Nat} (h : Dg U u a b) (hi : DgI U u a b q r) (hq : q ≤ 4294967296) (hr : 4294967296 ≤ r) : q = dgN U u / dgY a b := by
 refine h.fin hi ?_
 have h1 := h.hb
 have h2 : q * b ≤ 4294967296 * 4294967295 := Nat.mul_le_mul hq (Nat.le_of_lt_succ h1)
 have h3 : 4294967296 * 4294967296 ≤ r * 4294967296 := Nat.mul_le_mul_right _ hr
 exact Nat.le_trans h2 (Nat.le_trans (Nat.mul_le_mul_left _ (Nat.le_succ _)) (Nat.le_trans h3 (Nat.le_add_right _ _)))
theorem qov (N u0 y L : Nat) (hy : 0 < y) : N / y * L + (N % y * L + u0) / y = (N * L + u0) / y ∧ (N % y * L + u0) % y = (N * L + u0) % y := by
 have e : N * L + u0 = (N % y * L + u0) + y * (N / y * L) := by
  have h1 := Nat.div_add_mod N y
  have h2 : N * L = y * (N / y * L) + N % y * L := by
   conv => lhs; rw [← h1]
   rw [Nat.add_mul, Nat.mul_assoc]
  omega
 constructor
 ·rw [e, Nat.add_mul_div_left _ _ hy, Nat.add_comm]
 ·rw [e, Nat.add_mul_mod_self_left]
theorem qu1 (m y s : Nat) (hy : 0 < y) : (m * 2 ^ s) / (y * 2 ^ s) = m / y ∧ (m * 2 ^ s) % (y * 2 ^ s) / 2 ^ s = m % y := by
 have hp : 0 < 2 ^ s := Nat.pow_pos (by decide)
 constructor
 ·exact Nat.mul_div_mul_right m y hp
 ·rw [Nat.mul_mod_mul_right, Nat.mul_div_cancel _ hp]
end Go.F

namespace Go.F
attribute [local irreducible] IntKind.wrap wpM
theorem qmH (x : Nat) (hx : x < 18446744073709551616) : IntKind.u64.wrap ((BitVec.ofInt IntKind.u64.bits (x : Int) &&& BitVec.ofInt IntKind.u64.bits 4294967295).toNat : Int) = ((x % 4294967296 : Nat) : Int) := by
 have e : IntKind.u64.bits = 64 := rfl
 have h3 : (BitVec.ofInt 64 4294967295).toNat = 2 ^ 32 - 1 := by decide
 rw [e, BitVec.toNat_and, h3, Nat.and_two_pow_sub_one_eq_mod, BitVec.toNat_ofInt]
 have hq : (((x : Int) % ((2 ^ 64 : Nat) : Int)).toNat % 2 ^ 32 : Nat) = x % 4294967296 := by omega
 rw [hq, q0y (by omega)]
theorem or64 (a b : Nat) (s : Nat) (hb : b < 2 ^ s) (hs : 2 ^ s * a + b < 18446744073709551616) : IntKind.u64.wrap ((BitVec.ofInt IntKind.u64.bits ((2 ^ s * a : Nat) : Int) ||| BitVec.ofInt IntKind.u64.bits (b : Int)).toNat : Int) = ((2 ^ s * a + b : Nat) : Int) := by
 have e : IntKind.u64.bits = 64 := rfl
 have f : ∀ n : Nat, n < 18446744073709551616 → (BitVec.ofInt 64 (n : Int)).toNat = n := by
  intro n hn
  rw [BitVec.toNat_ofInt]
  omega
 rw [e, BitVec.toNat_or, f _ (by omega), f _ (by omega), ← Nat.two_pow_add_eq_or_of_lt hb, q0y hs]
def w32 (x : Nat) : Nat := x % 4294967296
def h32 (x : Nat) : Nat := x / 2 ^ 32
theorem qi1 (x : Nat) : x = h32 x * 4294967296 + w32 x := by unfold h32 w32; omega
theorem qqE (x1 x0 y1 y0 : Nat) (hx : x0 < 4294967296) (hy : y0 < 4294967296) :
 x1 * y1 + h32 (x1 * y0 + h32 (x0 * y0)) + h32 (w32 (x1 * y0 + h32 (x0 * y0)) + x0 * y1) = (x1 * 4294967296 + x0) * (y1 * 4294967296 + y0) / 18446744073709551616 := by
 have e : (x1 * 4294967296 + x0) * (y1 * 4294967296 + y0) = x1 * y1 * 18446744073709551616 + (x1 * y0 + x0 * y1) * 4294967296 + x0 * y0 := by grind
 rw [e]
 generalize x1 * y1 = p
 generalize x1 * y0 = q
 generalize x0 * y1 = r
 generalize x0 * y0 = s
 unfold h32 w32
 omega
theorem q5z {a b : Nat} (ha : a < 4294967296) (hb : b < 4294967296) : a * b ≤ 18446744065119617025 :=
 Nat.le_trans (Nat.mul_le_mul (Nat.le_of_lt_succ ha) (Nat.le_of_lt_succ hb)) (by decide)
theorem qer {x : Nat} (h : x < 18446744073709551616) : h32 x < 4294967296 := by unfold h32; omega
theorem qiu (x : Nat) : w32 x < 4294967296 := by unfold w32; omega
set_option maxHeartbeats 1000000 in
theorem qsl (x y : Nat) (hx : x < 18446744073709551616) (hy : y < 18446744073709551616) : PU qfq [.int .u64 x, .int .u64 y] = some (.tup [.int .u64 ((x * y / 18446744073709551616 : Nat) : Int), .int .u64 ((x * y % 18446744073709551616 : Nat) : Int)]) := by
 have x1 := qer hx
 have y1 := qer hy
 have x0 := qiu x
 have y0 := qiu y
 have b00 := q5z x0 y0
 have b10 := q5z x1 y0
 have b01 := q5z x0 y1
 have b11 := q5z x1 y1
 have hm := qqE (h32 x) (w32 x) (h32 y) (w32 y) x0 y0
 rw [← qi1, ← qi1] at hm
 have hxy : x * y / 18446744073709551616 < 18446744073709551616 := by
  rw [Nat.div_lt_iff_lt_mul (by decide)]
  exact Nat.mul_lt_mul_of_lt_of_le hx (Nat.le_of_lt hy) (by omega)
 have a1 := qmH x hx
 have a2 := qmH y hy
 have c1 : IntKind.u64.wrap (((w32 x : Nat) : Int) * ((w32 y : Nat) : Int)) = ((w32 x * w32 y : Nat) : Int) := by rw [← Int.natCast_mul]; exact q0y (by omega)
 have c2 : IntKind.u64.wrap (((h32 x : Nat) : Int) * ((w32 y : Nat) : Int)) = ((h32 x * w32 y : Nat) : Int) := by rw [← Int.natCast_mul]; exact q0y (by omega)
 have c3 : IntKind.u64.wrap (((w32 x : Nat) : Int) * ((h32 y : Nat) : Int)) = ((w32 x * h32 y : Nat) : Int) := by rw [← Int.natCast_mul]; exact q0y (by omega)
 have c4 : IntKind.u64.wrap (((h32 x : Nat) : Int) * ((h32 y : Nat) : Int)) = ((h32 x * h32 y : Nat) : Int) := by rw [← Int.natCast_mul]; exact q0y (by omega)
 have g0 : h32 (w32 x * w32 y) < 4294967296 := qer (by omega)
 have c5 : IntKind.u64.wrap (((h32 x * w32 y : Nat) : Int) + ((h32 (w32 x * w32 y) : Nat) : Int)) = ((h32 x * w32 y + h32 (w32 x * w32 y) : Nat) : Int) := by rw [← Int.natCast_add]; exact q0y (by omega)
 have a3 := qmH (h32 x * w32 y + h32 (w32 x * w32 y)) (by omega)
 have g1 := qiu (h32 x * w32 y + h32 (w32 x * w32 y))
 have g2 := qer (x := h32 x * w32 y + h32 (w32 x * w32 y)) (by omega)
 have c6 : IntKind.u64.wrap (((w32 (h32 x * w32 y + h32 (w32 x * w32 y)) : Nat) : Int) + ((w32 x * h32 y : Nat) : Int)) = ((w32 (h32 x * w32 y + h32 (w32 x * w32 y)) + w32 x * h32 y : Nat) : Int) := by rw [← Int.natCast_add]; exact q0y (by omega)
 have g3 := qer (x := w32 (h32 x * w32 y + h32 (w32 x * w32 y)) + w32 x * h32 y) (by omega)
 have c7 : IntKind.u64.wrap (((h32 x * h32 y : Nat) : Int) + ((h32 (h32 x * w32 y + h32 (w32 x * w32 y)) : Nat) : Int)) = ((h32 x * h32 y + h32 (h32 x * w32 y + h32 (w32 x * w32 y)) : Nat) : Int) := by rw [← Int.natCast_add]; exact q0y (by omega)
 have c8 : IntKind.u64.wrap (((h32 x * h32 y + h32 (h32 x * w32 y + h32 (w32 x * w32 y)) : Nat) : Int) + ((h32 (w32 (h32 x * w32 y + h32 (w32 x * w32 y)) + w32 x * h32 y) : Nat) : Int)) = ((x * y / 18446744073709551616 : Nat) : Int) := by
  rw [← Int.natCast_add, hm]; exact q0y hxy
 have c9 : IntKind.u64.wrap ((x : Int) * (y : Int)) = ((x * y % 18446744073709551616 : Nat) : Int) := by rw [q0I, ← Int.natCast_mul]; rfl
 refine q0h (fn := qaA) rfl (q0c ?_)
 refine go 800 rfl ?_
 rw [a1]
 refine q0Y x 32 rfl rfl rfl rfl (by decide) ?_
 refine go 800 rfl ?_
 rw [a2]
 refine q0Y y 32 rfl rfl rfl rfl (by decide) ?_
 refine go 800 rfl ?_
 rw [show ((x % 4294967296 : Nat) : Int) = ((w32 x : Nat) : Int) from rfl, show ((y % 4294967296 : Nat) : Int) = ((w32 y : Nat) : Int) from rfl, show ((x / 2 ^ 32 : Nat) : Int) = ((h32 x : Nat) : Int) from rfl, show ((y / 2 ^ 32 : Nat) : Int) = ((h32 y : Nat) : Int) from rfl, c1, c2]
 refine q0Y (w32 x * w32 y) 32 rfl rfl rfl rfl (by decide) ?_
 refine go 800 rfl ?_
 rw [show ((w32 x * w32 y / 2 ^ 32 : Nat) : Int) = ((h32 (w32 x * w32 y) : Nat) : Int) from rfl, c5, a3]
 refine q0Y (h32 x * w32 y + h32 (w32 x * w32 y)) 32 rfl rfl rfl rfl (by decide) ?_
 refine go 800 rfl ?_
 rw [show (((h32 x * w32 y + h32 (w32 x * w32 y)) % 4294967296 : Nat) : Int) = ((w32 (h32 x * w32 y + h32 (w32 x * w32 y)) : Nat) : Int) from rfl, show (((h32 x * w32 y + h32 (w32 x * w32 y)) / 2 ^ 32 : Nat) : Int) = ((h32 (h32 x * w32 y + h32 (w32 x * w32 y)) : Nat) : Int) from rfl, c3, c6, c4, c7]
 refine q0Y (w32 (h32 x * w32 y + h32 (w32 x * w32 y)) + w32 x * h32 y) 32 rfl rfl rfl rfl (by decide) ?_
 refine go 800 rfl ?_
 rw [show (((w32 (h32 x * w32 y + h32 (w32 x * w32 y)) + w32 x * h32 y) / 2 ^ 32 : Nat) : Int) = ((h32 (w32 (h32 x * w32 y + h32 (w32 x * w32 y)) + w32 x * h32 y) : Nat) : Int) from rfl, c8, c9]
 exact q08 rfl rfl rfl trivial rfl
theorem qf3 (x : Nat) (hx : x < 18446744073709551616) : PU q6h [.int .u64 x] = some (.int .i64 ((64 - bl x : Nat) : Int)) := by
 have hb : bl x ≤ 64 := by
  unfold bl
  split
  ·omega
  ·rename_i h
   have := (Nat.log2_lt (n := x) (k := 64) h).2 (by omega)
   omega
 refine q0h (fn := q3R) rfl (q0c ?_)
 refine go 800 rfl ?_
 refine q01 rfl rfl (qny x hx) ?_
 refine go 800 rfl ?_
 have w : IntKind.i64.wrap (64 - (bl x : Int)) = ((64 - bl x : Nat) : Int) := by rw [wrap64 (by omega) (by omega)]; omega
 rw [w]
 exact q08 rfl rfl rfl trivial rfl
end Go.F

namespace Go.F
attribute [local irreducible] IntKind.wrap wpM
theorem or64' (a b : Nat) (s : Nat) (hb : b < 2 ^ s) (hs : a * 2 ^ s + b < 18446744073709551616) : IntKind.u64.wrap ((BitVec.ofInt IntKind.u64.bits ((a * 2 ^ s : Nat) : Int) ||| BitVec.ofInt IntKind.u64.bits (b : Int)).toNat : Int) = ((a * 2 ^ s + b : Nat) : Int) := by
 rw [Nat.mul_comm] at hs ⊢
 exact or64 a b s hb hs
structure Nrm (hi lo y s : Nat) : Prop where
 s63 : s ≤ 63
 y2 : y * 2 ^ s < 18446744073709551616
 y1 : 9223372036854775808 ≤ y * 2 ^ s
 l : lo / 2 ^ (64 - s) < 2 ^ s
 u : hi * 2 ^ s + lo / 2 ^ (64 - s) < y * 2 ^ s
 h : hi * 2 ^ s < 18446744073709551616
 e : (hi * 2 ^ s + lo / 2 ^ (64 - s)) * 18446744073709551616 + lo * 2 ^ s % 18446744073709551616 = (hi * 18446744073709551616 + lo) * 2 ^ s
theorem nrm_of {hi lo y : Nat} (hh : hi < y) (hy : y < 18446744073709551616) (hl : lo < 18446744073709551616) : Nrm hi lo y (64 - bl y) := by
 have hy0 : y ≠ 0 := by omega
 have hb : bl y = y.log2 + 1 := by unfold bl; rw [if_neg hy0]
 have hlg : y.log2 < 64 := (Nat.log2_lt hy0).2 (by omega)
 have h1 : 2 ^ y.log2 ≤ y := (Nat.le_log2 hy0).1 (Nat.le_refl _)
 have h2 : y < 2 ^ (y.log2 + 1) := (Nat.log2_lt hy0).1 (Nat.lt_succ_self _)
 generalize hs : 64 - bl y = s
 have es : y.log2 + 1 + s = 64 := by omega
 have hP : 0 < 2 ^ s := Nat.pow_pos (by decide)
 have hPQ : 2 ^ (64 - s) * 2 ^ s = 18446744073709551616 := by
  rw [← Nat.pow_add, show 64 - s + s = 64 by omega]
 have e1 : 2 ^ (y.log2 + 1) * 2 ^ s = 18446744073709551616 := by rw [← Nat.pow_add, es]
 have e2 : 2 ^ y.log2 * 2 ^ s * 2 = 18446744073709551616 := by
  rw [Nat.pow_succ] at e1
  rw [← e1]; ac_rfl
 have f1 : y * 2 ^ s < 18446744073709551616 := by rw [← e1]; exact Nat.mul_lt_mul_of_pos_right h2 hP
 have f2 : 9223372036854775808 ≤ y * 2 ^ s := by
  have := Nat.mul_le_mul_right (2 ^ s) h1
  omega
 have hQ : 0 < 2 ^ (64 - s) := Nat.pow_pos (by decide)
 have f3 : lo / 2 ^ (64 - s) < 2 ^ s := by
  rw [Nat.div_lt_iff_lt_mul hQ, Nat.mul_comm, hPQ]; exact hl
 have fd : lo * 2 ^ s / 18446744073709551616 = lo / 2 ^ (64 - s) := by
  rw [← hPQ, Nat.mul_div_mul_right _ _ hP]
 have fe : (hi * 2 ^ s + lo / 2 ^ (64 - s)) * 18446744073709551616 + lo * 2 ^ s % 18446744073709551616 = (hi * 18446744073709551616 + lo) * 2 ^ s := by
  have hdm := Nat.div_add_mod (lo * 2 ^ s) 18446744073709551616
  rw [fd] at hdm
  have g : (hi * 18446744073709551616 + lo) * 2 ^ s = hi * 2 ^ s * 18446744073709551616 + lo * 2 ^ s := by
   rw [Nat.add_mul]; congr 1; ac_rfl
  rw [g, Nat.add_mul]
  omega
 have fh : hi * 2 ^ s < 18446744073709551616 := Nat.lt_of_le_of_lt (Nat.mul_le_mul_right _ (Nat.le_of_lt hh)) f1
 refine ⟨by omega, f1, f2, f3, ?_, fh, fe⟩
 have hle : (hi + 1) * 2 ^ s ≤ y * 2 ^ s := Nat.mul_le_mul_right _ hh
 rw [Nat.add_mul, Nat.one_mul] at hle
 omega
theorem qjV {x y : Nat} (h : y ≤ x) (hx : x < 18446744073709551616) : IntKind.u64.wrap ((x : Int) - (y : Int)) = ((x - y : Nat) : Int) := by
 rw [q0I]; omega
theorem qbG {x y : Nat} (h : x + y < 18446744073709551616) : IntKind.u64.wrap ((x : Int) + (y : Int)) = ((x + y : Nat) : Int) := by
 rw [← Int.natCast_add]; exact q0y h
theorem qaH {x y : Nat} (h : x * y < 18446744073709551616) : IntKind.u64.wrap ((x : Int) * (y : Int)) = ((x * y : Nat) : Int) := by
 rw [← Int.natCast_mul]; exact q0y h
theorem qhJ {U u q y : Nat} (hq : q = dgN U u / y) (hy0 : 0 < y) (hy : y < 18446744073709551616) :
 IntKind.u64.wrap (IntKind.u64.wrap (IntKind.u64.wrap ((U : Int) * 4294967296) + (u : Int)) - IntKind.u64.wrap ((q : Int) * (y : Int))) = ((dgN U u % y : Nat) : Int) := by
 have h1 := Nat.div_add_mod (dgN U u) y
 have h2 := Nat.mod_lt (dgN U u) hy0
 rw [← hq, Nat.mul_comm] at h1
 have h3 : ((dgN U u : Nat) : Int) = (U : Int) * 4294967296 + u := by unfold dgN; simp
 have h4 : ((q * y : Nat) : Int) + ((dgN U u % y : Nat) : Int) = (U : Int) * 4294967296 + u := by rw [← h3, ← Int.natCast_add, h1]
 rw [Int.natCast_mul] at h4
 simp only [q0I]
 have hR : (0 : Int) ≤ ((dgN U u % y : Nat) : Int) ∧ ((dgN U u % y : Nat) : Int) < 18446744073709551616 := by omega
 generalize ((dgN U u % y : Nat) : Int) = R at *
 generalize (U : Int) * 4294967296 = A at *
 generalize (q : Int) * (y : Int) = B at *
 omega
structure Dv64 (hi lo y s a b U u1 u0 : Nat) : Prop where
 n : Nrm hi lo y s
 hy : y * 2 ^ s = dgY a b
 a1 : 2147483648 ≤ a
 a2 : a < 4294967296
 b2 : b < 4294967296
 hu1 : u1 < 4294967296
 hu0 : u0 < 4294967296
 lt : U < dgY a b
 y0 : 0 < y
 e : dgN U u1 * 4294967296 + u0 = (hi * 18446744073709551616 + lo) * 2 ^ s
theorem Dv64.d1 {hi lo y s a b U u1 u0 : Nat} (h : Dv64 hi lo y s a b U u1 u0) : Dg U u1 a b := ⟨h.hu1, h.a1, h.a2, h.b2, h.lt⟩
theorem Dv64.d0 {hi lo y s a b U u1 u0 : Nat} (h : Dv64 hi lo y s a b U u1 u0) : Dg (dgN U u1 % dgY a b) u0 a b := ⟨h.hu0, h.a1, h.a2, h.b2, Nat.mod_lt _ h.d1.pos⟩
theorem Dv64.y64 {hi lo y s a b U u1 u0 : Nat} (h : Dv64 hi lo y s a b U u1 u0) : dgY a b < 18446744073709551616 := by rw [← h.hy]; exact h.n.y2
theorem Dv64.quo {hi lo y s a b U u1 u0 : Nat} (h : Dv64 hi lo y s a b U u1 u0) :
 dgN U u1 / dgY a b * 4294967296 + dgN (dgN U u1 % dgY a b) u0 / dgY a b = (hi * 18446744073709551616 + lo) / y ∧ dgN (dgN U u1 % dgY a b) u0 % dgY a b / 2 ^ s = (hi * 18446744073709551616 + lo) % y := by
 obtain ⟨t1, t2⟩ := qov (dgN U u1) u0 (dgY a b) 4294967296 h.d1.pos
 obtain ⟨s1, s2⟩ := qu1 (hi * 18446744073709551616 + lo) y s h.y0
 constructor
 ·rw [← s1, ← h.e, h.hy, ← t1]; rfl
 ·rw [← s2, ← h.e, h.hy, ← t2]; rfl
theorem dvd_of {hi lo y : Nat} (hh : hi < y) (hy : y < 18446744073709551616) (hl : lo < 18446744073709551616) :
 Dv64 hi lo y (64 - bl y) (h32 (y * 2 ^ (64 - bl y))) (w32 (y * 2 ^ (64 - bl y))) (hi * 2 ^ (64 - bl y) + lo / 2 ^ (64 - (64 - bl y))) (h32 (lo * 2 ^ (64 - bl y) % 18446744073709551616)) (w32 (lo * 2 ^ (64 - bl y) % 18446744073709551616)) := by
 have n := nrm_of hh hy hl
 generalize 64 - bl y = s at *
 have hY : y * 2 ^ s = dgY (h32 (y * 2 ^ s)) (w32 (y * 2 ^ s)) := qi1 _
 have hL := qi1 (lo * 2 ^ s % 18446744073709551616)
 have hlt : lo * 2 ^ s % 18446744073709551616 < 18446744073709551616 := Nat.mod_lt _ (by decide)
 refine ⟨n, hY, ?_, qer n.y2, qiu _, qer hlt, qiu _, by rw [← hY]; exact n.u, by omega, ?_⟩
 ·have := n.y1
  generalize y * 2 ^ s = Y at *
  unfold h32; omega
 ·have e := n.e
  generalize hi * 2 ^ s + lo / 2 ^ (64 - s) = U at *
  generalize lo * 2 ^ s % 18446744073709551616 = L at *
  have hB : 4294967296 * 4294967296 = 18446744073709551616 := by decide
  rw [← e, dgN, Nat.add_mul, Nat.mul_assoc, hB, Nat.add_assoc, ← hL]
theorem shlU (lo s : Nat) (hs : s ≤ 63) : IntKind.u64.wrap ((lo : Int) * 2 ^ min ((s : Nat) : Int).toNat IntKind.u64.bits) = ((lo * 2 ^ s % 18446744073709551616 : Nat) : Int) := by
 have e : IntKind.u64.bits = 64 := rfl
 rw [e, Int.toNat_natCast, Nat.min_eq_left (by omega), q0I]
 have : (lo : Int) * 2 ^ s = ((lo * 2 ^ s : Nat) : Int) := by simp
 rw [this]; omega
theorem qi2 {U a : Nat} (hU : U < 18446744073709551616) : IntKind.u64.wrap ((U : Int) - IntKind.u64.wrap (((U / a : Nat) : Int) * (a : Int))) = ((U % a : Nat) : Int) := by
 have h1 := Nat.div_mul_le_self U a
 have h2 := Nat.mod_add_div U a
 rw [qaH (by omega), qjV h1 hU]
 congr 1
 rw [Nat.mul_comm] at h2
 omega
set_option maxHeartbeats 8000000 in
theorem qsm (hi lo y : Nat) (hh : hi < y) (hy : y < 18446744073709551616) (hl : lo < 18446744073709551616) :
 PU qfr [.int .u64 hi, .int .u64 lo, .int .u64 y] = some (.tup [.int .u64 (((hi * 18446744073709551616 + lo) / y : Nat) : Int), .int .u64 (((hi * 18446744073709551616 + lo) % y : Nat) : Int)]) := by
 have D := dvd_of hh hy hl
 have lz := qf3 y hy
 have hs63 := D.n.s63
 generalize 64 - bl y = s at *
 refine q0h (fn := qaB) rfl (q0c ?_)
 refine go 800 rfl ?_
 refine q02 rfl (fun e => absurd (q12.1 e) (by omega)) (fun _ => ?_)
 refine go 800 rfl ?_
 refine q02 rfl (fun e => absurd (q0D.1 e) (by omega)) (fun _ => ?_)
 refine go 800 rfl ?_
 refine q02 rfl (fun e => ?_) (fun e => ?_)
 ·rw [q12] at e
  obtain rfl : hi = 0 := by omega
  refine go 800 rfl ?_
  refine q2L lo y rfl rfl rfl rfl (by omega) (q0y (Nat.lt_of_le_of_lt (Nat.div_le_self _ _) hl)) ?_
  refine go 800 rfl ?_
  refine q7x lo y rfl rfl rfl rfl (by omega) ?_
  refine go 800 rfl ?_
  refine q08 rfl rfl rfl trivial ?_
  rw [Nat.zero_mul, Nat.zero_add]
 ·have e64 : IntKind.u64.wrap (64 - (s : Int)) = ((64 - s : Nat) : Int) := qjV (x := 64) (by omega) (by decide)
  have a1 := qmH (y * 2 ^ s) D.n.y2
  have hL64 : lo * 2 ^ s % 18446744073709551616 < 18446744073709551616 := Nat.mod_lt _ (by decide)
  have a2 := qmH (lo * 2 ^ s % 18446744073709551616) hL64
  have o1 := or64' hi (lo / 2 ^ (64 - s)) s D.n.l (Nat.lt_trans D.n.u D.n.y2)
  have sl := shlU lo s hs63
  refine go 800 rfl ?_
  refine q01 rfl rfl lz ?_
  refine go 800 rfl ?_
  rw [q0y (n := s) (by omega)]
  refine q6N y s rfl rfl rfl rfl (by show s ≤ 64; omega) (q0y D.n.y2) ?_
  refine go 800 rfl ?_
  refine q0Y (y * 2 ^ s) 32 rfl rfl rfl rfl (by decide) ?_
  refine go 800 rfl ?_
  rw [a1]
  refine q6N hi s rfl rfl rfl rfl (by show s ≤ 64; omega) (q0y D.n.h) ?_
  refine go 800 rfl ?_
  rw [e64]
  refine q0Y lo (64 - s) rfl rfl rfl rfl (by show 64 - s ≤ 64; omega) ?_
  refine go 800 rfl ?_
  rw [o1]
  refine atShl rfl rfl (by omega) ?_
  rw [sl]
  refine go 800 rfl ?_
  refine q0Y (lo * 2 ^ s % 18446744073709551616) 32 rfl rfl rfl rfl (by decide) ?_
  refine go 800 rfl ?_
  rw [a2]
  have hY := D.hy
  rw [hY]
  rw [show ((dgY (h32 (y * 2 ^ s)) (w32 (y * 2 ^ s)) / 2 ^ 32 : Nat) : Int) = ((h32 (y * 2 ^ s) : Nat) : Int) by rw [← hY]; rfl, show ((dgY (h32 (y * 2 ^ s)) (w32 (y * 2 ^ s)) % 4294967296 : Nat) : Int) = ((w32 (y * 2 ^ s) : Nat) : Int) by rw [← hY]; rfl, show ((lo * 2 ^ s % 18446744073709551616 / 2 ^ 32 : Nat) : Int) = ((h32 (lo * 2 ^ s % 18446744073709551616) : Nat) : Int) from rfl, show ((lo * 2 ^ s % 18446744073709551616 % 4294967296 : Nat) : Int) = ((w32 (lo * 2 ^ s % 18446744073709551616) : Nat) : Int) from rfl]
  clear a1 a2 o1 sl e64 lz hY
  generalize h32 (y * 2 ^ s) = a at *
  generalize w32 (y * 2 ^ s) = b at *
  generalize h32 (lo * 2 ^ s % 18446744073709551616) = u1 at *
  generalize w32 (lo * 2 ^ s % 18446744073709551616) = u0 at *
  generalize hi * 2 ^ s + lo / 2 ^ (64 - s) = U at *
  have DD := D.d1
  have hU : U < 18446744073709551616 := Nat.lt_trans DD.lt D.y64
  refine q2L U a rfl rfl rfl rfl (by have := D.a1; omega) (q0y (Nat.lt_of_le_of_lt (Nat.div_le_self _ _) hU)) ?_
  refine go 800 rfl ?_
  rw [qi2 hU]
  refine q0q (S := fun x : Nat × Nat => ([.int .u64 (dgY a b : Nat), .int .u64 s, .int .u64 a, .int .u64 b, .int .u64 U, .int .u64 u1, .int .u64 u0, .int .u64 x.1, .int .u64 x.2], [none, none, none, none, none, none, none, none, none], [0, 0, 0, 0, 0, 0, 0, 0, 0])) (C := fun x => DgI U u1 a b x.1 x.2 ∧ x.2 < 4294967296) (m := fun x => x.1) (U / a, U % a) ⟨DD.start, Nat.lt_trans (Nat.mod_lt _ (by have := D.a1; omega)) D.a2⟩ (by have := DD.start.hq; show U / a < _; omega) ?_ ?_
  ·exact q03 rfl trivial rfl
  rintro ⟨q, r⟩ ⟨hi1, hr⟩ N hN
  simp only at hi1 hr
  have hq := hi1.hq
  have hb' := D.b2
  have w1 : q < 4294967296 → IntKind.u64.wrap ((q : Int) * (b : Int)) = ((q * b : Nat) : Int) := fun h => qaH (by have := q5z h hb'; omega)
  have w2 : IntKind.u64.wrap ((4294967296 : Int) * (r : Int)) = ((4294967296 * r : Nat) : Int) := qaH (x := 4294967296) (by omega)
  have w3 : IntKind.u64.wrap (((4294967296 * r : Nat) : Int) + (u1 : Int)) = ((4294967296 * r + u1 : Nat) : Int) := qbG (by have := DD.hu; omega)
  have body : (4294967296 ≤ q ∨ r * 4294967296 + u1 < q * b) → 1 ≤ q ∧ DgI U u1 a b (q - 1) (r + a) ∧ q - 1 ≤ 4294967296 := DD.step hi1
  have a2 := D.a2
  have w5 : IntKind.u64.wrap ((r : Int) + (a : Int)) = ((r + a : Nat) : Int) := qbG (by omega)
  refine go 800 rfl ?_
  refine q05 rfl (fun g1 => ?_) (fun g1 => ?_)
  ·rw [q0D] at g1
   obtain ⟨k1, k2, k3⟩ := body (.inl (by omega))
   have w4 : IntKind.u64.wrap ((q : Int) - 1) = ((q - 1 : Nat) : Int) := qjV (y := 1) k1 (by omega)
   refine go 800 rfl ?_
   refine q0g rfl ?_
   refine go 800 rfl ?_
   rw [w4, w5]
   refine q02 rfl (fun g2 => ?_) (fun g2 => ?_)
   ·rw [q0D] at g2
    have hq1 := DD.stop k2 k3 (by omega)
    generalize q - 1 = q' at *
    refine go 800 rfl ?_
    refine q04 ?_
    have hp := hq1
    have hplt := D.d1.qlt
    rw [← hp] at hplt
    clear hq1
    generalize q' = p at hp hplt
    have hrm := qhJ (U := U) (u := u1) hp D.d1.pos D.y64
    refine go 800 rfl ?_
    rw [hrm]
    have DD := D.d0
    have hV : dgN U u1 % dgY a b < 18446744073709551616 := Nat.lt_trans DD.lt D.y64
    clear hi1 hN
    refine q2L (dgN U u1 % dgY a b) a rfl rfl rfl rfl (by have := D.a1; omega) (q0y (Nat.lt_of_le_of_lt (Nat.div_le_self _ _) hV)) ?_
    refine go 800 rfl ?_
    rw [qi2 hV]
    refine q0q (S := fun x : Nat × Nat => ([.int .u64 (dgY a b : Nat), .int .u64 s, .int .u64 a, .int .u64 b, .int .u64 u0, .int .u64 p, .int .u64 x.2, .int .u64 ((dgN U u1 % dgY a b : Nat) : Int), .int .u64 x.1], [none, none, none, none, none, none, none, none, none], [0, 0, 0, 0, 0, 0, 0, 0, 0])) (C := fun x => DgI (dgN U u1 % dgY a b) u0 a b x.1 x.2 ∧ x.2 < 4294967296) (m := fun x => x.1) ((dgN U u1 % dgY a b) / a, (dgN U u1 % dgY a b) % a) ⟨DD.start, Nat.lt_trans (Nat.mod_lt _ (by have := D.a1; omega)) D.a2⟩ (by have := DD.start.hq; show _ / a < _; omega) ?_ ?_
    ·exact q03 rfl trivial rfl
    rintro ⟨q, r⟩ ⟨hi1, hr⟩ N hN
    simp only at hi1 hr
    have hq := hi1.hq
    have hb' := D.b2
    have w1 : q < 4294967296 → IntKind.u64.wrap ((q : Int) * (b : Int)) = ((q * b : Nat) : Int) := fun h => qaH (by have := q5z h hb'; omega)
    have w2 : IntKind.u64.wrap ((4294967296 : Int) * (r : Int)) = ((4294967296 * r : Nat) : Int) := qaH (x := 4294967296) (by omega)
    have w3 : IntKind.u64.wrap (((4294967296 * r : Nat) : Int) + (u0 : Int)) = ((4294967296 * r + u0 : Nat) : Int) := qbG (by have := DD.hu; omega)
    have body : (4294967296 ≤ q ∨ r * 4294967296 + u0 < q * b) → 1 ≤ q ∧ DgI (dgN U u1 % dgY a b) u0 a b (q - 1) (r + a) ∧ q - 1 ≤ 4294967296 := DD.step hi1
    have a2 := D.a2
    have w5 : IntKind.u64.wrap ((r : Int) + (a : Int)) = ((r + a : Nat) : Int) := qbG (by omega)
    refine go 800 rfl ?_
    refine q05 rfl (fun g1 => ?_) (fun g1 => ?_)
    ·rw [q0D] at g1
     obtain ⟨k1, k2, k3⟩ := body (.inl (by omega))
     have w4 : IntKind.u64.wrap ((q : Int) - 1) = ((q - 1 : Nat) : Int) := qjV (y := 1) k1 (by omega)
     refine go 800 rfl ?_
     refine q0g rfl ?_
     refine go 800 rfl ?_
     rw [w4, w5]
     refine q02 rfl (fun g2 => ?_) (fun g2 => ?_)
     ·rw [q0D] at g2
      have hq1 := DD.stop k2 k3 (by omega)
      generalize q - 1 = q' at *
      refine go 800 rfl ?_
      refine q04 ?_
      have hq0lt := D.d0.qlt
      rw [← hq1] at hq0lt
      have m1 : IntKind.u64.wrap ((p : Int) * 4294967296) = ((p * 4294967296 : Nat) : Int) := qaH (y := 4294967296) (by omega)
      have m2 : IntKind.u64.wrap (((p * 4294967296 : Nat) : Int) + (q' : Int)) = ((p * 4294967296 + q' : Nat) : Int) := qbG (by omega)
      have m3 := qhJ (U := dgN U u1 % dgY a b) (u := u0) hq1 D.d1.pos D.y64
      obtain ⟨z1, z2⟩ := D.quo
      refine go 800 rfl ?_
      rw [m1, m2, m3]
      refine q0Y (dgN (dgN U u1 % dgY a b) u0 % dgY a b) s rfl rfl rfl rfl (by show s ≤ 64; have := D.n.s63; omega) ?_
      refine go 800 rfl ?_
      refine q08 rfl rfl rfl trivial ?_
      rw [z2, ← z1, hp, hq1]
     ·rw [q0E] at g2
      refine go 800 rfl ?_
      refine q04 ?_
      exact hN (q - 1, r + a) ⟨k2, by show r + a < _; omega⟩ (by show q - 1 < q; omega) (q03 rfl trivial rfl)
    ·rw [q0E] at g1
     refine go 800 rfl ?_
     rw [w1 (by omega), w2, w3]
     refine q02 rfl (fun g2 => ?_) (fun g2 => ?_)
     ·rw [q06] at g2
      obtain ⟨k1, k2, k3⟩ := body (.inr (by omega))
      have w4 : IntKind.u64.wrap ((q : Int) - 1) = ((q - 1 : Nat) : Int) := qjV (y := 1) k1 (by omega)
      refine go 800 rfl ?_
      rw [w4, w5]
      refine q02 rfl (fun g3 => ?_) (fun g3 => ?_)
      ·rw [q0D] at g3
       have hq1 := DD.stop k2 k3 (by omega)
       generalize q - 1 = q' at *
       refine go 800 rfl ?_
       refine q04 ?_
       have hq0lt := D.d0.qlt
       rw [← hq1] at hq0lt
       have m1 : IntKind.u64.wrap ((p : Int) * 4294967296) = ((p * 4294967296 : Nat) : Int) := qaH (y := 4294967296) (by omega)
       have m2 : IntKind.u64.wrap (((p * 4294967296 : Nat) : Int) + (q' : Int)) = ((p * 4294967296 + q' : Nat) : Int) := qbG (by omega)
       have m3 := qhJ (U := dgN U u1 % dgY a b) (u := u0) hq1 D.d1.pos D.y64
       obtain ⟨z1, z2⟩ := D.quo
       refine go 800 rfl ?_
       rw [m1, m2, m3]
       refine q0Y (dgN (dgN U u1 % dgY a b) u0 % dgY a b) s rfl rfl rfl rfl (by show s ≤ 64; have := D.n.s63; omega) ?_
       refine go 800 rfl ?_
       refine q08 rfl rfl rfl trivial ?_
       rw [z2, ← z1, hp, hq1]
      ·rw [q0E] at g3
       refine go 800 rfl ?_
       refine q04 ?_
       exact hN (q - 1, r + a) ⟨k2, by show r + a < _; omega⟩ (by show q - 1 < q; omega) (q03 rfl trivial rfl)
     ·rw [q07] at g2
      have hq1 := DD.fin hi1 (by omega)
      refine go 800 rfl ?_
      refine q04 ?_
      have hq0lt := D.d0.qlt
      rw [← hq1] at hq0lt
      have m1 : IntKind.u64.wrap ((p : Int) * 4294967296) = ((p * 4294967296 : Nat) : Int) := qaH (y := 4294967296) (by omega)
      have m2 : IntKind.u64.wrap (((p * 4294967296 : Nat) : Int) + (q : Int)) = ((p * 4294967296 + q : Nat) : Int) := qbG (by omega)
      have m3 := qhJ (U := dgN U u1 % dgY a b) (u := u0) hq1 D.d1.pos D.y64
      obtain ⟨z1, z2⟩ := D.quo
      refine go 800 rfl ?_
      rw [m1, m2, m3]
      refine q0Y (dgN (dgN U u1 % dgY a b) u0 % dgY a b) s rfl rfl rfl rfl (by show s ≤ 64; have := D.n.s63; omega) ?_
      refine go 800 rfl ?_
      refine q08 rfl rfl rfl trivial ?_
      rw [z2, ← z1, hp, hq1]
   ·rw [q0E] at g2
    refine go 800 rfl ?_
    refine q04 ?_
    exact hN (q - 1, r + a) ⟨k2, by show r + a < _; omega⟩ (by show q - 1 < q; omega) (q03 rfl trivial rfl)
  ·rw [q0E] at g1
   refine go 800 rfl ?_
   rw [w1 (by omega), w2, w3]
   refine q02 rfl (fun g2 => ?_) (fun g2 => ?_)
   ·rw [q06] at g2
    obtain ⟨k1, k2, k3⟩ := body (.inr (by omega))
    have w4 : IntKind.u64.wrap ((q : Int) - 1) = ((q - 1 : Nat) : Int) := qjV (y := 1) k1 (by omega)
    refine go 800 rfl ?_
    rw [w4, w5]
    refine q02 rfl (fun g3 => ?_) (fun g3 => ?_)
    ·rw [q0D] at g3
     have hq1 := DD.stop k2 k3 (by omega)
     generalize q - 1 = q' at *
     refine go 800 rfl ?_
     refine q04 ?_
     have hp := hq1
     have hplt := D.d1.qlt
     rw [← hp] at hplt
     clear hq1
     generalize q' = p at hp hplt
     have hrm := qhJ (U := U) (u := u1) hp D.d1.pos D.y64
     refine go 800 rfl ?_
     rw [hrm]
     have DD := D.d0
     have hV : dgN U u1 % dgY a b < 18446744073709551616 := Nat.lt_trans DD.lt D.y64
     clear hi1 hN
     refine q2L (dgN U u1 % dgY a b) a rfl rfl rfl rfl (by have := D.a1; omega) (q0y (Nat.lt_of_le_of_lt (Nat.div_le_self _ _) hV)) ?_
     refine go 800 rfl ?_
     rw [qi2 hV]
     refine q0q (S := fun x : Nat × Nat => ([.int .u64 (dgY a b : Nat), .int .u64 s, .int .u64 a, .int .u64 b, .int .u64 u0, .int .u64 p, .int .u64 x.2, .int .u64 ((dgN U u1 % dgY a b : Nat) : Int), .int .u64 x.1], [none, none, none, none, none, none, none, none, none], [0, 0, 0, 0, 0, 0, 0, 0, 0])) (C := fun x => DgI (dgN U u1 % dgY a b) u0 a b x.1 x.2 ∧ x.2 < 4294967296) (m := fun x => x.1) ((dgN U u1 % dgY a b) / a, (dgN U u1 % dgY a b) % a) ⟨DD.start, Nat.lt_trans (Nat.mod_lt _ (by have := D.a1; omega)) D.a2⟩ (by have := DD.start.hq; show _ / a < _; omega) ?_ ?_
     ·exact q03 rfl trivial rfl
     rintro ⟨q, r⟩ ⟨hi1, hr⟩ N hN
     simp only at hi1 hr
     have hq := hi1.hq
     have hb' := D.b2
     have w1 : q < 4294967296 → IntKind.u64.wrap ((q : Int) * (b : Int)) = ((q * b : Nat) : Int) := fun h => qaH (by have := q5z h hb'; omega)
     have w2 : IntKind.u64.wrap ((4294967296 : Int) * (r : Int)) = ((4294967296 * r : Nat) : Int) := qaH (x := 4294967296) (by omega)
     have w3 : IntKind.u64.wrap (((4294967296 * r : Nat) : Int) + (u0 : Int)) = ((4294967296 * r + u0 : Nat) : Int) := qbG (by have := DD.hu; omega)
     have body : (4294967296 ≤ q ∨ r * 4294967296 + u0 < q * b) → 1 ≤ q ∧ DgI (dgN U u1 % dgY a b) u0 a b (q - 1) (r + a) ∧ q - 1 ≤ 4294967296 := DD.step hi1
     have a2 := D.a2
     have w5 : IntKind.u64.wrap ((r : Int) + (a : Int)) = ((r + a : Nat) : Int) := qbG (by omega)
     refine go 800 rfl ?_
     refine q05 rfl (fun g1 => ?_) (fun g1 => ?_)
     ·rw [q0D] at g1
      obtain ⟨k1, k2, k3⟩ := body (.inl (by omega))
      have w4 : IntKind.u64.wrap ((q : Int) - 1) = ((q - 1 : Nat) : Int) := qjV (y := 1) k1 (by omega)
      refine go 800 rfl ?_
      refine q0g rfl ?_
      refine go 800 rfl ?_
      rw [w4, w5]
      refine q02 rfl (fun g2 => ?_) (fun g2 => ?_)
      ·rw [q0D] at g2
       have hq1 := DD.stop k2 k3 (by omega)
       generalize q - 1 = q' at *
       refine go 800 rfl ?_
       refine q04 ?_
       have hq0lt := D.d0.qlt
       rw [← hq1] at hq0lt
       have m1 : IntKind.u64.wrap ((p : Int) * 4294967296) = ((p * 4294967296 : Nat) : Int) := qaH (y := 4294967296) (by omega)
       have m2 : IntKind.u64.wrap (((p * 4294967296 : Nat) : Int) + (q' : Int)) = ((p * 4294967296 + q' : Nat) : Int) := qbG (by omega)
       have m3 := qhJ (U := dgN U u1 % dgY a b) (u := u0) hq1 D.d1.pos D.y64
       obtain ⟨z1, z2⟩ := D.quo
       refine go 800 rfl ?_
       rw [m1, m2, m3]
       refine q0Y (dgN (dgN U u1 % dgY a b) u0 % dgY a b) s rfl rfl rfl rfl (by show s ≤ 64; have := D.n.s63; omega) ?_
       refine go 800 rfl ?_
       refine q08 rfl rfl rfl trivial ?_
       rw [z2, ← z1, hp, hq1]
      ·rw [q0E] at g2
       refine go 800 rfl ?_
       refine q04 ?_
       exact hN (q - 1, r + a) ⟨k2, by show r + a < _; omega⟩ (by show q - 1 < q; omega) (q03 rfl trivial rfl)
     ·rw [q0E] at g1
      refine go 800 rfl ?_
      rw [w1 (by omega), w2, w3]
      refine q02 rfl (fun g2 => ?_) (fun g2 => ?_)
      ·rw [q06] at g2
       obtain ⟨k1, k2, k3⟩ := body (.inr (by omega))
       have w4 : IntKind.u64.wrap ((q : Int) - 1) = ((q - 1 : Nat) : Int) := qjV (y := 1) k1 (by omega)
       refine go 800 rfl ?_
       rw [w4, w5]
       refine q02 rfl (fun g3 => ?_) (fun g3 => ?_)
       ·rw [q0D] at g3
        have hq1 := DD.stop k2 k3 (by omega)
        generalize q - 1 = q' at *
        refine go 800 rfl ?_
        refine q04 ?_
        have hq0lt := D.d0.qlt
        rw [← hq1] at hq0lt
        have m1 : IntKind.u64.wrap ((p : Int) * 4294967296) = ((p * 4294967296 : Nat) : Int) := qaH (y := 4294967296) (by omega)
        have m2 : IntKind.u64.wrap (((p * 4294967296 : Nat) : Int) + (q' : Int)) = ((p * 4294967296 + q' : Nat) : Int) := qbG (by omega)
        have m3 := qhJ (U := dgN U u1 % dgY a b) (u := u0) hq1 D.d1.pos D.y64
        obtain ⟨z1, z2⟩ := D.quo
        refine go 800 rfl ?_
        rw [m1, m2, m3]
        refine q0Y (dgN (dgN U u1 % dgY a b) u0 % dgY a b) s rfl rfl rfl rfl (by show s ≤ 64; have := D.n.s63; omega) ?_
        refine go 800 rfl ?_
        refine q08 rfl rfl rfl trivial ?_
        rw [z2, ← z1, hp, hq1]
       ·rw [q0E] at g3
        refine go 800 rfl ?_
        refine q04 ?_
        exact hN (q - 1, r + a) ⟨k2, by show r + a < _; omega⟩ (by show q - 1 < q; omega) (q03 rfl trivial rfl)
      ·rw [q07] at g2
       have hq1 := DD.fin hi1 (by omega)
       refine go 800 rfl ?_
       refine q04 ?_
       have hq0lt := D.d0.qlt
       rw [← hq1] at hq0lt
       have m1 : IntKind.u64.wrap ((p : Int) * 4294967296) = ((p * 4294967296 : Nat) : Int) := qaH (y := 4294967296) (by omega)
       have m2 : IntKind.u64.wrap (((p * 4294967296 : Nat) : Int) + (q : Int)) = ((p * 4294967296 + q : Nat) : Int) := qbG (by omega)
       have m3 := qhJ (U := dgN U u1 % dgY a b) (u := u0) hq1 D.d1.pos D.y64
       obtain ⟨z1, z2⟩ := D.quo
       refine go 800 rfl ?_
       rw [m1, m2, m3]
       refine q0Y (dgN (dgN U u1 % dgY a b) u0 % dgY a b) s rfl rfl rfl rfl (by show s ≤ 64; have := D.n.s63; omega) ?_
       refine go 800 rfl ?_
       refine q08 rfl rfl rfl trivial ?_
       rw [z2, ← z1, hp, hq1]
    ·rw [q0E] at g3
     refine go 800 rfl ?_
     refine q04 ?_
     exact hN (q - 1, r + a) ⟨k2, by show r + a < _; omega⟩ (by show q - 1 < q; omega) (q03 rfl trivial rfl)
   ·rw [q07] at g2
    have hq1 := DD.fin hi1 (by omega)
    refine go 800 rfl ?_
    refine q04 ?_
    have hp := hq1
    have hplt := D.d1.qlt
    rw [← hp] at hplt
    clear hq1
    generalize q = p at hp hplt
    have hrm := qhJ (U := U) (u := u1) hp D.d1.pos D.y64
    refine go 800 rfl ?_
    rw [hrm]
    have DD := D.d0
    have hV : dgN U u1 % dgY a b < 18446744073709551616 := Nat.lt_trans DD.lt D.y64
    clear hi1 hN
    refine q2L (dgN U u1 % dgY a b) a rfl rfl rfl rfl (by have := D.a1; omega) (q0y (Nat.lt_of_le_of_lt (Nat.div_le_self _ _) hV)) ?_
    refine go 800 rfl ?_
    rw [qi2 hV]
    refine q0q (S := fun x : Nat × Nat => ([.int .u64 (dgY a b : Nat), .int .u64 s, .int .u64 a, .int .u64 b, .int .u64 u0, .int .u64 p, .int .u64 x.2, .int .u64 ((dgN U u1 % dgY a b : Nat) : Int), .int .u64 x.1], [none, none, none, none, none, none, none, none, none], [0, 0, 0, 0, 0, 0, 0, 0, 0])) (C := fun x => DgI (dgN U u1 % dgY a b) u0 a b x.1 x.2 ∧ x.2 < 4294967296) (m := fun x => x.1) ((dgN U u1 % dgY a b) / a, (dgN U u1 % dgY a b) % a) ⟨DD.start, Nat.lt_trans (Nat.mod_lt _ (by have := D.a1; omega)) D.a2⟩ (by have := DD.start.hq; show _ / a < _; omega) ?_ ?_
    ·exact q03 rfl trivial rfl
    rintro ⟨q, r⟩ ⟨hi1, hr⟩ N hN
    simp only at hi1 hr
    have hq := hi1.hq
    have hb' := D.b2
    have w1 : q < 4294967296 → IntKind.u64.wrap ((q : Int) * (b : Int)) = ((q * b : Nat) : Int) := fun h => qaH (by have := q5z h hb'; omega)
    have w2 : IntKind.u64.wrap ((4294967296 : Int) * (r : Int)) = ((4294967296 * r : Nat) : Int) := qaH (x := 4294967296) (by omega)
    have w3 : IntKind.u64.wrap (((4294967296 * r : Nat) : Int) + (u0 : Int)) = ((4294967296 * r + u0 : Nat) : Int) := qbG (by have := DD.hu; omega)
    have body : (4294967296 ≤ q ∨ r * 4294967296 + u0 < q * b) → 1 ≤ q ∧ DgI (dgN U u1 % dgY a b) u0 a b (q - 1) (r + a) ∧ q - 1 ≤ 4294967296 := DD.step hi1
    have a2 := D.a2
    have w5 : IntKind.u64.wrap ((r : Int) + (a : Int)) = ((r + a : Nat) : Int) := qbG (by omega)
    refine go 800 rfl ?_
    refine q05 rfl (fun g1 => ?_) (fun g1 => ?_)
    ·rw [q0D] at g1
     obtain ⟨k1, k2, k3⟩ := body (.inl (by omega))
     have w4 : IntKind.u64.wrap ((q : Int) - 1) = ((q - 1 : Nat) : Int) := qjV (y := 1) k1 (by omega)
     refine go 800 rfl ?_
     refine q0g rfl ?_
     refine go 800 rfl ?_
     rw [w4, w5]
     refine q02 rfl (fun g2 => ?_) (fun g2 => ?_)
     ·rw [q0D] at g2
      have hq1 := DD.stop k2 k3 (by omega)
      generalize q - 1 = q' at *
      refine go 800 rfl ?_
      refine q04 ?_
      have hq0lt := D.d0.qlt
      rw [← hq1] at hq0lt
      have m1 : IntKind.u64.wrap ((p : Int) * 4294967296) = ((p * 4294967296 : Nat) : Int) := qaH (y := 4294967296) (by omega)
      have m2 : IntKind.u64.wrap (((p * 4294967296 : Nat) : Int) + (q' : Int)) = ((p * 4294967296 + q' : Nat) : Int) := qbG (by omega)
      have m3 := qhJ (U := dgN U u1 % dgY a b) (u := u0) hq1 D.d1.pos D.y64
      obtain ⟨z1, z2⟩ := D.quo
      refine go 800 rfl ?_
      rw [m1, m2, m3]
      refine q0Y (dgN (dgN U u1 % dgY a b) u0 % dgY a b) s rfl rfl rfl rfl (by show s ≤ 64; have := D.n.s63; omega) ?_
      refine go 800 rfl ?_
      refine q08 rfl rfl rfl trivial ?_
      rw [z2, ← z1, hp, hq1]
     ·rw [q0E] at g2
      refine go 800 rfl ?_
      refine q04 ?_
      exact hN (q - 1, r + a) ⟨k2, by show r + a < _; omega⟩ (by show q - 1 < q; omega) (q03 rfl trivial rfl)
    ·rw [q0E] at g1
     refine go 800 rfl ?_
     rw [w1 (by omega), w2, w3]
     refine q02 rfl (fun g2 => ?_) (fun g2 => ?_)
     ·rw [q06] at g2
      obtain ⟨k1, k2, k3⟩ := body (.inr (by omega))
      have w4 : IntKind.u64.wrap ((q : Int) - 1) = ((q - 1 : Nat) : Int) := qjV (y := 1) k1 (by omega)
      refine go 800 rfl ?_
      rw [w4, w5]
      refine q02 rfl (fun g3 => ?_) (fun g3 => ?_)
      ·rw [q0D] at g3
       have hq1 := DD.stop k2 k3 (by omega)
       generalize q - 1 = q' at *
       refine go 800 rfl ?_
       refine q04 ?_
       have hq0lt := D.d0.qlt
       rw [← hq1] at hq0lt
       have m1 : IntKind.u64.wrap ((p : Int) * 4294967296) = ((p * 4294967296 : Nat) : Int) := qaH (y := 4294967296) (by omega)
       have m2 : IntKind.u64.wrap (((p * 4294967296 : Nat) : Int) + (q' : Int)) = ((p * 4294967296 + q' : Nat) : Int) := qbG (by omega)
       have m3 := qhJ (U := dgN U u1 % dgY a b) (u := u0) hq1 D.d1.pos D.y64
       obtain ⟨z1, z2⟩ := D.quo
       refine go 800 rfl ?_
       rw [m1, m2, m3]
       refine q0Y (dgN (dgN U u1 % dgY a b) u0 % dgY a b) s rfl rfl rfl rfl (by show s ≤ 64; have := D.n.s63; omega) ?_
       refine go 800 rfl ?_
       refine q08 rfl rfl rfl trivial ?_
       rw [z2, ← z1, hp, hq1]
      ·rw [q0E] at g3
       refine go 800 rfl ?_
       refine q04 ?_
       exact hN (q - 1, r + a) ⟨k2, by show r + a < _; omega⟩ (by show q - 1 < q; omega) (q03 rfl trivial rfl)
     ·rw [q07] at g2
      have hq1 := DD.fin hi1 (by omega)
      refine go 800 rfl ?_
      refine q04 ?_
      have hq0lt := D.d0.qlt
      rw [← hq1] at hq0lt
      have m1 : IntKind.u64.wrap ((p : Int) * 4294967296) = ((p * 4294967296 : Nat) : Int) := qaH (y := 4294967296) (by omega)
      have m2 : IntKind.u64.wrap (((p * 4294967296 : Nat) : Int) + (q : Int)) = ((p * 4294967296 + q : Nat) : Int) := qbG (by omega)
      have m3 := qhJ (U := dgN U u1 % dgY a b) (u := u0) hq1 D.d1.pos D.y64
      obtain ⟨z1, z2⟩ := D.quo
      refine go 800 rfl ?_
      rw [m1, m2, m3]
      refine q0Y (dgN (dgN U u1 % dgY a b) u0 % dgY a b) s rfl rfl rfl rfl (by show s ≤ 64; have := D.n.s63; omega) ?_
      refine go 800 rfl ?_
      refine q08 rfl rfl rfl trivial ?_
      rw [z2, ← z1, hp, hq1]
end Go.F

namespace Go.F
attribute [local irreducible] IntKind.wrap wpM
def q4i (p : List Spot) : Nat → Nat
 | 0 => 0
 | k + 1 => q4i p k + qjr (pt p k) (pt p (k + 1))
theorem qnB {p : List Spot} (h : ∀ i, i < p.length → q0v (pt p i) 1048576 = true) : ∀ k, k < p.length → q4i p k ≤ k * 4294967296 := by
 intro k
 induction k with
 | zero => intro _; simp [q4i]
 | succ k ih =>
   intro hk
   have := ih (by omega)
   have := qm5 (h k (by omega)) (h (k + 1) hk)
   rw [q4i]; omega
def q2E (p : List Spot) : Int × Int := if q1Y p = 0 then ((q4i p (p.length - 1) : Int), 0) else (0, q1Y p)
theorem q8K (p : List Spot) : PU q65 [q0o p] = some (.tup [.int .i64 (q2E p).1, .int .i64 (q2E p).2]) := by
 refine q0h (fn := q5T) rfl (q0c ?_)
 refine go 800 rfl ?_
 refine q01 rfl rfl (q92 p) ?_
 refine go 800 rfl ?_
 refine q02 rfl (fun h => ?_) (fun h => ?_)
 ·rw [q0z] at h
  refine go 800 rfl ?_
  refine q08 rfl rfl rfl trivial ?_
  rw [q2E, if_neg h]
 rw [q0A] at h
 rw [q2E, if_pos h]
 obtain ⟨n2, n40, _⟩ := q3M h
 have hin : ∀ i, i < p.length → q0v (pt p i) 1048576 = true := fun i hi => qi8 h hi
 refine go 800 rfl ?_
 refine q0q (S := fun k : Nat => ([q0o p, q00 (q4i p k), q00 (p.length - 1 : Nat), q00 k], [none, none, none, none], [0, 0, 0, 0])) (C := fun k => k ≤ p.length - 1) (m := fun k => p.length - k) 0 (Nat.zero_le _) (by omega) ?_ ?_
 ·refine q03 rfl trivial ?_
  have : IntKind.i64.wrap ((p.length : Int) - 1) = ((p.length - 1 : Nat) : Int) := by rw [wrap64 (by omega) (by omega)]; omega
  simp [q0o, q00, q4i, this]
 intro k hk N hN
 refine go 800 rfl ?_
 refine q02 rfl (fun g1 => ?_) (fun g1 => ?_)
 ·rw [q06] at g1
  have hlt : k + 1 < p.length := by omega
  have w1 : IntKind.i64.wrap ((k : Int) + 1) = ((k + 1 : Nat) : Int) := wrap64 (by omega) (by omega)
  have hin1 := hin k (by omega)
  have hin2 := hin (k + 1) hlt
  have hsl' := qm5 hin1 hin2
  have hle := qnB hin k (by omega)
  have w2 : IntKind.i64.wrap ((q4i p k : Int) + (qjr (pt p k) (pt p (k + 1)) : Int)) = (q4i p (k + 1) : Int) := by rw [wrap64 (by omega) (by omega)]; rfl
  refine go 800 rfl ?_
  refine q0k k rfl rfl rfl (q0T (by omega)) rfl ?_
  refine go 800 rfl ?_
  refine q0k (k + 1) rfl rfl w1 (q0T hlt) rfl ?_
  refine go 800 rfl ?_
  refine q01 rfl rfl (qdK (pt p k) (pt p (k + 1)) hin1 hin2) ?_
  refine go 800 rfl ?_
  rw [w2]
  refine q04 ?_
  exact hN (k + 1) (by omega) (by omega) (q03 rfl trivial (by simp [q0o, q00, w1]))
 rw [q07] at g1
 obtain rfl : k = p.length - 1 := by omega
 refine go 800 rfl ?_
 refine q04 ?_
 refine go 800 rfl ?_
 exact q08 rfl rfl rfl trivial rfl
end Go.F

namespace Go.F
attribute [local irreducible] IntKind.wrap wpM
def qdq (fr to at_ : Int) : Prop := fr < 1 ∨ 1099511627776 < fr ∨ to < 0 ∨ 1099511627776 < to ∨ at_ < 0 ∨ fr < at_
instance (a b c : Int) : Decidable (qdq a b c) := by unfold qdq; exact inferInstance
def qfg (fr to : Int) (rev : Bool) (at_ : Int) : Int × Int :=
 if qdq fr to at_ then (0, 3) else (if rev then to - q1q (at_ * to) fr else q1q (at_ * to) fr, 0)
theorem qu5 {a b : Nat} (hb : 0 < b) : q1q (a : Int) b = ((a / b + if b ≤ 2 * (a % b) then 1 else 0 : Nat) : Int) := by
 rw [q1q, if_neg (by omega)]
 have h1 := Nat.div_add_mod a b
 have h2 := Nat.mod_lt a hb
 generalize a / b = q at *
 generalize a % b = r at *
 have e : (2 * (a : Int) + b) = (2 * (r : Int) + b) + (2 * (b : Int)) * q := by
  rw [← h1]; simp only [Int.natCast_add, Int.natCast_mul]; grind
 rw [e, Int.add_mul_ediv_left _ _ (by omega)]
 split
 ·have : (2 * (r : Int) + b) / (2 * b) = 1 := by
   rw [Int.ediv_eq_iff_of_pos (by omega)]; omega
  rw [this]; omega
 ·have : (2 * (r : Int) + b) / (2 * b) = 0 := Int.ediv_eq_zero_of_lt (by omega) (by omega)
  rw [this]; omega
set_option maxHeartbeats 2000000 in
theorem qoF (fr to : Int) (rev : Bool) (at_ : Int) : PU qcI [.int .i64 fr, .int .i64 to, .bool rev, .int .i64 at_] = some (.tup [.int .i64 (qfg fr to rev at_).1, .int .i64 (qfg fr to rev at_).2]) := by
 by_cases hb : qdq fr to at_
 ·rw [qfg, if_pos hb]
  unfold qdq at hb
  refine q0h (fn := q5U) rfl (q0c ?_)
  repeat' (first
   | (refine goP 800 rfl rfl ?_)
   | (show wpM _ _ _ (Fr.ops _ _ (KOper.mk _ _ (some _) _ _ :: _) :: _) Ex.normal _ _ _ _ _; first | refine q0e rfl ?_ | refine q0j rfl ?_ | refine q05 rfl (fun _ => ?_) (fun _ => ?_))
   | (show wpM _ _ _ (Fr.code (K.cond _ _ _) :: _) Ex.normal _ _ _ _ _; first | refine q0g rfl ?_ | refine q0m rfl ?_ | refine q02 rfl (fun _ => ?_) (fun _ => ?_))
   | (show wpM _ _ _ (Fr.ops _ _ (KOper.mk _ _ none _ (KOp.pick _ _ _) :: _) :: _) Ex.normal _ _ _ _ _; refine q0G rfl (fun _ => ?_) (fun _ => ?_))
   | (show wpM _ _ _ [] _ _ _ _ _ _; refine q08 rfl rfl rfl trivial ?_))
  all_goals first
   | rfl
   | (exfalso; simp only [q06, q07] at *; omega)
 rw [qfg, if_neg hb]
 unfold qdq at hb
 obtain ⟨F, rfl⟩ : ∃ n : Nat, fr = n := ⟨fr.toNat, by omega⟩
 obtain ⟨T, rfl⟩ : ∃ n : Nat, to = n := ⟨to.toNat, by omega⟩
 obtain ⟨A, rfl⟩ : ∃ n : Nat, at_ = n := ⟨at_.toNat, by omega⟩
 have hF : 0 < F := by omega
 have hprod : A * T ≤ F * T := Nat.mul_le_mul_right _ (by omega)
 have hm := qsl A T (by omega) (by omega)
 have hquo : A * T / F ≤ T := by
  rw [Nat.div_le_iff_le_mul_add_pred hF]
  omega
 have hhi : A * T / 18446744073709551616 < F := by
  rw [Nat.div_lt_iff_lt_mul (by decide)]
  exact Nat.lt_of_le_of_lt hprod (Nat.mul_lt_mul_of_pos_left (by omega) hF)
 have hd := qsm (A * T / 18446744073709551616) (A * T % 18446744073709551616) F hhi (by omega) (Nat.mod_lt _ (by decide))
 have e0 : A * T / 18446744073709551616 * 18446744073709551616 + A * T % 18446744073709551616 = A * T := by
  have := Nat.div_add_mod (A * T) 18446744073709551616
  rw [Nat.mul_comm] at this; exact this
 rw [e0] at hd
 have hr := qu5 (a := A * T) hF
 rw [Int.natCast_mul] at hr
 rw [hr]
 have hmod := Nat.mod_lt (A * T) hF
 have w1 : IntKind.u64.wrap ((A : Nat) : Int) = (A : Int) := q0y (by omega)
 have w2 : IntKind.u64.wrap ((T : Nat) : Int) = (T : Int) := q0y (by omega)
 have w3 : IntKind.u64.wrap ((F : Nat) : Int) = (F : Int) := q0y (by omega)
 have no : ∀ {x y : Int} {P : Prop}, ¬ x < y → ltb x y = true → P := fun h g => absurd (q06.1 g) h
 generalize A * T / F = q at *
 generalize A * T % F = r at *
 have w4 : IntKind.u64.wrap (2 * (r : Int)) = ((2 * r : Nat) : Int) := qaH (x := 2) (by omega)
 have w5 : IntKind.u64.wrap ((q : Int) + 1) = ((q + 1 : Nat) : Int) := qbG (y := 1) (by omega)
 refine q0h (fn := q5U) rfl (q0c ?_)
 refine go 800 rfl ?_
 refine q05 rfl (no (by omega)) (fun _ => ?_)
 refine go 800 rfl ?_
 refine q05 rfl (no (by omega)) (fun _ => ?_)
 refine go 800 rfl ?_
 refine q05 rfl (no (by omega)) (fun _ => ?_)
 refine go 800 rfl ?_
 refine q05 rfl (no (by omega)) (fun _ => ?_)
 refine go 800 rfl ?_
 refine q05 rfl (no (by omega)) (fun _ => ?_)
 refine go 800 rfl ?_
 refine q02 rfl (no (by omega)) (fun _ => ?_)
 refine go 800 rfl ?_
 rw [w1, w2]
 refine q01 rfl rfl hm ?_
 refine go 800 rfl ?_
 rw [w3]
 refine q01 rfl rfl hd ?_
 refine go 800 rfl ?_
 rw [w4, w3]
 refine q02 rfl (fun g => ?_) (fun g => ?_)
 ·rw [q0D] at g
  have ei : (if F ≤ 2 * r then 1 else 0 : Nat) = 1 := if_pos (by omega)
  simp only [ei]
  have w6 : IntKind.i64.wrap ((q + 1 : Nat) : Int) = ((q + 1 : Nat) : Int) := wrap64 (by omega) (by omega)
  have w7 : IntKind.i64.wrap ((T : Int) - ((q + 1 : Nat) : Int)) = (T : Int) - ((q + 1 : Nat) : Int) := wrap64 (by omega) (by omega)
  refine go 800 rfl ?_
  rw [w5, w6]
  cases rev with
  | true =>
    refine q0g rfl ?_
    refine go 800 rfl ?_
    rw [w7]
    exact q08 rfl rfl rfl trivial rfl
  | false =>
    refine q0m rfl ?_
    refine go 800 rfl ?_
    exact q08 rfl rfl rfl trivial rfl
 ·rw [q0E] at g
  have ei : (if F ≤ 2 * r then 1 else 0 : Nat) = 0 := if_neg (by omega)
  simp only [ei]
  have w6 : IntKind.i64.wrap ((q : Nat) : Int) = ((q : Nat) : Int) := wrap64 (by omega) (by omega)
  have w7 : IntKind.i64.wrap ((T : Int) - ((q : Nat) : Int)) = (T : Int) - ((q : Nat) : Int) := wrap64 (by omega) (by omega)
  refine go 800 rfl ?_
  rw [w6]
  cases rev with
  | true =>
    refine q0g rfl ?_
    refine go 800 rfl ?_
    rw [w7]
    exact q08 rfl rfl rfl trivial rfl
  | false =>
    refine q0m rfl ?_
    refine go 800 rfl ?_
    exact q08 rfl rfl rfl trivial rfl
def q3T (p : Piece) (g : List Edge) (n : Ntc) : Int × Int :=
 if n.edge < 0 ∨ (p.edges.length : Int) ≤ n.edge then (0, 3)
 else if (q2E (eg p.edges n.edge.toNat).line).2 ≠ 0 then (0, (q2E (eg p.edges n.edge.toNat).line).2)
 else if (q2E (eg g n.edge.toNat).line).2 ≠ 0 then (0, (q2E (eg g n.edge.toNat).line).2)
 else qfg (q2E (eg p.edges n.edge.toNat).line).1 (q2E (eg g n.edge.toNat).line).1 false n.at_
def q5X (p : Piece) (g : List Edge) : List Ntc → Int
 | [] => 0
 | n :: l => if (q3T p g n).2 = 0 then q5X p g l else (q3T p g n).2
def q29 (p : Piece) (m : Int) : List Int × Int :=
 if (q0B p m).2 ≠ 0 then ([], (q0B p m).2)
 else if 16 < p.notches.length then ([], 5)
 else if q5X p (q0B p m).1 p.notches ≠ 0 then ([], q5X p (q0B p m).1 p.notches)
 else (p.notches.map fun n => (q3T p (q0B p m).1 n).1, 0)
theorem q5D {p : Piece} {m : Int} (h : (q0B p m).2 = 0) : (q0B p m).1.length = p.edges.length ∧ q0Q p.edges = 0 ∧ q0Q (q0B p m).1 = 0 ∧ p.corners.length = p.edges.length := by
 unfold q0B at h ⊢
 split at h
 ·cases h
 ·rename_i h1
  rw [if_neg h1]
  split at h
  ·cases h
  ·rename_i h2
   rw [if_neg h2]
   split at h
   ·cases h
   ·rename_i h3
    rw [if_neg h3]
    split at h
    ·rename_i h4; exact absurd h h4
    ·rename_i h4
     rw [if_neg h4]
     split at h
     ·rename_i h5; exact absurd h h5
     ·rename_i h5
      rw [if_neg h5]
      exact ⟨by simp [q3t], by simpa using h4, by simpa using h5, by simpa using h2⟩
set_option maxHeartbeats 4000000 in
theorem qqL (p : Piece) (m : Int) (hc : p.corners.length ≤ 1000000) :
 PU qcB [p.enc, .int .i64 m] = some (.tup [ints (q29 p m).1, edges (if (q29 p m).2 = 0 then (q0B p m).1 else []), .int .i64 (q29 p m).2]) := by
 refine q0h (fn := q8a) rfl (q0c ?_)
 refine go 800 rfl ?_
 refine q01 rfl rfl (q7R p m hc) ?_
 refine go 800 rfl ?_
 refine q02 rfl (fun h => ?_) (fun h => ?_)
 ·rw [q0z] at h
  refine go 800 rfl ?_
  refine q08 rfl rfl rfl trivial ?_
  rw [q29, if_pos h, if_neg h]; rfl
 have h : (q0B p m).2 = 0 := q0A.1 h
 obtain ⟨hg, _, _⟩ := q5D h
 have hr : q29 p m = if 16 < p.notches.length then ([], 5)
  else if q5X p (q0B p m).1 p.notches ≠ 0 then ([], q5X p (q0B p m).1 p.notches)
  else (p.notches.map fun n => (q3T p (q0B p m).1 n).1, 0) := by rw [q29, if_neg (by omega)]
 rw [hr]
 generalize (q0B p m).1 = G at *
 refine go 800 rfl ?_
 rw [List.length_map]
 refine q02 rfl (fun h2 => ?_) (fun h2 => ?_)
 ·rw [q06] at h2
  refine go 800 rfl ?_
  refine q08 rfl rfl rfl trivial ?_
  rw [if_pos (by omega)]; rfl
 rw [q07] at h2
 rw [if_neg (by omega)]
 refine go 800 rfl ?_
 rw [List.length_map]
 refine q0q (S := fun k : Nat => ([.ptr 0 0 0, edges G, .ref 2 0 k, qpt p.notches, q00 p.notches.length, q00 k], [some (.row [p.enc] 7), none, some (.row (((p.notches.take k).map fun n => (q3T p G n).1).map q00) 1), none, none, none], [0, 0, 0, 0, 0, 0])) (C := fun k => k ≤ p.notches.length ∧ q5X p G p.notches = q5X p G (p.notches.drop k)) (m := fun k => p.notches.length - k) 0 ⟨Nat.zero_le _, rfl⟩ (by omega) ?_ ?_
 ·exact q03 rfl ⟨rfl, rfl, trivial⟩ rfl
 rintro k ⟨hk, hke⟩ N hN
 refine go 800 rfl ?_
 refine q02 rfl (fun e1 => ?_) (fun e1 => ?_)
 ·rw [q06] at e1
  have hlt : k < p.notches.length := by omega
  have w1 : IntKind.i64.wrap ((k : Int) + 1) = ((k + 1 : Nat) : Int) := wrap64 (by omega) (by omega)
  have hdr : p.notches.drop k = nt p.notches k :: p.notches.drop (k + 1) := by rw [List.drop_eq_getElem_cons hlt, qtI hlt]
  have hst : (((p.notches.take (k + 1)).map fun n => (q3T p G n).1).map q00) = ((p.notches.take k).map fun n => (q3T p G n).1).map q00 ++ [q00 (q3T p G (nt p.notches k)).1] := by
   rw [List.take_succ_eq_append_getElem hlt, List.map_append, List.map_append, qtI hlt]; rfl
  have hne := qvu hlt
  rw [hdr, q5X] at hke
  generalize nt p.notches k = n at *
  have bad : (q3T p G n).2 ≠ 0 → q5X p G p.notches = (q3T p G n).2 := fun h => by rw [hke, if_neg h]
  refine go 800 rfl ?_
  refine q0k k rfl rfl rfl hne rfl ?_
  refine go 800 rfl ?_
  refine q05 rfl (fun f1 => ?_) (fun f1 => ?_)
  ·rw [q06] at f1
   have hn : q3T p G n = (0, 3) := by rw [q3T, if_pos (.inl f1)]
   rw [hn] at bad
   refine go 800 rfl ?_
   refine q0g rfl ?_
   refine go 800 rfl ?_
   refine q04 ?_
   refine go 800 rfl ?_
   refine q08 rfl rfl rfl trivial ?_
   rw [bad (by decide)]; rfl
  rw [q07] at f1
  refine go 800 rfl ?_
  rw [List.length_map]
  refine q02 rfl (fun f2 => ?_) (fun f2 => ?_)
  ·rw [q0D] at f2
   have hn : q3T p G n = (0, 3) := by rw [q3T, if_pos (.inr f2)]
   rw [hn] at bad
   refine go 800 rfl ?_
   refine q04 ?_
   refine go 800 rfl ?_
   refine q08 rfl rfl rfl trivial ?_
   rw [bad (by decide)]; rfl
  rw [q0E] at f2
  have ei : n.edge = ((n.edge.toNat : Nat) : Int) := by omega
  have hl1 : n.edge.toNat < p.edges.length := by omega
  have hl2 : n.edge.toNat < G.length := by omega
  have l1 := q8K (eg p.edges n.edge.toNat).line
  have l2 := q8K (eg G n.edge.toNat).line
  have hn0 : q3T p G n = if (q2E (eg p.edges n.edge.toNat).line).2 ≠ 0 then (0, (q2E (eg p.edges n.edge.toNat).line).2)
   else if (q2E (eg G n.edge.toNat).line).2 ≠ 0 then (0, (q2E (eg G n.edge.toNat).line).2)
   else qfg (q2E (eg p.edges n.edge.toNat).line).1 (q2E (eg G n.edge.toNat).line).1 false n.at_ := by rw [q3T, if_neg (by omega)]
  refine go 800 rfl ?_
  refine q0k n.edge.toNat rfl rfl ei (q24 hl1) rfl ?_
  refine go 800 rfl ?_
  refine q01 rfl rfl l1 ?_
  refine go 800 rfl ?_
  refine q02 rfl (fun f3 => ?_) (fun f3 => ?_)
  ·rw [q0z] at f3
   rw [if_pos f3] at hn0
   rw [hn0] at bad
   refine go 800 rfl ?_
   refine q04 ?_
   refine go 800 rfl ?_
   refine q08 rfl rfl rfl trivial ?_
   rw [bad f3, if_pos f3, if_neg f3]; rfl
  rw [q0A] at f3
  rw [if_neg (by simp [f3])] at hn0
  refine go 800 rfl ?_
  refine q0k n.edge.toNat rfl rfl ei (q24 hl2) rfl ?_
  refine go 800 rfl ?_
  refine q01 rfl rfl l2 ?_
  refine go 800 rfl ?_
  refine q02 rfl (fun f4 => ?_) (fun f4 => ?_)
  ·rw [q0z] at f4
   rw [if_pos f4] at hn0
   rw [hn0] at bad
   refine go 800 rfl ?_
   refine q04 ?_
   refine go 800 rfl ?_
   refine q08 rfl rfl rfl trivial ?_
   rw [bad f4, if_pos f4, if_neg f4]; rfl
  rw [q0A] at f4
  rw [if_neg (by simp [f4])] at hn0
  refine go 800 rfl ?_
  refine q01 rfl rfl (qoF (q2E (eg p.edges n.edge.toNat).line).1 (q2E (eg G n.edge.toNat).line).1 false n.at_) ?_
  rw [← hn0]
  refine go 800 rfl ?_
  refine q02 rfl (fun f5 => ?_) (fun f5 => ?_)
  ·rw [q0z] at f5
   refine go 800 rfl ?_
   refine q04 ?_
   refine go 800 rfl ?_
   refine q08 rfl rfl rfl trivial ?_
   rw [bad f5, if_pos f5, if_neg f5]; rfl
  rw [q0A] at f5
  rw [if_pos f5] at hke
  refine go 800 rfl ?_
  refine q1E rfl rfl rfl rfl rfl rfl (by simp; omega) (Nat.zero_le _) (by simp [q0U]; omega) ?_
  refine go 800 rfl ?_
  refine q04 ?_
  refine hN (k + 1) ⟨hlt, hke⟩ (by omega) (q03 rfl ⟨rfl, ?_, trivial⟩ ?_)
  ·rw [List.all_append, q0b q9W]; rfl
  ·rw [hst, w1]; rfl
 rw [q07] at e1
 obtain rfl : k = p.notches.length := by omega
 have hz : q5X p G p.notches = 0 := by rw [hke, List.drop_length]; rfl
 rw [hz, List.take_length]
 refine go 800 rfl ?_
 refine q04 ?_
 refine go 800 rfl ?_
 refine q08 rfl rfl rfl ⟨q3s (by simp) (q1t qln _), trivial⟩ ?_
 rw [q5n (by simp)]; rfl
theorem qgp (p : Piece) (m : Int) (hc : p.corners.length ≤ 1000000) : PU qcz [p.enc, .int .i64 m] = some (.tup [ints (q29 p m).1, .int .i64 (q29 p m).2]) := by
 have h := qqL p m hc
 refine q0h (fn := q88) rfl (q0c ?_)
 refine go 800 rfl ?_
 refine q01 rfl rfl h ?_
 refine go 800 rfl ?_
 exact q08 rfl rfl rfl trivial rfl
end Go.F

namespace Go.F
attribute [local irreducible] IntKind.wrap wpM
structure Turn where
 flip : Bool
 quarter : Int
def Turn.enc (t : Turn) : D := .agg [.bool t.flip, .int .i64 t.quarter]
end Go.F

namespace Go.F
attribute [local irreducible] IntKind.wrap wpM
theorem q7P {h : q0f} {id : Nat} {b : Blk} (hh : h id = some b) (hp : q1g (some b) = true) : q17 h id = some b := by
 unfold q17
 rw [hh, hp]; rfl
def Old4 (b1 b2 b3 b4 : Blk) (h : q0f) (z : Frz) : Prop :=
 (∃ h0 : q0f, h = upd (upd (upd (upd h0 1 (some b1)) 2 (some b2)) 3 (some b3)) 4 (some b4)) ∧ ∃ z0 : Frz, z = upd (upd (upd (upd z0 1 0) 2 0) 3 0) 4 0
theorem Old4.of {b1 b2 b3 b4 : Blk} {h : q0f} {z : Frz} (h1 : h 1 = some b1) (h2 : h 2 = some b2) (h3 : h 3 = some b3) (h4 : h 4 = some b4) (z1 : z 1 = 0) (z2 : z 2 = 0) (z3 : z 3 = 0) (z4 : z 4 = 0) : Old4 b1 b2 b3 b4 h z := by
 refine ⟨⟨h, ?_⟩, z, ?_⟩
 ·rw [q33 (f := h) h1, q33 (f := h) h2, q33 (f := h) h3, q33 (f := h) h4]
 ·rw [q33 (f := z) z1, q33 (f := z) z2, q33 (f := z) z3, q33 (f := z) z4]
theorem Old4.old {b1 b2 b3 b4 : Blk} {h : q0f} {z : Frz} (p1 : q1g (some b1) = true) (p2 : q1g (some b2) = true) (p3 : q1g (some b3) = true) (p4 : q1g (some b4) = true) (h1 : h 1 = some b1) (h2 : h 2 = some b2) (h3 : h 3 = some b3) (h4 : h 4 = some b4) (z1 : z 1 = 0) (z2 : z 2 = 0) (z3 : z 3 = 0) (z4 : z 4 = 0) : Old4 b1 b2 b3 b4 (q17 h) z :=
 Old4.of (q7P h1 p1) (q7P h2 p2) (q7P h3 p3) (q7P h4 p4) z1 z2 z3 z4
end Go.F

namespace Go.F
attribute [local irreducible] IntKind.wrap wpM
end Go.F

namespace Go.F
attribute [local irreducible] IntKind.wrap wpM
end Go.F

namespace Go.F
attribute [local irreducible] IntKind.wrap wpM
end Go.F

namespace Go.F
attribute [local irreducible] IntKind.wrap wpM
end Go.F

namespace Go.F
attribute [local irreducible] IntKind.wrap wpM
end Go.F

namespace Go.F
attribute [local irreducible] IntKind.wrap wpM
structure RSeg where
 a : Spot
 b : Spot
 w : Int
 s : Spot
def RSeg.enc (g : RSeg) : D := .agg [.int .i64 g.a.x, .int .i64 g.a.y, .int .i64 g.b.x, .int .i64 g.b.y, .int .i64 g.w, .int .i64 g.s.x, .int .i64 g.s.y]
end Go.F

namespace Go.F
attribute [local irreducible] IntKind.wrap wpM
end Go.F

namespace Go.F
attribute [local irreducible] IntKind.wrap wpM
def RSeg.mv (g : RSeg) : Seg := ⟨q27 g.a g.s, q27 g.b g.s, g.w⟩
class RSegOk (g : RSeg) : Prop where
 a : OkS g.a
 b : OkS g.b
 s : g.s.x.natAbs ≤ 4294967296 ∧ g.s.y.natAbs ≤ 4294967296
 w0 : 0 ≤ g.w
 w1 : g.w ≤ 500
end Go.F

namespace Go.F
attribute [local irreducible] IntKind.wrap wpM
def rp0 : RP := ⟨⟨false, [], []⟩, ⟨false, [], []⟩⟩
def rp (c : List RP) (i : Nat) : RP := c.getD i rp0
def onR (t : RR) (c : List RP) (i : Nat) : RP := RP.of (onP (rp c i).v (rp c (i + 1)).v t.v)
def qgX (t : RR) (c : List RP) : List RP := (List.range (c.length - 1)).map (onR t c)
def RB (k : Nat) (c : List RP) : Prop := ∀ p ∈ c, SzP p k
theorem qou {c : List RP} {i : Nat} (h : i < c.length) : rp c i = c[i] := by simp [rp, h]
theorem RB.at {k : Nat} {c : List RP} (h : RB k c) {i : Nat} (hi : i < c.length) : SzP (rp c i) k := by
 rw [qou hi]; exact h _ (List.getElem_mem _)
theorem RB.next {k kt : Nat} {t : RR} {c : List RP} (h : RB k c) (ht : SzR t kt) : RB (3 * k + kt + 6) (qgX t c) := by
 intro p hp
 simp only [qgX, List.mem_map, List.mem_range] at hp
 obtain ⟨i, hi, rfl⟩ := hp
 have h1 := h.at (i := i) (by omega)
 have h2 := h.at (i := i + 1) (by omega)
 have e : 3 * k + kt + 6 = (k + 1) + (((k + 1) + (k + 1) + 1) + (kt + 1)) + 1 := by omega
 rw [e]
 unfold onR
 infer_instance
section
variable {t : q0u} {h : q0f} {z : Frz} {nx : Nat}
end
end Go.F

namespace Go.F
attribute [local irreducible] IntKind.wrap wpM
end Go.F

namespace Go.F
section
variable {T : Tab} {sh : Shr} {nx0 : Nat} {s : List Fr} {t : q0u} {h : q0f} {z : Frz} {nx : Nat} {q : Ex → q0u → q0f → Frz → Nat → Prop}
variable {base i : Nat} {res : List Nat} {g : Gd} {rest : List KOper}
def qbs (t : q0u) : Live → List Rep → q0f → Frz → Option (List Obl × q0f × Frz)
 | [], _, h, z => some ([], h, z)
 | x :: rest, reps, h, z =>
   match q2V (t x.1) with
   | none =>
     match plain 4 (t x.1) with
     | true => qbs t rest reps h z
     | false => none
   | some id =>
     match h id with
     | some (.row es esz) =>
       match reps with
       | [] => none
       | none :: reps =>
         match qbs t rest reps h z with
         | some (o, h', z') => some (.p es :: o, h', z')
         | none => none
       | some (l, rs) :: reps =>
         match qbs t rest reps (upd h id (some (.row l esz))) (qaJ h z rs) with
         | some (o, h', z') => some (.s h es l rs :: o, h', z')
         | none => none
     | some (.mp _ vs) =>
       match qbs t rest reps h z with
       | some (o, h', z') => some (.p vs :: o, h', z')
       | none => none
     | none => qbs t rest reps h z
theorem qsO {t : q0u} : ∀ {live : Live} {reps : List Rep} {h : q0f} {z : Frz} {o : List Obl} {h' : q0f} {z' : Frz} {k : q0f → Frz → Prop}, qbs t live reps h z = some (o, h', z') → qgM o → k h' z' → q2Q live t h z k := by
 intro live
 induction live with
 | nil => intro reps h z o h' z' k hr _ hk; simp only [qbs, Option.some.injEq, Prod.mk.injEq] at hr; obtain ⟨_, rfl, rfl⟩ := hr; exact hk
 | cons x live ih =>
   intro reps h z o h' z' k hr ho hk
   simp only [qbs] at hr
   simp only [q2Q]
   cases hid : q2V (t x.1) with
   | none =>
     rw [hid] at hr
     simp only at hr ⊢
     cases hb : plain 4 (t x.1) with
     | true => rw [hb] at hr; exact ih hr ho hk
     | false => rw [hb] at hr; cases hr
   | some id =>
     rw [hid] at hr
     simp only at hr ⊢
     cases hb : h id with
     | none => rw [hb] at hr; exact ih hr ho hk
     | some b =>
       rw [hb] at hr
       cases b with
       | mp ks vs =>
         simp only at hr ⊢
         cases hx : qbs t live reps h z with
         | none => rw [hx] at hr; cases hr
         | some y =>
           obtain ⟨o1, h1, z1⟩ := y
           rw [hx] at hr
           simp only [Option.some.injEq, Prod.mk.injEq] at hr
           obtain ⟨rfl, rfl, rfl⟩ := hr
           exact q1p ho.1 (ih hx ho.2 hk)
       | row es esz =>
         simp only at hr ⊢
         match reps, hr with
         | none :: reps, hr =>
           simp only at hr
           cases hx : qbs t live reps h z with
           | none => rw [hx] at hr; cases hr
           | some y =>
             obtain ⟨o1, h1, z1⟩ := y
             rw [hx] at hr
             simp only [Option.some.injEq, Prod.mk.injEq] at hr
             obtain ⟨rfl, rfl, rfl⟩ := hr
             unfold qaX
             exact .inl ⟨ho.1, ih hx ho.2 hk⟩
         | some (l, rs) :: reps, hr =>
           simp only at hr
           cases hx : qbs t live reps (upd h id (some (.row l esz))) (qaJ h z rs) with
           | none => rw [hx] at hr; cases hr
           | some y =>
             obtain ⟨o1, h1, z1⟩ := y
             rw [hx] at hr
             simp only [Option.some.injEq, Prod.mk.injEq] at hr
             obtain ⟨rfl, rfl, rfl⟩ := hr
             obtain ⟨g1, g2, g3, g4⟩ := ho.1
             unfold qaX
             exact .inr ⟨l, rs, g1, g2, g3, g4, ih hx ho.2 hk⟩
def setZ (live : Live) (reps : List Rep) (t : q0u) (h : q0f) (z : Frz) (nx : Nat) : Option (List Obl × Kept) :=
 match qbC live t h z nx with
 | (t, h, z) =>
   match qbs t live reps h z with
   | some (o, h', z') => fL1 (q9R 0 (q0x t live) t live) fun vs => fLi (q9S 0 (q0x t live) h' (q0x t live) 0) fun bs => fLi (qfu 0 (q0x t live) z' (q0x t live) 0) fun zs => some (o, vs, bs, zs)
   | none => none
theorem qq2 {live : Live} (reps : List Rep) {o : List Obl} {kp : Kept} {K : Kept → Prop} (hs : setZ live reps t h z nx = some (o, kp)) (hp : qgM o) (hk : K kp) (hnst : q6u live = false := by rfl) : q0Z 0 live t h z nx fun _ _ kp => K kp := by
 unfold setZ at hs
 split at hs
 rename_i t1 h1 z1 hn
 split at hs
 ·rename_i o1 h2 z2 hr
  simp only [q5w, qjM, Option.some.injEq, Prod.mk.injEq] at hs
  obtain ⟨rfl, rfl⟩ := hs
  unfold q0Z
  simp only [hnst]
  unfold q75
  refine qfV _ _ _ _ _ _ fun nx' => ?_
  rw [hn]
  refine qsO hr hp ?_
  rw [q6K, q6L]
  exact hk
 ·cases hs
def qeC (m : List (ByteArray × D)) (s : ByteArray) : Option D := (m.find? fun p => s == p.1).map (·.2)
theorem q99 (m : List (ByteArray × D)) (s : ByteArray) : ∀ n, match findKey s (m.map (·.1)) n with
 | some i => n ≤ i ∧ ∃ v, (m.map (·.2))[i - n]? = some v ∧ qeC m s = some v
 | none => qeC m s = none := by
 induction m with
 | nil => intro n; rfl
 | cons p m ih =>
   intro n
   simp only [List.map_cons, findKey]
   by_cases e : (s == p.1) = true
   ·rw [if_pos e]
    refine ⟨Nat.le_refl _, p.2, by simp, by simp [qeC, List.find?_cons, e]⟩
   ·rw [if_neg e]
    have h := ih (n + 1)
    have em : qeC (p :: m) s = qeC m s := by
     unfold qeC; rw [List.find?_cons]
     simp only [Bool.not_eq_true] at e
     rw [e]
    cases hf : findKey s (m.map (·.1)) (n + 1) with
    | none => rw [hf] at h; simp only at h ⊢; rw [em]; exact h
    | some i =>
      rw [hf] at h
      simp only at h ⊢
      obtain ⟨h1, v, h2, h3⟩ := h
      refine ⟨by omega, v, ?_, by rw [em]; exact h3⟩
      have : i - n = (i - (n + 1)) + 1 := by omega
      rw [this, List.getElem?_cons_succ]; exact h2
theorem atPut {mx kx vx : X} {dst : Option Nat} {m : List (ByteArray × D)} {st : ByteArray} {id : Nat} (hx : mx.ev t = .mref id) (hh : g.h base h id = some (.mp (m.map (·.1)) (m.map (·.2)))) (hz : g.z base z id = 0) (hkx : kx.ev t = .str st) (hn : qeC m st = none)
 (hk : wpM T sh nx0 (.ops base res rest :: s) .normal (put t dst (.tup [])) (upd h id (some (.mp ((m ++ [(st, vx.ev t)]).map (·.1)) ((m ++ [(st, vx.ev t)]).map (·.2))))) z nx q) :
 wpM T sh nx0 (.ops base res (⟨i, dst, none, g, .mapset mx kx vx⟩ :: rest) :: s) .normal t h z nx q := by
 refine q4A ?_
 have hf := q99 m st 0
 simp only [kop, qi5, hx, hh, hkx, hz, qlH]
 cases hk' : findKey st (m.map (·.1)) 0 with
 | none => rw [List.map_append, List.map_append] at hk; exact hk
 | some j =>
   rw [hk'] at hf
   obtain ⟨_, v, h2, h3⟩ := hf
   rw [hn] at h3; cases h3
end
end Go.F

namespace Go.F
attribute [local irreducible] IntKind.wrap wpM
section
variable {T : Tab} {sh : Shr} {nx0 : Nat} {s : List Fr} {t : q0u} {h : q0f} {z : Frz} {nx : Nat} {q : Ex → q0u → q0f → Frz → Nat → Prop}
variable {base i : Nat} {res : List Nat} {g : Gd} {rest : List KOper}
end
def q2B (n : Nat) : Bool := (decide (65 ≤ n) && decide (n ≤ 90)) || (decide (48 ≤ n) && decide (n ≤ 57))
def sizeS (s : ByteArray) : Bool := decide (1 ≤ s.size) && (decide (s.size ≤ 8) && decide (∀ i, i < s.size → q2B (q23 s i).toNat = true))
theorem qoa {s : ByteArray} {k : Nat} (hk : k < s.size) (h : q2B (q23 s k).toNat = false) : sizeS s = false := by
 unfold sizeS
 rw [Bool.and_eq_false_iff, Bool.and_eq_false_iff]
 right; right
 rw [decide_eq_false_iff_not]
 intro g
 rw [g k hk] at h; cases h
theorem q1j (n : Nat) : q2B n = ((leb 65 n && leb n 90) || (leb 48 n && leb n 57)) := by
 simp only [q2B, q1I]
 congr 1
 ·congr 1 <;> (apply decide_eq_decide.2; omega)
 ·congr 1 <;> (apply decide_eq_decide.2; omega)
set_option maxHeartbeats 2000000 in
theorem qhW (s : ByteArray) (hs : s.size ≤ 1000000) : PU qcH [.str s] = some (.bool (sizeS s)) := by
 refine q0h (fn := q8e) rfl (q0c ?_)
 refine go 800 rfl ?_
 refine q0q (S := fun k : Nat => ([.str s, q00 s.size, q00 k], [none, none, none], [0, 0, 0])) (C := fun k => k ≤ s.size ∧ ∀ i, i < k → q2B (q23 s i).toNat = true) (m := fun k => s.size - k) 0 ⟨by omega, fun i hi => by omega⟩ (by omega) ?_ ?_
 ·exact q03 rfl trivial (by simp [q00])
 intro k ⟨hk, hall⟩ N hN
 refine go 800 rfl ?_
 refine q02 rfl (fun g1 => ?_) (fun g1 => ?_)
 ·rw [q06] at g1
  have hlt : k < s.size := by omega
  have w1 : IntKind.i64.wrap ((k : Int) + 1) = ((k + 1 : Nat) : Int) := wrap64 (by omega) (by omega)
  have hb := q6w hlt
  have hno := qoa hlt
  have hyes : q2B (q23 s k).toNat = true → ∀ i, i < k + 1 → q2B (q23 s i).toNat = true := by
   intro h i hi
   by_cases e : i = k
   ·subst e; exact h
   ·exact hall i (by omega)
  generalize q23 s k = c at *
  refine go 800 rfl ?_
  refine q1U k rfl rfl rfl hb ?_
  refine go 800 rfl ?_
  refine q05 rfl (fun a1 => ?_) (fun a1 => ?_)
  ·refine go 800 rfl ?_
   refine q1U k rfl rfl rfl hb ?_
   refine go 800 rfl ?_
   refine q1U k rfl rfl rfl hb ?_
   refine go 800 rfl ?_
   refine q05 rfl (fun d1 => ?_) (fun d1 => ?_)
   ·refine go 800 rfl ?_
    refine q1U k rfl rfl rfl hb ?_
    refine go 800 rfl ?_
    refine q05 rfl (fun e1 => ?_) (fun e1 => ?_)
    ·refine go 800 rfl ?_
     refine q02 rfl (fun e2 => ?_) (fun e2 => ?_)
     ·have hc : q2B c.toNat = false := by rw [q1j]; simp_all
      refine go 800 rfl ?_
      refine q04 ?_
      refine go 800 rfl ?_
      refine q08 rfl rfl rfl trivial ?_
      rw [hno hc]
     ·have hc : q2B c.toNat = true := by rw [q1j]; simp_all
      refine go 800 rfl ?_
      refine q04 ?_
      exact hN (k + 1) ⟨hlt, hyes hc⟩ (by omega) (q03 rfl trivial (by simp [q00, w1]))
    ·refine go 800 rfl ?_
     refine q0m rfl ?_
     have hc : q2B c.toNat = true := by rw [q1j]; simp_all
     refine go 800 rfl ?_
     refine q04 ?_
     exact hN (k + 1) ⟨hlt, hyes hc⟩ (by omega) (q03 rfl trivial (by simp [q00, w1]))
   ·refine go 800 rfl ?_
    refine q05 rfl (fun e1 => ?_) (fun e1 => ?_)
    ·refine go 800 rfl ?_
     refine q02 rfl (fun e2 => ?_) (fun e2 => ?_)
     ·have hc : q2B c.toNat = false := by rw [q1j]; simp_all
      refine go 800 rfl ?_
      refine q04 ?_
      refine go 800 rfl ?_
      refine q08 rfl rfl rfl trivial ?_
      rw [hno hc]
     ·have hc : q2B c.toNat = true := by rw [q1j]; simp_all
      refine go 800 rfl ?_
      refine q04 ?_
      exact hN (k + 1) ⟨hlt, hyes hc⟩ (by omega) (q03 rfl trivial (by simp [q00, w1]))
    ·refine go 800 rfl ?_
     refine q0m rfl ?_
     have hc : q2B c.toNat = true := by rw [q1j]; simp_all
     refine go 800 rfl ?_
     refine q04 ?_
     exact hN (k + 1) ⟨hlt, hyes hc⟩ (by omega) (q03 rfl trivial (by simp [q00, w1]))
  ·refine go 800 rfl ?_
   refine q1U k rfl rfl rfl hb ?_
   refine go 800 rfl ?_
   refine q05 rfl (fun d1 => ?_) (fun d1 => ?_)
   ·refine go 800 rfl ?_
    refine q1U k rfl rfl rfl hb ?_
    refine go 800 rfl ?_
    refine q05 rfl (fun e1 => ?_) (fun e1 => ?_)
    ·refine go 800 rfl ?_
     refine q02 rfl (fun e2 => ?_) (fun e2 => ?_)
     ·have hc : q2B c.toNat = false := by rw [q1j]; simp_all
      refine go 800 rfl ?_
      refine q04 ?_
      refine go 800 rfl ?_
      refine q08 rfl rfl rfl trivial ?_
      rw [hno hc]
     ·have hc : q2B c.toNat = true := by rw [q1j]; simp_all
      refine go 800 rfl ?_
      refine q04 ?_
      exact hN (k + 1) ⟨hlt, hyes hc⟩ (by omega) (q03 rfl trivial (by simp [q00, w1]))
    ·refine go 800 rfl ?_
     refine q0m rfl ?_
     have hc : q2B c.toNat = true := by rw [q1j]; simp_all
     refine go 800 rfl ?_
     refine q04 ?_
     exact hN (k + 1) ⟨hlt, hyes hc⟩ (by omega) (q03 rfl trivial (by simp [q00, w1]))
   ·refine go 800 rfl ?_
    refine q05 rfl (fun e1 => ?_) (fun e1 => ?_)
    ·refine go 800 rfl ?_
     refine q02 rfl (fun e2 => ?_) (fun e2 => ?_)
     ·have hc : q2B c.toNat = false := by rw [q1j]; simp_all
      refine go 800 rfl ?_
      refine q04 ?_
      refine go 800 rfl ?_
      refine q08 rfl rfl rfl trivial ?_
      rw [hno hc]
     ·have hc : q2B c.toNat = true := by rw [q1j]; simp_all
      refine go 800 rfl ?_
      refine q04 ?_
      exact hN (k + 1) ⟨hlt, hyes hc⟩ (by omega) (q03 rfl trivial (by simp [q00, w1]))
    ·refine go 800 rfl ?_
     refine q0m rfl ?_
     have hc : q2B c.toNat = true := by rw [q1j]; simp_all
     refine go 800 rfl ?_
     refine q04 ?_
     exact hN (k + 1) ⟨hlt, hyes hc⟩ (by omega) (q03 rfl trivial (by simp [q00, w1]))
 rw [q07] at g1
 obtain rfl : k = s.size := by omega
 have hA : decide (∀ i, i < s.size → q2B (q23 s i).toNat = true) = true := decide_eq_true hall
 refine go 800 rfl ?_
 refine q04 ?_
 refine go 800 rfl ?_
 refine q05 rfl (fun h1 => ?_) (fun h1 => ?_)
 ·rw [q0D] at h1
  refine go 800 rfl ?_
  refine q08 rfl rfl rfl trivial ?_
  rw [sizeS, hA, q1I, decide_eq_true (show 1 ≤ s.size by omega)]
  simp
  omega
 ·rw [q0E] at h1
  refine go 800 rfl ?_
  refine q08 rfl rfl rfl trivial ?_
  rw [sizeS, decide_eq_false (show ¬ 1 ≤ s.size by omega)]; rfl
theorem qbA (s : ByteArray) : PU q8B [.str s] = some (.bool (q1L s)) := by
 refine q0h (fn := q86) rfl (q0c ?_)
 refine go 800 rfl ?_
 refine q01 rfl rfl (qa1 s) ?_
 repeat' (first
  | (refine goP 800 rfl rfl ?_)
  | (show wpM _ _ _ (Fr.ops _ _ (KOper.mk _ _ (some _) _ _ :: _) :: _) Ex.normal _ _ _ _ _; first | refine q0e rfl ?_ | refine q0j rfl ?_ | refine q05 rfl (fun _ => ?_) (fun _ => ?_))
  | (show wpM _ _ _ (Fr.code (K.cond _ _ _) :: _) Ex.normal _ _ _ _ _; first | refine q0g rfl ?_ | refine q0m rfl ?_ | refine q02 rfl (fun _ => ?_) (fun _ => ?_))
  | (show wpM _ _ _ (Fr.ops _ _ (KOper.mk _ _ none _ (KOp.pick _ _ _) :: _) :: _) Ex.normal _ _ _ _ _; refine q0G rfl (fun _ => ?_) (fun _ => ?_))
  | (show wpM _ _ _ [] _ _ _ _ _ _; refine q08 rfl rfl rfl trivial ?_))
 cases q1L s <;> simp [eqb]
theorem qkk (s : ByteArray) : PU q3H [.lst [], .str s] = some (.int .i64 (-1)) := by
 refine q0h (fn := q2d) rfl (q0c ?_)
 refine go 800 rfl ?_
 refine q0q (S := fun k : Nat => ([.lst [], .str s, q00 0, q00 k], [none, none, none, none], [0, 0, 0, 0])) (C := fun k => k = 0) (m := fun k => 0) 0 rfl (by omega) ?_ ?_
 ·exact q03 rfl trivial rfl
 rintro k rfl N hN
 refine go 800 rfl ?_
 refine q02 rfl (fun g => absurd (q06.1 g) (by simp)) (fun _ => ?_)
 refine go 800 rfl ?_
 refine q04 ?_
 refine go 800 rfl ?_
 exact q08 rfl rfl rfl trivial rfl
theorem qgJ (s : ByteArray) : PU q34 [.lst [], .str s] = some (.bool false) := by
 refine q0h (fn := q1S) rfl (q0c ?_)
 refine go 800 rfl ?_
 refine q01 rfl rfl (qkk s) ?_
 refine go 800 rfl ?_
 refine q08 rfl rfl rfl trivial ?_
 rw [q1I]; rfl
def qgK (s : ByteArray) : D := .agg [.lst [.str s], .int .i64 0, .lst []]
theorem qpx (s : ByteArray) : PU qbm [qgK s, .int .i64 0] = some (.bool true) := by
 refine q0h (fn := q7k) rfl (q0c ?_)
 repeat' (first
  | (refine goP 800 rfl rfl ?_)
  | (show wpM _ _ _ (Fr.ops _ _ (KOper.mk _ _ (some _) _ _ :: _) :: _) Ex.normal _ _ _ _ _; first | refine q0e rfl ?_ | refine q0j rfl ?_ | refine q05 rfl (fun _ => ?_) (fun _ => ?_))
  | (show wpM _ _ _ (Fr.code (K.cond _ _ _) :: _) Ex.normal _ _ _ _ _; first | refine q0g rfl ?_ | refine q0m rfl ?_ | refine q02 rfl (fun _ => ?_) (fun _ => ?_))
  | (show wpM _ _ _ (Fr.ops _ _ (KOper.mk _ _ none _ (KOp.pick _ _ _) :: _) :: _) Ex.normal _ _ _ _ _; refine q0G rfl (fun _ => ?_) (fun _ => ?_))
  | (show wpM _ _ _ [] _ _ _ _ _ _; refine q08 rfl rfl rfl trivial ?_))
 all_goals (first | rfl | (simp_all [q1I, q1H]; done) | (simp only [q0E, q07] at *; omega))
set_option maxHeartbeats 4000000 in
theorem qjL (s : ByteArray) (hs : s.size ≤ 1000000) : PU qdP [qgK s] = some (.int .i64 (if sizeS s then 0 else 1)) := by
 have hz := qhW s hs
 refine q0h (fn := q9n) rfl (q0c ?_)
 refine go 800 rfl ?_
 refine q05 rfl (fun g => absurd (q06.1 g) (by simp)) (fun _ => ?_)
 refine go 800 rfl ?_
 refine q02 rfl (fun g => absurd (q06.1 g) (by simp)) (fun _ => ?_)
 refine go 800 rfl ?_
 refine q02 rfl (fun g => absurd (q12.1 g) (by simp)) (fun _ => ?_)
 refine go 800 rfl ?_
 refine q0q (S := fun k : Nat => ([.ptr 0 0 0, .lst [.str s], q00 1, q00 k], [some (.row [qgK s] 3), none, none, none], [0, 0, 0, 0])) (C := fun k => k ≤ 1 ∧ (k = 1 → sizeS s = true)) (m := fun k => 1 - k) 0 ⟨by omega, fun h => by omega⟩ (by omega) ?_ ?_
 ·exact q03 rfl ⟨rfl, trivial⟩ rfl
 rintro k ⟨hk, hks⟩ N hN
 refine go 800 rfl ?_
 refine q02 rfl (fun g => ?_) (fun g => ?_)
 ·rw [q06] at g
  obtain rfl : k = 0 := by omega
  refine go 800 rfl ?_
  refine q0k 0 rfl rfl rfl rfl rfl ?_
  refine go 800 rfl ?_
  refine q01 rfl rfl hz ?_
  cases hv : sizeS s with
  | false =>
    refine go 800 rfl ?_
    refine q0g rfl ?_
    refine go 800 rfl ?_
    refine q04 ?_
    refine go 800 rfl ?_
    exact q08 rfl rfl rfl trivial rfl
  | true =>
    refine go 800 rfl ?_
    refine q0m rfl ?_
    refine go 800 rfl ?_
    refine q04 ?_
    refine hN 1 ⟨by omega, fun _ => hv⟩ (by omega) (q03 rfl ⟨rfl, trivial⟩ ?_)
    have w : IntKind.i64.wrap (((0 : Nat) : Int) + 1) = ((1 : Nat) : Int) := wrap64 (by omega) (by omega)
    rw [w]; rfl
 rw [q07] at g
 obtain rfl : k = 1 := by omega
 clear hN
 rw [hks rfl]
 refine go 800 rfl ?_
 refine q04 ?_
 refine go 800 rfl ?_
 refine q0q (S := fun k : Nat => ([.ptr 0 0 0, .lst [], q00 0, q00 0], [some (.row [qgK s] 3), none, none, none], [0, 0, 0, 0])) (C := fun k => k = 0) (m := fun k => 0) 0 rfl (by omega) ?_ ?_
 ·exact q03 rfl ⟨rfl, trivial⟩ rfl
 rintro k rfl N hN
 refine go 800 rfl ?_
 refine q02 rfl (fun g => absurd (q06.1 g) (by simp)) (fun _ => ?_)
 clear hN
 refine go 800 rfl ?_
 refine q04 ?_
 refine go 800 rfl ?_
 refine q0q (S := fun k : Nat => ([.ptr 0 0 0, .lst [.str s], q00 1, q00 k], [some (.row [qgK s] 3), none, none, none], [0, 0, 0, 0])) (C := fun k => k ≤ 1) (m := fun k => 1 - k) 0 (by omega) (by omega) ?_ ?_
 ·exact q03 rfl ⟨rfl, trivial⟩ rfl
 intro k hk N hN
 refine go 800 rfl ?_
 refine q02 rfl (fun g => ?_) (fun g => ?_)
 ·rw [q06] at g
  obtain rfl : k = 0 := by omega
  refine go 800 rfl ?_
  refine q0k 0 rfl rfl rfl rfl rfl ?_
  refine go 800 rfl ?_
  refine qdM 0 rfl rfl ⟨_, _, rfl, rfl⟩ (Nat.zero_le _) ?_
  refine go 800 rfl ?_
  refine q01 rfl rfl (qgJ s) ?_
  refine go 800 rfl ?_
  refine q0m rfl ?_
  refine go 800 rfl ?_
  refine q04 ?_
  refine hN 1 (by omega) (by omega) (q03 rfl ⟨rfl, trivial⟩ ?_)
  have w : IntKind.i64.wrap (((0 : Nat) : Int) + 1) = ((1 : Nat) : Int) := wrap64 (by omega) (by omega)
  rw [w]; rfl
 rw [q07] at g
 clear hN
 refine go 800 rfl ?_
 refine q04 ?_
 refine go 800 rfl ?_
 refine q0q (S := fun k : Nat => ([.ptr 0 0 0, .lst [], q00 0, q00 0], [some (.row [qgK s] 3), none, none, none], [0, 0, 0, 0])) (C := fun k => k = 0) (m := fun k => 0) 0 rfl (by omega) ?_ ?_
 ·exact q03 rfl ⟨rfl, trivial⟩ rfl
 rintro k rfl N hN
 refine go 800 rfl ?_
 refine q02 rfl (fun g => absurd (q06.1 g) (by simp)) (fun _ => ?_)
 clear hN
 refine go 800 rfl ?_
 refine q04 ?_
 refine go 800 rfl ?_
 refine q01 rfl rfl (qpx s) ?_
 refine go 800 rfl ?_
 refine q0m rfl ?_
 refine go 800 rfl ?_
 exact q08 rfl rfl rfl trivial rfl
theorem qhX (s : ByteArray) (hs : s.size ≤ 1000000) : PU qcy [.str s] = some (.bool (sizeS s)) := by
 have hz := qjL s hs
 refine q0h (fn := q87) rfl (q0c ?_)
 refine go 800 rfl ?_
 refine q58 rfl rfl ⟨⟨Nat.le_refl _, rfl⟩, trivial⟩ hz rfl ?_
 refine go 800 rfl ?_
 refine q08 rfl rfl rfl trivial ?_
 cases sizeS s <;> simp [q2i]
theorem qmy (l : List Int) (v : Int) (hl : l.length ≤ 1000000) : PU q64 [ints l, .int .i64 v] = some (.int .i64 (qcu (fun x => decide (v = x)) l)) := by
 refine q0h (fn := q3o) rfl (q0c ?_)
 refine go 800 rfl ?_
 rw [List.length_map]
 refine q0q (S := fun k : Nat => ([ints l, .int .i64 v, q00 l.length, q00 k], [none, none, none, none], [0, 0, 0, 0])) (C := fun k => k ≤ l.length ∧ ∀ j (hj : j < l.length), j < k → decide (v = l[j]) = false) (m := fun k => l.length - k) 0 ⟨Nat.zero_le _, fun j _ h => by omega⟩ (by omega) ?_ ?_
 ·exact q03 rfl trivial (by simp [ints, q00])
 rintro k ⟨hk, hno⟩ N hN
 refine go 800 rfl ?_
 refine q02 rfl (fun g => ?_) (fun g => ?_)
 ·rw [q06] at g
  have hlt : k < l.length := by omega
  have w1 : IntKind.i64.wrap ((k : Int) + 1) = ((k + 1 : Nat) : Int) := wrap64 (by omega) (by omega)
  refine go 800 rfl ?_
  refine q0k k rfl rfl rfl (q1J hlt) rfl ?_
  refine go 800 rfl ?_
  refine q02 rfl (fun e => ?_) (fun e => ?_)
  ·rw [q12] at e
   refine go 800 rfl ?_
   refine q04 ?_
   refine go 800 rfl ?_
   refine q08 rfl rfl rfl trivial ?_
   rw [qeu hlt hno (decide_eq_true e)]
  ·rw [q1a] at e
   refine go 800 rfl ?_
   refine q04 ?_
   refine hN (k + 1) ⟨hlt, fun j hj hjk => ?_⟩ (by omega) (q03 rfl trivial (by simp [ints, q00, w1]))
   by_cases ej : j = k
   ·subst ej; exact decide_eq_false e
   ·exact hno j hj (by omega)
 rw [q07] at g
 obtain rfl : k = l.length := by omega
 refine go 800 rfl ?_
 refine q04 ?_
 refine go 800 rfl ?_
 refine q08 rfl rfl rfl trivial ?_
 rw [qev fun j hj => hno j hj hj]
theorem qhY (l : List Int) (v : Int) (hl : l.length ≤ 1000000) : PU q4D [ints l, .int .i64 v] = some (.bool (decide (v ∈ l))) := by
 have h := qmy l v hl
 have e : decide (v ∈ l) = decide (0 ≤ qcu (fun x => decide (v = x)) l) := by
  rw [qaK]
  rw [Bool.eq_iff_iff]
  simp
 refine q0h (fn := q2H) rfl (q0c ?_)
 refine go 800 rfl ?_
 refine q01 rfl rfl h ?_
 refine go 800 rfl ?_
 refine q08 rfl rfl rfl trivial ?_
 rw [e, q1I]
end Go.F

namespace Go.F
attribute [local irreducible] IntKind.wrap wpM
section
variable {T : Tab} {sh : Shr} {nx0 : Nat} {s : List Fr} {t : q0u} {h : q0f} {z : Frz} {nx : Nat} {q : Ex → q0u → q0f → Frz → Nat → Prop}
variable {base i : Nat} {res : List Nat} {g : Gd} {rest : List KOper}
theorem quM {zv : D} {x kx : X} {dst : Nat} {m : List (ByteArray × D)} {st : ByteArray} {id : Nat} (hx : x.ev t = .mref id) (hh : g.h base h id = some (.mp (m.map (·.1)) (m.map (·.2)))) (hkx : kx.ev t = .str st)
 (hs : ∀ v, qeC m st = some v → wpM T sh nx0 (.ops base res rest :: s) .normal (upd t dst v) h z nx q)
 (hn : qeC m st = none → wpM T sh nx0 (.ops base res rest :: s) .normal (upd t dst zv) h z nx q) :
 wpM T sh nx0 (.ops base res (⟨i, some dst, none, g, .lookup zv x kx false⟩ :: rest) :: s) .normal t h z nx q := by
 refine q4A ?_
 have hf := q99 m st 0
 simp only [kop, qft, hx, hh, q6E, hkx, qlH]
 cases hk : findKey st (m.map (·.1)) 0 with
 | none => rw [hk] at hf; exact hn hf
 | some j =>
   rw [hk] at hf
   obtain ⟨_, v, h2, h3⟩ := hf
   exact q9f h2 (hs v h3)
end
theorem quN {a b : ByteArray} (h : a.toList = b.toList) : a = b := by
 rw [Go.ByteArray.toList_eq, Go.ByteArray.toList_eq] at h
 exact ByteArray.ext (Array.ext' h)
theorem ba_eq2 (a b : ByteArray) : (a == b) = (a.toList == b.toList) := by
 have e : (a == b) = (a.data == b.data) := rfl
 rw [e, Bool.eq_iff_iff, beq_iff_eq, beq_iff_eq]
 exact ⟨fun h => by rw [Go.ByteArray.toList_eq, Go.ByteArray.toList_eq, h], fun h => by rw [quN h]⟩
def q7b (l : List ByteArray) : List (ByteArray × D) := l.map fun x => (x, D.bool true)
theorem qpy (l : List ByteArray) (x : ByteArray) : q7b (l ++ [x]) = q7b l ++ [(x, .bool true)] := by simp [q7b]
theorem qrR (l : List ByteArray) (s : ByteArray) : qeC (q7b l) s = cond (l.any fun x => x.toList == s.toList) (some (.bool true)) none := by
 induction l with
 | nil => rfl
 | cons x l ih =>
   unfold qeC q7b at *
   simp only [List.map_cons, List.find?_cons, List.any_cons]
   rw [ba_eq2, Bool.beq_comm]
   cases x.toList == s.toList with
   | true => rfl
   | false => exact ih
theorem qob (l : List ByteArray) : ((q7b l).map (·.2)).all (plain 4) = true := by
 unfold q7b; rw [List.map_map]; exact q0b (fun _ => rfl) _
def q4o (l : List ByteArray) : Bool := (List.range l.length).any fun i => (l.take i).any fun x => x.toList == (sz l i).toList
def q26 (s : Sty) : Int :=
 if q1L s.name = false ∨ s.sizes.length = 0 then 1
 else if s.sizes.any (fun x => !sizeS x) then 1
 else if s.mults.length ≠ s.sizes.length ∨ 0 ∉ s.mults then 1
 else if q4o s.sizes then 7
 else if 12 < s.sizes.length ∨ 12 < s.pieces.length ∨ 12 < s.uses.length then 5
 else if 24 < s.seams.length ∨ 16 < s.ops.length then 5
 else if s.mults.any (fun m => decide (m < -100) || decide (100 < m)) then 3 else 0
structure StyB (s : Sty) : Prop where
 sizes : s.sizes.length ≤ 1000
 size : ∀ x ∈ s.sizes, x.size ≤ 1000
 mults : s.mults.length ≤ 1000
 pieces : s.pieces.length ≤ 1000
 uses : s.uses.length ≤ 1000
 seams : s.seams.length ≤ 1000
 ops : s.ops.length ≤ 1000
 corners : ∀ p ∈ s.pieces, p.corners.length ≤ 1000
 widths : ∀ p ∈ s.pieces, p.widths.length ≤ 1000
 notches : ∀ p ∈ s.pieces, p.notches.length ≤ 1000
theorem qbd (s : Sty) : s.enc = .agg [.str s.name, .lst (s.sizes.map .str), .lst (s.mults.map q00), .lst (s.pieces.map Piece.enc), .lst (s.uses.map Use.enc), .lst (s.seams.map Sew.enc), .lst (s.ops.map Opn.enc)] := rfl
set_option maxHeartbeats 8000000 in
theorem qkl (s : Sty) (hB : StyB s) : PU q8w [s.enc] = some (.int .i64 (q26 s)) := by
 have b1 := hB.sizes
 have b2 := hB.mults
 refine q0h (fn := q5a) rfl (q0c ?_)
 refine go 800 rfl ?_
 refine q01 rfl rfl (qbA s.name) ?_
 cases hn : q1L s.name with
 | false =>
   refine go 800 rfl ?_
   refine q0e rfl ?_
   refine go 800 rfl ?_
   refine q0g rfl ?_
   refine go 800 rfl ?_
   refine q08 rfl rfl rfl trivial ?_
   rw [q26, if_pos (.inl hn)]
 | true =>
   refine go 800 rfl ?_
   refine q0j rfl ?_
   refine go 800 rfl ?_
   rw [List.length_map]
   refine q02 rfl (fun g => ?_) (fun g => ?_)
   ·rw [q12] at g
    refine go 800 rfl ?_
    refine q08 rfl rfl rfl trivial ?_
    rw [q26, if_pos (.inr (by omega))]
   rw [q1a] at g
   have hc1 : ¬ (q1L s.name = false ∨ s.sizes.length = 0) := by
    rintro (h | h)
    ·rw [hn] at h; cases h
    ·omega
   refine go 800 rfl ?_
   rw [List.length_map]
   refine q0q (S := fun k : Nat => ([.ptr 0 0 0, strs s.sizes, q00 s.sizes.length, q00 k], [some (.row [s.enc] 7), none, none, none], [0, 0, 0, 0])) (C := fun k => k ≤ s.sizes.length ∧ ∀ j (hj : j < s.sizes.length), j < k → sizeS s.sizes[j] = true) (m := fun k => s.sizes.length - k) 0 ⟨Nat.zero_le _, fun j _ h => by omega⟩ (by omega) ?_ ?_
   ·exact q03 rfl ⟨rfl, trivial⟩ rfl
   rintro k ⟨hk, hall⟩ N hN
   refine go 800 rfl ?_
   refine q02 rfl (fun e => ?_) (fun e => ?_)
   ·rw [q06] at e
    have hlt : k < s.sizes.length := by omega
    have w1 : IntKind.i64.wrap ((k : Int) + 1) = ((k + 1 : Nat) : Int) := wrap64 (by omega) (by omega)
    have hz := qhX s.sizes[k] (by have := hB.size _ (List.getElem_mem hlt); omega)
    refine go 800 rfl ?_
    refine q0k k rfl rfl rfl (q1J hlt) rfl ?_
    refine go 800 rfl ?_
    refine q01 rfl rfl hz ?_
    cases hv : sizeS s.sizes[k] with
    | false =>
      refine go 800 rfl ?_
      refine q0g rfl ?_
      refine go 800 rfl ?_
      refine q04 ?_
      refine go 800 rfl ?_
      refine q08 rfl rfl rfl trivial ?_
      rw [q26, if_neg hc1, if_pos (q3c hlt (by rw [hv]; rfl))]
    | true =>
      refine go 800 rfl ?_
      refine q0m rfl ?_
      refine go 800 rfl ?_
      refine q04 ?_
      refine hN (k + 1) ⟨hlt, fun j hj hjk => ?_⟩ (by omega) (q03 rfl ⟨rfl, trivial⟩ (by rw [w1]; rfl))
      by_cases ej : j = k
      ·subst ej; exact hv
      ·exact hall j hj (by omega)
   rw [q07] at e
   obtain rfl : k = s.sizes.length := by omega
   clear hN
   have hc2 : ¬ (s.sizes.any (fun x => !sizeS x)) = true := by rw [q2N fun j hj => by rw [hall j hj hj]; rfl]; decide
   refine go 800 rfl ?_
   refine q04 ?_
   refine go 800 rfl ?_
   rw [List.length_map, List.length_map]
   refine q05 rfl (fun g2 => ?_) (fun g2 => ?_)
   ·rw [q0z] at g2
    refine go 800 rfl ?_
    refine q0g rfl ?_
    refine go 800 rfl ?_
    refine q08 rfl rfl rfl trivial ?_
    rw [q26, if_neg hc1, if_neg hc2, if_pos (.inl (by omega))]
   rw [q0A] at g2
   have g2' : s.mults.length = s.sizes.length := by omega
   refine go 800 rfl ?_
   refine q01 rfl rfl (qhY s.mults 0 (by omega)) ?_
   cases hz : decide (0 ∈ s.mults) with
   | false =>
     have hz := of_decide_eq_false hz
     refine go 800 rfl ?_
     refine q0g rfl ?_
     refine go 800 rfl ?_
     refine q08 rfl rfl rfl trivial ?_
     rw [q26, if_neg hc1, if_neg hc2, if_pos (.inr hz)]
   | true =>
     have hz := of_decide_eq_true hz
     have hc3 : ¬ (s.mults.length ≠ s.sizes.length ∨ 0 ∉ s.mults) := by
      rintro (h | h)
      ·exact h g2'
      ·exact h hz
     refine go 800 rfl ?_
     refine q0m rfl ?_
     refine go 800 rfl ?_
     rw [List.length_map]
     refine q0q (S := fun k : Nat => ([.ptr 0 0 0, .mref 1, strs s.sizes, q00 s.sizes.length, q00 k], [some (.row [s.enc] 7), some (.mp ((q7b (s.sizes.take k)).map (·.1)) ((q7b (s.sizes.take k)).map (·.2))), none, none, none], [0, 0, 0, 0, 0])) (C := fun k => k ≤ s.sizes.length ∧ ∀ i, i < k → ((s.sizes.take i).any fun x => x.toList == (sz s.sizes i).toList) = false) (m := fun k => s.sizes.length - k) 0 ⟨Nat.zero_le _, fun j h => by omega⟩ (by omega) ?_ ?_
     ·exact qq2 (o := [.p _, .p _]) (kp := ([.ptr 0 0 0, .mref 1, strs s.sizes, q00 s.sizes.length, q00 0], [some (.row [s.enc] 7), some (.mp [] []), none, none, none], [0, 0, 0, 0, 0])) [none] rfl ⟨rfl, rfl, trivial⟩ rfl
     rintro k ⟨hk, htw⟩ N hN
     refine go 800 rfl ?_
     refine q02 rfl (fun e => ?_) (fun e => ?_)
     ·rw [q06] at e
      have hlt : k < s.sizes.length := by omega
      have w1 : IntKind.i64.wrap ((k : Int) + 1) = ((k + 1 : Nat) : Int) := wrap64 (by omega) (by omega)
      have hst : q7b (s.sizes.take (k + 1)) = q7b (s.sizes.take k) ++ [(sz s.sizes k, .bool true)] := by
       rw [List.take_succ_eq_append_getElem hlt, qpy, qjK hlt]
      have hgt := qrR (s.sizes.take k) (sz s.sizes k)
      refine go 800 rfl ?_
      refine q0k k rfl rfl rfl (qpv hlt) rfl ?_
      refine go 800 rfl ?_
      refine quM (m := q7b (s.sizes.take k)) rfl rfl rfl (fun v hv => ?_) (fun hv => ?_)
      ·rw [hgt] at hv
       cases ha : ((s.sizes.take k).any fun x => x.toList == (sz s.sizes k).toList) with
       | true =>
         rw [ha] at hv
         cases hv
         refine go 800 rfl ?_
         refine q0g rfl ?_
         refine go 800 rfl ?_
         refine q04 ?_
         refine go 800 rfl ?_
         refine q08 rfl rfl rfl trivial ?_
         have ht : q4o s.sizes = true := by
          unfold q4o
          rw [List.any_eq_true]
          exact ⟨k, List.mem_range.2 hlt, ha⟩
         rw [q26, if_neg hc1, if_neg hc2, if_neg hc3, if_pos ht]
       | false => rw [ha] at hv; cases hv
      ·have ha : ((s.sizes.take k).any fun x => x.toList == (sz s.sizes k).toList) = false := by
        rw [hgt] at hv
        cases ha : ((s.sizes.take k).any fun x => x.toList == (sz s.sizes k).toList) with
        | true => rw [ha] at hv; cases hv
        | false => rfl
       refine go 800 rfl ?_
       refine q0m rfl ?_
       refine go 800 rfl ?_
       refine atPut (m := q7b (s.sizes.take k)) rfl rfl rfl rfl hv ?_
       refine go 800 rfl ?_
       refine q04 ?_
       refine hN (k + 1) ⟨hlt, fun i hi => ?_⟩ (by omega) (qq2 (o := [.p [s.enc], .p ((q7b (s.sizes.take k) ++ [(sz s.sizes k, D.bool true)] : List (ByteArray × D)).map (·.2))]) (kp := ([.ptr 0 0 0, .mref 1, strs s.sizes, q00 s.sizes.length, .int .i64 (IntKind.i64.wrap ((k : Int) + 1))], [some (.row [s.enc] 7), some (.mp ((q7b (s.sizes.take k) ++ [(sz s.sizes k, D.bool true)] : List (ByteArray × D)).map (·.1)) ((q7b (s.sizes.take k) ++ [(sz s.sizes k, D.bool true)] : List (ByteArray × D)).map (·.2))), none, none, none], [0, 0, 0, 0, 0])) [none] rfl ⟨rfl, ?_, trivial⟩ ?_)
       ·by_cases ei : i = k
        ·subst ei; exact ha
        ·exact htw i (by omega)
       ·show List.all ((q7b (s.sizes.take k) ++ [(sz s.sizes k, D.bool true)] : List (ByteArray × D)).map (·.2)) _ = true
        rw [← hst]; exact qob _
       ·rw [w1, hst]; rfl
     rw [q07] at e
     obtain rfl : k = s.sizes.length := by omega
     clear hN
     have hc4 : ¬ q4o s.sizes = true := by
      unfold q4o
      rw [List.any_eq_true]
      rintro ⟨i, hi, h⟩
      rw [htw i (List.mem_range.1 hi)] at h; cases h
     have hw : q26 s = if 12 < s.sizes.length ∨ 12 < s.pieces.length ∨ 12 < s.uses.length then 5
      else if 24 < s.seams.length ∨ 16 < s.ops.length then 5
      else if s.mults.any (fun m => decide (m < -100) || decide (100 < m)) then 3 else 0 := by
      rw [q26, if_neg hc1, if_neg hc2, if_neg hc3, if_neg hc4]
     rw [hw]
     refine go 800 rfl ?_
     refine q04 ?_
     refine go 800 rfl ?_
     rw [List.length_map]
     refine q05 rfl (fun g3 => ?_) (fun g3 => ?_)
     ·rw [q06] at g3
      refine go 800 rfl ?_
      refine q0e rfl ?_
      refine go 800 rfl ?_
      refine q0g rfl ?_
      refine go 800 rfl ?_
      refine q08 rfl rfl rfl trivial ?_
      rw [if_pos (.inl (by omega))]
     rw [q07] at g3
     refine go 800 rfl ?_
     rw [List.length_map]
     refine q05 rfl (fun g4 => ?_) (fun g4 => ?_)
     ·rw [q06] at g4
      refine go 800 rfl ?_
      refine q0g rfl ?_
      refine go 800 rfl ?_
      refine q08 rfl rfl rfl trivial ?_
      rw [if_pos (.inr (.inl (by omega)))]
     rw [q07] at g4
     refine go 800 rfl ?_
     rw [List.length_map]
     refine q02 rfl (fun g5 => ?_) (fun g5 => ?_)
     ·rw [q06] at g5
      refine go 800 rfl ?_
      refine q08 rfl rfl rfl trivial ?_
      rw [if_pos (.inr (.inr (by omega)))]
     rw [q07] at g5
     rw [if_neg (by omega)]
     refine go 800 rfl ?_
     rw [List.length_map]
     refine q05 rfl (fun g6 => ?_) (fun g6 => ?_)
     ·rw [q06] at g6
      refine go 800 rfl ?_
      refine q0g rfl ?_
      refine go 800 rfl ?_
      refine q08 rfl rfl rfl trivial ?_
      rw [if_pos (.inl (by omega))]
     rw [q07] at g6
     refine go 800 rfl ?_
     rw [List.length_map]
     refine q02 rfl (fun g7 => ?_) (fun g7 => ?_)
     ·rw [q06] at g7
      refine go 800 rfl ?_
      refine q08 rfl rfl rfl trivial ?_
      rw [if_pos (.inr (by omega))]
     rw [q07] at g7
     rw [if_neg (by omega)]
     refine go 800 rfl ?_
     rw [List.length_map]
     refine q0q (S := fun k : Nat => ([ints s.mults, q00 s.mults.length, q00 k], [none, none, none], [0, 0, 0])) (C := fun k => k ≤ s.mults.length ∧ ∀ j (hj : j < s.mults.length), j < k → (decide (s.mults[j] < -100) || decide (100 < s.mults[j])) = false) (m := fun k => s.mults.length - k) 0 ⟨Nat.zero_le _, fun j _ h => by omega⟩ (by omega) ?_ ?_
     ·exact q03 rfl trivial rfl
     rintro k ⟨hk, hm⟩ N hN
     refine go 800 rfl ?_
     refine q02 rfl (fun e => ?_) (fun e => ?_)
     ·rw [q06] at e
      have hlt : k < s.mults.length := by omega
      have w1 : IntKind.i64.wrap ((k : Int) + 1) = ((k + 1 : Nat) : Int) := wrap64 (by omega) (by omega)
      have bad : (decide (s.mults[k] < -100) || decide (100 < s.mults[k])) = true → (s.mults.any fun m => decide (m < -100) || decide (100 < m)) = true := fun h => q3c hlt h
      have hx : (s.mults.map q00)[k]? = some (.int .i64 s.mults[k]) := q1J hlt
      refine go 800 rfl ?_
      refine q0k k rfl rfl rfl hx rfl ?_
      refine go 800 rfl ?_
      refine q05 rfl (fun f1 => ?_) (fun f1 => ?_)
      ·rw [q06] at f1
       refine go 800 rfl ?_
       refine q0g rfl ?_
       refine go 800 rfl ?_
       refine q04 ?_
       refine go 800 rfl ?_
       refine q08 rfl rfl rfl trivial ?_
       rw [if_pos (bad (by simp; omega))]
      rw [q07] at f1
      refine go 800 rfl ?_
      refine q02 rfl (fun f2 => ?_) (fun f2 => ?_)
      ·rw [q06] at f2
       refine go 800 rfl ?_
       refine q04 ?_
       refine go 800 rfl ?_
       refine q08 rfl rfl rfl trivial ?_
       rw [if_pos (bad (by simp; omega))]
      rw [q07] at f2
      refine go 800 rfl ?_
      refine q04 ?_
      refine hN (k + 1) ⟨hlt, fun j hj hjk => ?_⟩ (by omega) (q03 rfl trivial (by rw [w1]; rfl))
      by_cases ej : j = k
      ·subst ej; simp; omega
      ·exact hm j hj (by omega)
     rw [q07] at e
     obtain rfl : k = s.mults.length := by omega
     rw [if_neg (by rw [q2N fun j hj => hm j hj hj]; decide)]
     refine go 800 rfl ?_
     refine q04 ?_
     refine go 800 rfl ?_
     exact q08 rfl rfl rfl trivial rfl
end Go.F

namespace Go.F
attribute [local irreducible] IntKind.wrap wpM
def q3W (b : List Piece) (p : Piece) : Int :=
 if q1L p.name = false then 1
 else if p.grain ≠ 1 ∧ p.grain ≠ 2 ∧ p.grain ≠ 4 then 1
 else if (b.any fun o => o.name.toList == p.name.toList) then 7
 else if (q0B p 0).2 ≠ 0 then (q0B p 0).2
 else if (q29 p 0).2 ≠ 0 then (q29 p 0).2
 else if p.widths.length ≠ p.edges.length then 1
 else if p.widths.any q2t then 3 else 0
set_option maxHeartbeats 8000000 in
theorem qkm (b : List Piece) (p : Piece) (hb : b.length ≤ 1000) (h1 : p.corners.length ≤ 1000) (h2 : p.widths.length ≤ 1000) : PU q8x [Go.F.pieces b, p.enc] = some (.int .i64 (q3W b p)) := by
 refine q0h (fn := q5b) rfl (q0c ?_)
 refine go 800 rfl ?_
 refine q01 rfl rfl (qbA p.name) ?_
 cases hn : q1L p.name with
 | false =>
   refine go 800 rfl ?_
   refine q0g rfl ?_
   refine go 800 rfl ?_
   refine q08 rfl rfl rfl trivial ?_
   rw [q3W, if_pos hn]
 | true =>
   have hc1 : ¬ q1L p.name = false := by rw [hn]; decide
   refine go 800 rfl ?_
   refine q0m rfl ?_
   refine go 800 rfl ?_
   refine q05 rfl (fun g1 => ?_) (fun g1 => ?_)
   ·rw [q0z] at g1
    refine go 800 rfl ?_
    refine q05 rfl (fun g2 => ?_) (fun g2 => ?_)
    ·rw [q0z] at g2
     refine go 800 rfl ?_
     refine q02 rfl (fun g3 => ?_) (fun g3 => ?_)
     ·rw [q0z] at g3
      refine go 800 rfl ?_
      refine q08 rfl rfl rfl trivial ?_
      rw [q3W, if_neg hc1, if_pos ⟨g1, g2, g3⟩]
     ·rw [q0A] at g3
      have hc2 : ¬ (p.grain ≠ 1 ∧ p.grain ≠ 2 ∧ p.grain ≠ 4) := fun h => h.2.2 g3
      refine go 800 rfl ?_
      rw [List.length_map]
      refine q0q (S := fun k : Nat => ([.ptr 0 0 0, Go.F.pieces b, q00 b.length, q00 k], [some (.row [p.enc] 7), none, none, none], [0, 0, 0, 0])) (C := fun k => k ≤ b.length ∧ ∀ j (hj : j < b.length), j < k → (b[j].name.toList == p.name.toList) = false) (m := fun k => b.length - k) 0 ⟨Nat.zero_le _, fun j _ h => by omega⟩ (by omega) ?_ ?_
      ·exact q03 rfl ⟨rfl, trivial⟩ rfl
      rintro k ⟨hk, hno⟩ N hN
      refine go 800 rfl ?_
      refine q02 rfl (fun e => ?_) (fun e => ?_)
      ·rw [q06] at e
       have hlt : k < b.length := by omega
       have w1 : IntKind.i64.wrap ((k : Int) + 1) = ((k + 1 : Nat) : Int) := wrap64 (by omega) (by omega)
       refine go 800 rfl ?_
       refine q0k k rfl rfl rfl (q1J hlt) rfl ?_
       refine go 800 rfl ?_
       refine q02 rfl (fun f => ?_) (fun f => ?_)
       ·refine go 800 rfl ?_
        refine q04 ?_
        refine go 800 rfl ?_
        refine q08 rfl rfl rfl trivial ?_
        rw [q3W, if_neg hc1, if_neg hc2, if_pos (q3c hlt f)]
       ·refine go 800 rfl ?_
        refine q04 ?_
        refine hN (k + 1) ⟨hlt, fun j hj hjk => ?_⟩ (by omega) (q03 rfl ⟨rfl, trivial⟩ (by rw [w1]; rfl))
        by_cases ej : j = k
        ·subst ej; exact f
        ·exact hno j hj (by omega)
      rw [q07] at e
      obtain rfl : k = b.length := by omega
      clear hN
      have hc3 : ¬ (b.any fun o => o.name.toList == p.name.toList) = true := by rw [q2N fun j hj => hno j hj hj]; decide
      have hw : q3W b p = if (q0B p 0).2 ≠ 0 then (q0B p 0).2
       else if (q29 p 0).2 ≠ 0 then (q29 p 0).2
       else if p.widths.length ≠ p.edges.length then 1
       else if p.widths.any q2t then 3 else 0 := by rw [q3W, if_neg hc1, if_neg hc2, if_neg hc3]
      rw [hw]
      refine go 800 rfl ?_
      refine q04 ?_
      refine go 800 rfl ?_
      refine q01 rfl rfl (q7R p 0 (by omega)) ?_
      refine go 800 rfl ?_
      refine q02 rfl (fun f => ?_) (fun f => ?_)
      ·rw [q0z] at f
       refine go 800 rfl ?_
       refine q08 rfl rfl rfl trivial ?_
       rw [if_pos f]
      rw [q0A] at f
      rw [if_neg (by simp [f])]
      refine go 800 rfl ?_
      refine q01 rfl rfl (qgp p 0 (by omega)) ?_
      refine go 800 rfl ?_
      refine q02 rfl (fun f2 => ?_) (fun f2 => ?_)
      ·rw [q0z] at f2
       refine go 800 rfl ?_
       refine q08 rfl rfl rfl trivial ?_
       rw [if_pos f2]
      rw [q0A] at f2
      rw [if_neg (by simp [f2])]
      refine go 800 rfl ?_
      rw [List.length_map, List.length_map]
      refine q02 rfl (fun f3 => ?_) (fun f3 => ?_)
      ·rw [q0z] at f3
       refine go 800 rfl ?_
       refine q08 rfl rfl rfl trivial ?_
       rw [if_pos (by omega)]
      rw [q0A] at f3
      rw [if_neg (by omega)]
      refine go 800 rfl ?_
      rw [List.length_map]
      refine q0q (S := fun k : Nat => ([ints p.widths, q00 p.widths.length, q00 k], [none, none, none], [0, 0, 0])) (C := fun k => k ≤ p.widths.length ∧ ∀ j (hj : j < p.widths.length), j < k → q2t p.widths[j] = false) (m := fun k => p.widths.length - k) 0 ⟨Nat.zero_le _, fun j _ h => by omega⟩ (by omega) ?_ ?_
      ·exact q03 rfl trivial rfl
      rintro k ⟨hk, hm⟩ N hN
      refine go 800 rfl ?_
      refine q02 rfl (fun e => ?_) (fun e => ?_)
      ·rw [q06] at e
       have hlt : k < p.widths.length := by omega
       have w1 : IntKind.i64.wrap ((k : Int) + 1) = ((k + 1 : Nat) : Int) := wrap64 (by omega) (by omega)
       have bad : q2t p.widths[k] = true → p.widths.any q2t = true := fun h => q3c hlt h
       have hx : (p.widths.map q00)[k]? = some (.int .i64 p.widths[k]) := q1J hlt
       refine go 800 rfl ?_
       refine q0k k rfl rfl rfl hx rfl ?_
       refine go 800 rfl ?_
       refine q05 rfl (fun f1 => ?_) (fun f1 => ?_)
       ·rw [q06] at f1
        refine go 800 rfl ?_
        refine q0g rfl ?_
        refine go 800 rfl ?_
        refine q04 ?_
        refine go 800 rfl ?_
        refine q08 rfl rfl rfl trivial ?_
        rw [if_pos (bad (by simp [q2t]; omega))]
       rw [q07] at f1
       refine go 800 rfl ?_
       refine q02 rfl (fun f2 => ?_) (fun f2 => ?_)
       ·rw [q06] at f2
        refine go 800 rfl ?_
        refine q04 ?_
        refine go 800 rfl ?_
        refine q08 rfl rfl rfl trivial ?_
        rw [if_pos (bad (by simp [q2t]; omega))]
       rw [q07] at f2
       refine go 800 rfl ?_
       refine q04 ?_
       refine hN (k + 1) ⟨hlt, fun j hj hjk => ?_⟩ (by omega) (q03 rfl trivial (by rw [w1]; rfl))
       by_cases ej : j = k
       ·subst ej; simp [q2t]; omega
       ·exact hm j hj (by omega)
      rw [q07] at e
      obtain rfl : k = p.widths.length := by omega
      rw [if_neg (by rw [q2N fun j hj => hm j hj hj]; decide)]
      refine go 800 rfl ?_
      refine q04 ?_
      refine go 800 rfl ?_
      exact q08 rfl rfl rfl trivial rfl
    ·rw [q0A] at g2
     have hc2 : ¬ (p.grain ≠ 1 ∧ p.grain ≠ 2 ∧ p.grain ≠ 4) := fun h => h.2.1 g2
     refine go 800 rfl ?_
     refine q0m rfl ?_
     refine go 800 rfl ?_
     rw [List.length_map]
     refine q0q (S := fun k : Nat => ([.ptr 0 0 0, Go.F.pieces b, q00 b.length, q00 k], [some (.row [p.enc] 7), none, none, none], [0, 0, 0, 0])) (C := fun k => k ≤ b.length ∧ ∀ j (hj : j < b.length), j < k → (b[j].name.toList == p.name.toList) = false) (m := fun k => b.length - k) 0 ⟨Nat.zero_le _, fun j _ h => by omega⟩ (by omega) ?_ ?_
     ·exact q03 rfl ⟨rfl, trivial⟩ rfl
     rintro k ⟨hk, hno⟩ N hN
     refine go 800 rfl ?_
     refine q02 rfl (fun e => ?_) (fun e => ?_)
     ·rw [q06] at e
      have hlt : k < b.length := by omega
      have w1 : IntKind.i64.wrap ((k : Int) + 1) = ((k + 1 : Nat) : Int) := wrap64 (by omega) (by omega)
      refine go 800 rfl ?_
      refine q0k k rfl rfl rfl (q1J hlt) rfl ?_
      refine go 800 rfl ?_
      refine q02 rfl (fun f => ?_) (fun f => ?_)
      ·refine go 800 rfl ?_
       refine q04 ?_
       refine go 800 rfl ?_
       refine q08 rfl rfl rfl trivial ?_
       rw [q3W, if_neg hc1, if_neg hc2, if_pos (q3c hlt f)]
      ·refine go 800 rfl ?_
       refine q04 ?_
       refine hN (k + 1) ⟨hlt, fun j hj hjk => ?_⟩ (by omega) (q03 rfl ⟨rfl, trivial⟩ (by rw [w1]; rfl))
       by_cases ej : j = k
       ·subst ej; exact f
       ·exact hno j hj (by omega)
     rw [q07] at e
     obtain rfl : k = b.length := by omega
     clear hN
     have hc3 : ¬ (b.any fun o => o.name.toList == p.name.toList) = true := by rw [q2N fun j hj => hno j hj hj]; decide
     have hw : q3W b p = if (q0B p 0).2 ≠ 0 then (q0B p 0).2
      else if (q29 p 0).2 ≠ 0 then (q29 p 0).2
      else if p.widths.length ≠ p.edges.length then 1
      else if p.widths.any q2t then 3 else 0 := by rw [q3W, if_neg hc1, if_neg hc2, if_neg hc3]
     rw [hw]
     refine go 800 rfl ?_
     refine q04 ?_
     refine go 800 rfl ?_
     refine q01 rfl rfl (q7R p 0 (by omega)) ?_
     refine go 800 rfl ?_
     refine q02 rfl (fun f => ?_) (fun f => ?_)
     ·rw [q0z] at f
      refine go 800 rfl ?_
      refine q08 rfl rfl rfl trivial ?_
      rw [if_pos f]
     rw [q0A] at f
     rw [if_neg (by simp [f])]
     refine go 800 rfl ?_
     refine q01 rfl rfl (qgp p 0 (by omega)) ?_
     refine go 800 rfl ?_
     refine q02 rfl (fun f2 => ?_) (fun f2 => ?_)
     ·rw [q0z] at f2
      refine go 800 rfl ?_
      refine q08 rfl rfl rfl trivial ?_
      rw [if_pos f2]
     rw [q0A] at f2
     rw [if_neg (by simp [f2])]
     refine go 800 rfl ?_
     rw [List.length_map, List.length_map]
     refine q02 rfl (fun f3 => ?_) (fun f3 => ?_)
     ·rw [q0z] at f3
      refine go 800 rfl ?_
      refine q08 rfl rfl rfl trivial ?_
      rw [if_pos (by omega)]
     rw [q0A] at f3
     rw [if_neg (by omega)]
     refine go 800 rfl ?_
     rw [List.length_map]
     refine q0q (S := fun k : Nat => ([ints p.widths, q00 p.widths.length, q00 k], [none, none, none], [0, 0, 0])) (C := fun k => k ≤ p.widths.length ∧ ∀ j (hj : j < p.widths.length), j < k → q2t p.widths[j] = false) (m := fun k => p.widths.length - k) 0 ⟨Nat.zero_le _, fun j _ h => by omega⟩ (by omega) ?_ ?_
     ·exact q03 rfl trivial rfl
     rintro k ⟨hk, hm⟩ N hN
     refine go 800 rfl ?_
     refine q02 rfl (fun e => ?_) (fun e => ?_)
     ·rw [q06] at e
      have hlt : k < p.widths.length := by omega
      have w1 : IntKind.i64.wrap ((k : Int) + 1) = ((k + 1 : Nat) : Int) := wrap64 (by omega) (by omega)
      have bad : q2t p.widths[k] = true → p.widths.any q2t = true := fun h => q3c hlt h
      have hx : (p.widths.map q00)[k]? = some (.int .i64 p.widths[k]) := q1J hlt
      refine go 800 rfl ?_
      refine q0k k rfl rfl rfl hx rfl ?_
      refine go 800 rfl ?_
      refine q05 rfl (fun f1 => ?_) (fun f1 => ?_)
      ·rw [q06] at f1
       refine go 800 rfl ?_
       refine q0g rfl ?_
       refine go 800 rfl ?_
       refine q04 ?_
       refine go 800 rfl ?_
       refine q08 rfl rfl rfl trivial ?_
       rw [if_pos (bad (by simp [q2t]; omega))]
      rw [q07] at f1
      refine go 800 rfl ?_
      refine q02 rfl (fun f2 => ?_) (fun f2 => ?_)
      ·rw [q06] at f2
       refine go 800 rfl ?_
       refine q04 ?_
       refine go 800 rfl ?_
       refine q08 rfl rfl rfl trivial ?_
       rw [if_pos (bad (by simp [q2t]; omega))]
      rw [q07] at f2
      refine go 800 rfl ?_
      refine q04 ?_
      refine hN (k + 1) ⟨hlt, fun j hj hjk => ?_⟩ (by omega) (q03 rfl trivial (by rw [w1]; rfl))
      by_cases ej : j = k
      ·subst ej; simp [q2t]; omega
      ·exact hm j hj (by omega)
     rw [q07] at e
     obtain rfl : k = p.widths.length := by omega
     rw [if_neg (by rw [q2N fun j hj => hm j hj hj]; decide)]
     refine go 800 rfl ?_
     refine q04 ?_
     refine go 800 rfl ?_
     exact q08 rfl rfl rfl trivial rfl
   ·rw [q0A] at g1
    have hc2 : ¬ (p.grain ≠ 1 ∧ p.grain ≠ 2 ∧ p.grain ≠ 4) := fun h => h.1 g1
    refine go 800 rfl ?_
    refine q0j rfl ?_
    refine go 800 rfl ?_
    refine q0m rfl ?_
    refine go 800 rfl ?_
    rw [List.length_map]
    refine q0q (S := fun k : Nat => ([.ptr 0 0 0, Go.F.pieces b, q00 b.length, q00 k], [some (.row [p.enc] 7), none, none, none], [0, 0, 0, 0])) (C := fun k => k ≤ b.length ∧ ∀ j (hj : j < b.length), j < k → (b[j].name.toList == p.name.toList) = false) (m := fun k => b.length - k) 0 ⟨Nat.zero_le _, fun j _ h => by omega⟩ (by omega) ?_ ?_
    ·exact q03 rfl ⟨rfl, trivial⟩ rfl
    rintro k ⟨hk, hno⟩ N hN
    refine go 800 rfl ?_
    refine q02 rfl (fun e => ?_) (fun e => ?_)
    ·rw [q06] at e
     have hlt : k < b.length := by omega
     have w1 : IntKind.i64.wrap ((k : Int) + 1) = ((k + 1 : Nat) : Int) := wrap64 (by omega) (by omega)
     refine go 800 rfl ?_
     refine q0k k rfl rfl rfl (q1J hlt) rfl ?_
     refine go 800 rfl ?_
     refine q02 rfl (fun f => ?_) (fun f => ?_)
     ·refine go 800 rfl ?_
      refine q04 ?_
      refine go 800 rfl ?_
      refine q08 rfl rfl rfl trivial ?_
      rw [q3W, if_neg hc1, if_neg hc2, if_pos (q3c hlt f)]
     ·refine go 800 rfl ?_
      refine q04 ?_
      refine hN (k + 1) ⟨hlt, fun j hj hjk => ?_⟩ (by omega) (q03 rfl ⟨rfl, trivial⟩ (by rw [w1]; rfl))
      by_cases ej : j = k
      ·subst ej; exact f
      ·exact hno j hj (by omega)
    rw [q07] at e
    obtain rfl : k = b.length := by omega
    clear hN
    have hc3 : ¬ (b.any fun o => o.name.toList == p.name.toList) = true := by rw [q2N fun j hj => hno j hj hj]; decide
    have hw : q3W b p = if (q0B p 0).2 ≠ 0 then (q0B p 0).2
     else if (q29 p 0).2 ≠ 0 then (q29 p 0).2
     else if p.widths.length ≠ p.edges.length then 1
     else if p.widths.any q2t then 3 else 0 := by rw [q3W, if_neg hc1, if_neg hc2, if_neg hc3]
    rw [hw]
    refine go 800 rfl ?_
    refine q04 ?_
    refine go 800 rfl ?_
    refine q01 rfl rfl (q7R p 0 (by omega)) ?_
    refine go 800 rfl ?_
    refine q02 rfl (fun f => ?_) (fun f => ?_)
    ·rw [q0z] at f
     refine go 800 rfl ?_
     refine q08 rfl rfl rfl trivial ?_
     rw [if_pos f]
    rw [q0A] at f
    rw [if_neg (by simp [f])]
    refine go 800 rfl ?_
    refine q01 rfl rfl (qgp p 0 (by omega)) ?_
    refine go 800 rfl ?_
    refine q02 rfl (fun f2 => ?_) (fun f2 => ?_)
    ·rw [q0z] at f2
     refine go 800 rfl ?_
     refine q08 rfl rfl rfl trivial ?_
     rw [if_pos f2]
    rw [q0A] at f2
    rw [if_neg (by simp [f2])]
    refine go 800 rfl ?_
    rw [List.length_map, List.length_map]
    refine q02 rfl (fun f3 => ?_) (fun f3 => ?_)
    ·rw [q0z] at f3
     refine go 800 rfl ?_
     refine q08 rfl rfl rfl trivial ?_
     rw [if_pos (by omega)]
    rw [q0A] at f3
    rw [if_neg (by omega)]
    refine go 800 rfl ?_
    rw [List.length_map]
    refine q0q (S := fun k : Nat => ([ints p.widths, q00 p.widths.length, q00 k], [none, none, none], [0, 0, 0])) (C := fun k => k ≤ p.widths.length ∧ ∀ j (hj : j < p.widths.length), j < k → q2t p.widths[j] = false) (m := fun k => p.widths.length - k) 0 ⟨Nat.zero_le _, fun j _ h => by omega⟩ (by omega) ?_ ?_
    ·exact q03 rfl trivial rfl
    rintro k ⟨hk, hm⟩ N hN
    refine go 800 rfl ?_
    refine q02 rfl (fun e => ?_) (fun e => ?_)
    ·rw [q06] at e
     have hlt : k < p.widths.length := by omega
     have w1 : IntKind.i64.wrap ((k : Int) + 1) = ((k + 1 : Nat) : Int) := wrap64 (by omega) (by omega)
     have bad : q2t p.widths[k] = true → p.widths.any q2t = true := fun h => q3c hlt h
     have hx : (p.widths.map q00)[k]? = some (.int .i64 p.widths[k]) := q1J hlt
     refine go 800 rfl ?_
     refine q0k k rfl rfl rfl hx rfl ?_
     refine go 800 rfl ?_
     refine q05 rfl (fun f1 => ?_) (fun f1 => ?_)
     ·rw [q06] at f1
      refine go 800 rfl ?_
      refine q0g rfl ?_
      refine go 800 rfl ?_
      refine q04 ?_
      refine go 800 rfl ?_
      refine q08 rfl rfl rfl trivial ?_
      rw [if_pos (bad (by simp [q2t]; omega))]
     rw [q07] at f1
     refine go 800 rfl ?_
     refine q02 rfl (fun f2 => ?_) (fun f2 => ?_)
     ·rw [q06] at f2
      refine go 800 rfl ?_
      refine q04 ?_
      refine go 800 rfl ?_
      refine q08 rfl rfl rfl trivial ?_
      rw [if_pos (bad (by simp [q2t]; omega))]
     rw [q07] at f2
     refine go 800 rfl ?_
     refine q04 ?_
     refine hN (k + 1) ⟨hlt, fun j hj hjk => ?_⟩ (by omega) (q03 rfl trivial (by rw [w1]; rfl))
     by_cases ej : j = k
     ·subst ej; simp [q2t]; omega
     ·exact hm j hj (by omega)
    rw [q07] at e
    obtain rfl : k = p.widths.length := by omega
    rw [if_neg (by rw [q2N fun j hj => hm j hj hj]; decide)]
    refine go 800 rfl ?_
    refine q04 ?_
    refine go 800 rfl ?_
    exact q08 rfl rfl rfl trivial rfl
def q4Q (s : Sty) (p e : Int) : Bool := decide (0 ≤ p) && (decide (p < s.pieces.length) && (decide (0 ≤ e) && decide (e < (pc s.pieces p.toNat).edges.length)))
theorem qlb (s : Sty) (p e : Int) : PU q8y [s.enc, .int .i64 p, .int .i64 e] = some (.bool (q4Q s p e)) := by
 refine q0h (fn := q84) rfl (q0c ?_)
 refine go 800 rfl ?_
 refine q05 rfl (fun g1 => ?_) (fun g1 => ?_)
 ·rw [q0D] at g1
  refine go 800 rfl ?_
  rw [List.length_map]
  refine q05 rfl (fun g2 => ?_) (fun g2 => ?_)
  ·rw [q06] at g2
   refine go 800 rfl ?_
   refine q05 rfl (fun g3 => ?_) (fun g3 => ?_)
   ·rw [q0D] at g3
    refine go 800 rfl ?_
    refine q0k p.toNat rfl rfl (by omega) (qeL (by omega)) rfl ?_
    refine go 800 rfl ?_
    refine q08 rfl rfl rfl trivial ?_
    rw [q4Q, decide_eq_true g1, decide_eq_true g2, decide_eq_true g3, q1H, List.length_map]; rfl
   ·rw [q0E] at g3
    refine go 800 rfl ?_
    refine q08 rfl rfl rfl trivial ?_
    rw [q4Q, decide_eq_false (show ¬ 0 ≤ e by omega)]; simp
  ·rw [q07] at g2
   refine go 800 rfl ?_
   refine q0j rfl ?_
   refine go 800 rfl ?_
   refine q08 rfl rfl rfl trivial ?_
   rw [q4Q, decide_eq_false (show ¬ p < s.pieces.length by omega)]; simp
 ·rw [q0E] at g1
  refine go 800 rfl ?_
  refine q0j rfl ?_
  refine go 800 rfl ?_
  refine q0j rfl ?_
  refine go 800 rfl ?_
  refine q08 rfl rfl rfl trivial ?_
  rw [q4Q, decide_eq_false (show ¬ 0 ≤ p by omega)]; rfl
def q2C (n : Nat) (u : Use) : Bool := decide (u.piece < 0) || (decide ((n : Int) ≤ u.piece) || (decide (u.count < 1) || decide (4 < u.count)))
def qe2 (s : Sty) (m : Sew) : Int := if q4Q s m.pa m.ea = false ∨ q4Q s m.pb m.eb = false then 3 else if m.ease < 0 then 1 else 0
def q38 (s : Sty) (i : Nat) : Int := q3W (s.pieces.take i) (pc s.pieces i)
def q7A (s : Sty) (i : Nat) : Int := qe2 s (sw s.seams i)
def q32 (s : Sty) : Int :=
 if q26 s ≠ 0 then q26 s
 else if q0F (q38 s) s.pieces.length ≠ 0 then q0F (q38 s) s.pieces.length
 else if s.uses.any (q2C s.pieces.length) then 3
 else q0F (q7A s) s.seams.length
set_option maxHeartbeats 8000000 in
theorem q1c (s : Sty) (hB : StyB s) : PU q0W [s.enc] = some (.int .i64 (q32 s)) := by
 have b1 := hB.pieces
 have b2 := hB.uses
 have b3 := hB.seams
 refine q0h (fn := q9j) rfl (q0c ?_)
 refine go 800 rfl ?_
 refine q01 rfl rfl (qkl s hB) ?_
 refine go 800 rfl ?_
 refine q02 rfl (fun g => ?_) (fun g => ?_)
 ·rw [q0z] at g
  refine go 800 rfl ?_
  refine q08 rfl rfl rfl trivial ?_
  rw [q32, if_pos g]
 have g : q26 s = 0 := q0A.1 g
 have hw : q32 s = if q0F (q38 s) s.pieces.length ≠ 0 then q0F (q38 s) s.pieces.length
  else if s.uses.any (q2C s.pieces.length) then 3
  else q0F (q7A s) s.seams.length := by rw [q32, if_neg (by simp [g])]
 rw [hw]
 refine go 800 rfl ?_
 rw [List.length_map]
 refine q0q (S := fun k : Nat => ([.ptr 0 0 0, Go.F.pieces s.pieces, q00 s.pieces.length, q00 k], [some (.row [s.enc] 7), none, none, none], [0, 0, 0, 0])) (C := fun k => k ≤ s.pieces.length ∧ q0F (q38 s) k = 0) (m := fun k => s.pieces.length - k) 0 ⟨Nat.zero_le _, rfl⟩ (by omega) ?_ ?_
 ·exact q03 rfl ⟨rfl, trivial⟩ rfl
 rintro k ⟨hk, h0⟩ N hN
 refine go 800 rfl ?_
 refine q02 rfl (fun e => ?_) (fun e => ?_)
 ·rw [q06] at e
  have hlt : k < s.pieces.length := by omega
  have w1 : IntKind.i64.wrap ((k : Int) + 1) = ((k + 1 : Nat) : Int) := wrap64 (by omega) (by omega)
  have hp := qkm (s.pieces.take k) (pc s.pieces k) (by rw [List.length_take]; omega) (hB.corners _ (qpu hlt)) (hB.widths _ (qpu hlt))
  refine go 800 rfl ?_
  refine q0k k rfl rfl rfl (qeL hlt) rfl ?_
  refine go 800 rfl ?_
  refine qdM k rfl (q1X (n := 7) (fun _ => rfl) _) ⟨_, _, rfl, rfl⟩ (by rw [List.length_map]; omega) ?_
  rw [← List.map_take]
  refine go 800 rfl ?_
  refine q01 rfl rfl hp ?_
  refine go 800 rfl ?_
  refine q02 rfl (fun f => ?_) (fun f => ?_)
  ·rw [q0z] at f
   refine go 800 rfl ?_
   refine q04 ?_
   refine go 800 rfl ?_
   refine q08 rfl rfl rfl trivial ?_
   have f' : q38 s k ≠ 0 := f
   have hf := q5C (f := q38 s) h0 f' hlt
   rw [hf, if_pos f']; rfl
  ·rw [q0A] at f
   refine go 800 rfl ?_
   refine q04 ?_
   exact hN (k + 1) ⟨hlt, q3L h0 f⟩ (by omega) (q03 rfl ⟨rfl, trivial⟩ (by rw [w1]; rfl))
 rw [q07] at e
 obtain rfl : k = s.pieces.length := by omega
 clear hN
 rw [if_neg (by simp [h0])]
 refine go 800 rfl ?_
 refine q04 ?_
 refine go 800 rfl ?_
 rw [List.length_map]
 refine q0q (S := fun k : Nat => ([.ptr 0 0 0, Go.F.uses s.uses, q00 s.uses.length, q00 k], [some (.row [s.enc] 7), none, none, none], [0, 0, 0, 0])) (C := fun k => k ≤ s.uses.length ∧ ∀ j (hj : j < s.uses.length), j < k → q2C s.pieces.length s.uses[j] = false) (m := fun k => s.uses.length - k) 0 ⟨Nat.zero_le _, fun j _ h => by omega⟩ (by omega) ?_ ?_
 ·exact q03 rfl ⟨rfl, trivial⟩ rfl
 rintro k ⟨hk, hu⟩ N hN
 refine go 800 rfl ?_
 refine q02 rfl (fun e => ?_) (fun e => ?_)
 ·rw [q06] at e
  have hlt : k < s.uses.length := by omega
  have w1 : IntKind.i64.wrap ((k : Int) + 1) = ((k + 1 : Nat) : Int) := wrap64 (by omega) (by omega)
  have hx : (s.uses.map Use.enc)[k]? = some s.uses[k].enc := q1J hlt
  have bad : q2C s.pieces.length s.uses[k] = true → s.uses.any (q2C s.pieces.length) = true := fun h => q3c hlt h
  have hnx : q2C s.pieces.length s.uses[k] = false → ∀ j (hj : j < s.uses.length), j < k + 1 → q2C s.pieces.length s.uses[j] = false := by
   intro h j hj hjk
   by_cases ej : j = k
   ·subst ej; exact h
   ·exact hu j hj (by omega)
  generalize s.uses[k] = u at *
  refine go 800 rfl ?_
  refine q0k k rfl rfl rfl hx rfl ?_
  refine go 800 rfl ?_
  refine q05 rfl (fun f1 => ?_) (fun f1 => ?_)
  ·rw [q06] at f1
   refine go 800 rfl ?_
   refine q0e rfl ?_
   refine go 800 rfl ?_
   refine q0e rfl ?_
   refine go 800 rfl ?_
   refine q0g rfl ?_
   refine go 800 rfl ?_
   refine q04 ?_
   refine go 800 rfl ?_
   refine q08 rfl rfl rfl trivial ?_
   rw [if_pos (bad (by simp [q2C]; omega))]
  rw [q07] at f1
  refine go 800 rfl ?_
  rw [List.length_map]
  refine q05 rfl (fun f2 => ?_) (fun f2 => ?_)
  ·rw [q0D] at f2
   refine go 800 rfl ?_
   refine q0e rfl ?_
   refine go 800 rfl ?_
   refine q0g rfl ?_
   refine go 800 rfl ?_
   refine q04 ?_
   refine go 800 rfl ?_
   refine q08 rfl rfl rfl trivial ?_
   rw [if_pos (bad (by simp [q2C]; omega))]
  rw [q0E] at f2
  refine go 800 rfl ?_
  refine q05 rfl (fun f3 => ?_) (fun f3 => ?_)
  ·rw [q06] at f3
   refine go 800 rfl ?_
   refine q0g rfl ?_
   refine go 800 rfl ?_
   refine q04 ?_
   refine go 800 rfl ?_
   refine q08 rfl rfl rfl trivial ?_
   rw [if_pos (bad (by simp [q2C]; omega))]
  rw [q07] at f3
  refine go 800 rfl ?_
  refine q02 rfl (fun f4 => ?_) (fun f4 => ?_)
  ·rw [q06] at f4
   refine go 800 rfl ?_
   refine q04 ?_
   refine go 800 rfl ?_
   refine q08 rfl rfl rfl trivial ?_
   rw [if_pos (bad (by simp [q2C]; omega))]
  rw [q07] at f4
  refine go 800 rfl ?_
  refine q04 ?_
  exact hN (k + 1) ⟨hlt, hnx (by simp [q2C]; omega)⟩ (by omega) (q03 rfl ⟨rfl, trivial⟩ (by rw [w1]; rfl))
 rw [q07] at e
 obtain rfl : k = s.uses.length := by omega
 clear hN
 rw [if_neg (by rw [q2N fun j hj => hu j hj hj]; decide)]
 refine go 800 rfl ?_
 refine q04 ?_
 refine go 800 rfl ?_
 rw [List.length_map]
 refine q0q (S := fun k : Nat => ([.ptr 0 0 0, sews s.seams, q00 s.seams.length, q00 k], [some (.row [s.enc] 7), none, none, none], [0, 0, 0, 0])) (C := fun k => k ≤ s.seams.length ∧ q0F (q7A s) k = 0) (m := fun k => s.seams.length - k) 0 ⟨Nat.zero_le _, rfl⟩ (by omega) ?_ ?_
 ·exact q03 rfl ⟨rfl, trivial⟩ rfl
 rintro k ⟨hk, h0⟩ N hN
 refine go 800 rfl ?_
 refine q02 rfl (fun e => ?_) (fun e => ?_)
 ·rw [q06] at e
  have hlt : k < s.seams.length := by omega
  have w1 : IntKind.i64.wrap ((k : Int) + 1) = ((k + 1 : Nat) : Int) := wrap64 (by omega) (by omega)
  have hx := qvv hlt
  have bad : ∀ x, qe2 s (sw s.seams k) = x → x ≠ 0 → q0F (q7A s) s.seams.length = x := by
   intro x h hx0
   have := q5C (f := q7A s) h0 (by show qe2 s (sw s.seams k) ≠ 0; rw [h]; exact hx0) hlt
   rw [this]; exact h
  have good : qe2 s (sw s.seams k) = 0 → q0F (q7A s) (k + 1) = 0 := fun h => q3L h0 h
  generalize sw s.seams k = m at *
  have e1 := qlb s m.pa m.ea
  have e2 := qlb s m.pb m.eb
  refine go 800 rfl ?_
  refine q0k k rfl rfl rfl hx rfl ?_
  refine go 800 rfl ?_
  refine q01 rfl rfl e1 ?_
  cases ha : q4Q s m.pa m.ea with
  | false =>
    refine go 800 rfl ?_
    refine q0e rfl ?_
    refine go 800 rfl ?_
    refine q0g rfl ?_
    refine go 800 rfl ?_
    refine q04 ?_
    refine go 800 rfl ?_
    refine q08 rfl rfl rfl trivial ?_
    rw [bad 3 (by rw [qe2, if_pos (.inl ha)]) (by decide)]
  | true =>
    refine go 800 rfl ?_
    refine q0j rfl ?_
    refine go 800 rfl ?_
    refine q01 rfl rfl e2 ?_
    cases hb : q4Q s m.pb m.eb with
    | false =>
      refine go 800 rfl ?_
      refine q0g rfl ?_
      refine go 800 rfl ?_
      refine q04 ?_
      refine go 800 rfl ?_
      refine q08 rfl rfl rfl trivial ?_
      rw [bad 3 (by rw [qe2, if_pos (.inr hb)]) (by decide)]
    | true =>
      have hn : ¬ (q4Q s m.pa m.ea = false ∨ q4Q s m.pb m.eb = false) := by rw [ha, hb]; simp
      refine go 800 rfl ?_
      refine q0m rfl ?_
      refine go 800 rfl ?_
      refine q02 rfl (fun f => ?_) (fun f => ?_)
      ·rw [q06] at f
       refine go 800 rfl ?_
       refine q04 ?_
       refine go 800 rfl ?_
       refine q08 rfl rfl rfl trivial ?_
       rw [bad 1 (by rw [qe2, if_neg hn, if_pos f]) (by decide)]
      ·rw [q07] at f
       refine go 800 rfl ?_
       refine q04 ?_
       exact hN (k + 1) ⟨hlt, good (by rw [qe2, if_neg hn, if_neg (by omega)])⟩ (by omega) (q03 rfl ⟨rfl, trivial⟩ (by rw [w1]; rfl))
 rw [q07] at e
 obtain rfl : k = s.seams.length := by omega
 refine go 800 rfl ?_
 refine q04 ?_
 refine go 800 rfl ?_
 refine q08 rfl rfl rfl trivial ?_
 rw [h0]
end Go.F

namespace Go.F
attribute [local irreducible] IntKind.wrap wpM
def qgL : Piece := ⟨⟨#[]⟩, [], 0, [], [], [], false⟩
structure StyOk (s : Sty) : Prop where
 mults : s.mults.length = s.sizes.length
 size : 0 < s.sizes.length
 sizes : s.sizes.length ≤ 12
 pieces : s.pieces.length ≤ 12
 uses : s.uses.length ≤ 12
 seams : s.seams.length ≤ 24
 use : ∀ u ∈ s.uses, 0 ≤ u.piece ∧ u.piece < s.pieces.length ∧ 1 ≤ u.count ∧ u.count ≤ 4
 piece : ∀ i, i < s.pieces.length → q38 s i = 0
 mult : ∀ m ∈ s.mults, -100 ≤ m ∧ m ≤ 100
 base : 0 ∈ s.mults
theorem qdC {s : Sty} (h : q32 s = 0) : StyOk s := by
 unfold q32 at h
 split at h
 ·rename_i h1; exact absurd h h1
 ·rename_i h1
  split at h
  ·rename_i h2; exact absurd h h2
  ·rename_i h2
   split at h
   ·cases h
   ·rename_i h3
    have h1 : q26 s = 0 := by simpa using h1
    have h2 : q0F (q38 s) s.pieces.length = 0 := by simpa using h2
    unfold q26 at h1
    split at h1
    ·cases h1
    split at h1
    ·cases h1
    split at h1
    ·cases h1
    split at h1
    ·cases h1
    split at h1
    ·cases h1
    split at h1
    ·cases h1
    split at h1
    ·cases h1
    rename_i g1 g2 g3 g4 g5 g6 g7
    refine ⟨by omega, by omega, by omega, by omega, by omega, by omega, fun u hu => ?_, fun i hi => q1B h2 hi, fun m hm => ?_, ?_⟩
    ·have hb : q2C s.pieces.length u = false := by
      cases hb : q2C s.pieces.length u with
      | false => rfl
      | true => exact absurd (List.any_eq_true.2 ⟨u, hu, hb⟩) h3
     simp [q2C] at hb
     omega
    ·have hb : (decide (m < -100) || decide (100 < m)) = false := by
      cases hb : (decide (m < -100) || decide (100 < m)) with
      | false => rfl
      | true => exact absurd (List.any_eq_true.2 ⟨m, hm, hb⟩) g7
     simp at hb
     omega
    ·rcases Classical.em (0 ∈ s.mults) with h | h
     ·exact h
     ·exact absurd (.inr h) g3
def qbe (s : Sty) (size use : Int) : Prop := size < 0 ∨ (s.sizes.length : Int) ≤ size ∨ use < 0 ∨ (s.uses.length : Int) ≤ use
instance (s : Sty) (a b : Int) : Decidable (qbe s a b) := by unfold qbe; exact inferInstance
def q2S (s : Sty) (use : Int) : Piece := pc s.pieces (us s.uses use.toNat).piece.toNat
def q3i (s : Sty) (size use : Int) : List Edge × Piece × Int :=
 if q32 s ≠ 0 then ([], qgL, q32 s)
 else if qbe s size use then ([], qgL, 3)
 else ((q0B (q2S s use) (mu s.mults size.toNat)).1, q2S s use, (q0B (q2S s use) (mu s.mults size.toNat)).2)
set_option maxHeartbeats 4000000 in
theorem qfU (s : Sty) (size use : Int) (hB : StyB s) : PU q60 [s.enc, .int .i64 size, .int .i64 use] = some (.tup [edges (q3i s size use).1, (q3i s size use).2.1.enc, .int .i64 (q3i s size use).2.2]) := by
 refine q0h (fn := q5N) rfl (q0c ?_)
 refine go 800 rfl ?_
 refine q01 rfl rfl (q1c s hB) ?_
 refine go 800 rfl ?_
 refine q02 rfl (fun g => ?_) (fun g => ?_)
 ·rw [q0z] at g
  refine go 800 rfl ?_
  refine q08 rfl rfl rfl trivial ?_
  rw [q3i, if_pos g]; rfl
 have g : q32 s = 0 := q0A.1 g
 have hok := qdC g
 have hw : q3i s size use = if qbe s size use then ([], qgL, 3) else ((q0B (q2S s use) (mu s.mults size.toNat)).1, q2S s use, (q0B (q2S s use) (mu s.mults size.toNat)).2) := by rw [q3i, if_neg (by simp [g])]
 rw [hw]
 refine go 800 rfl ?_
 refine q05 rfl (fun f1 => ?_) (fun f1 => ?_)
 ·rw [q06] at f1
  refine go 800 rfl ?_
  refine q0e rfl ?_
  refine go 800 rfl ?_
  refine q0e rfl ?_
  refine go 800 rfl ?_
  refine q0g rfl ?_
  refine go 800 rfl ?_
  refine q08 rfl rfl rfl trivial ?_
  rw [if_pos (.inl f1)]; rfl
 rw [q07] at f1
 refine go 800 rfl ?_
 rw [List.length_map]
 refine q05 rfl (fun f2 => ?_) (fun f2 => ?_)
 ·rw [q0D] at f2
  refine go 800 rfl ?_
  refine q0e rfl ?_
  refine go 800 rfl ?_
  refine q0g rfl ?_
  refine go 800 rfl ?_
  refine q08 rfl rfl rfl trivial ?_
  rw [if_pos (.inr (.inl f2))]; rfl
 rw [q0E] at f2
 refine go 800 rfl ?_
 refine q05 rfl (fun f3 => ?_) (fun f3 => ?_)
 ·rw [q06] at f3
  refine go 800 rfl ?_
  refine q0g rfl ?_
  refine go 800 rfl ?_
  refine q08 rfl rfl rfl trivial ?_
  rw [if_pos (.inr (.inr (.inl f3)))]; rfl
 rw [q07] at f3
 refine go 800 rfl ?_
 rw [List.length_map]
 refine q02 rfl (fun f4 => ?_) (fun f4 => ?_)
 ·rw [q0D] at f4
  refine go 800 rfl ?_
  refine q08 rfl rfl rfl trivial ?_
  rw [if_pos (.inr (.inr (.inr f4)))]; rfl
 rw [q0E] at f4
 have hno : ¬ qbe s size use := by unfold qbe; omega
 rw [if_neg hno]
 have hu : use.toNat < s.uses.length := by omega
 have hup := hok.use (us s.uses use.toNat) (by rw [q9Q hu]; exact List.getElem_mem _)
 have hpl : (us s.uses use.toNat).piece.toNat < s.pieces.length := by omega
 have hml : size.toNat < s.mults.length := by rw [hok.mults]; omega
 have hg := q7R (q2S s use) (mu s.mults size.toNat) (by have := hB.corners _ (qpu hpl); unfold q2S; omega)
 refine go 800 rfl ?_
 refine q0k use.toNat rfl rfl (by omega) (qde hu) rfl ?_
 refine go 800 rfl ?_
 refine q0k (us s.uses use.toNat).piece.toNat rfl rfl (by omega) (qeL hpl) rfl ?_
 refine go 800 rfl ?_
 refine q0k size.toNat rfl rfl (by omega) (qpw hml) rfl ?_
 refine go 800 rfl ?_
 refine q01 rfl rfl hg ?_
 refine go 800 rfl ?_
 refine q08 rfl rfl rfl trivial ?_
 rfl
def qdL (s : Sty) (size use : Int) : List Spot × Int :=
 if (q3i s size use).2.2 ≠ 0 then ([], (q3i s size use).2.2) else q2F (q3i s size use).1 (q3i s size use).2.1.widths
theorem qtJ (s : Sty) (size use : Int) (hB : StyB s) : PU q48 [s.enc, .int .i64 size, .int .i64 use] = some (qll (qdL s size use)) := by
 have h := qfU s size use hB
 unfold qdL
 generalize q3i s size use = o at *
 refine q0h (fn := qbP) rfl (q0c ?_)
 refine go 800 rfl ?_
 refine q01 rfl rfl h ?_
 refine go 800 rfl ?_
 refine q02 rfl (fun g => ?_) (fun g => ?_)
 ·rw [q0z] at g
  refine go 800 rfl ?_
  refine q08 rfl rfl rfl trivial ?_
  rw [if_pos g]; rfl
 ·rw [q0A] at g
  rw [if_neg (by simp [g])]
  refine go 800 rfl ?_
  refine q01 rfl rfl (qmE o.1 o.2.1.widths) ?_
  refine go 800 rfl ?_
  exact q08 rfl rfl rfl trivial rfl
def qbB (s : Sty) (size use : Int) : Spot × Int :=
 if (q3i s size use).2.2 ≠ 0 then (⟨0, 0⟩, (q3i s size use).2.2) else (pt (eg (q3i s size use).1 0).line 0, 0)
theorem qtK {s : Sty} {size use : Int} (h : (q3i s size use).2.2 = 0) : q0Q (q3i s size use).1 = 0 ∧ q32 s = 0 ∧ ¬ qbe s size use := by
 unfold q3i at h ⊢
 split at h
 ·rename_i h1; exact absurd h h1
 ·rename_i h1
  rw [if_neg h1]
  split at h
  ·cases h
  ·rename_i h2
   rw [if_neg h2]
   exact ⟨(q5D h).2.2.1, by simpa using h1, h2⟩
theorem qlc (s : Sty) (size use : Int) (hB : StyB s) : PU q49 [s.enc, .int .i64 size, .int .i64 use] = some (.tup [(qbB s size use).1.enc, .int .i64 (qbB s size use).2]) := by
 have h := qfU s size use hB
 have hk := qtK (s := s) (size := size) (use := use)
 unfold qbB
 generalize q3i s size use = o at *
 refine q0h (fn := q80) rfl (q0c ?_)
 refine go 800 rfl ?_
 refine q01 rfl rfl h ?_
 refine go 800 rfl ?_
 refine q02 rfl (fun g => ?_) (fun g => ?_)
 ·rw [q0z] at g
  refine go 800 rfl ?_
  refine q08 rfl rfl rfl trivial ?_
  rw [if_pos g]; rfl
 ·rw [q0A] at g
  have hc := (hk g).1
  have h2 := (q1w hc).1
  have hl := (q20 hc (eg o.1 0) (by rw [q8s (by omega)]; exact List.getElem_mem _)).1
  rw [if_neg (by simp [g])]
  refine go 800 rfl ?_
  refine q0k 0 rfl rfl rfl (q24 (by omega)) rfl ?_
  refine go 800 rfl ?_
  refine q0k 0 rfl rfl rfl (q0T (by omega)) rfl ?_
  refine go 800 rfl ?_
  exact q08 rfl rfl rfl trivial rfl
structure Plc where
 garment : Int
 use : Int
 copy : Int
 flip : Bool
 quarter : Int
 x : Int
 y : Int
 deriving DecidableEq
def Plc.enc (p : Plc) : D := .agg [.int .i64 p.garment, .int .i64 p.use, .int .i64 p.copy, .bool p.flip, .int .i64 p.quarter, .int .i64 p.x, .int .i64 p.y]
def qoc (l : List Plc) : D := .lst (l.map Plc.enc)
theorem qdD (p : Plc) : plain 4 p.enc = true := rfl
theorem quO (p : Plc) : dat 4 p.enc = true := rfl
def qbf (u : Use) (i k : Nat) : Plc := ⟨0, i, k, u.pair && decide (k % 2 = 1), 0, 0, 0⟩
def q1y (u : Use) (i n : Nat) : List Plc := (List.range n).map (qbf u i)
def q13 (l : List Use) : Nat → List Plc
 | 0 => []
 | i + 1 => q13 l i ++ q1y (us l i) i (us l i).count.toNat
def q7O (s : Sty) : List Plc := if q32 s ≠ 0 then [] else q13 s.uses s.uses.length
theorem qbg {l : List Use} (h : ∀ u ∈ l, u.count ≤ 4) : ∀ i, i ≤ l.length → (q13 l i).length ≤ 4 * i
 | 0, _ => by simp [q13]
 | i + 1, hi => by
   have h1 := qbg h i (by omega)
   have h2 := h (us l i) (by rw [q9Q (by omega)]; exact List.getElem_mem _)
   rw [q13, List.length_append]
   simp only [q1y, List.length_map, List.length_range]
   omega
theorem tmod2 (k : Nat) : ((k : Int)).tmod 2 = ((k % 2 : Nat) : Int) := by
 rw [Int.tmod_eq_emod_of_nonneg (by omega)]; omega
set_option maxHeartbeats 8000000 in
theorem qld (s : Sty) (hB : StyB s) : PU q5Y [s.enc] = some (qoc (q7O s)) := by
 refine q0h (fn := q81) rfl (q0c ?_)
 refine go 800 rfl ?_
 refine q01 rfl rfl (q1c s hB) ?_
 refine go 800 rfl ?_
 refine q02 rfl (fun g => ?_) (fun g => ?_)
 ·rw [q0z] at g
  refine go 800 rfl ?_
  refine q08 rfl rfl rfl trivial ?_
  rw [q7O, if_pos g]; rfl
 have g : q32 s = 0 := q0A.1 g
 have hok := qdC g
 have hlen := qbg (l := s.uses) (fun u hu => (hok.use u hu).2.2.2)
 have hu12 := hok.uses
 rw [q7O, if_neg (by simp [g])]
 refine go 800 rfl ?_
 rw [List.length_map]
 refine q0q (S := fun k : Nat => ([.ref 0 0 (q13 s.uses k).length, Go.F.uses s.uses, q00 s.uses.length, q00 k], [some (.row ((q13 s.uses k).map Plc.enc) 7), none, none, none], [0, 0, 0, 0])) (C := fun k => k ≤ s.uses.length) (m := fun k => s.uses.length - k) 0 (Nat.zero_le _) (by omega) ?_ ?_
 ·exact q03 rfl ⟨rfl, trivial⟩ rfl
 intro k hk N hN
 refine go 800 rfl ?_
 refine q02 rfl (fun e => ?_) (fun e => ?_)
 ·rw [q06] at e
  have hlt : k < s.uses.length := by omega
  have w1 : IntKind.i64.wrap ((k : Int) + 1) = ((k + 1 : Nat) : Int) := wrap64 (by omega) (by omega)
  have hx := qde hlt
  have huk := hok.use (us s.uses k) (by rw [q9Q hlt]; exact List.getElem_mem _)
  have hl0 := hlen k hk
  have hstep : q13 s.uses (k + 1) = q13 s.uses k ++ q1y (us s.uses k) k (us s.uses k).count.toNat := rfl
  generalize us s.uses k = u at *
  generalize q13 s.uses k = L at *
  have ec : u.count = ((u.count.toNat : Nat) : Int) := by omega
  refine go 800 rfl ?_
  refine q0k k rfl rfl rfl hx rfl ?_
  refine go 800 rfl ?_
  refine q0q (S := fun n : Nat => ([.ref 0 0 (L ++ q1y u k n).length, q00 k, .ptr 2 0 0, Go.F.uses s.uses, q00 s.uses.length, q00 k, .int .i64 u.count, q00 n], [some (.row ((L ++ q1y u k n).map Plc.enc) 7), none, some (.row [u.enc] 3), none, none, none, none, none], [0, 0, 0, 0, 0, 0, 0, 0])) (C := fun n => n ≤ u.count.toNat) (m := fun n => u.count.toNat - n) 0 (Nat.zero_le _) (by omega) ?_ ?_
  ·exact q03 rfl ⟨q0b qdD _, rfl, trivial⟩ (by simp [q1y, uses, q00, Use.enc])
  intro n hn N2 hN2
  refine go 800 rfl ?_
  refine q02 rfl (fun f => ?_) (fun f => ?_)
  ·rw [q06] at f
   have wn : IntKind.i64.wrap ((n : Int) + 1) = ((n + 1 : Nat) : Int) := wrap64 (by omega) (by omega)
   have hst : (L ++ q1y u k (n + 1)).map Plc.enc = (L ++ q1y u k n).map Plc.enc ++ [(qbf u k n).enc] := by
    simp [q1y, List.range_succ]
   refine go 800 rfl ?_
   refine q05 rfl (fun p1 => ?_) (fun p1 => ?_)
   ·have p1 : u.pair = true := p1
    have hcp : qbf u k n = ⟨0, k, n, decide (n % 2 = 1), 0, 0, 0⟩ := by rw [qbf, p1]; rfl
    have hbq : eqb ((n : Int).tmod 2) 1 = decide (n % 2 = 1) := by
     rw [tmod2, q2i]; apply decide_eq_decide.2; omega
    rw [hcp] at hst
    refine go 800 rfl ?_
    refine q4R rfl rfl (by decide) ?_
    refine go 800 rfl ?_
    rw [hbq]
    refine go 800 rfl ?_
    refine q1E rfl rfl rfl rfl rfl rfl (by simp [q1y]) (Nat.zero_le _) (by simp [q0U, q1y]; omega) ?_
    refine go 800 rfl ?_
    refine q04 ?_
    refine hN2 (n + 1) (by omega) (by omega) (q03 rfl ⟨?_, rfl, trivial⟩ ?_)
    ·rw [List.all_append, q0b qdD]; rfl
    ·rw [hst, wn]
     simp [q1y, uses, q00, Use.enc]
     exact ⟨by omega, rfl⟩
   ·have p1 : u.pair = false := p1
    have hcp : qbf u k n = ⟨0, k, n, false, 0, 0, 0⟩ := by rw [qbf, p1]; rfl
    rw [hcp] at hst
    refine go 800 rfl ?_
    refine q1E rfl rfl rfl rfl rfl rfl (by simp [q1y]) (Nat.zero_le _) (by simp [q0U, q1y]; omega) ?_
    refine go 800 rfl ?_
    refine q04 ?_
    refine hN2 (n + 1) (by omega) (by omega) (q03 rfl ⟨?_, rfl, trivial⟩ ?_)
    ·rw [List.all_append, q0b qdD]; rfl
    ·rw [hst, wn]
     simp [q1y, uses, q00, Use.enc]
     exact ⟨by omega, rfl⟩
  rw [q07] at f
  obtain rfl : n = u.count.toNat := by omega
  clear hN2
  refine go 800 rfl ?_
  refine q04 ?_
  refine go 800 rfl ?_
  refine q04 ?_
  refine hN (k + 1) hlt (by omega) (q03 rfl ⟨q0b qdD _, trivial⟩ ?_)
  rw [hstep, w1]; rfl
 rw [q07] at e
 obtain rfl : k = s.uses.length := by omega
 refine go 800 rfl ?_
 refine q04 ?_
 refine go 800 rfl ?_
 refine q08 rfl rfl rfl ⟨q3s (by simp) (q1t quO _), trivial⟩ ?_
 rw [q5n (by simp)]; rfl
def q6e (s : Sty) (sizes : List Int) : List Int × Int :=
 if q32 s ≠ 0 then ([], q32 s)
 else if (sizes.any fun z => decide (z < 0) || decide ((s.sizes.length : Int) ≤ z)) then ([], 3)
 else (s.uses.map fun u => u.count * sizes.length, 0)
set_option maxHeartbeats 8000000 in
theorem qod (s : Sty) (sizes : List Int) (hB : StyB s) (hz : sizes.length ≤ 1000) : PU q6T [s.enc, ints sizes] = some (.tup [ints (q6e s sizes).1, .int .i64 (q6e s sizes).2]) := by
 refine q0h (fn := q9k) rfl (q0c ?_)
 refine go 800 rfl ?_
 refine q01 rfl rfl (q1c s hB) ?_
 refine go 800 rfl ?_
 refine q02 rfl (fun g => ?_) (fun g => ?_)
 ·rw [q0z] at g
  refine go 800 rfl ?_
  refine q08 rfl rfl rfl trivial ?_
  rw [q6e, if_pos g]; rfl
 have g : q32 s = 0 := q0A.1 g
 have hok := qdC g
 have hu12 := hok.uses
 have hw : q6e s sizes = if (sizes.any fun z => decide (z < 0) || decide ((s.sizes.length : Int) ≤ z)) then (([], 3) : List Int × Int) else (s.uses.map fun u => u.count * (sizes.length : Int), 0) := by rw [q6e, if_neg (by simp [g])]
 rw [hw]
 refine go 800 rfl ?_
 rw [List.length_map]
 refine q0q (S := fun k : Nat => ([ints sizes, .ptr 1 0 0, ints sizes, q00 sizes.length, q00 k], [none, some (.row [s.enc] 7), none, none, none], [0, 0, 0, 0, 0])) (C := fun k => k ≤ sizes.length ∧ ∀ j (hj : j < sizes.length), j < k → (decide (sizes[j] < 0) || decide ((s.sizes.length : Int) ≤ sizes[j])) = false) (m := fun k => sizes.length - k) 0 ⟨Nat.zero_le _, fun j _ h => by omega⟩ (by omega) ?_ ?_
 ·exact q03 rfl ⟨rfl, trivial⟩ rfl
 rintro k ⟨hk, hm⟩ N hN
 refine go 800 rfl ?_
 refine q02 rfl (fun e => ?_) (fun e => ?_)
 ·rw [q06] at e
  have hlt : k < sizes.length := by omega
  have w1 : IntKind.i64.wrap ((k : Int) + 1) = ((k + 1 : Nat) : Int) := wrap64 (by omega) (by omega)
  have bad : (decide (sizes[k] < 0) || decide ((s.sizes.length : Int) ≤ sizes[k])) = true → (sizes.any fun z => decide (z < 0) || decide ((s.sizes.length : Int) ≤ z)) = true := fun h => q3c hlt h
  have hx : (sizes.map q00)[k]? = some (.int .i64 sizes[k]) := q1J hlt
  refine go 800 rfl ?_
  refine q0k k rfl rfl rfl hx rfl ?_
  refine go 800 rfl ?_
  refine q05 rfl (fun f1 => ?_) (fun f1 => ?_)
  ·rw [q06] at f1
   refine go 800 rfl ?_
   refine q0g rfl ?_
   refine go 800 rfl ?_
   refine q04 ?_
   refine go 800 rfl ?_
   refine q08 rfl rfl rfl trivial ?_
   rw [if_pos (bad (by simp; omega))]; rfl
  rw [q07] at f1
  refine go 800 rfl ?_
  rw [List.length_map]
  refine q02 rfl (fun f2 => ?_) (fun f2 => ?_)
  ·rw [q0D] at f2
   refine go 800 rfl ?_
   refine q04 ?_
   refine go 800 rfl ?_
   refine q08 rfl rfl rfl trivial ?_
   rw [if_pos (bad (by simp; omega))]; rfl
  rw [q0E] at f2
  refine go 800 rfl ?_
  refine q04 ?_
  refine hN (k + 1) ⟨hlt, fun j hj hjk => ?_⟩ (by omega) (q03 rfl ⟨rfl, trivial⟩ (by rw [w1]; rfl))
  by_cases ej : j = k
  ·subst ej; simp; omega
  ·exact hm j hj (by omega)
 rw [q07] at e
 obtain rfl : k = sizes.length := by omega
 clear hN
 rw [if_neg (by rw [q2N fun j hj => hm j hj hj]; decide)]
 refine go 800 rfl ?_
 refine q04 ?_
 refine go 800 rfl ?_
 rw [List.length_map]
 refine q0q (S := fun k : Nat => ([ints sizes, .ref 1 0 k, Go.F.uses s.uses, q00 s.uses.length, q00 k], [none, some (.row (((s.uses.take k).map fun u => u.count * (sizes.length : Int)).map q00) 1), none, none, none], [0, 0, 0, 0, 0])) (C := fun k => k ≤ s.uses.length) (m := fun k => s.uses.length - k) 0 (Nat.zero_le _) (by omega) ?_ ?_
 ·exact q03 rfl ⟨rfl, trivial⟩ rfl
 intro k hk N hN
 refine go 800 rfl ?_
 refine q02 rfl (fun e => ?_) (fun e => ?_)
 ·rw [q06] at e
  have hlt : k < s.uses.length := by omega
  have w1 : IntKind.i64.wrap ((k : Int) + 1) = ((k + 1 : Nat) : Int) := wrap64 (by omega) (by omega)
  have huk := hok.use (us s.uses k) (by rw [q9Q hlt]; exact List.getElem_mem _)
  have hst : (((s.uses.take (k + 1)).map fun u => u.count * (sizes.length : Int)).map q00) = ((s.uses.take k).map fun u => u.count * (sizes.length : Int)).map q00 ++ [q00 ((us s.uses k).count * sizes.length)] := by
   rw [List.take_succ_eq_append_getElem hlt, List.map_append, List.map_append, q9Q hlt]; rfl
  have hp : (us s.uses k).count * (sizes.length : Int) ≤ 4 * 1000 := Int.mul_le_mul (by omega) (by omega) (by omega) (by omega)
  have hp0 : 0 ≤ (us s.uses k).count * (sizes.length : Int) := Int.mul_nonneg (by omega) (by omega)
  have w2 : IntKind.i64.wrap ((us s.uses k).count * (((sizes.map q00).length : Nat) : Int)) = (us s.uses k).count * (sizes.length : Int) := by rw [List.length_map]; exact wrap64 (by omega) (by omega)
  refine go 800 rfl ?_
  refine q0k k rfl rfl rfl (qde hlt) rfl ?_
  refine go 800 rfl ?_
  rw [w2]
  refine q1E rfl rfl rfl rfl rfl rfl (by simp; omega) (Nat.zero_le _) (by simp [q0U]; omega) ?_
  refine go 800 rfl ?_
  refine q04 ?_
  refine hN (k + 1) hlt (by omega) (q03 rfl ⟨?_, trivial⟩ ?_)
  ·rw [List.all_append, q0b q9W]; rfl
  ·rw [hst, w1]; rfl
 rw [q07] at e
 obtain rfl : k = s.uses.length := by omega
 rw [List.take_length]
 refine go 800 rfl ?_
 refine q04 ?_
 refine go 800 rfl ?_
 refine q08 rfl rfl rfl ⟨q3s (by simp) (q1t qln _), trivial⟩ ?_
 rw [q5n (by simp)]; rfl
end Go.F

namespace Go.F
mutual
def eqD : D → D → Bool
 | .bool a, .bool b => a == b
 | .int k n, .int k' n' => decide (k = k') && decide (n = n')
 | .str a, .str b => decide (a = b)
 | .lst l, .lst m => eqL l m
 | .agg l, .agg m => eqL l m
 | .tup l, .tup m => eqL l m
 | _, _ => false
def eqL : List D → List D → Bool
 | [], [] => true
 | a :: l, b :: m => eqD a b && eqL l m
 | _, _ => false
end
mutual
theorem qtb : ∀ {a b : D}, eqD a b = true → a = b
 | .bool a, .bool b, h => by simp [eqD] at h; rw [h]
 | .int k n, .int k' n', h => by simp [eqD] at h; rw [h.1, h.2]
 | .str a, .str b, h => by simp [eqD] at h; rw [h]
 | .lst l, .lst m, h => by rw [eqD] at h; rw [qm3 h]
 | .agg l, .agg m, h => by rw [eqD] at h; rw [qm3 h]
 | .tup l, .tup m, h => by rw [eqD] at h; rw [qm3 h]
 | .float .., _, h => by simp [eqD] at h
 | .nilsl, _, h => by simp [eqD] at h
 | .ref .., _, h => by simp [eqD] at h
 | .pl .., _, h => by simp [eqD] at h
 | .ptr .., _, h => by simp [eqD] at h
 | .fn .., _, h => by simp [eqD] at h
 | .mref .., _, h => by simp [eqD] at h
 | .mlst .., _, h => by simp [eqD] at h
 | .opq .., _, h => by simp [eqD] at h
 | .bad, _, h => by simp [eqD] at h
theorem qm3 : ∀ {a b : List D}, eqL a b = true → a = b
 | [], [], _ => rfl
 | a :: l, b :: m, h => by rw [eqL, Bool.and_eq_true] at h; rw [qtb h.1, qm3 h.2]
 | [], _ :: _, h => by simp [eqL] at h
 | _ :: _, [], h => by simp [eqL] at h
end
def eqO : Option D → D → Bool
 | some a, b => eqD a b
 | none, _ => false
theorem eqO_eq {a : Option D} {b : D} (h : eqO a b = true) : a = some b := by
 cases a with
 | none => simp [eqO] at h
 | some a => rw [qtb h]
def qul : Piece := ⟨⟨#[102, 114, 111, 110, 116]⟩,
 [⟨⟨#[101, 97]⟩, [⟨0, 0⟩, ⟨10, 0⟩]⟩, ⟨⟨#[101, 98]⟩, [⟨10, 0⟩, ⟨10, 10⟩]⟩, ⟨⟨#[101, 99]⟩, [⟨10, 10⟩, ⟨0, 10⟩]⟩, ⟨⟨#[101, 100]⟩, [⟨0, 10⟩, ⟨0, 0⟩]⟩],
 2, [], [⟨0, 0⟩, ⟨2, 0⟩, ⟨2, 0⟩, ⟨0, 0⟩], [1, 1, 1, 1], false⟩
def plainS : Sty := ⟨⟨#[115, 104, 105, 114, 116]⟩, [⟨#[83]⟩, ⟨#[77]⟩], [0, 3], [qul], [⟨0, 3, true⟩], [], []⟩
theorem qro : eqO (run prog q6Z q0r 12 qcx []) plainS.enc = true := by
 decide +kernel
theorem qtc : PU qcx [] = some plainS.enc := qoo (eqO_eq qro)
end Go.F

namespace Go.F
attribute [local irreducible] IntKind.wrap wpM
def nI (l : List Int) (i : Nat) : Int := l.getD i 0
theorem qs9 {l : List Int} {i : Nat} (h : i < l.length) : (l.map q00)[i]? = some (.int .i64 (nI l i)) := by simp [nI, h, q00]
theorem qsa {l : List Int} {i : Nat} (h : i < l.length) : nI l i = l[i] := by simp [nI, h]
theorem qhG (p q : List Int) (hp : p.length < 4611686018427387904) : PU q8v [ints p, ints q] = some (.bool (decide (p = q))) := by
 refine q0h (fn := q82) rfl (q0c ?_)
 refine go 800 rfl ?_
 refine q02 rfl (fun h1 => ?_) (fun h1 => ?_)
 ·refine go 800 rfl ?_
  refine q08 rfl rfl rfl trivial ?_
  rw [q0z, List.length_map, List.length_map] at h1
  have : p ≠ q := by rintro rfl; exact h1 rfl
  simp [this]
 rw [q0A, List.length_map, List.length_map] at h1
 refine go 800 rfl ?_
 refine q0q (S := fun k : Nat => ([ints p, ints q, q00 k], [none, none, none], [0, 0, 0])) (C := fun k => k ≤ p.length ∧ ∀ i, i < k → nI p i = nI q i) (m := fun k => p.length - k) 0 ⟨by omega, fun i hi => by omega⟩ (by omega) ?_ ?_
 ·exact q03 rfl trivial (by simp [ints, q00])
 intro k ⟨hk, hall⟩ N hN
 refine go 800 rfl ?_
 refine q02 rfl (fun g1 => ?_) (fun g1 => ?_)
 ·rw [q06, List.length_map] at g1
  have hlt : k < p.length := by omega
  have w1 : IntKind.i64.wrap ((k : Int) + 1) = ((k + 1 : Nat) : Int) := wrap64 (by omega) (by omega)
  refine go 800 rfl ?_
  refine q0k k rfl rfl rfl (qs9 hlt) rfl ?_
  refine go 800 rfl ?_
  refine q0k k rfl rfl rfl (qs9 (by omega)) rfl ?_
  refine go 800 rfl ?_
  refine q02 rfl (fun g2 => ?_) (fun g2 => ?_)
  ·rw [q0z] at g2
   refine go 800 rfl ?_
   refine q04 ?_
   refine go 800 rfl ?_
   refine q08 rfl rfl rfl trivial ?_
   have : p ≠ q := by rintro rfl; exact g2 rfl
   simp [this]
  ·rw [q0A] at g2
   refine go 800 rfl ?_
   refine q04 ?_
   refine hN (k + 1) ⟨by omega, fun i hi => ?_⟩ (by omega) (q03 rfl trivial (by simp [ints, q00, w1]))
   by_cases hik : i < k
   ·exact hall i hik
   ·obtain rfl : i = k := by omega
    exact g2
 rw [q07, List.length_map] at g1
 refine go 800 rfl ?_
 refine q04 ?_
 refine go 800 rfl ?_
 refine q08 rfl rfl rfl trivial ?_
 have : p = q := by
  refine List.ext_getElem (by omega) fun i h1 h2 => ?_
  have := hall i (by omega)
  rwa [qsa h1, qsa h2] at this
 simp [this]
theorem qom : q32 plainS = 0 := by decide +kernel
theorem pl_cut : qdL plainS 1 0 = ([⟨-1, -1⟩, ⟨17, -1⟩, ⟨17, 11⟩, ⟨-1, 11⟩], 0) := by decide +kernel
theorem qu0 : qbB plainS 1 0 = (⟨0, 0⟩, 0) := by decide +kernel
theorem qqz : (q7O plainS).map Plc.enc = [(⟨0, 0, 0, false, 0, 0, 0⟩ : Plc).enc, (⟨0, 0, 1, true, 0, 0, 0⟩ : Plc).enc, (⟨0, 0, 2, false, 0, 0, 0⟩ : Plc).enc] := by
 rw [q7O, if_neg (by rw [qom]; decide)]; rfl
theorem qsb : q6e plainS [0, 1, 1] = ([9], 0) := by
 rw [q6e, if_neg (by rw [qom]; decide)]; decide
def qon : Sty := ⟨⟨#[]⟩, [], [], [], [], [], []⟩
theorem qsc : q32 qon = 1 := by decide +kernel
end Go.F

namespace Go.F
theorem qu6 {f : FuncId} {fn : KFn} {args : List D} {Q : D → Prop} (hf : tab f = some fn) (hw : wp TT (shr TT 6) 0 fn.code (enter args) empty qf9 0 (qgt fn fun d h _ _ => ws2 h d Q)) : ∃ r, Q r ∧ PU f args = some r := by
 obtain ⟨F, cd, h1, h2, h3⟩ := tt_ok.tab f fn hf
 obtain ⟨d, h', z', nx', q1, e1⟩ := qcZ tt_ok (qkL tt_ok 6) h2 h3 hw
 obtain ⟨d', h4, h5⟩ := qq0 q1
 refine ⟨d', h5, qlO (e1.up.mono fun M hM => ?_)⟩
 obtain ⟨M', rfl, hM'⟩ := hM
 simp only [EM, env, h1, h2]
 have hM2 : body prog (env prog q6Z q0r M') (q0r f) F cd args empty qf9 0 = some (d, h', z', nx') := hM'
 rw [hM2]
 exact h4
theorem boolI {f : FuncId} {fn : KFn} {args : List D} {R : Prop} (hf : tab f = some fn)
 (hw : wpM TT (shr TT 6) 0 [.code fn.code] .normal (enter args) empty qf9 0 (qgt fn fun d h _ _ => ws2 h d fun d => ∃ b : Bool, d = .bool b ∧ (b = true → R))) : ∃ b : Bool, PU f args = some (.bool b) ∧ (b = true → R) := by
 simp only [wpM] at hw
 obtain ⟨r, ⟨b, rfl, hb⟩, h2⟩ := qu6 hf hw
 exact ⟨b, h2, hb⟩
attribute [local irreducible] IntKind.wrap wpM
section
variable {T : Tab} {sh : Shr} {nx0 : Nat} {t : q0u} {h : q0f} {z : Frz} {nx : Nat}
theorem qbI {fn : KFn} {ex : Ex} {Q : D → Prop} {d d' : D} {rows : List (List D × Nat × Nat)} (hex : (match ex with | .exit _ => false | _ => true) = true) (hd : dres t h fn.res = some d) (hs : dr2 h d = some (rows, d')) (hr : q4B rows) (he : Q d') :
 wpM T sh nx0 [] ex t h z nx (qgt fn fun d h _ _ => ws2 h d Q) := by
 refine q04 ?_
 cases ex with
 | exit i => cases hex
 | normal => exact q6M hd (qdG hs hr he)
 | ret => exact q6M hd (qdG hs hr he)
end
structure PcL (p : Piece) : Prop where
 edges : p.edges.length ≤ 20
 corners : p.corners.length ≤ 20
 widths : p.widths.length ≤ 20
 notches : p.notches.length ≤ 20
 line : ∀ i, i < p.edges.length → (eg p.edges i).line.length ≤ 80 ∧ (eg p.edges i).name.size ≤ 100
theorem qiZ (p : Piece) : p.enc = .agg [.str p.name, .lst (p.edges.map Edge.enc), .int .i64 p.grain, .lst (p.notches.map Ntc.enc), .lst (p.corners.map Spot.enc), .lst (p.widths.map q00), .bool p.match_] := rfl
set_option maxHeartbeats 8000000 in
theorem qlP (p : Piece) : ∃ b : Bool, PU qh2 [p.enc, .int .i64 80] = some (.bool b) ∧ (b = true → PcL p) := by
 refine boolI (fn := qbQ) rfl ?_
 rw [qiZ]
 refine go 800 rfl ?_
 refine q05 rfl (fun g0 => ?_) (fun g0 => ?_)
 ·refine go 800 rfl ?_
  refine q0e rfl ?_
  refine go 800 rfl ?_
  refine q0e rfl ?_
  refine go 800 rfl ?_
  refine q0g rfl ?_
  refine go 800 rfl ?_
  exact qbI rfl rfl rfl trivial ⟨false, rfl, fun h => by cases h⟩
 refine go 800 rfl ?_
 refine q05 rfl (fun g1 => ?_) (fun g1 => ?_)
 ·refine go 800 rfl ?_
  refine q0e rfl ?_
  refine go 800 rfl ?_
  refine q0g rfl ?_
  refine go 800 rfl ?_
  exact qbI rfl rfl rfl trivial ⟨false, rfl, fun h => by cases h⟩
 refine go 800 rfl ?_
 refine q05 rfl (fun g2 => ?_) (fun g2 => ?_)
 ·refine go 800 rfl ?_
  refine q0g rfl ?_
  refine go 800 rfl ?_
  exact qbI rfl rfl rfl trivial ⟨false, rfl, fun h => by cases h⟩
 refine go 800 rfl ?_
 refine q02 rfl (fun g3 => ?_) (fun g3 => ?_)
 ·refine go 800 rfl ?_
  exact qbI rfl rfl rfl trivial ⟨false, rfl, fun h => by cases h⟩
 rw [q07, List.length_map] at g0 g1 g2 g3
 refine go 800 rfl ?_
 refine q0q (S := fun a : Nat × Nat => ([.int .i64 80, .ptr 1 0 0, q00 a.2, q00 a.1], [none, some (.row [p.enc] 7), none, none], [0, 0, 0, 0])) (C := fun a => a.1 ≤ p.edges.length ∧ a.2 ≤ 80 * a.1 ∧ ∀ j, j < a.1 → (eg p.edges j).line.length ≤ 80 ∧ (eg p.edges j).name.size ≤ 100) (m := fun a => p.edges.length - a.1) (0, 0) ⟨Nat.zero_le _, Nat.zero_le _, fun j h => by simp at h⟩ (by show p.edges.length - 0 < _; omega) ?_ ?_
 ·exact q03 rfl ⟨rfl, trivial⟩ rfl
 rintro ⟨k, n⟩ ⟨hk, hn, hj⟩ N hN
 simp only at hk hn hj
 simp only [qiZ]
 refine go 800 rfl ?_
 rw [List.length_map]
 refine q02 rfl (fun e => ?_) (fun e => ?_)
 ·rw [q06] at e
  have hlt : k < p.edges.length := by omega
  have w1 : IntKind.i64.wrap ((k : Int) + 1) = ((k + 1 : Nat) : Int) := wrap64 (by omega) (by omega)
  refine go 800 rfl ?_
  refine q0k k rfl rfl rfl (q24 hlt) rfl ?_
  refine go 800 rfl ?_
  rw [List.length_map]
  refine q05 rfl (fun f1 => ?_) (fun f1 => ?_)
  ·refine go 800 rfl ?_
   refine q0g rfl ?_
   refine go 800 rfl ?_
   refine q04 ?_
   refine go 800 rfl ?_
   exact qbI rfl rfl rfl trivial ⟨false, rfl, fun h => by cases h⟩
  rw [q07] at f1
  refine go 800 rfl ?_
  refine q0k k rfl rfl rfl (q24 hlt) rfl ?_
  refine go 800 rfl ?_
  refine q02 rfl (fun f2 => ?_) (fun f2 => ?_)
  ·refine go 800 rfl ?_
   refine q04 ?_
   refine go 800 rfl ?_
   exact qbI rfl rfl rfl trivial ⟨false, rfl, fun h => by cases h⟩
  rw [q07] at f2
  have w2 : IntKind.i64.wrap ((n : Int) + ((eg p.edges k).line.length : Nat)) = ((n + (eg p.edges k).line.length : Nat) : Int) := wrap64 (by omega) (by omega)
  refine go 800 rfl ?_
  refine q0k k rfl rfl rfl (q24 hlt) rfl ?_
  refine go 800 rfl ?_
  rw [List.length_map]
  refine q04 ?_
  refine hN (k + 1, n + (eg p.edges k).line.length) ⟨hlt, by show _ ≤ 80 * (k + 1); omega, fun j hjk => ?_⟩ (by show p.edges.length - (k + 1) < p.edges.length - k; omega) (q03 rfl ⟨rfl, trivial⟩ (by rw [w1, w2]; rfl))
  have hjk : j < k + 1 := hjk
  by_cases ej : j = k
  ·subst ej; omega
  ·exact hj j (by omega)
 rw [q07] at e
 obtain rfl : k = p.edges.length := by omega
 refine go 800 rfl ?_
 refine q04 ?_
 refine go 800 rfl ?_
 exact qbI rfl rfl rfl trivial ⟨_, rfl, fun _ => ⟨by omega, by omega, by omega, by omega, hj⟩⟩
structure StyL (s : Sty) : Prop where
 name : s.name.size ≤ 100
 sizes : s.sizes.length ≤ 30
 mults : s.mults.length ≤ 30
 uses : s.uses.length ≤ 30
 seams : s.seams.length ≤ 30
 ops : s.ops.length ≤ 30
 pieces : s.pieces.length ≤ 14
 size : ∀ i (h : i < s.sizes.length), s.sizes[i].size ≤ 100
 piece : ∀ i, i < s.pieces.length → PcL (pc s.pieces i)
theorem StyL.B {s : Sty} (h : StyL s) : StyB s where
 sizes := Nat.le_trans h.sizes (by decide)
 size := fun x hx => by
  obtain ⟨i, hi, rfl⟩ := List.mem_iff_getElem.1 hx
  exact Nat.le_trans (h.size i hi) (by decide)
 mults := Nat.le_trans h.mults (by decide)
 pieces := Nat.le_trans h.pieces (by decide)
 uses := Nat.le_trans h.uses (by decide)
 seams := Nat.le_trans h.seams (by decide)
 ops := Nat.le_trans h.ops (by decide)
 corners := fun p hp => by
  obtain ⟨i, hi, rfl⟩ := List.mem_iff_getElem.1 hp
  exact q7z hi ▸ Nat.le_trans (h.piece i hi).corners (by decide)
 widths := fun p hp => by
  obtain ⟨i, hi, rfl⟩ := List.mem_iff_getElem.1 hp
  exact q7z hi ▸ Nat.le_trans (h.piece i hi).widths (by decide)
 notches := fun p hp => by
  obtain ⟨i, hi, rfl⟩ := List.mem_iff_getElem.1 hp
  exact q7z hi ▸ Nat.le_trans (h.piece i hi).notches (by decide)
set_option maxHeartbeats 8000000 in
theorem qaY (s : Sty) : ∃ b : Bool, PU q2O [s.enc] = some (.bool b) ∧ (b = true → StyL s) := by
 refine boolI (fn := qbN) rfl ?_
 rw [qbd]
 refine go 800 rfl ?_
 refine q05 rfl (fun g0 => ?_) (fun g0 => ?_)
 ·refine go 800 rfl ?_
  refine q0e rfl ?_
  refine go 800 rfl ?_
  refine q0e rfl ?_
  refine go 800 rfl ?_
  refine q0e rfl ?_
  refine go 800 rfl ?_
  refine q0e rfl ?_
  refine go 800 rfl ?_
  refine q0e rfl ?_
  refine go 800 rfl ?_
  refine q0g rfl ?_
  refine go 800 rfl ?_
  exact qbI rfl rfl rfl trivial ⟨false, rfl, fun h => by cases h⟩
 refine go 800 rfl ?_
 refine q05 rfl (fun g1 => ?_) (fun g1 => ?_)
 ·refine go 800 rfl ?_
  refine q0e rfl ?_
  refine go 800 rfl ?_
  refine q0e rfl ?_
  refine go 800 rfl ?_
  refine q0e rfl ?_
  refine go 800 rfl ?_
  refine q0e rfl ?_
  refine go 800 rfl ?_
  refine q0g rfl ?_
  refine go 800 rfl ?_
  exact qbI rfl rfl rfl trivial ⟨false, rfl, fun h => by cases h⟩
 refine go 800 rfl ?_
 refine q05 rfl (fun g2 => ?_) (fun g2 => ?_)
 ·refine go 800 rfl ?_
  refine q0e rfl ?_
  refine go 800 rfl ?_
  refine q0e rfl ?_
  refine go 800 rfl ?_
  refine q0e rfl ?_
  refine go 800 rfl ?_
  refine q0g rfl ?_
  refine go 800 rfl ?_
  exact qbI rfl rfl rfl trivial ⟨false, rfl, fun h => by cases h⟩
 refine go 800 rfl ?_
 refine q05 rfl (fun g3 => ?_) (fun g3 => ?_)
 ·refine go 800 rfl ?_
  refine q0e rfl ?_
  refine go 800 rfl ?_
  refine q0e rfl ?_
  refine go 800 rfl ?_
  refine q0g rfl ?_
  refine go 800 rfl ?_
  exact qbI rfl rfl rfl trivial ⟨false, rfl, fun h => by cases h⟩
 refine go 800 rfl ?_
 refine q05 rfl (fun g4 => ?_) (fun g4 => ?_)
 ·refine go 800 rfl ?_
  refine q0e rfl ?_
  refine go 800 rfl ?_
  refine q0g rfl ?_
  refine go 800 rfl ?_
  exact qbI rfl rfl rfl trivial ⟨false, rfl, fun h => by cases h⟩
 refine go 800 rfl ?_
 refine q05 rfl (fun g5 => ?_) (fun g5 => ?_)
 ·refine go 800 rfl ?_
  refine q0g rfl ?_
  refine go 800 rfl ?_
  exact qbI rfl rfl rfl trivial ⟨false, rfl, fun h => by cases h⟩
 refine go 800 rfl ?_
 refine q02 rfl (fun g6 => ?_) (fun g6 => ?_)
 ·refine go 800 rfl ?_
  exact qbI rfl rfl rfl trivial ⟨false, rfl, fun h => by cases h⟩
 rw [q07] at g0 g1 g2 g3 g4 g5 g6
 rw [List.length_map] at g1 g2 g3 g4 g5 g6
 refine go 800 rfl ?_
 refine q0q (S := fun k : Nat => ([.ptr 0 0 0, q00 k], [some (.row [s.enc] 7), none], [0, 0])) (C := fun k => k ≤ s.sizes.length ∧ ∀ j (h : j < s.sizes.length), j < k → s.sizes[j].size ≤ 100) (m := fun k => s.sizes.length - k) 0 ⟨Nat.zero_le _, fun j _ h => by omega⟩ (by omega) ?_ ?_
 ·exact q03 rfl ⟨rfl, trivial⟩ rfl
 rintro k ⟨hk, hj⟩ N hN
 simp only [qbd]
 refine go 800 rfl ?_
 rw [List.length_map]
 refine q02 rfl (fun e => ?_) (fun e => ?_)
 ·rw [q06] at e
  have hlt : k < s.sizes.length := by omega
  have w1 : IntKind.i64.wrap ((k : Int) + 1) = ((k + 1 : Nat) : Int) := wrap64 (by omega) (by omega)
  have hx : (s.sizes.map D.str)[k]? = some (.str s.sizes[k]) := q1J hlt
  refine go 800 rfl ?_
  refine q0k k rfl rfl rfl hx rfl ?_
  refine go 800 rfl ?_
  refine q02 rfl (fun f1 => ?_) (fun f1 => ?_)
  ·refine go 800 rfl ?_
   refine q04 ?_
   refine go 800 rfl ?_
   exact qbI rfl rfl rfl trivial ⟨false, rfl, fun h => by cases h⟩
  rw [q07] at f1
  refine go 800 rfl ?_
  refine q04 ?_
  refine hN (k + 1) ⟨hlt, fun j hj2 hjk => ?_⟩ (by omega) (q03 rfl ⟨rfl, trivial⟩ (by rw [w1]; rfl))
  by_cases ej : j = k
  ·subst ej; omega
  ·exact hj j hj2 (by omega)
 rw [q07] at e
 obtain rfl : k = s.sizes.length := by omega
 clear hN
 refine go 800 rfl ?_
 refine q04 ?_
 refine go 800 rfl ?_
 refine q0q (S := fun k : Nat => ([.ptr 0 0 0, q00 k], [some (.row [s.enc] 7), none], [0, 0])) (C := fun k => k ≤ s.pieces.length ∧ ∀ j, j < k → PcL (pc s.pieces j)) (m := fun k => s.pieces.length - k) 0 ⟨Nat.zero_le _, fun j h => by omega⟩ (by omega) ?_ ?_
 ·exact q03 rfl ⟨rfl, trivial⟩ rfl
 rintro k ⟨hk, hp⟩ N hN
 simp only [qbd]
 refine go 800 rfl ?_
 rw [List.length_map]
 refine q02 rfl (fun e => ?_) (fun e => ?_)
 ·rw [q06] at e
  have hlt : k < s.pieces.length := by omega
  have w1 : IntKind.i64.wrap ((k : Int) + 1) = ((k + 1 : Nat) : Int) := wrap64 (by omega) (by omega)
  obtain ⟨b, hb, hbs⟩ := qlP (pc s.pieces k)
  refine go 800 rfl ?_
  refine q0k k rfl rfl rfl (qeL hlt) rfl ?_
  refine go 800 rfl ?_
  refine q05 rfl (fun f1 => ?_) (fun f1 => ?_)
  ·refine go 800 rfl ?_
   refine q0g rfl ?_
   refine go 800 rfl ?_
   refine q04 ?_
   refine go 800 rfl ?_
   exact qbI rfl rfl rfl trivial ⟨false, rfl, fun h => by cases h⟩
  refine go 800 rfl ?_
  refine q0k k rfl rfl rfl (qeL hlt) rfl ?_
  refine go 800 rfl ?_
  refine q01 rfl rfl hb ?_
  refine go 800 rfl ?_
  cases b with
  | false =>
    refine q0g rfl ?_
    refine go 800 rfl ?_
    refine q04 ?_
    refine go 800 rfl ?_
    exact qbI rfl rfl rfl trivial ⟨false, rfl, fun h => by cases h⟩
  | true =>
    refine q0m rfl ?_
    refine go 800 rfl ?_
    refine q04 ?_
    refine hN (k + 1) ⟨hlt, fun j hjk => ?_⟩ (by omega) (q03 rfl ⟨rfl, trivial⟩ (by rw [w1]; rfl))
    by_cases ej : j = k
    ·subst ej; exact hbs rfl
    ·exact hp j (by omega)
 rw [q07] at e
 obtain rfl : k = s.pieces.length := by omega
 refine go 800 rfl ?_
 refine q04 ?_
 refine go 800 rfl ?_
 exact qbI rfl rfl rfl trivial ⟨_, rfl, fun _ => ⟨by omega, by omega, by omega, by omega, by omega, by omega, by omega, fun i hi => hj i hi hi, hp⟩⟩
end Go.F

namespace Go.F
attribute [local irreducible] IntKind.wrap wpM
theorem plB : StyB plainS := ⟨by decide, by decide, by decide, by decide, by decide, by decide, by decide, by decide, by decide, by decide⟩
theorem emB : StyB qon := ⟨by decide, by decide, by decide, by decide, by decide, by decide, by decide, by decide, by decide, by decide⟩
set_option maxRecDepth 100000 in
set_option maxHeartbeats 8000000 in
theorem q22 : PU q0X [] = some (.bool true) := by
 have s1 := qtJ plainS 1 0 plB
 have s2 := qlc plainS 1 0 plB
 have s3 := qld plainS plB
 have s4 := qod plainS [0, 1, 1] plB (by decide)
 have s5 := q1c plainS plB
 have s6 := q1c qon emB
 rw [pl_cut] at s1
 rw [qu0] at s2
 rw [qoc, qqz] at s3
 rw [qsb] at s4
 rw [qom] at s5
 rw [qsc] at s6
 have hn : ∀ {x : Int} {P : Prop}, nqb x x = true → P := fun h => absurd rfl (q0z.1 h)
 have s7 := qhv [⟨-1, -1⟩, ⟨17, -1⟩, ⟨17, 11⟩, ⟨-1, 11⟩] [⟨-1, -1⟩, ⟨17, -1⟩, ⟨17, 11⟩, ⟨-1, 11⟩] (by decide)
 have s8 := qhG [9] [9] (by decide)
 rw [decide_eq_true rfl] at s7 s8
 have e0 : eqb 0 0 = true := q12.2 rfl
 have e1 : eqb 1 1 = true := q12.2 rfl
 refine q0h (fn := qbO) rfl (q0c ?_)
 refine go 800 rfl ?_
 refine q01 rfl rfl qtc ?_
 refine go 800 rfl ?_
 refine q01 rfl rfl s1 ?_
 refine go 800 rfl ?_
 refine q01 rfl rfl s2 ?_
 refine go 800 rfl ?_
 refine q01 rfl rfl s3 ?_
 refine go 800 rfl ?_
 refine q2o rfl rfl ⟨⟨by decide, rfl⟩, trivial⟩ s4 fun z => ?_
 refine go 800 rfl ?_
 refine q05 rfl hn (fun _ => ?_)
 refine go 800 rfl ?_
 refine q05 rfl hn (fun _ => ?_)
 refine go 800 rfl ?_
 refine q05 rfl hn (fun _ => ?_)
 refine go 800 rfl ?_
 refine q05 rfl hn (fun _ => ?_)
 refine go 800 rfl ?_
 refine q01 rfl rfl s5 ?_
 refine go 800 rfl ?_
 refine q05 rfl hn (fun _ => ?_)
 refine go 800 rfl ?_
 refine q01 rfl rfl s6 ?_
 refine go 800 rfl ?_
 refine q02 rfl hn (fun _ => ?_)
 refine go 800 rfl ?_
 refine q2o rfl rfl ⟨⟨by decide, rfl⟩, trivial⟩ s7 fun z => ?_
 refine go 800 rfl ?_
 refine q0e rfl ?_
 refine go 800 rfl ?_
 refine q05 rfl (fun _ => ?_) (fun h => by simp [e0] at h)
 refine go 800 rfl ?_
 refine q0k 1 rfl rfl rfl rfl rfl ?_
 refine go 800 rfl ?_
 refine q05 rfl (fun _ => ?_) (fun h => by simp [e0, e1] at h)
 refine go 800 rfl ?_
 refine q2o rfl rfl ⟨⟨by decide, rfl⟩, trivial⟩ s8 fun z => ?_
 refine go 800 rfl ?_
 exact q08 rfl rfl rfl trivial rfl
end Go.F

namespace Go.F
attribute [local irreducible] IntKind.wrap wpM
theorem qhz (l : List Edge) (ws : List Int) : (q2F l ws).1.length ≤ 40 := by
 unfold q2F
 split
 ·unfold qan
  split
  ·simp
  ·split
   ·rename_i hq
    split
    ·exact (q2v hq).2.1
    ·simp
   ·simp
 ·simp
theorem qtx (s : Sty) (a b : Int) : (qdL s a b).1.length ≤ 40 := by
 unfold qdL
 split
 ·simp
 ·exact qhz _ _
theorem q7a {s : Sty} {a b : Int} (h : q32 s = 0) (hO : qbe s a b) : (qdL s a b).2 = 3 ∧ (qbB s a b).2 = 3 := by
 have ho : q3i s a b = ([], qgL, 3) := by unfold q3i; rw [if_neg (by simp [h]), if_pos hO]
 unfold qdL qbB
 rw [ho]
 exact ⟨rfl, rfl⟩
set_option maxRecDepth 100000 in
set_option maxHeartbeats 8000000 in
theorem qtX (s : Sty) (size use : Int) : PU qfi [s.enc, .int .i64 size, .int .i64 use] = some (.bool true) := by
 obtain ⟨b, hb, hbs⟩ := qaY s
 have he : ∀ {x : Int} {P : Prop}, eqb x x = false → P := fun h => absurd rfl (q1a.1 h)
 have hn : ∀ {x : Int} {P : Prop}, nqb x x = true → P := fun h => absurd rfl (q0z.1 h)
 refine q0h (fn := q5L) rfl (q0c ?_)
 refine go 800 rfl ?_
 refine q01 rfl rfl hb ?_
 cases b with
 | false =>
   refine go 800 rfl ?_
   refine q0e rfl ?_
   refine go 800 rfl ?_
   refine q0g rfl ?_
   refine go 800 rfl ?_
   refine q01 rfl rfl q22 ?_
   refine go 800 rfl ?_
   exact q08 rfl rfl rfl trivial rfl
 | true =>
   have hL := hbs rfl
   have hB := hL.B
   have s1 := q1c s hB
   have s2 := qtJ s size use hB
   have s3 := qlc s size use hB
   have hcl := qtx s size use
   refine go 800 rfl ?_
   refine q0j rfl ?_
   refine go 800 rfl ?_
   refine q01 rfl rfl s1 ?_
   refine go 800 rfl ?_
   refine q02 rfl (fun g => ?_) (fun g => ?_)
   ·refine go 800 rfl ?_
    refine q01 rfl rfl q22 ?_
    refine go 800 rfl ?_
    exact q08 rfl rfl rfl trivial rfl
   have g : q32 s = 0 := q0A.1 g
   have hok := qdC g
   refine go 800 rfl ?_
   refine q01 rfl rfl s2 ?_
   refine go 800 rfl ?_
   refine q01 rfl rfl s3 ?_
   refine go 800 rfl ?_
   refine q05 rfl (fun f1 => ?_) (fun f1 => ?_)
   ·rw [q06] at f1
    have hO : qbe s size use := .inl f1
    have hc := (q7a g hO).1
    have ha := (q7a g hO).2
    refine go 800 rfl ?_
    refine q0e rfl ?_
    refine go 800 rfl ?_
    refine q0e rfl ?_
    refine go 800 rfl ?_
    refine q0e rfl ?_
    refine go 800 rfl ?_
    refine q0e rfl ?_
    refine go 800 rfl ?_
    refine q0e rfl ?_
    refine go 800 rfl ?_
    refine q0g rfl ?_
    refine go 800 rfl ?_
    refine q05 rfl (fun _ => ?_) (fun h => absurd hc (q1a.1 h))
    refine go 800 rfl ?_
    refine q05 rfl (fun _ => ?_) (fun h => absurd ha (q1a.1 h))
    refine go 800 rfl ?_
    refine q01 rfl rfl q22 ?_
    refine go 800 rfl ?_
    exact q08 rfl rfl rfl trivial rfl
   rw [q07] at f1
   refine go 800 rfl ?_
   rw [List.length_map]
   refine q05 rfl (fun f2 => ?_) (fun f2 => ?_)
   ·rw [q0D] at f2
    have hO : qbe s size use := .inr (.inl f2)
    have hc := (q7a g hO).1
    have ha := (q7a g hO).2
    refine go 800 rfl ?_
    refine q0e rfl ?_
    refine go 800 rfl ?_
    refine q0e rfl ?_
    refine go 800 rfl ?_
    refine q0e rfl ?_
    refine go 800 rfl ?_
    refine q0e rfl ?_
    refine go 800 rfl ?_
    refine q0g rfl ?_
    refine go 800 rfl ?_
    refine q05 rfl (fun _ => ?_) (fun h => absurd hc (q1a.1 h))
    refine go 800 rfl ?_
    refine q05 rfl (fun _ => ?_) (fun h => absurd ha (q1a.1 h))
    refine go 800 rfl ?_
    refine q01 rfl rfl q22 ?_
    refine go 800 rfl ?_
    exact q08 rfl rfl rfl trivial rfl
   rw [q0E] at f2
   refine go 800 rfl ?_
   refine q05 rfl (fun f3 => ?_) (fun f3 => ?_)
   ·rw [q06] at f3
    have hO : qbe s size use := .inr (.inr (.inl f3))
    have hc := (q7a g hO).1
    have ha := (q7a g hO).2
    refine go 800 rfl ?_
    refine q0e rfl ?_
    refine go 800 rfl ?_
    refine q0e rfl ?_
    refine go 800 rfl ?_
    refine q0e rfl ?_
    refine go 800 rfl ?_
    refine q0g rfl ?_
    refine go 800 rfl ?_
    refine q05 rfl (fun _ => ?_) (fun h => absurd hc (q1a.1 h))
    refine go 800 rfl ?_
    refine q05 rfl (fun _ => ?_) (fun h => absurd ha (q1a.1 h))
    refine go 800 rfl ?_
    refine q01 rfl rfl q22 ?_
    refine go 800 rfl ?_
    exact q08 rfl rfl rfl trivial rfl
   rw [q07] at f3
   refine go 800 rfl ?_
   rw [List.length_map]
   refine q05 rfl (fun f4 => ?_) (fun f4 => ?_)
   ·rw [q0D] at f4
    have hO : qbe s size use := .inr (.inr (.inr f4))
    have hc := (q7a g hO).1
    have ha := (q7a g hO).2
    refine go 800 rfl ?_
    refine q0e rfl ?_
    refine go 800 rfl ?_
    refine q0e rfl ?_
    refine go 800 rfl ?_
    refine q0g rfl ?_
    refine go 800 rfl ?_
    refine q05 rfl (fun _ => ?_) (fun h => absurd hc (q1a.1 h))
    refine go 800 rfl ?_
    refine q05 rfl (fun _ => ?_) (fun h => absurd ha (q1a.1 h))
    refine go 800 rfl ?_
    refine q01 rfl rfl q22 ?_
    refine go 800 rfl ?_
    exact q08 rfl rfl rfl trivial rfl
   rw [q0E] at f4
   have hO : ¬ qbe s size use := by unfold qbe; omega
   refine go 800 rfl ?_
   rw [List.length_map]
   refine q05 rfl (fun f5 => ?_) (fun f5 => ?_)
   ·rw [q0D] at f5; have := hok.mults; omega
   obtain ⟨un, rfl⟩ := Int.eq_ofNat_of_zero_le f3
   obtain ⟨zn, rfl⟩ := Int.eq_ofNat_of_zero_le f1
   have hun : un < s.uses.length := by omega
   have hzn : zn < s.mults.length := by have := hok.mults; omega
   have huse := hok.use (us s.uses un) (by rw [q9Q hun]; exact List.getElem_mem _)
   have hout : q3i s zn un = ((q0B (q2S s un) (mu s.mults zn)).1, q2S s un, (q0B (q2S s un) (mu s.mults zn)).2) := by
    unfold q3i; rw [if_neg (by simp [g]), if_neg hO]; rfl
   have hpo : q2S s un = pc s.pieces (us s.uses un).piece.toNat := rfl
   have hpl : (us s.uses un).piece.toNat < s.pieces.length := by omega
   have hpi : (us s.uses un).piece = (((us s.uses un).piece.toNat : Nat) : Int) := by omega
   refine go 800 rfl ?_
   refine q0k un rfl rfl rfl (qde hun) rfl ?_
   refine go 800 rfl ?_
   refine q05 rfl (fun f6 => ?_) (fun f6 => ?_)
   ·rw [q06] at f6; omega
   refine go 800 rfl ?_
   refine q0k un rfl rfl rfl (qde hun) rfl ?_
   refine go 800 rfl ?_
   rw [List.length_map]
   refine q02 rfl (fun f7 => ?_) (fun f7 => ?_)
   ·rw [q0D] at f7; omega
   refine go 800 rfl ?_
   refine q0k un rfl rfl rfl (qde hun) rfl ?_
   refine go 800 rfl ?_
   generalize hq : (us s.uses un).piece = q at *
   obtain ⟨pn, rfl⟩ := Int.eq_ofNat_of_zero_le huse.1
   refine q0k pn rfl rfl rfl (qeL hpl) rfl ?_
   refine go 800 rfl ?_
   refine q0k zn rfl rfl rfl (qpw hzn) rfl ?_
   refine go 800 rfl ?_
   have hgr := q7R (pc s.pieces pn) (mu s.mults zn) (Nat.le_trans (hL.piece pn hpl).corners (by decide))
   refine q01 rfl rfl hgr ?_
   refine go 800 rfl ?_
   have hpo' : q2S s un = pc s.pieces pn := by rw [hpo]; rfl
   rw [hpo'] at hout
   refine q02 rfl (fun f8 => ?_) (fun f8 => ?_)
   ·rw [q0z] at f8
    have hc : qdL s zn un = ([], (q0B (pc s.pieces pn) (mu s.mults zn)).2) := by unfold qdL; rw [hout]; exact if_pos f8
    have ha : qbB s zn un = (⟨0, 0⟩, (q0B (pc s.pieces pn) (mu s.mults zn)).2) := by unfold qbB; rw [hout]; exact if_pos f8
    rw [hc, ha]
    refine go 800 rfl ?_
    refine q05 rfl (fun _ => ?_) he
    refine go 800 rfl ?_
    refine q05 rfl (fun _ => ?_) he
    refine go 800 rfl ?_
    refine q05 rfl (fun _ => ?_) he
    refine go 800 rfl ?_
    refine q01 rfl rfl q22 ?_
    refine go 800 rfl ?_
    exact q08 rfl rfl rfl trivial rfl
   have f8 : (q0B (pc s.pieces pn) (mu s.mults zn)).2 = 0 := q0A.1 f8
   have hc : qdL s zn un = q2F (q0B (pc s.pieces pn) (mu s.mults zn)).1 (pc s.pieces pn).widths := by unfold qdL; rw [hout]; exact if_neg (by simp [f8])
   have ha : qbB s zn un = (pt (eg (q0B (pc s.pieces pn) (mu s.mults zn)).1 0).line 0, 0) := by unfold qbB; rw [hout]; exact if_neg (by simp [f8])
   have hck := (q5D f8).2.2.1
   rw [hc, ha]
   generalize (q0B (pc s.pieces pn) (mu s.mults zn)).1 = l at *
   have hl2 := (q1w hck).1
   have hln := q20 hck (eg l 0) (by rw [q8s (by omega)]; exact List.getElem_mem _)
   have hal := qmE l (pc s.pieces pn).widths
   have hsm := qhv (q2F l (pc s.pieces pn).widths).1 (q2F l (pc s.pieces pn).widths).1 (by have := qhz l (pc s.pieces pn).widths; omega)
   rw [decide_eq_true rfl] at hsm
   refine go 800 rfl ?_
   refine q01 rfl rfl hal ?_
   refine go 800 rfl ?_
   rw [List.length_map]
   refine q05 rfl (fun f9 => ?_) (fun f9 => ?_)
   ·rw [q12] at f9; omega
   refine go 800 rfl ?_
   refine q0k 0 rfl rfl rfl (q24 (by omega)) rfl ?_
   refine go 800 rfl ?_
   rw [List.length_map]
   refine q02 rfl (fun f9 => ?_) (fun f9 => ?_)
   ·rw [q12] at f9; omega
   refine go 800 rfl ?_
   refine q05 rfl (fun _ => ?_) he
   refine go 800 rfl ?_
   refine q01 rfl rfl hsm ?_
   refine go 800 rfl ?_
   refine q0e rfl ?_
   refine go 800 rfl ?_
   refine q05 rfl (fun _ => ?_) he
   refine go 800 rfl ?_
   refine q0k 0 rfl rfl rfl (q24 (by omega)) rfl ?_
   refine go 800 rfl ?_
   refine q0k 0 rfl rfl rfl (q0T (by omega)) rfl ?_
   refine go 800 rfl ?_
   refine q05 rfl (fun _ => ?_) (fun h => by simp [q12.2 rfl] at h)
   refine go 800 rfl ?_
   refine q01 rfl rfl q22 ?_
   refine go 800 rfl ?_
   exact q08 rfl rfl rfl trivial rfl
end Go.F

namespace Go.F
theorem q5x {s : Sty} (h : q32 s = 0) : q26 s = 0 ∧ q0F (q38 s) s.pieces.length = 0 ∧ s.uses.any (q2C s.pieces.length) = false ∧ q0F (q7A s) s.seams.length = 0 := by
 unfold q32 at h
 split at h
 ·rename_i h1; exact absurd h h1
 ·rename_i h1
  split at h
  ·rename_i h2; exact absurd h h2
  ·rename_i h2
   split at h
   ·cases h
   ·rename_i h3
    exact ⟨by simpa using h1, by simpa using h2, by simpa using h3, h⟩
theorem qi7 {s : Sty} (h1 : q26 s = 0) (h2 : q0F (q38 s) s.pieces.length = 0) : q32 s = if s.uses.any (q2C s.pieces.length) then 3 else q0F (q7A s) s.seams.length := by
 unfold q32
 rw [if_neg (by simp [h1]), if_neg (by simp [h2])]
structure WholeOk (s : Sty) : Prop where
 name : q1L s.name = true
 size : s.sizes.length ≠ 0
 sizeS : ∀ x ∈ s.sizes, sizeS x = true
 mults : s.mults.length = s.sizes.length
 base : 0 ∈ s.mults
 once : q4o s.sizes = false
 sizes : s.sizes.length ≤ 12
 pieces : s.pieces.length ≤ 12
 uses : s.uses.length ≤ 12
 seams : s.seams.length ≤ 24
 ops : s.ops.length ≤ 16
 mult : ∀ m ∈ s.mults, -100 ≤ m ∧ m ≤ 100
theorem q7V {s : Sty} (h : q26 s = 0) : WholeOk s := by
 unfold q26 at h
 split at h
 ·cases h
 ·rename_i h1
  split at h
  ·cases h
  ·rename_i h2
   split at h
   ·cases h
   ·rename_i h3
    split at h
    ·cases h
    ·rename_i h4
     split at h
     ·cases h
     ·rename_i h5
      split at h
      ·cases h
      ·rename_i h6
       split at h
       ·cases h
       ·rename_i h7
        refine ⟨?_, fun e => h1 (.inr e), fun x hx => ?_, ?_, ?_, by simpa using h4, by omega, by omega, by omega, by omega, by omega, fun m hm => ?_⟩
        ·cases hn : q1L s.name with
         | true => rfl
         | false => exact absurd (.inl hn) h1
        ·have h2 : s.sizes.any (fun x => !Go.F.sizeS x) = false := by simpa using h2
         have := List.any_eq_false.1 h2 x hx
         simpa using this
        ·by_cases e : s.mults.length = s.sizes.length
         ·exact e
         ·exact absurd (.inl e) h3
        ·by_cases e : 0 ∈ s.mults
         ·exact e
         ·exact absurd (.inr e) h3
        ·have h7 : s.mults.any (fun m => decide (m < -100) || decide (100 < m)) = false := by simpa using h7
         have := List.any_eq_false.1 h7 m hm
         simp at this
         omega
theorem q9g {s : Sty} (h : WholeOk s) : q26 s = 0 := by
 unfold q26
 rw [if_neg (by simp [h.name, h.size]), if_neg (by
  rw [List.any_eq_true]; rintro ⟨x, hx, e⟩; rw [h.sizeS x hx] at e; cases e), if_neg (by simp [h.mults, h.base]), if_neg (by simp [h.once]),
  if_neg (by have := h.sizes; have := h.pieces; have := h.uses; omega), if_neg (by have := h.seams; have := h.ops; omega), if_neg]
 rw [List.any_eq_true]
 rintro ⟨m, hm, e⟩
 have := h.mult m hm
 simp at e
 omega
end Go.F

namespace Go.F
theorem qo1 (l : List ByteArray) (i k : Nat) : sz (l.eraseIdx i) k = sz l (if k < i then k else k + 1) := by
 unfold sz
 rw [List.getD_eq_getElem?_getD, List.getD_eq_getElem?_getD, List.getElem?_eraseIdx]
 split <;> rfl
theorem qtA (l : List Int) (i k : Nat) : mu (l.eraseIdx i) k = mu l (if k < i then k else k + 1) := by
 unfold mu
 rw [List.getD_eq_getElem?_getD, List.getD_eq_getElem?_getD, List.getElem?_eraseIdx]
 split <;> rfl
theorem qpl (l : List ByteArray) : q4o l = true ↔ ∃ i j, j < i ∧ i < l.length ∧ (sz l j).toList = (sz l i).toList := by
 unfold q4o
 rw [List.any_eq_true]
 constructor
 ·rintro ⟨i, hi, h⟩
  rw [List.any_eq_true] at h
  obtain ⟨x, hx, e⟩ := h
  rw [List.mem_range] at hi
  obtain ⟨j, hj, rfl⟩ := List.getElem_of_mem hx
  have hj2 : j < i := by rw [List.length_take] at hj; omega
  refine ⟨i, j, hj2, hi, ?_⟩
  rw [qjK (by omega)]
  simpa using e
 ·rintro ⟨i, j, hj, hi, e⟩
  refine ⟨i, List.mem_range.2 hi, ?_⟩
  rw [List.any_eq_true]
  refine ⟨sz l j, ?_, by simp [e]⟩
  rw [qjK (by omega)]
  have h1 : (l.take i)[j]'(by rw [List.length_take]; omega) = l[j] := by simp
  rw [← h1]
  exact List.getElem_mem _
theorem qmr {l : List ByteArray} {i : Nat} (h : q4o l = false) (hi : i < l.length) : q4o (l.eraseIdx i) = false := by
 rw [← Bool.not_eq_true, qpl] at *
 rintro ⟨a, b, hba, ha, e⟩
 rw [qo1, qo1] at e
 rw [List.length_eraseIdx_of_lt hi] at ha
 refine h ⟨if a < i then a else a + 1, if b < i then b else b + 1, ?_, ?_, e⟩
 ·split <;> split <;> omega
 ·split <;> omega
def qak (s : Sty) (i : Nat) : Sty := { s with sizes := s.sizes.eraseIdx i, mults := s.mults.eraseIdx i }
theorem qvM {s : Sty} (h : q32 s = 0) {i : Nat} (hi : i < s.sizes.length) (h2 : 2 ≤ s.sizes.length) (hb : 0 ∉ s.mults.eraseIdx i) : q32 (qak s i) = 1 := by
 have hw := q7V (q5x h).1
 have hl : (s.sizes.eraseIdx i).length = s.sizes.length - 1 := List.length_eraseIdx_of_lt hi
 have hne : q26 (qak s i) = 1 := by
  unfold q26 qak
  rw [if_neg (by simp only [hw.name, hl]; intro h; rcases h with h | h; cases h; omega), if_neg (by
   rw [List.any_eq_true]
   rintro ⟨x, hx, e⟩
   rw [hw.sizeS x (List.mem_of_mem_eraseIdx hx)] at e; cases e), if_pos (.inr hb)]
 unfold q32
 rw [if_pos (by rw [hne]; decide), hne]
theorem quF {s : Sty} (h : q32 s = 0) {i : Nat} (hi : i < s.sizes.length) (h2 : 2 ≤ s.sizes.length) (hb : 0 ∈ s.mults.eraseIdx i) : q32 (qak s i) = 0 := by
 have hp := q5x h
 have hw := q7V hp.1
 have hl : (s.sizes.eraseIdx i).length = s.sizes.length - 1 := List.length_eraseIdx_of_lt hi
 have hm : (s.mults.eraseIdx i).length = s.mults.length - 1 := List.length_eraseIdx_of_lt (by rw [hw.mults]; exact hi)
 have h1 : q26 (qak s i) = 0 := q9g ⟨hw.name, by show (s.sizes.eraseIdx i).length ≠ 0; omega, fun x hx => hw.sizeS x (List.mem_of_mem_eraseIdx hx), by show (s.mults.eraseIdx i).length = (s.sizes.eraseIdx i).length; have := hw.mults; omega, hb, qmr hw.once hi,
  by show (s.sizes.eraseIdx i).length ≤ 12; have := hw.sizes; omega, hw.pieces, hw.uses, hw.seams, hw.ops, fun m hm => hw.mult m (List.mem_of_mem_eraseIdx hm)⟩
 rw [qi7 h1 hp.2.1]
 rw [if_neg (by show ¬ (s.uses.any (q2C s.pieces.length) = true); rw [hp.2.2.1]; decide)]
 exact hp.2.2.2
theorem qvN {s : Sty} (h : q32 s = 0) {i k : Nat} (hi : i < s.sizes.length) (h2 : 2 ≤ s.sizes.length) (hb : 0 ∈ s.mults.eraseIdx i) (hk : k < s.sizes.length - 1) (u : Int) : qdL (qak s i) k u = qdL s (if k < i then k else k + 1 : Nat) u := by
 have hl := quF h hi h2 hb
 have hl2 : (qak s i).sizes.length = s.sizes.length - 1 := List.length_eraseIdx_of_lt hi
 have ho : q3i (qak s i) k u = q3i s (if k < i then k else k + 1 : Nat) u := by
  unfold q3i
  have hl' : ¬ q32 (qak s i) ≠ 0 := fun e => e hl
  have h' : ¬ q32 s ≠ 0 := fun e => e h
  rw [if_neg hl', if_neg h']
  have hO : qbe (qak s i) k u ↔ qbe s (if k < i then k else k + 1 : Nat) u := by
   unfold qbe
   rw [hl2]
   have hu : (qak s i).uses = s.uses := rfl
   rw [hu]
   split <;> omega
  have hmu : mu (qak s i).mults ((k : Int).toNat) = mu s.mults ((if k < i then k else k + 1 : Nat) : Int).toNat := by
   rw [Int.toNat_natCast, Int.toNat_natCast]
   exact qtA _ _ _
  have hpo : q2S (qak s i) u = q2S s u := rfl
  by_cases hout : qbe s (if k < i then k else k + 1 : Nat) u
  ·rw [if_pos hout, if_pos (hO.2 hout)]
  ·rw [if_neg hout, if_neg (fun h => hout (hO.1 h)), hmu, hpo]
 unfold qdL
 rw [ho]
end Go.F
