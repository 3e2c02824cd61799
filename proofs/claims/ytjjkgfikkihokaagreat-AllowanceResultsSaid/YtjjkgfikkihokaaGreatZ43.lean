/- Parts of the proof, part 43: RN3, Int1, Rat1, Rat2, Rat3, Pt1, RN4, Stop4, Geo3, Geo4, Geo5, Geo6, Geo7, Geo8, Geo9, Ref1, Plain1, Ref2, Ref3, All1, All2, Flt. -/
import Derived.Test.YtjjkgfikkihokaaGreatZ42
import Derived.KernelRfl
import Derived.Test.YtjjkgfikkihokaaGreatZ40
set_option linter.all false
namespace Go.F
attribute [local irreducible] IntKind.wrap wpM
theorem qn5 {q : List Nat} (hq : LOk q) {k : Nat} (h : val q % 2 ^ (k + 1) = 0) : dg q (k / 32) + 2 ^ (k % 32) < 4294967296 := by
 have hd := q0T hq (k / 32)
 have hk : 2 ^ (k + 1) = 4294967296 ^ (k / 32) * 2 ^ (k % 32 + 1) := by
  rw [qg2, ← Nat.pow_add]; congr 1; omega
 obtain ⟨m, hm⟩ : ∃ m, val q = 2 ^ (k + 1) * m := ⟨val q / 2 ^ (k + 1), by have := Nat.div_add_mod (val q) (2 ^ (k + 1)); omega⟩
 have e1 : val q / 4294967296 ^ (k / 32) = 2 ^ (k % 32 + 1) * m := by
  rw [hm, hk, Nat.mul_assoc, Nat.mul_div_cancel_left _ (Nat.pow_pos (by decide))]
 have e2 : dg q (k / 32) % 2 ^ (k % 32 + 1) = 0 := by
  rw [qjC hq, e1, show (4294967296 : Nat) = 2 ^ (k % 32 + 1) * 2 ^ (31 - k % 32) by rw [← Nat.pow_add, show k % 32 + 1 + (31 - k % 32) = 32 by omega], Nat.mul_mod_mul_left, Nat.mul_mod_right]
 have hw : k % 32 + 1 ≤ 32 := by omega
 have e3 : (4294967296 : Nat) = 2 ^ (k % 32 + 1) * 2 ^ (31 - k % 32) := by rw [← Nat.pow_add, show k % 32 + 1 + (31 - k % 32) = 32 by omega]
 have e4 : 2 ^ (k % 32 + 1) = 2 * 2 ^ (k % 32) := by rw [Nat.pow_succ]; omega
 have hpos : 0 < 2 ^ (k % 32) := Nat.pow_pos (by decide)
 obtain ⟨u, hu⟩ : ∃ u, dg q (k / 32) = 2 ^ (k % 32 + 1) * u := ⟨dg q (k / 32) / 2 ^ (k % 32 + 1), by have := Nat.div_add_mod (dg q (k / 32)) (2 ^ (k % 32 + 1)); omega⟩
 have hlt : u < 2 ^ (31 - k % 32) := by
  rw [hu, e3] at hd
  exact Nat.lt_of_mul_lt_mul_left hd
 have : 2 ^ (k % 32 + 1) * (u + 1) ≤ 2 ^ (k % 32 + 1) * 2 ^ (31 - k % 32) := Nat.mul_le_mul_left _ hlt
 rw [← e3, Nat.mul_add, ← hu, Nat.mul_one, e4] at this
 omega
theorem qi9 {l : List Nat} (h : LOk l) : q53 (val l) ≤ 32 * l.length := qi6 (q1U h)
theorem qlC {a b q r : Nat} (h : a = q * b + r) (hr : r < b) : a / b = q ∧ a % b = r := by
 subst h
 constructor
 ·rw [Nat.mul_comm, Nat.mul_add_div (by omega), Nat.div_eq_of_lt hr, Nat.add_zero]
 ·rw [Nat.mul_comm, Nat.mul_add_mod, Nat.mod_eq_of_lt hr]
set_option maxHeartbeats 4000000 in
theorem q5c (a b : List Nat) [ha : LOk a] [hb : LOk b] (hla : a.length ≤ 50000000) (hlb : b.length ≤ 50000000) :
 PU q4o [nat a, nat b] = some (if val b = 0 then .tup [nat [], nat [], .bool false] else .tup [nat (q06 (val a / val b)), nat (q06 (val a % val b)), .bool true]) := by
 have hla' := q1k ha
 have hba := qi9 ha
 have hbb := qi9 hb
 refine q0i (fn := q80) rfl (q0a ?_)
 refine go 800 rfl ?_
 refine q00 rfl rfl (q9C b (by omega)) ?_
 refine go 800 rfl ?_
 refine q02 rfl (fun h1 => ?_) (fun h1 => ?_)
 ·rw [q26] at h1
  have h0 : val b = 0 := qlB.1 (by omega)
  refine go 800 rfl ?_
  refine q0c rfl rfl rfl trivial ?_
  rw [if_pos h0]; rfl
 rw [q2g] at h1
 have hb0 : val b ≠ 0 := fun h => h1 (by rw [h]; rfl)
 rw [if_neg hb0]
 have hbits := q9C (q06 (val a)) (by omega)
 rw [q0e] at hbits
 refine go 800 rfl ?_
 refine q00 rfl rfl (q1d a (by omega)) ?_
 refine go 800 rfl ?_
 refine q00 rfl rfl hbits ?_
 refine go 800 rfl ?_
 refine q00 rfl rfl (q9C b (by omega)) ?_
 refine go 800 rfl ?_
 have w1 : IntKind.i64.wrap ((q53 (val a) : Int) - (q53 (val b) : Int)) = (q53 (val a) : Int) - (q53 (val b) : Int) := wrap64 (by omega) (by omega)
 rw [w1]
 have ta := qgN (val a)
 have tb := qgN (val b)
 have tb2 := qkv hb0
 refine q02 rfl (fun h2 => ?_) (fun h2 => ?_)
 ·rw [q0b] at h2
  have hlt : val a < val b := by
   have : 2 ^ (q53 (val a) + 1) ≤ 2 ^ q53 (val b) := Nat.pow_le_pow_right (by decide) (by omega)
   rw [Nat.pow_succ] at this
   omega
  refine go 800 rfl ?_
  refine q0c rfl rfl rfl trivial ?_
  rw [Nat.div_eq_of_lt hlt, Nat.mod_eq_of_lt hlt]; rfl
 rw [q0d] at h2
 obtain ⟨n, hn⟩ : ∃ n : Nat, q53 (val a) = q53 (val b) + n := ⟨q53 (val a) - q53 (val b), by omega⟩
 have en : (q53 (val a) : Int) - (q53 (val b) : Int) = (n : Int) := by omega
 rw [en]
 have hstart : val a < val b * 2 ^ (n + 1) := by
  calc val a < 2 ^ (q53 (val b) + n) := by rw [← hn]; exact ta
   _ = 2 ^ q53 (val b) * 2 ^ n := Nat.pow_add _ _ _
   _ ≤ 2 * val b * 2 ^ n := Nat.mul_le_mul_right _ tb2
   _ = val b * 2 ^ (n + 1) := by rw [Nat.pow_succ]; ac_rfl
 have w2 : IntKind.i64.wrap (((n / 32 : Nat) : Int) + 1) = ((n / 32 + 1 : Nat) : Int) := by rw [wrap64 (by omega) (by omega)]; omega
 refine go 800 rfl ?_
 refine q4z n 32 rfl rfl rfl rfl (by decide) (wrap64 (by omega) (by omega)) ?_
 refine go 800 rfl ?_
 rw [w2]
 refine q3O (n / 32 + 1) rfl rfl rfl (by simp [q0O]; omega) ?_
 rw [q5M]
 refine go 800 rfl ?_
 refine q00 rfl rfl (qgO b n (by omega) (by omega)) ?_
 refine go 800 rfl ?_
 have hin : val b * 2 ^ (n + 1) / 2 = val b * 2 ^ n := by
  rw [Nat.pow_succ, ← Nat.mul_assoc, Nat.mul_div_cancel _ (by decide)]
 have hsz : ∀ j, j ≤ n + 1 → (q06 (val b * 2 ^ j / 2)).length ≤ 100000000 := by
  intro j hj
  refine q0f.2 ?_
  have h1 : val b * 2 ^ j / 2 ≤ val b * 2 ^ j := Nat.div_le_self _ _
  have h2 : 2 ^ j ≤ 2 ^ (n + 1) := Nat.pow_le_pow_right (by decide) hj
  obtain ⟨K, hK⟩ : ∃ K : Nat, K = 100000000 := ⟨_, rfl⟩
  rw [← hK, qg2]
  calc val b * 2 ^ j / 2 ≤ val b * 2 ^ j := h1
   _ ≤ val b * 2 ^ (n + 1) := Nat.mul_le_mul_left _ h2
   _ < 2 ^ q53 (val b) * 2 ^ (n + 1) := Nat.mul_lt_mul_of_pos_right tb (Nat.pow_pos (by decide))
   _ = 2 ^ (q53 (val b) + (n + 1)) := (Nat.pow_add _ _ _).symm
   _ ≤ 2 ^ (32 * K) := Nat.pow_le_pow_right (by decide) (by omega)
 refine q0x (S := fun x : Nat × List Nat × Nat => ([nat (q06 x.2.2), .ref 1 0 (n / 32 + 1), nat (q06 (val b * 2 ^ x.1 / 2)), .int .i64 ((x.1 : Int) - 1)], [none, some (.row (x.2.1.map u32) 1), none, none], [0, 0, 0, 0]))
  (C := fun x => x.1 ≤ n + 1 ∧ x.2.1.length = n / 32 + 1 ∧ LOk x.2.1 ∧ val x.2.1 % 2 ^ x.1 = 0 ∧ x.2.2 < val b * 2 ^ x.1 ∧ x.2.2 ≤ val a ∧ val a = val x.2.1 * val b + x.2.2) (m := fun x => x.1) (n + 1, List.replicate (n / 32 + 1) 0, val a) ⟨Nat.le_refl _, by simp, q3x _, by simp [q7s], hstart, Nat.le_refl _, by simp [q7s]⟩ (by simp only; omega) ?_ ?_
 ·refine q05 rfl ⟨q07 q0h _, trivial⟩ ?_
  simp only
  rw [hin]
  simp [nat]
 rintro ⟨j, q, R⟩ ⟨hj, hql, hqo, hq0, hR, hRa, hinv⟩ N hN
 simp only at hj hql hqo hq0 hR hRa hinv
 refine go 800 rfl ?_
 refine q02 rfl (fun h3 => ?_) (fun h3 => ?_)
 ·rw [q24] at h3
  obtain ⟨k, rfl⟩ : ∃ k, j = k + 1 := ⟨j - 1, by omega⟩
  have ek : ((k + 1 : Nat) : Int) - 1 = (k : Int) := by omega
  have hpart : val b * 2 ^ (k + 1) / 2 = val b * 2 ^ k := by rw [Nat.pow_succ, ← Nat.mul_assoc, Nat.mul_div_cancel _ (by decide)]
  have hszk := hsz (k + 1) hj
  rw [hpart] at hszk
  have hszR : (q06 R).length ≤ 50000000 := by
   have : (q06 R).length ≤ a.length := q0f.2 (Nat.lt_of_le_of_lt hRa (q1U ha))
   omega
  have hsub := qaO (q06 R) (q06 (val b * 2 ^ k)) (by omega) (by omega)
  rw [q0e, q0e] at hsub
  have hhalf := qi8 (q06 (val b * 2 ^ k)) (by omega)
  rw [q0e] at hhalf
  have wk : IntKind.i64.wrap ((k : Int) - 1) = (k : Int) - 1 := wrap64 (by omega) (by omega)
  rw [ek, hpart]
  by_cases hlt : R < val b * 2 ^ k
  ·rw [if_pos hlt] at hsub
   refine go 800 rfl ?_
   refine q00 rfl rfl hsub ?_
   refine go 800 rfl ?_
   refine q0o rfl ?_
   refine go 800 rfl ?_
   refine q00 rfl rfl hhalf ?_
   refine go 800 rfl ?_
   refine q09 ?_
   refine hN (k, q, R) ⟨by simp only; omega, hql, hqo, ?_, hlt, hRa, hinv⟩ (by simp only; omega) (q05 rfl ⟨q07 q0h _, trivial⟩ (by simp [nat, wk]))
   simp only
   exact Nat.mod_eq_zero_of_dvd (Nat.dvd_trans (Nat.pow_dvd_pow 2 (Nat.le_succ k)) (Nat.dvd_of_mod_eq_zero hq0))
  ·rw [if_neg hlt] at hsub
   have hfree := qn5 hqo hq0
   have hkl : k / 32 < q.length := by omega
   have ew : IntKind.u32.wrap ((dg q (k / 32) : Int) + ((1 * 2 ^ (k % 32) : Nat) : Int)) = ((dg q (k / 32) + 2 ^ (k % 32) : Nat) : Int) := by
    rw [Nat.one_mul, ← Int.natCast_add, q0H, Nat.mod_eq_of_lt hfree]
   have hpl : 2 ^ (k % 32) < 4294967296 := Nat.lt_of_le_of_lt (Nat.le_add_left _ _) hfree
   have wc : IntKind.u64.wrap ((k % 32 : Nat) : Int) = ((k % 32 : Nat) : Int) := q0D (by omega)
   refine go 800 rfl ?_
   refine q00 rfl rfl hsub ?_
   refine go 800 rfl ?_
   refine q0r rfl ?_
   refine go 800 rfl ?_
   refine q4z k 32 rfl rfl rfl rfl (by decide) (wrap64 (by omega) (by omega)) ?_
   refine go 800 rfl ?_
   refine q4z k 32 rfl rfl rfl rfl (by decide) (wrap64 (by omega) (by omega)) ?_
   refine go 800 rfl ?_
   refine q0B (k / 32) rfl rfl rfl rfl rfl (by omega) ?_
   refine go 800 rfl ?_
   refine q35 q (k / 32) rfl (Nat.zero_add _) rfl hkl ?_
   refine go 800 rfl ?_
   refine q6l k 32 rfl rfl rfl rfl (by decide) ?_
   refine go 800 rfl ?_
   rw [wc]
   refine q85 1 (k % 32) rfl rfl rfl rfl (by show k % 32 ≤ 32; omega) (by rw [Nat.one_mul, q0H, Nat.mod_eq_of_lt hpl]) ?_
   refine go 800 rfl ?_
   rw [ew]
   refine q0B (k / 32) rfl rfl rfl rfl rfl (by omega) ?_
   refine go 800 rfl ?_
   refine q1c q (k / 32) (dg q (k / 32) + 2 ^ (k % 32)) rfl rfl (Nat.zero_add _) rfl rfl (Nat.zero_le _) hkl ?_
   refine go 800 rfl ?_
   refine q00 rfl rfl hhalf ?_
   refine go 800 rfl ?_
   refine q09 ?_
   have hs := qbl (l := q) (i := k / 32) (v := dg q (k / 32) + 2 ^ (k % 32)) hkl
   have hp2 : 4294967296 ^ (k / 32) * 2 ^ (k % 32) = 2 ^ k := by rw [qg2, ← Nat.pow_add, Nat.div_add_mod]
   rw [Nat.mul_add, hp2] at hs
   have hs' : val (q.set (k / 32) (dg q (k / 32) + 2 ^ (k % 32))) = val q + 2 ^ k := by omega
   refine hN (k, q.set (k / 32) (dg q (k / 32) + 2 ^ (k % 32)), R - val b * 2 ^ k) ⟨by simp only; omega, by simp [hql], hqo.set _ hfree, ?_, ?_, by simp only; omega, ?_⟩ (by simp only; omega) (q05 rfl ⟨q07 q0h _, trivial⟩ (by simp [nat, wk]))
   ·simp only
    rw [hs', Nat.add_mod_right]
    exact Nat.mod_eq_zero_of_dvd (Nat.dvd_trans (Nat.pow_dvd_pow 2 (Nat.le_succ k)) (Nat.dvd_of_mod_eq_zero hq0))
   ·simp only
    rw [Nat.pow_succ, ← Nat.mul_assoc] at hR
    omega
   ·simp only
    rw [hs', Nat.add_mul, Nat.mul_comm (2 ^ k)]
    omega
 ·rw [q25] at h3
  obtain rfl : j = 0 := by omega
  rw [Nat.pow_zero, Nat.mul_one] at hR
  obtain ⟨e1, e2⟩ := qlC hinv hR
  have hp := q1d q (by omega)
  rw [← e1] at hp
  rw [e2]
  refine go 800 rfl ?_
  refine q09 ?_
  refine go 800 rfl ?_
  refine q1q rfl rfl ⟨q2F (l := q) hql.symm, trivial⟩ (by rw [q2P (l := q) hql.symm]; exact hp) fun z => ?_
  refine go 800 rfl ?_
  exact q0c rfl rfl rfl trivial rfl
theorem qjF (a b : List Nat) [ha : LOk a] [hb : LOk b] (hla : a.length ≤ 50000000) (hlb : b.length ≤ 50000000) : PU qfS [nat a, nat b] = some (nat (q06 (Nat.gcd (val a) (val b)))) := by
 refine q0i (fn := qc6) rfl (q0a ?_)
 refine go 800 rfl ?_
 refine q00 rfl rfl (q1d a (by omega)) ?_
 refine go 800 rfl ?_
 refine q00 rfl rfl (q1d b (by omega)) ?_
 refine go 800 rfl ?_
 obtain ⟨K, hK⟩ : ∃ K : Nat, K = 50000000 := ⟨_, rfl⟩
 rw [← hK] at hla hlb
 have hA := Nat.lt_of_lt_of_le (q1U ha) (Nat.pow_le_pow_right (show 0 < 4294967296 by decide) hla)
 have hB := Nat.lt_of_lt_of_le (q1U hb) (Nat.pow_le_pow_right (show 0 < 4294967296 by decide) hlb)
 refine q0x (S := fun x : Nat × Nat => ([nat (q06 x.1), nat (q06 x.2)], [none, none], [0, 0])) (C := fun x => x.1 < 4294967296 ^ K ∧ x.2 < 4294967296 ^ K ∧ Nat.gcd x.1 x.2 = Nat.gcd (val a) (val b)) (m := fun x => 2 * (bl x.1 + bl x.2) + if x.1 < x.2 then 1 else 0) (val a, val b) ⟨hA, hB, rfl⟩ ?_ ?_ ?_
 ·simp only
  have h1 := qi6 hA
  have h2 := qi6 hB
  split <;> omega
 ·exact q05 rfl trivial (by simp [nat])
 rintro ⟨x, y⟩ ⟨hx, hy, hg⟩ N hN
 simp only at hx hy hg
 refine go 800 rfl ?_
 rw [List.length_map]
 refine q02 rfl (fun h1 => ?_) (fun h1 => ?_)
 ·rw [q0b] at h1
  have hy0 : y ≠ 0 := q2b.1 (by simp only at h1; omega)
  have hp := q5c (q06 x) (q06 y) (hK ▸ q0f.2 hx) (hK ▸ q0f.2 hy)
  rw [q0e, q0e, if_neg hy0] at hp
  refine go 800 rfl ?_
  refine q00 rfl rfl hp ?_
  refine go 800 rfl ?_
  refine q09 ?_
  refine hN (y, x % y) ⟨hy, Nat.lt_of_le_of_lt (Nat.mod_le _ _) hx, ?_⟩ ?_ (q05 rfl trivial (by simp [nat]))
  ·simp only
   rw [← hg, Nat.gcd_comm x y, Nat.gcd_rec y x, Nat.gcd_comm]
  ·simp only
   have hm := Nat.mod_lt x (show 0 < y by omega)
   by_cases hxy : x < y
   ·rw [if_pos hxy, Nat.mod_eq_of_lt hxy, if_neg (by omega)]; omega
   ·have := qn4 hy0 (Nat.le_of_not_lt hxy)
    rw [if_neg hxy, if_neg (by omega)]; omega
 ·rw [q0d] at h1
  have hy0 : y = 0 := by
   by_cases h : y = 0
   ·exact h
   ·have := q2b.2 h; simp only at h1; omega
  refine go 800 rfl ?_
  refine q09 ?_
  refine go 800 rfl ?_
  refine q0c rfl rfl rfl trivial ?_
  rw [← hg, hy0, Nat.gcd_zero_right]; rfl
end Go.F

namespace Go.F
attribute [local irreducible] IntKind.wrap wpM
class Sz (l : List Nat) (k : outParam Nat) : Prop where
 ok : LOk l
 len : l.length ≤ k
instance {l : List Nat} {k : Nat} [h : Sz l k] : LOk l := h.ok
class NB (n : Nat) (k : outParam Nat) : Prop where
 lt : n < 4294967296 ^ k
instance szLimbs {n k : Nat} [h : NB n k] : Sz (q06 n) k := ⟨q0n _, q0f.2 h.lt⟩
instance q5p {l : List Nat} {k : Nat} [h : Sz l k] : NB (val l) k := ⟨Nat.lt_of_lt_of_le (q1U h.ok) (Nat.pow_le_pow_right (by decide) h.len)⟩
theorem q9D {j k : Nat} (h : j ≤ k) : 4294967296 ^ j ≤ 4294967296 ^ k := Nat.pow_le_pow_right (by decide) h
theorem qn6 (k : Nat) : 0 < 4294967296 ^ k := Nat.pow_pos (by decide)
theorem q4G {m n k : Nat} (h : m ≤ n) (hn : n < 4294967296 ^ k) : m < 4294967296 ^ k := Nat.lt_of_le_of_lt h hn
theorem q9E {m n j k : Nat} (h1 : m < 4294967296 ^ j) (h2 : n < 4294967296 ^ k) : m + n < 4294967296 ^ (j + k + 1) := by
 have a := q9D (show j ≤ j + k by omega)
 have b := q9D (show k ≤ j + k by omega)
 rw [Nat.pow_succ]
 omega
theorem q1C {m n j k : Nat} (h1 : m < 4294967296 ^ j) (h2 : n < 4294967296 ^ k) : m * n < 4294967296 ^ (j + k) := by
 rw [Nat.pow_add]
 exact Nat.mul_lt_mul'' h1 h2
structure RI where
 neg : Bool
 mag : List Nat
def RI.enc (a : RI) : D := .agg [.bool a.neg, nat a.mag]
def RI.v (a : RI) : Int := if a.neg then -(val a.mag : Int) else val a.mag
def RI.of (z : Int) : RI := ⟨decide (z < 0), q06 z.natAbs⟩
def encI (z : Int) : D := (RI.of z).enc
theorem RI.of_v (z : Int) : (RI.of z).v = z := by
 unfold RI.of RI.v
 simp only [q0e]
 by_cases h : z < 0
 ·rw [decide_eq_true h]; simp; omega
 ·rw [decide_eq_false h]; simp; omega
theorem RI.v_abs (a : RI) : a.v.natAbs = val a.mag := by
 unfold RI.v; split <;> omega
theorem q9Z (z : Int) {neg : Bool} {n : Nat} (h1 : neg = decide (z < 0)) (h2 : n = z.natAbs) : D.agg [.bool neg, nat (q06 n)] = encI z := by
 subst h1; subst h2; rfl
theorem q4a (neg : Bool) (l : List Nat) {k : Nat} [h : Sz l k] (hk : k ≤ 500000000) : PU q10 [.bool neg, nat l] = some (encI (RI.v ⟨neg, l⟩)) := by
 have hl := h.len
 have e : ∀ n : Nat, n = (q06 (val l)).length → ltb 0 (n : Int) = decide (val l ≠ 0) := by
  rintro n rfl
  rw [q1N, decide_eq_decide]
  have := @q2b (val l)
  omega
 refine q0i (fn := q4Z) rfl (q0a ?_)
 refine go 800 rfl ?_
 refine q00 rfl rfl (q3L l (by omega)) ?_
 refine go 800 rfl ?_
 refine q0g rfl (fun h1 => ?_) (fun h1 => ?_)
 ·refine go 800 rfl ?_
  refine q0c rfl rfl rfl trivial ?_
  subst h1
  refine q9Z _ ?_ ?_
  ·rw [List.length_map, e _ rfl]
   simp only [RI.v]
   rw [decide_eq_decide]; simp; omega
  ·simp [RI.v]
 ·refine go 800 rfl ?_
  refine q0c rfl rfl rfl trivial ?_
  subst h1
  refine q9Z _ ?_ ?_
  ·simp only [RI.v]
   rw [eq_comm, decide_eq_false_iff_not, if_neg (by decide)]; omega
  ·simp [RI.v]
theorem qad (n : Int) (h1 : -9223372036854775808 ≤ n) (h2 : n ≤ 9223372036854775807) : PU q7Q [.int .i64 n] = some (encI n) := by
 have nb : NB n.natAbs 2 := ⟨by show n.natAbs < 18446744073709551616; omega⟩
 refine q0i (fn := q81) rfl (q0a ?_)
 refine go 800 rfl ?_
 refine q02 rfl (fun g1 => ?_) (fun g1 => ?_)
 ·rw [q0b] at g1
  have e : IntKind.u64.wrap (0 - IntKind.u64.wrap n) = ((n.natAbs : Nat) : Int) := by simp only [q0G]; omega
  refine go 800 rfl ?_
  rw [e]
  refine q00 rfl rfl (q5b n.natAbs (by omega)) ?_
  refine go 800 rfl ?_
  refine q00 rfl rfl (q4a true (q06 n.natAbs) (by decide)) ?_
  refine go 800 rfl ?_
  refine q0c rfl rfl rfl trivial ?_
  have : RI.v ⟨true, q06 n.natAbs⟩ = n := by rw [RI.v, if_pos rfl, q0e]; omega
  rw [this]; rfl
 ·rw [q0d] at g1
  have e : IntKind.u64.wrap n = ((n.natAbs : Nat) : Int) := by simp only [q0G]; omega
  refine go 800 rfl ?_
  rw [e]
  refine q00 rfl rfl (q5b n.natAbs (by omega)) ?_
  refine go 800 rfl ?_
  refine q00 rfl rfl (q4a false (q06 n.natAbs) (by decide)) ?_
  refine go 800 rfl ?_
  refine q0c rfl rfl rfl trivial ?_
  have : RI.v ⟨false, q06 n.natAbs⟩ = n := by rw [RI.v, if_neg (by simp), q0e]; omega
  rw [this]; rfl
theorem q5G (a : RI) {k : Nat} [h : Sz a.mag k] (hk : k ≤ 500000000) : PU q4n [a.enc] = some (encI a.v) := by
 refine q0i (fn := q6g) rfl (q0a ?_)
 refine go 800 rfl ?_
 refine q00 rfl rfl (q4a a.neg a.mag hk) ?_
 refine go 800 rfl ?_
 exact q0c rfl rfl rfl trivial rfl
theorem qel (a : RI) {k : Nat} [h : Sz a.mag k] (hk : k ≤ 500000000) : PU qac [a.enc] = some (encI (-a.v)) := by
 refine q0i (fn := q74) rfl (q0a ?_)
 refine go 800 rfl ?_
 refine q00 rfl rfl (q4a (!a.neg) a.mag hk) ?_
 refine go 800 rfl ?_
 refine q0c rfl rfl rfl trivial ?_
 have : RI.v ⟨!a.neg, a.mag⟩ = -a.v := by unfold RI.v; cases a.neg <;> simp
 rw [this]; rfl
theorem qem (a b : RI) {j k : Nat} [ha : Sz a.mag j] [hb : Sz b.mag k] (hj : j ≤ 100000000) (hk : k ≤ 100000000) : PU qab [a.enc, b.enc] = some (encI (a.v + b.v)) := by
 have la := ha.len
 have lb := hb.len
 have nba : NB (val a.mag) j := inferInstance
 have nbb : NB (val b.mag) k := inferInstance
 have sAdd : Sz (q06 (val a.mag + val b.mag)) (j + k + 1) := ⟨q0n _, q0f.2 (q9E nba.lt nbb.lt)⟩
 have sSub : Sz (q06 (val a.mag - val b.mag)) j := ⟨q0n _, q0f.2 (q4G (Nat.sub_le _ _) nba.lt)⟩
 have sSub' : Sz (q06 (val b.mag - val a.mag)) k := ⟨q0n _, q0f.2 (q4G (Nat.sub_le _ _) nbb.lt)⟩
 have s1 := qmZ a.mag b.mag (by omega) (by omega)
 have s2 := qmZ b.mag a.mag (by omega) (by omega)
 refine q0i (fn := q73) rfl (q0a ?_)
 refine go 800 rfl ?_
 refine q02 rfl (fun g1 => ?_) (fun g1 => ?_)
 ·refine go 800 rfl ?_
  refine q00 rfl rfl (qgM a.mag b.mag (by omega) (by omega)) ?_
  refine go 800 rfl ?_
  refine q00 rfl rfl (q4a a.neg _ (by omega)) ?_
  refine go 800 rfl ?_
  refine q0c rfl rfl rfl trivial ?_
  have g : a.neg = b.neg := by simpa using g1
  have : RI.v ⟨a.neg, q06 (val a.mag + val b.mag)⟩ = a.v + b.v := by
   unfold RI.v; simp only [q0e, ← g]; split <;> omega
  rw [this]; rfl
 have g : b.neg = !a.neg := by revert g1; cases a.neg <;> cases b.neg <;> simp
 refine go 800 rfl ?_
 by_cases hlt : val a.mag < val b.mag
 ·rw [if_pos hlt] at s1
  rw [if_neg (by omega)] at s2
  refine q00 rfl rfl s1 ?_
  refine go 800 rfl ?_
  refine q0o rfl ?_
  refine go 800 rfl ?_
  refine q00 rfl rfl s2 ?_
  refine go 800 rfl ?_
  refine q00 rfl rfl (q4a b.neg _ (by omega)) ?_
  refine go 800 rfl ?_
  refine q0c rfl rfl rfl trivial ?_
  have : RI.v ⟨b.neg, q06 (val b.mag - val a.mag)⟩ = a.v + b.v := by
   unfold RI.v; simp only [q0e, g]; cases a.neg <;> simp <;> omega
  rw [this]; rfl
 ·rw [if_neg hlt] at s1
  refine q00 rfl rfl s1 ?_
  refine go 800 rfl ?_
  refine q0r rfl ?_
  refine go 800 rfl ?_
  refine q00 rfl rfl (q4a a.neg _ (by omega)) ?_
  refine go 800 rfl ?_
  refine q0c rfl rfl rfl trivial ?_
  have : RI.v ⟨a.neg, q06 (val a.mag - val b.mag)⟩ = a.v + b.v := by
   unfold RI.v; simp only [q0e, g]; cases a.neg <;> simp <;> omega
  rw [this]; rfl
instance szOf {z : Int} {k : Nat} [h : NB z.natAbs k] : Sz (RI.of z).mag k := ⟨q0n _, q0f.2 h.lt⟩
theorem q6n (a b : RI) {j k : Nat} [ha : Sz a.mag j] [hb : Sz b.mag k] (hj : j ≤ 100000000) (hk : k ≤ 100000000) : PU q5a [a.enc, b.enc] = some (encI (a.v * b.v)) := by
 have la := ha.len
 have lb := hb.len
 have nba : NB (val a.mag) j := inferInstance
 have nbb : NB (val b.mag) k := inferInstance
 have sM : Sz (q06 (val a.mag * val b.mag)) (j + k) := ⟨q0n _, q0f.2 (q1C nba.lt nbb.lt)⟩
 refine q0i (fn := q72) rfl (q0a ?_)
 refine go 800 rfl ?_
 refine q00 rfl rfl (qei a.mag b.mag (by omega) (by omega)) ?_
 refine go 800 rfl ?_
 refine q00 rfl rfl (q4a _ _ (by omega)) ?_
 refine go 800 rfl ?_
 refine q0c rfl rfl rfl trivial ?_
 have : RI.v ⟨!(a.neg == b.neg), q06 (val a.mag * val b.mag)⟩ = a.v * b.v := by
  unfold RI.v; simp only [q0e]; cases a.neg <;> cases b.neg <;> simp [Int.mul_neg, Int.neg_mul]
 rw [this]; rfl
theorem orU64g {a b m : Nat} (hm : m ≤ 64) (ha : a < 2 ^ m) (hb : b * 2 ^ m < 18446744073709551616) : IntKind.u64.wrap ((BitVec.ofInt IntKind.u64.bits (a : Int) ||| BitVec.ofInt IntKind.u64.bits ((b * 2 ^ m : Nat) : Int)).toNat : Int) = ((a + b * 2 ^ m : Nat) : Int) := by
 have hp : 2 ^ m ≤ 18446744073709551616 := by simpa using Nat.pow_le_pow_right (n := 2) (by decide) hm
 rw [BitVec.or_comm, q5W, q5W, BitVec.toNat_or, BitVec.toNat_ofNat, BitVec.toNat_ofNat]
 have e : IntKind.u64.bits = 64 := rfl
 rw [e, Nat.mod_eq_of_lt (show b * 2 ^ m < 2 ^ 64 by omega), Nat.mod_eq_of_lt (show a < 2 ^ 64 by omega), Nat.mul_comm b, ← Nat.two_pow_add_eq_or_of_lt ha]
 have : 2 ^ m * b + a < 18446744073709551616 := by
  have h1 : 2 ^ m * b < 2 ^ m * 2 ^ (64 - m) := by rw [← Nat.pow_add, show m + (64 - m) = 64 by omega, Nat.mul_comm]; omega
  have h2 : b + 1 ≤ 2 ^ (64 - m) := Nat.lt_of_mul_lt_mul_left h1
  have h3 := Nat.mul_le_mul_left (2 ^ m) h2
  rw [← Nat.pow_add, show m + (64 - m) = 64 by omega, Nat.mul_add] at h3
  omega
 rw [q0D this, Nat.add_comm]
def q77 (z : Int) : D := if -9223372036854775808 ≤ z ∧ z ≤ 9223372036854775807 then .tup [.int .i64 z, .bool true] else .tup [.int .i64 0, .bool false]
set_option maxHeartbeats 1000000 in
theorem qn7 (a : RI) {k : Nat} [ha : Sz a.mag k] (hk : k ≤ 500000000) : PU q8o [a.enc] = some (q77 a.v) := by
 refine q0i (fn := q5z) rfl (q0a ?_)
 refine go 800 rfl ?_
 refine q00 rfl rfl (q5G a hk) ?_
 refine go 800 rfl ?_
 have hMo : LOk (q06 a.v.natAbs) := q0n _
 have hMv : val (q06 a.v.natAbs) = a.v.natAbs := q0e _
 have hlen : (q06 a.v.natAbs).length ≤ 2 ↔ a.v.natAbs < 18446744073709551616 := by rw [q0f]
 have hneg : (RI.of a.v).neg = decide (a.v < 0) := rfl
 have hmag : (RI.of a.v).mag = q06 a.v.natAbs := rfl
 rw [hmag] at *
 generalize q06 a.v.natAbs = M at *
 rw [List.length_map]
 refine q02 rfl (fun h1 => ?_) (fun h1 => ?_)
 ·rw [q0b] at h1
  refine go 800 rfl ?_
  refine q0c rfl rfl rfl trivial ?_
  rw [q77, if_neg (by omega)]
 rw [q0d] at h1
 have h2 := hlen.1 (by omega)
 refine go 800 rfl ?_
 refine q0x (S := fun x : Nat => ([.ptr 0 0 0, .int .u64 (val (M.take x)), nat M, q01 M.length, q01 x], [some (.row [.agg [.bool (decide (a.v < 0)), nat M]] 2), none, none, none, none], [0, 0, 0, 0, 0])) (C := fun x => x ≤ M.length) (m := fun x => M.length - x) 0 (Nat.zero_le _) (by omega) ?_ ?_
 ·exact q05 rfl ⟨rfl, trivial⟩ (by simp [nat, q01, val, hneg])
 intro i hi N hN
 refine go 800 rfl ?_
 refine q02 rfl (fun g1 => ?_) (fun g1 => ?_)
 ·rw [q0b] at g1
  have hlt : i < M.length := by omega
  have hx := q0T hMo i
  have wi : IntKind.i64.wrap ((i : Int) + 1) = ((i + 1 : Nat) : Int) := wrap64 (by omega) (by omega)
  have w3 : IntKind.i64.wrap (32 * (i : Int)) = ((32 * i : Nat) : Int) := by rw [wrap64 (by omega) (by omega)]; omega
  have wx : IntKind.u64.wrap (dg M i : Int) = (dg M i : Int) := q0D (by omega)
  have hb : dg M i * 2 ^ (32 * i) < 18446744073709551616 := by
   have : i = 0 ∨ i = 1 := by omega
   rcases this with rfl | rfl <;> simp <;> omega
  have hv := q1n hMo i
  have ho := orU64g (a := val (M.take i)) (b := dg M i) (m := 32 * i) (by omega) (by rw [Nat.pow_mul]; exact hv) hb
  refine go 800 rfl ?_
  refine q0y i rfl rfl rfl (q1B hlt) rfl ?_
  refine go 800 rfl ?_
  refine q85 (dg M i) (32 * i) rfl rfl wx w3 (by show 32 * i ≤ 64; omega) (q0D hb) ?_
  refine go 800 rfl ?_
  rw [ho]
  refine q09 ?_
  refine hN (i + 1) hlt (by omega) (q05 rfl ⟨rfl, trivial⟩ ?_)
  have e : val (M.take (i + 1)) = val (M.take i) + dg M i * 2 ^ (32 * i) := by rw [q0z, Nat.pow_mul, Nat.mul_comm]
  simp [nat, q01, wi, e]
 rw [q0d] at g1
 obtain rfl : i = M.length := by omega
 have e1 : IntKind.i64.wrap (IntKind.u64.wrap (0 - (a.v.natAbs : Int))) = -(a.v.natAbs : Int) ∨ 9223372036854775808 < a.v.natAbs := by
  by_cases h : a.v.natAbs ≤ 9223372036854775808
  ·left
   rw [q0G]
   simp [IntKind.wrap, IntKind.bits, IntKind.signed]
   omega
  ·right; omega
 have e2 : IntKind.i64.wrap (a.v.natAbs : Int) = (a.v.natAbs : Int) ∨ 9223372036854775808 ≤ a.v.natAbs := by
  by_cases h : a.v.natAbs < 9223372036854775808
  ·left; exact wrap64 (by omega) (by omega)
  ·right; omega
 rw [List.take_length, hMv] at *
 clear hN
 refine go 800 rfl ?_
 refine q09 ?_
 repeat' (first
  | (refine goP 800 rfl rfl ?_)
  | (show wpM _ _ _ (Fr.ops _ _ (KOper.mk _ _ (some _) _ _ :: _) :: _) Ex.normal _ _ _ _ _; first | refine q0q rfl ?_ | refine q0s rfl ?_ | refine q0g rfl (fun _ => ?_) (fun _ => ?_))
  | (show wpM _ _ _ (Fr.code (K.cond _ _ _) :: _) Ex.normal _ _ _ _ _; first | refine q0r rfl ?_ | refine q0o rfl ?_ | refine q02 rfl (fun _ => ?_) (fun _ => ?_))
  | (show wpM _ _ _ (Fr.ops _ _ (KOper.mk _ _ none _ (KOp.pick _ _ _) :: _) :: _) Ex.normal _ _ _ _ _; refine q0F rfl (fun _ => ?_) (fun _ => ?_))
  | (show wpM _ _ _ [] _ _ _ _ _ _; refine q0c rfl rfl rfl trivial ?_))
 all_goals simp only [q1N, q1T, decide_eq_true_eq, decide_eq_false_iff_not, Bool.not_eq_true', Bool.not_eq_false'] at *
 all_goals unfold q77
 all_goals (rcases e1 with e1 | e1 <;> rcases e2 with e2 | e2 <;> (try rw [e1]) <;> (try rw [e2]) <;> split <;> first | (exfalso; omega) | rfl | (simp; omega) | trace_state)
end Go.F

namespace Go.F
structure RR where
 neg : Bool
 mag : List Nat
 den : List Nat
def RR.num (a : RR) : RI := ⟨a.neg, a.mag⟩
def RR.enc (a : RR) : D := .agg [.bool a.neg, nat a.mag, nat a.den]
def RR.v (a : RR) : Rat := mkRat a.num.v (val a.den)
def RR.of (q : Rat) : RR := ⟨decide (q.num < 0), q06 q.num.natAbs, q06 q.den⟩
def q5N (q : Rat) : D := (RR.of q).enc
theorem RR.of_v (q : Rat) : (RR.of q).v = q := by
 show mkRat (RI.of q.num).v (val (q06 q.den)) = q
 rw [RI.of_v, q0e, Rat.mkRat_self]
theorem RR.of_den (q : Rat) : val (RR.of q).den = q.den := q0e _
class SzR (a : RR) (k : outParam Nat) : Prop where
 mag : Sz a.mag k
 den : Sz a.den k
instance szRm {a : RR} {k : Nat} [h : SzR a k] : Sz a.mag k := h.mag
instance szRd {a : RR} {k : Nat} [h : SzR a k] : Sz a.den k := h.den
instance szRn {a : RR} {k : Nat} [h : SzR a k] : Sz a.num.mag k := h.mag
class QB (q : Rat) (k : outParam Nat) : Prop where
 num : q.num.natAbs < 4294967296 ^ k
 den : q.den < 4294967296 ^ k
instance szROf {q : Rat} {k : Nat} [h : QB q k] : SzR (RR.of q) k := ⟨⟨q0n _, q0f.2 h.num⟩, ⟨q0n _, q0f.2 h.den⟩⟩
theorem qcM {n : Int} {g : Nat} (hg : g ∣ n.natAbs) : (n / (g : Int)).natAbs = n.natAbs / g := by
 have : (g : Int) ∣ n := Int.dvd_natAbs.1 (Int.natCast_dvd_natCast.2 hg)
 rw [Int.natAbs_ediv_of_dvd this]; simp
theorem qn8 {n : Int} {d : Nat} {j : Nat} (hn : n.natAbs < 4294967296 ^ j) (hd : d < 4294967296 ^ j) (hd0 : d ≠ 0) : QB (mkRat n d) j := by
 constructor
 ·rw [Rat.num_mkRat, if_neg hd0, qcM (Nat.gcd_dvd_right _ _)]
  exact q4G (Nat.div_le_self _ _) hn
 ·rw [Rat.den_mkRat, if_neg hd0]
  exact q4G (Nat.div_le_self _ _) hd
instance qn9 {a b : Rat} {j k : Nat} [ha : QB a j] [hb : QB b k] : QB (a + b) (j + k + 1) := by
 rw [Rat.add_def']
 refine qn8 ?_ ?_ (Nat.mul_ne_zero a.den_nz b.den_nz)
 ·have h1 := q1C ha.num hb.den
  have h2 := q1C hb.num ha.den
  rw [Nat.add_comm k j] at h2
  have : (a.num * b.den + b.num * a.den).natAbs ≤ a.num.natAbs * b.den + b.num.natAbs * a.den := by
   refine Nat.le_trans (Int.natAbs_add_le _ _) ?_
   rw [Int.natAbs_mul, Int.natAbs_mul]; simp
  rw [Nat.pow_succ]
  omega
 ·exact q4G (Nat.le_refl _) (Nat.lt_of_lt_of_le (q1C ha.den hb.den) (q9D (by omega)))
instance qna {a b : Rat} {j k : Nat} [ha : QB a j] [hb : QB b k] : QB (a * b) (j + k) := by
 rw [Rat.mul_def']
 refine qn8 ?_ (q1C ha.den hb.den) (Nat.mul_ne_zero a.den_nz b.den_nz)
 rw [Int.natAbs_mul]; exact q1C ha.num hb.num
instance qbNeg {a : Rat} {k : Nat} [h : QB a k] : QB (-a) k := ⟨by rw [Rat.neg_num, Int.natAbs_neg]; exact h.num, by rw [Rat.neg_den]; exact h.den⟩
instance qnb {a b : Rat} {j k : Nat} [ha : QB a j] [hb : QB b k] : QB (a - b) (j + k + 1) := by
 rw [Rat.sub_eq_add_neg]; exact qn9
theorem qof (n : Int) : n.sign.natAbs ≤ 1 := by
 rcases Int.lt_trichotomy n 0 with h | h | h
 ·rw [Int.sign_eq_neg_one_of_neg h]; decide
 ·subst h; decide
 ·rw [Int.sign_eq_one_of_pos h]; decide
instance qbInv {a : Rat} {k : Nat} [h : QB a k] : QB a⁻¹ k := by
 constructor
 ·rw [Rat.num_inv, Int.natAbs_mul]
  have h1 := qof a.num
  refine q4G ?_ h.den
  calc a.num.sign.natAbs * ((a.den : Int)).natAbs ≤ 1 * a.den := Nat.mul_le_mul h1 (by simp)
   _ = a.den := Nat.one_mul _
 ·rw [Rat.den_inv]
  split
  ·exact q4G a.den_pos h.den
  ·exact h.num
instance qbDiv {a b : Rat} {j k : Nat} [ha : QB a j] [hb : QB b k] : QB (a / b) (j + k) := by
 rw [Rat.div_def]; exact qna
theorem qjG {z : Int} (h1 : -9223372036854775808 ≤ z) (h2 : z ≤ 9223372036854775807) : QB (z : Rat) 2 := by
 constructor
 ·rw [Rat.num_intCast]; show z.natAbs < 18446744073709551616; omega
 ·rw [Rat.den_intCast]; decide
def rnd (n : Int) (d : Nat) : Int := if n < 0 then -(((2 * n.natAbs + d) / (2 * d) : Nat) : Int) else ((2 * n.natAbs + d) / (2 * d) : Nat)
def q11 (q : Rat) : Int := rnd q.num q.den
theorem qog (n : Int) (d k : Nat) (hk : k ≠ 0) : rnd (n * k) (d * k) = rnd n d := by
 unfold rnd
 have e : (2 * (n * (k : Int)).natAbs + d * k) / (2 * (d * k)) = (2 * n.natAbs + d) / (2 * d) := by
  rw [Int.natAbs_mul]
  simp only [Int.natAbs_natCast]
  rw [← Nat.mul_assoc, ← Nat.add_mul, ← Nat.mul_assoc, Nat.mul_div_mul_right _ _ (Nat.pos_of_ne_zero hk)]
 have hs : n * (k : Int) < 0 ↔ n < 0 := by
  have hk' : (0 : Int) < k := by omega
  constructor
  ·intro h
   by_cases hn : n < 0
   ·exact hn
   ·have := Int.mul_nonneg (show 0 ≤ n by omega) (Int.le_of_lt hk'); omega
  ·intro h; exact Int.mul_neg_of_neg_of_pos h hk'
 rw [e]
 by_cases h : n < 0
 ·rw [if_pos h, if_pos (hs.2 h)]
 ·rw [if_neg h, if_neg (fun h' => h (hs.1 h'))]
theorem qlD (n : Int) {d : Nat} (hd : d ≠ 0) : q11 (mkRat n d) = rnd n d := by
 obtain ⟨k, hk, h1, h2⟩ := Rat.normalize_num_den' n d hd
 rw [Rat.normalize_eq_mkRat] at h1 h2
 show rnd (mkRat n d).num (mkRat n d).den = rnd n d
 rw [← qog _ _ k hk, ← h1, ← h2]
theorem qkw {n : Int} {d : Nat} (hd : d ≠ 0) : q5N (mkRat n d) = .agg [.bool (decide (n < 0)), nat (q06 (n.natAbs / Nat.gcd n.natAbs d)), nat (q06 (d / Nat.gcd n.natAbs d))] := by
 have e1 : (mkRat n d).num.natAbs = n.natAbs / Nat.gcd n.natAbs d := by
  rw [Rat.num_mkRat, if_neg hd, qcM (Nat.gcd_dvd_right _ _), Nat.gcd_comm]
 have e2 : (mkRat n d).den = d / Nat.gcd n.natAbs d := by
  rw [Rat.den_mkRat, if_neg hd, Nat.gcd_comm]
 have e3 : (mkRat n d).num < 0 ↔ n < 0 := by
  have h1 : 0 ≤ (mkRat n d).num ↔ 0 ≤ n := by
   rw [Rat.num_nonneg, ← Rat.divInt_ofNat, Rat.divInt_nonneg_iff_of_pos_right (by omega)]
  omega
 unfold q5N RR.of RR.enc
 simp only [e1, e2]
 rw [show decide ((mkRat n d).num < 0) = decide (n < 0) from by simp only [e3]]
def RR.fix (a : RR) : RR := if val a.den = 0 then ⟨false, [], [1]⟩ else a
theorem RR.fix_v (a : RR) : a.fix.v = a.v := by
 unfold RR.fix
 split
 ·rename_i h
  simp only [RR.v, h, Rat.mkRat_zero]
  rfl
 ·rfl
theorem RR.fix_den (a : RR) : val a.fix.den ≠ 0 := by
 unfold RR.fix
 split
 ·simp [val]
 ·assumption
instance q8t {a : RR} {k : Nat} [h : SzR a k] : SzR a.fix (k + 1) := by
 have h1 := h.mag.len
 have h2 := h.den.len
 unfold RR.fix
 split
 ·exact ⟨⟨⟨by simp⟩, by simp⟩, ⟨⟨by simp⟩, by simp⟩⟩
 ·exact ⟨⟨h.mag.ok, by omega⟩, ⟨h.den.ok, by omega⟩⟩
end Go.F

namespace Go.F
attribute [local irreducible] IntKind.wrap wpM
theorem qkx (l : List Nat) {k : Nat} [h : Sz l k] (hk : k ≤ 100000000) : PU q7O [nat l] = some (.bool (decide (val l = 0))) := by
 have hl := h.len
 refine q0i (fn := q7Y) rfl (q0a ?_)
 refine go 800 rfl ?_
 refine q00 rfl rfl (qjD l [] (by omega) (by simp)) ?_
 refine go 800 rfl ?_
 refine q0c rfl rfl rfl trivial ?_
 congr 1
 rw [q2O, decide_eq_decide]
 have e : q3w (val l : Int) (val ([] : List Nat) : Int) = if val l = 0 then 0 else 1 := by
  show q3w (val l : Int) 0 = _
  unfold q3w
  by_cases h0 : val l = 0
  ·simp [h0]
  ·rw [if_neg (by omega), if_pos (by omega), if_neg h0]
 rw [e]
 by_cases h0 : val l = 0 <;> simp [h0]
theorem qcN (l : List Nat) : PU q4Q [nat l] = some (RI.enc ⟨false, l⟩) := by
 refine q0i (fn := q50) rfl (q0a ?_)
 refine go 800 rfl ?_
 exact q0c rfl rfl rfl trivial rfl
theorem q5q (a : RR) {k : Nat} [h : SzR a k] (hk : k ≤ 100000000) : PU q1r [a.enc] = some a.fix.enc := by
 refine q0i (fn := q6W) rfl (q0a ?_)
 refine go 800 rfl ?_
 refine q00 rfl rfl (qkx a.den hk) ?_
 refine go 800 rfl ?_
 refine q02 rfl (fun g => ?_) (fun g => ?_)
 ·refine go 800 rfl ?_
  refine q00 rfl rfl (q5b 1 (by decide)) ?_
  refine go 800 rfl ?_
  refine q0c rfl rfl rfl trivial ?_
  rw [RR.fix, if_pos (by simpa using g)]; rfl
 ·refine go 800 rfl ?_
  refine q0c rfl rfl rfl trivial ?_
  rw [RR.fix, if_neg (by simpa using g)]; rfl
theorem q7v (n : RI) (d : List Nat) {j k : Nat} [hn : Sz n.mag j] [hd : Sz d k] (hj : j ≤ 100000000) (hk : k ≤ 100000000) (hd0 : val d ≠ 0) : PU q2l [n.enc, nat d] = some (q5N (mkRat n.v (val d))) := by
 have ln := hn.len
 have ld := hd.len
 have nbn : NB (val n.mag) j := inferInstance
 have nbd : NB (val d) k := inferInstance
 have hg0 : Nat.gcd (val n.mag) (val d) ≠ 0 := by
  have := Nat.gcd_pos_of_pos_right (val n.mag) (show 0 < val d by omega); omega
 have lg : (q06 (Nat.gcd (val n.mag) (val d))).length ≤ k := q0f.2 (q4G (Nat.gcd_le_right _ (by omega)) nbd.lt)
 have d1 := q9X n.mag (q06 (Nat.gcd (val n.mag) (val d))) (by omega) (by omega)
 have d2 := q9X d (q06 (Nat.gcd (val n.mag) (val d))) (by omega) (by omega)
 rw [q0e, if_neg hg0] at d1 d2
 have s1 : Sz (q06 (val n.mag / Nat.gcd (val n.mag) (val d))) j := ⟨q0n _, q0f.2 (q4G (Nat.div_le_self _ _) nbn.lt)⟩
 refine q0i (fn := q6h) rfl (q0a ?_)
 refine go 800 rfl ?_
 refine q00 rfl rfl (Gcd_PU n.mag d (by omega) (by omega)) ?_
 refine go 800 rfl ?_
 refine q00 rfl rfl d1 ?_
 refine go 800 rfl ?_
 refine q00 rfl rfl d2 ?_
 refine go 800 rfl ?_
 refine q00 rfl rfl (q5G ⟨n.neg, q06 (val n.mag / Nat.gcd (val n.mag) (val d))⟩ (by omega)) ?_
 refine go 800 rfl ?_
 refine q0c rfl rfl rfl trivial ?_
 rw [qkw hd0, RI.v_abs]
 have e1 : RI.v ⟨n.neg, q06 (val n.mag / Nat.gcd (val n.mag) (val d))⟩ = if n.neg then -((val n.mag / Nat.gcd (val n.mag) (val d) : Nat) : Int) else (val n.mag / Nat.gcd (val n.mag) (val d) : Nat) := by
  rw [RI.v, q0e]
 have hdv := Nat.div_mul_cancel (Nat.gcd_dvd_left (val n.mag) (val d))
 have e2 : decide (RI.v ⟨n.neg, q06 (val n.mag / Nat.gcd (val n.mag) (val d))⟩ < 0) = decide (n.v < 0) := by
  rw [e1, decide_eq_decide, RI.v]
  have hz : val n.mag / Nat.gcd (val n.mag) (val d) = 0 ↔ val n.mag = 0 := by
   constructor
   ·intro h; rw [h] at hdv; omega
   ·intro h; rw [h]; simp
  generalize val n.mag / Nat.gcd (val n.mag) (val d) = x at *
  split <;> omega
 have e3 : (RI.v ⟨n.neg, q06 (val n.mag / Nat.gcd (val n.mag) (val d))⟩).natAbs = val n.mag / Nat.gcd (val n.mag) (val d) := by
  rw [RI.v_abs, q0e]
 show D.agg [.bool (decide (RI.v ⟨n.neg, q06 (val n.mag / Nat.gcd (val n.mag) (val d))⟩ < 0)), nat (q06 (RI.v ⟨n.neg, q06 (val n.mag / Nat.gcd (val n.mag) (val d))⟩).natAbs), nat (q06 (val d / Nat.gcd (val n.mag) (val d)))] = _
 rw [e2, e3]
theorem qcO (n d : Int) (h1 : -9223372036854775808 ≤ n) (h2 : n ≤ 9223372036854775807) (h3 : 0 < d) (h4 : d ≤ 9223372036854775807) : PU qaq [.int .i64 n, .int .i64 d] = some (.tup [q5N (mkRat n d.toNat), .bool true]) := by
 have nb : NB n.natAbs 2 := ⟨by show n.natAbs < 18446744073709551616; omega⟩
 have nb2 : NB d.natAbs 2 := ⟨by show d.natAbs < 18446744073709551616; omega⟩
 have hneg : (RI.of d).neg = false := by show decide (d < 0) = false; simp; omega
 have hr := q7v (RI.of n) (q06 d.natAbs) (by decide) (by decide) (by rw [q0e]; omega)
 rw [RI.of_v, q0e] at hr
 have hdn : d.natAbs = d.toNat := by omega
 rw [← hdn]
 refine q0i (fn := qaD) rfl (q0a ?_)
 refine go 800 rfl ?_
 refine q02 rfl (fun g => ?_) (fun g => ?_)
 ·rw [q26] at g; omega
 refine go 800 rfl ?_
 refine q00 rfl rfl (qad n (by omega) (by omega)) ?_
 refine go 800 rfl ?_
 refine q00 rfl rfl (qad d (by omega) (by omega)) ?_
 refine go 800 rfl ?_
 have e : (!((RI.of n).neg == (RI.of d).neg)) = (RI.of n).neg := by rw [hneg]; cases (RI.of n).neg <;> rfl
 rw [e]
 refine q00 rfl rfl hr ?_
 refine go 800 rfl ?_
 exact q0c rfl rfl rfl trivial rfl
theorem qgP (a : RR) {k : Nat} [h : SzR a k] (hk : k ≤ 10000000) : PU qcI [a.enc] = some (q5N (-a.v)) := by
 have h0 := a.fix_den
 have hv := a.fix_v
 have sn : Sz (RI.of (-a.fix.num.v)).mag (k + 1) := ⟨q0n _, q0f.2 (by rw [Int.natAbs_neg, RI.v_abs]; exact (q5p (l := a.fix.num.mag)).lt)⟩
 have hr := q7v (RI.of (-a.fix.num.v)) a.fix.den (by omega) (by omega) h0
 rw [RI.of_v, ← Rat.neg_mkRat] at hr
 refine q0i (fn := q9w) rfl (q0a ?_)
 refine go 800 rfl ?_
 refine q00 rfl rfl (q5q a (by omega)) ?_
 refine go 800 rfl ?_
 refine q00 rfl rfl (qel a.fix.num (by omega)) ?_
 refine go 800 rfl ?_
 refine q00 rfl rfl hr ?_
 refine go 800 rfl ?_
 refine q0c rfl rfl rfl trivial ?_
 rw [← hv]; rfl
theorem pos_v (l : List Nat) : RI.v ⟨false, l⟩ = val l := by simp [RI.v]
theorem q87 (a b : RR) {j k : Nat} [ha : SzR a j] [hb : SzR b k] (hj : j ≤ 10000000) (hk : k ≤ 10000000) : PU q6D [a.enc, b.enc] = some (q5N (a.v + b.v)) := by
 have ha0 := a.fix_den
 have hb0 := b.fix_den
 have hva := a.fix_v
 have hvb := b.fix_v
 have na := (q5p (l := a.fix.num.mag)).lt
 have nad := (q5p (l := a.fix.den)).lt
 have nb := (q5p (l := b.fix.num.mag)).lt
 have nbd := (q5p (l := b.fix.den)).lt
 have s1 : Sz (RI.of (a.fix.num.v * val b.fix.den)).mag ((j + 1) + (k + 1)) := ⟨q0n _, q0f.2 (by rw [Int.natAbs_mul, RI.v_abs]; exact q1C na nbd)⟩
 have s2 : Sz (RI.of (b.fix.num.v * val a.fix.den)).mag ((k + 1) + (j + 1)) := ⟨q0n _, q0f.2 (by rw [Int.natAbs_mul, RI.v_abs]; exact q1C nb nad)⟩
 have s3 : Sz (RI.of (a.fix.num.v * val b.fix.den + b.fix.num.v * val a.fix.den)).mag (((j + 1) + (k + 1)) + ((k + 1) + (j + 1)) + 1) :=
  ⟨q0n _, q0f.2 (q4G (Int.natAbs_add_le _ _) (q9E (by rw [Int.natAbs_mul, RI.v_abs]; exact q1C na nbd) (by rw [Int.natAbs_mul, RI.v_abs]; exact q1C nb nad)))⟩
 have s4 : Sz (q06 (val a.fix.den * val b.fix.den)) ((j + 1) + (k + 1)) := ⟨q0n _, q0f.2 (q1C nad nbd)⟩
 have sp1 : Sz (RI.mag ⟨false, b.fix.den⟩) (k + 1) := (q8t (a := b)).den
 have sp2 : Sz (RI.mag ⟨false, a.fix.den⟩) (j + 1) := (q8t (a := a)).den
 have lad := (q8t (a := a)).den.len
 have lbd := (q8t (a := b)).den.len
 have m1 := q6n a.fix.num ⟨false, b.fix.den⟩ (by omega) (by omega)
 have m2 := q6n b.fix.num ⟨false, a.fix.den⟩ (by omega) (by omega)
 rw [pos_v] at m1 m2
 have a1 := qem (RI.of (a.fix.num.v * val b.fix.den)) (RI.of (b.fix.num.v * val a.fix.den)) (by omega) (by omega)
 rw [RI.of_v, RI.of_v] at a1
 have r1 := q7v (RI.of (a.fix.num.v * val b.fix.den + b.fix.num.v * val a.fix.den)) (q06 (val a.fix.den * val b.fix.den)) (by omega) (by omega) (by rw [q0e]; exact Nat.mul_ne_zero ha0 hb0)
 rw [RI.of_v, q0e, ← Rat.mkRat_add_mkRat _ _ ha0 hb0] at r1
 refine q0i (fn := q9v) rfl (q0a ?_)
 refine go 800 rfl ?_
 refine q00 rfl rfl (q5q a (by omega)) ?_
 refine go 800 rfl ?_
 refine q00 rfl rfl (q5q b (by omega)) ?_
 refine go 800 rfl ?_
 refine q00 rfl rfl (qcN b.fix.den) ?_
 refine go 800 rfl ?_
 refine q00 rfl rfl m1 ?_
 refine go 800 rfl ?_
 refine q00 rfl rfl (qcN a.fix.den) ?_
 refine go 800 rfl ?_
 refine q00 rfl rfl m2 ?_
 refine go 800 rfl ?_
 refine q00 rfl rfl a1 ?_
 refine go 800 rfl ?_
 refine q00 rfl rfl (qei a.fix.den b.fix.den (by omega) (by omega)) ?_
 refine go 800 rfl ?_
 refine q00 rfl rfl r1 ?_
 refine go 800 rfl ?_
 refine q0c rfl rfl rfl trivial ?_
 rw [← hva, ← hvb]; rfl
end Go.F

namespace Go.F
attribute [local irreducible] IntKind.wrap wpM
instance qbV {a : RR} {k : Nat} [h : SzR a k] : QB a.v (k + 1) := by
 by_cases h0 : val a.den = 0
 ·have e : a.v = 0 := by rw [RR.v, h0, Rat.mkRat_zero]
  rw [e]
  refine ⟨?_, ?_⟩
  ·show 0 < _; exact qn6 _
  ·show 1 < _
   have := q9D (show 1 ≤ k + 1 by omega)
   omega
 ·have h1 := (q5p (l := a.num.mag)).lt
  have h2 := (q5p (l := a.den)).lt
  have := q9D (show k ≤ k + 1 by omega)
  exact qn8 (by rw [RI.v_abs]; omega) (by omega) h0
theorem q88 (a b : RR) {j k : Nat} [ha : SzR a j] [hb : SzR b k] (hj : j ≤ 1000000) (hk : k ≤ 1000000) : PU q6C [a.enc, b.enc] = some (q5N (a.v - b.v)) := by
 have h1 := q87 a (RR.of (-b.v)) (by omega) (by omega)
 rw [RR.of_v, ← Rat.sub_eq_add_neg] at h1
 refine q0i (fn := q9n) rfl (q0a ?_)
 refine go 800 rfl ?_
 refine q00 rfl rfl (qgP b (by omega)) ?_
 refine go 800 rfl ?_
 refine q00 rfl rfl h1 ?_
 refine go 800 rfl ?_
 exact q0c rfl rfl rfl trivial rfl
theorem q5O (a b : RR) {j k : Nat} [ha : SzR a j] [hb : SzR b k] (hj : j ≤ 10000000) (hk : k ≤ 10000000) : PU q5k [a.enc, b.enc] = some (q5N (a.v * b.v)) := by
 have ha0 := a.fix_den
 have hb0 := b.fix_den
 have hva := a.fix_v
 have hvb := b.fix_v
 have na := (q5p (l := a.fix.num.mag)).lt
 have nad := (q5p (l := a.fix.den)).lt
 have nb := (q5p (l := b.fix.num.mag)).lt
 have nbd := (q5p (l := b.fix.den)).lt
 have lad := (q8t (a := a)).den.len
 have lbd := (q8t (a := b)).den.len
 have s1 : Sz (RI.of (a.fix.num.v * b.fix.num.v)).mag ((j + 1) + (k + 1)) := ⟨q0n _, q0f.2 (by rw [Int.natAbs_mul, RI.v_abs, RI.v_abs]; exact q1C na nb)⟩
 have s4 : Sz (q06 (val a.fix.den * val b.fix.den)) ((j + 1) + (k + 1)) := ⟨q0n _, q0f.2 (q1C nad nbd)⟩
 have r1 := q7v (RI.of (a.fix.num.v * b.fix.num.v)) (q06 (val a.fix.den * val b.fix.den)) (by omega) (by omega) (by rw [q0e]; exact Nat.mul_ne_zero ha0 hb0)
 rw [RI.of_v, q0e, ← Rat.mkRat_mul_mkRat] at r1
 refine q0i (fn := q9t) rfl (q0a ?_)
 refine go 800 rfl ?_
 refine q00 rfl rfl (q5q a (by omega)) ?_
 refine go 800 rfl ?_
 refine q00 rfl rfl (q5q b (by omega)) ?_
 refine go 800 rfl ?_
 refine q00 rfl rfl (q6n a.fix.num b.fix.num (by omega) (by omega)) ?_
 refine go 800 rfl ?_
 refine q00 rfl rfl (qei a.fix.den b.fix.den (by omega) (by omega)) ?_
 refine go 800 rfl ?_
 refine q00 rfl rfl r1 ?_
 refine go 800 rfl ?_
 refine q0c rfl rfl rfl trivial ?_
 rw [← hva, ← hvb]; rfl
theorem qnc (a b : RR) (ha : val a.den ≠ 0) (hb : val b.den ≠ 0) (hbm : val b.mag ≠ 0) : mkRat (RI.v ⟨!(a.neg == b.neg), q06 (val a.mag * val b.den)⟩) (val a.den * val b.mag) = a.v / b.v := by
 have hbv : b.v ≠ 0 := by
  rw [RR.v, Rat.mkRat_ne_zero hb]
  intro h
  have := RI.v_abs b.num
  rw [h] at this
  exact hbm (by simpa [RR.num] using this.symm)
 have e : mkRat (RI.v ⟨!(a.neg == b.neg), q06 (val a.mag * val b.den)⟩) (val a.den * val b.mag) * b.v = a.v := by
  rw [RR.v, RR.v, Rat.mkRat_mul_mkRat, Rat.mkRat_eq_iff (Nat.mul_ne_zero (Nat.mul_ne_zero ha hbm) hb) ha]
  unfold RI.v RR.num
  simp only [q0e]
  cases a.neg <;> cases b.neg <;> simp <;> grind
 rw [← e, Rat.mul_div_cancel hbv]
theorem qgQ (a b : RR) {j k : Nat} [ha : SzR a j] [hb : SzR b k] (hj : j ≤ 10000000) (hk : k ≤ 10000000) : PU qcD [a.enc, b.enc] = some (if b.v = 0 then .tup [RR.enc ⟨false, [], []⟩, .bool false] else .tup [q5N (a.v / b.v), .bool true]) := by
 have ha0 := a.fix_den
 have hb0 := b.fix_den
 have hva := a.fix_v
 have hvb := b.fix_v
 have na := (q5p (l := a.fix.mag)).lt
 have nad := (q5p (l := a.fix.den)).lt
 have nb := (q5p (l := b.fix.mag)).lt
 have nbd := (q5p (l := b.fix.den)).lt
 have lad := (q8t (a := a)).den.len
 have lbd := (q8t (a := b)).den.len
 have lam := (q8t (a := a)).mag.len
 have lbm := (q8t (a := b)).mag.len
 have hz : b.v = 0 ↔ val b.fix.mag = 0 := by
  rw [← hvb, RR.v, Rat.mkRat_eq_zero hb0]
  have := RI.v_abs b.fix.num
  constructor
  ·intro h; rw [h] at this; exact this.symm
  ·intro h; have h2 : b.fix.num.v.natAbs = 0 := by rw [this]; exact h
   exact Int.natAbs_eq_zero.1 h2
 have s1 : Sz (q06 (val a.fix.mag * val b.fix.den)) ((j + 1) + (k + 1)) := ⟨q0n _, q0f.2 (q1C na nbd)⟩
 have s1' : Sz (RI.mag ⟨!(a.fix.neg == b.fix.neg), q06 (val a.fix.mag * val b.fix.den)⟩) ((j + 1) + (k + 1)) := s1
 have s4 : Sz (q06 (val a.fix.den * val b.fix.mag)) ((j + 1) + (k + 1)) := ⟨q0n _, q0f.2 (q1C nad nb)⟩
 refine q0i (fn := q9m) rfl (q0a ?_)
 refine go 800 rfl ?_
 refine q00 rfl rfl (q5q a (by omega)) ?_
 refine go 800 rfl ?_
 refine q00 rfl rfl (q5q b (by omega)) ?_
 refine go 800 rfl ?_
 refine q00 rfl rfl (qkx b.fix.mag (by omega)) ?_
 refine go 800 rfl ?_
 refine q02 rfl (fun g => ?_) (fun g => ?_)
 ·have g : val b.fix.mag = 0 := by simpa using g
  refine go 800 rfl ?_
  refine q0c rfl rfl rfl trivial ?_
  rw [if_pos (hz.2 g)]; rfl
 ·have g : val b.fix.mag ≠ 0 := by simpa using g
  have r1 := q7v ⟨!(a.fix.neg == b.fix.neg), q06 (val a.fix.mag * val b.fix.den)⟩ (q06 (val a.fix.den * val b.fix.mag)) (by omega) (by omega) (by rw [q0e]; exact Nat.mul_ne_zero ha0 g)
  rw [q0e, qnc a.fix b.fix ha0 hb0 g, hva, hvb] at r1
  refine go 800 rfl ?_
  refine q00 rfl rfl (qei a.fix.mag b.fix.den (by omega) (by omega)) ?_
  refine go 800 rfl ?_
  refine q00 rfl rfl (qei a.fix.den b.fix.mag (by omega) (by omega)) ?_
  refine go 800 rfl ?_
  refine q00 rfl rfl r1 ?_
  refine go 800 rfl ?_
  refine q0c rfl rfl rfl trivial ?_
  rw [if_neg (fun h => g (hz.1 h))]; rfl
theorem qia (a : RR) (ha : val a.den ≠ 0) : RI.v ⟨a.neg, q06 ((val a.mag + val a.mag + val a.den) / (val a.den + val a.den))⟩ = q11 a.v := by
 rw [RR.v, qlD _ ha]
 unfold rnd
 rw [RI.v_abs]
 simp only [RR.num, q0e, RI.v]
 rw [← Nat.two_mul, ← Nat.two_mul]
 by_cases h0 : val a.mag = 0
 ·have : (2 * val a.mag + val a.den) / (2 * val a.den) = 0 := by rw [h0]; exact Nat.div_eq_of_lt (by omega)
  rw [this]; simp [h0]
 ·by_cases hn : a.neg = true
  ·simp only [hn, if_true]; rw [if_pos (by omega)]
  ·simp only [hn, if_false]; rw [if_neg (by simp), if_neg (by rw [if_neg (by simp)]; omega)]
theorem qlE (q : Rat) : (q11 q).natAbs ≤ 2 * q.num.natAbs + q.den := by
 unfold q11 rnd
 have := Nat.div_le_self (2 * q.num.natAbs + q.den) (2 * q.den)
 generalize (2 * q.num.natAbs + q.den) / (2 * q.den) = x at *
 split <;> omega
instance nbRound {q : Rat} {k : Nat} [h : QB q k] : NB (q11 q).natAbs (k + 1) := by
 refine ⟨q4G (qlE q) ?_⟩
 have h1 := h.num
 have h2 := h.den
 rw [Nat.pow_succ]
 omega
theorem qen (a : RR) {k : Nat} [h : SzR a k] (hk : k ≤ 1000000) : PU qa8 [a.enc] = some (encI (q11 a.v)) := by
 have ha0 := a.fix_den
 have hva := a.fix_v
 have na := (q5p (l := a.fix.mag)).lt
 have nad := (q5p (l := a.fix.den)).lt
 have lad := (q8t (a := a)).den.len
 have lam := (q8t (a := a)).mag.len
 have n2 := q9E na na
 have n3 := q9E n2 nad
 have n4 := q9E nad nad
 have l2 := q0f.2 n2
 have l3 := q0f.2 n3
 have l4 := q0f.2 n4
 have a2 := qgM (q06 (val a.fix.mag + val a.fix.mag)) a.fix.den (by omega) (by omega)
 rw [q0e] at a2
 have d1 := q9X (q06 (val a.fix.mag + val a.fix.mag + val a.fix.den)) (q06 (val a.fix.den + val a.fix.den)) (by omega) (by omega)
 rw [q0e, q0e, if_neg (by omega)] at d1
 have s5 : Sz (RI.mag ⟨a.fix.neg, q06 ((val a.fix.mag + val a.fix.mag + val a.fix.den) / (val a.fix.den + val a.fix.den))⟩) _ := ⟨q0n _, q0f.2 (q4G (Nat.div_le_self _ _) n3)⟩
 have nrm := q5G ⟨a.fix.neg, q06 ((val a.fix.mag + val a.fix.mag + val a.fix.den) / (val a.fix.den + val a.fix.den))⟩ (by omega)
 rw [qia a.fix ha0, hva] at nrm
 refine q0i (fn := q6T) rfl (q0a ?_)
 refine go 800 rfl ?_
 refine q00 rfl rfl (q5q a (by omega)) ?_
 refine go 800 rfl ?_
 refine q00 rfl rfl (qgM a.fix.mag a.fix.mag (by omega) (by omega)) ?_
 refine go 800 rfl ?_
 refine q00 rfl rfl a2 ?_
 refine go 800 rfl ?_
 refine q00 rfl rfl (qgM a.fix.den a.fix.den (by omega) (by omega)) ?_
 refine go 800 rfl ?_
 refine q00 rfl rfl d1 ?_
 refine go 800 rfl ?_
 refine q00 rfl rfl nrm ?_
 refine go 800 rfl ?_
 exact q0c rfl rfl rfl trivial rfl
end Go.F

namespace Go.F
attribute [local irreducible] IntKind.wrap wpM
structure RP where
 x : RR
 y : RR
structure QP where
 x : Rat
 y : Rat
 deriving DecidableEq
def RP.enc (p : RP) : D := .agg [.bool p.x.neg, nat p.x.mag, nat p.x.den, .bool p.y.neg, nat p.y.mag, nat p.y.den]
def RP.v (p : RP) : QP := ⟨p.x.v, p.y.v⟩
def RP.of (q : QP) : RP := ⟨RR.of q.x, RR.of q.y⟩
def qcg (q : QP) : D := (RP.of q).enc
theorem RP.of_v (q : QP) : (RP.of q).v = q := by
 unfold RP.of RP.v; simp only [RR.of_v]
class SzP (p : RP) (k : outParam Nat) : Prop where
 x : SzR p.x k
 y : SzR p.y k
instance szPx {p : RP} {k : Nat} [h : SzP p k] : SzR p.x k := h.x
instance szPy {p : RP} {k : Nat} [h : SzP p k] : SzR p.y k := h.y
class QPB (q : QP) (k : outParam Nat) : Prop where
 x : QB q.x k
 y : QB q.y k
instance qpX {q : QP} {k : Nat} [h : QPB q k] : QB q.x k := h.x
instance qpY {q : QP} {k : Nat} [h : QPB q k] : QB q.y k := h.y
instance szPOf {q : QP} {k : Nat} [h : QPB q k] : SzP (RP.of q) k := ⟨szROf (h := h.x), szROf (h := h.y)⟩
instance qpV {p : RP} {k : Nat} [h : SzP p k] : QPB p.v (k + 1) := ⟨qbV (h := h.x), qbV (h := h.y)⟩
def qbn (a b : QP) : QP := ⟨a.x + b.x, a.y + b.y⟩
def q12 (a b : QP) : QP := ⟨a.x - b.x, a.y - b.y⟩
def q3q (a : QP) (r : Rat) : QP := ⟨a.x * r, a.y * r⟩
def q3r (a b : QP) : Rat := a.x * b.y - a.y * b.x
def onP (a b : QP) (t : Rat) : QP := qbn a (q3q (q12 b a) t)
instance qpAdd {a b : QP} {j k : Nat} [QPB a j] [QPB b k] : QPB (qbn a b) (j + k + 1) := ⟨qn9, qn9⟩
instance qpSub {a b : QP} {j k : Nat} [QPB a j] [QPB b k] : QPB (q12 a b) (j + k + 1) := ⟨qnb, qnb⟩
instance qpScale {a : QP} {r : Rat} {j k : Nat} [QPB a j] [QB r k] : QPB (q3q a r) (j + k) := ⟨qna, qna⟩
instance qbCross {a b : QP} {j k : Nat} [QPB a j] [QPB b k] : QB (q3r a b) ((j + k) + (j + k) + 1) := qnb
instance qpOn {a b : QP} {t : Rat} {i j k : Nat} [QPB a i] [QPB b j] [QB t k] : QPB (onP a b t) (i + ((j + i + 1) + k) + 1) := qpAdd
theorem qbo (n : Int) : mkRat n (1 : Int).toNat = (n : Rat) := Rat.mkRat_one n
theorem qib (x y : Int) (hx1 : -9223372036854775808 ≤ x) (hx2 : x ≤ 9223372036854775807) (hy1 : -9223372036854775808 ≤ y) (hy2 : y ≤ 9223372036854775807) : PU qe3 [.int .i64 x, .int .i64 y] = some (qcg ⟨x, y⟩) := by
 have r1 := qcO x 1 hx1 hx2 (by decide) (by decide)
 have r2 := qcO y 1 hy1 hy2 (by decide) (by decide)
 rw [qbo] at r1 r2
 refine q0i (fn := qaB) rfl (q0a ?_)
 refine go 800 rfl ?_
 refine q00 rfl rfl r1 ?_
 refine go 800 rfl ?_
 refine q00 rfl rfl r2 ?_
 refine go 800 rfl ?_
 exact q0c rfl rfl rfl trivial rfl
theorem qgR (a b : RP) {j k : Nat} [ha : SzP a j] [hb : SzP b k] (hj : j ≤ 1000000) (hk : k ≤ 1000000) : PU qcH [a.enc, b.enc] = some (qcg (qbn a.v b.v)) := by
 refine q0i (fn := q9u) rfl (q0a ?_)
 refine go 800 rfl ?_
 refine q00 rfl rfl (q87 a.x b.x (by omega) (by omega)) ?_
 refine go 800 rfl ?_
 refine q00 rfl rfl (q87 a.y b.y (by omega) (by omega)) ?_
 refine go 800 rfl ?_
 exact q0c rfl rfl rfl trivial rfl
theorem q4C (a b : RP) {j k : Nat} [ha : SzP a j] [hb : SzP b k] (hj : j ≤ 1000000) (hk : k ≤ 1000000) : PU q46 [a.enc, b.enc] = some (qcg (q12 a.v b.v)) := by
 refine q0i (fn := q9h) rfl (q0a ?_)
 refine go 800 rfl ?_
 refine q00 rfl rfl (q88 a.x b.x (by omega) (by omega)) ?_
 refine go 800 rfl ?_
 refine q00 rfl rfl (q88 a.y b.y (by omega) (by omega)) ?_
 refine go 800 rfl ?_
 exact q0c rfl rfl rfl trivial rfl
theorem qeo (a : RP) (r : RR) {j k : Nat} [ha : SzP a j] [hb : SzR r k] (hj : j ≤ 1000000) (hk : k ≤ 1000000) : PU qa9 [a.enc, r.enc] = some (qcg (q3q a.v r.v)) := by
 refine q0i (fn := q6Z) rfl (q0a ?_)
 refine go 800 rfl ?_
 refine q00 rfl rfl (q5O a.x r (by omega) (by omega)) ?_
 refine go 800 rfl ?_
 refine q00 rfl rfl (q5O a.y r (by omega) (by omega)) ?_
 refine go 800 rfl ?_
 exact q0c rfl rfl rfl trivial rfl
theorem q9F (a b : RP) {j k : Nat} [ha : SzP a j] [hb : SzP b k] (hj : j ≤ 100000) (hk : k ≤ 100000) : PU q6Q [a.enc, b.enc] = some (q5N (q3r a.v b.v)) := by
 have s := q88 (RR.of (a.x.v * b.y.v)) (RR.of (a.y.v * b.x.v)) (by omega) (by omega)
 rw [RR.of_v, RR.of_v] at s
 refine q0i (fn := q6U) rfl (q0a ?_)
 refine go 800 rfl ?_
 refine q00 rfl rfl (q5O a.x b.y (by omega) (by omega)) ?_
 refine go 800 rfl ?_
 refine q00 rfl rfl (q5O a.y b.x (by omega) (by omega)) ?_
 refine go 800 rfl ?_
 refine q00 rfl rfl s ?_
 refine go 800 rfl ?_
 exact q0c rfl rfl rfl trivial rfl
theorem qic (a b : RP) (t : RR) {i j k : Nat} [ha : SzP a i] [hb : SzP b j] [ht : SzR t k] (hi : i ≤ 10000) (hj : j ≤ 10000) (hk : k ≤ 10000) : PU qe2 [a.enc, b.enc, t.enc] = some (qcg (onP a.v b.v t.v)) := by
 have s := qeo (RP.of (q12 b.v a.v)) t (by omega) (by omega)
 rw [RP.of_v] at s
 have d := qgR a (RP.of (q3q (q12 b.v a.v) t.v)) (by omega) (by omega)
 rw [RP.of_v] at d
 refine q0i (fn := qaA) rfl (q0a ?_)
 refine go 800 rfl ?_
 refine q00 rfl rfl (q4C b a (by omega) (by omega)) ?_
 refine go 800 rfl ?_
 refine q00 rfl rfl s ?_
 refine go 800 rfl ?_
 refine q00 rfl rfl d ?_
 refine go 800 rfl ?_
 exact q0c rfl rfl rfl trivial rfl
def q8u (a b c d : QP) : Option QP :=
 if q3r (q12 b a) (q12 d c) = 0 then none else some (onP a b (q3r (q12 c a) (q12 d c) / q3r (q12 b a) (q12 d c)))
def qky : Option QP → D
 | none => .tup [RP.enc ⟨⟨false, [], []⟩, ⟨false, [], []⟩⟩, .int .i64 10]
 | some p => .tup [qcg p, .int .i64 0]
theorem qff (a b c d : RP) {k : Nat} [ha : SzP a k] [hb : SzP b k] [hc : SzP c k] [hd : SzP d k] (hk : k ≤ 100) : PU qbd [a.enc, b.enc, c.enc, d.enc] = some (qky (q8u a.v b.v c.v d.v)) := by
 have c1 := q9F (RP.of (q12 c.v a.v)) (RP.of (q12 d.v c.v)) (by omega) (by omega)
 have c2 := q9F (RP.of (q12 b.v a.v)) (RP.of (q12 d.v c.v)) (by omega) (by omega)
 rw [RP.of_v, RP.of_v] at c1 c2
 have dv := qgQ (RR.of (q3r (q12 c.v a.v) (q12 d.v c.v))) (RR.of (q3r (q12 b.v a.v) (q12 d.v c.v))) (by omega) (by omega)
 rw [RR.of_v, RR.of_v] at dv
 refine q0i (fn := q7V) rfl (q0a ?_)
 refine go 800 rfl ?_
 refine q00 rfl rfl (q4C d c (by omega) (by omega)) ?_
 refine go 800 rfl ?_
 refine q00 rfl rfl (q4C c a (by omega) (by omega)) ?_
 refine go 800 rfl ?_
 refine q00 rfl rfl c1 ?_
 refine go 800 rfl ?_
 refine q00 rfl rfl (q4C b a (by omega) (by omega)) ?_
 refine go 800 rfl ?_
 refine q00 rfl rfl c2 ?_
 refine go 800 rfl ?_
 by_cases h0 : q3r (q12 b.v a.v) (q12 d.v c.v) = 0
 ·rw [if_pos h0] at dv
  refine q00 rfl rfl dv ?_
  refine go 800 rfl ?_
  refine q0r rfl ?_
  refine go 800 rfl ?_
  refine q0c rfl rfl rfl trivial ?_
  rw [q8u, if_pos h0]; rfl
 ·rw [if_neg h0] at dv
  have o := qic a b (RR.of (q3r (q12 c.v a.v) (q12 d.v c.v) / q3r (q12 b.v a.v) (q12 d.v c.v))) (by omega) (by omega) (by omega)
  rw [RR.of_v] at o
  refine q00 rfl rfl dv ?_
  refine go 800 rfl ?_
  refine q0o rfl ?_
  refine go 800 rfl ?_
  refine q00 rfl rfl o ?_
  refine go 800 rfl ?_
  refine q0c rfl rfl rfl trivial ?_
  rw [q8u, if_neg h0]; rfl
def q89 (z : Int) : Bool := decide (-1048576 ≤ z) && decide (z ≤ 1048576)
theorem qae (r : RR) {k : Nat} [h : SzR r k] (hk : k ≤ 100000) : PU q3R [r.enc] = some (.tup [.int .i64 (if -9223372036854775808 ≤ q11 r.v ∧ q11 r.v ≤ 9223372036854775807 then q11 r.v else 0), .bool (q89 (q11 r.v))]) := by
 have s := qn7 (RI.of (q11 r.v)) (by omega)
 rw [RI.of_v] at s
 refine q0i (fn := q3Z) rfl (q0a ?_)
 refine go 800 rfl ?_
 refine q00 rfl rfl (qen r (by omega)) ?_
 refine go 800 rfl ?_
 by_cases h1 : -9223372036854775808 ≤ q11 r.v ∧ q11 r.v ≤ 9223372036854775807
 ·rw [q77, if_pos h1] at s
  rw [if_pos h1]
  refine q00 rfl rfl s ?_
  repeat' (first
   | (refine goP 800 rfl rfl ?_)
   | (show wpM _ _ _ (Fr.ops _ _ (KOper.mk _ _ (some _) _ _ :: _) :: _) Ex.normal _ _ _ _ _; first | refine q0q rfl ?_ | refine q0s rfl ?_ | refine q0g rfl (fun _ => ?_) (fun _ => ?_))
   | (show wpM _ _ _ (Fr.code (K.cond _ _ _) :: _) Ex.normal _ _ _ _ _; first | refine q0r rfl ?_ | refine q0o rfl ?_ | refine q02 rfl (fun _ => ?_) (fun _ => ?_))
   | (show wpM _ _ _ (Fr.ops _ _ (KOper.mk _ _ none _ (KOp.pick _ _ _) :: _) :: _) Ex.normal _ _ _ _ _; refine q0F rfl (fun _ => ?_) (fun _ => ?_))
   | (show wpM _ _ _ [] _ _ _ _ _ _; refine q0c rfl rfl rfl trivial ?_))
  all_goals simp only [q1N, q1T, decide_eq_true_eq, decide_eq_false_iff_not] at *
  all_goals simp only [q89]
  all_goals simp_all
  all_goals omega
 ·rw [q77, if_neg h1] at s
  rw [if_neg h1]
  refine q00 rfl rfl s ?_
  repeat' (first
   | (refine goP 800 rfl rfl ?_)
   | (show wpM _ _ _ (Fr.ops _ _ (KOper.mk _ _ (some _) _ _ :: _) :: _) Ex.normal _ _ _ _ _; first | refine q0q rfl ?_ | refine q0s rfl ?_ | refine q0g rfl (fun _ => ?_) (fun _ => ?_))
   | (show wpM _ _ _ (Fr.code (K.cond _ _ _) :: _) Ex.normal _ _ _ _ _; first | refine q0r rfl ?_ | refine q0o rfl ?_ | refine q02 rfl (fun _ => ?_) (fun _ => ?_))
   | (show wpM _ _ _ (Fr.ops _ _ (KOper.mk _ _ none _ (KOp.pick _ _ _) :: _) :: _) Ex.normal _ _ _ _ _; refine q0F rfl (fun _ => ?_) (fun _ => ?_))
   | (show wpM _ _ _ [] _ _ _ _ _ _; refine q0c rfl rfl rfl trivial ?_))
  all_goals simp only [q89]
  all_goals (simp; omega)
def q3m (p : QP) : Spot × Int := if q89 (q11 p.x) && q89 (q11 p.y) then (⟨q11 p.x, q11 p.y⟩, 0) else (⟨0, 0⟩, 3)
theorem q37 {z : Int} : q89 z = true ↔ -1048576 ≤ z ∧ z ≤ 1048576 := by simp [q89]
theorem qoh (p : RP) {k : Nat} [h : SzP p k] (hk : k ≤ 100000) : PU qbb [p.enc] = some (.tup [(q3m p.v).1.enc, .int .i64 (q3m p.v).2]) := by
 have ex : p.v.x = p.x.v := rfl
 have ey : p.v.y = p.y.v := rfl
 refine q0i (fn := q7S) rfl (q0a ?_)
 refine go 800 rfl ?_
 refine q00 rfl rfl (qae p.x hk) ?_
 refine go 800 rfl ?_
 refine q00 rfl rfl (qae p.y hk) ?_
 refine go 800 rfl ?_
 refine q0g rfl (fun g1 => ?_) (fun g1 => ?_)
 ·repeat' (first
   | (refine goP 800 rfl rfl ?_)
   | (show wpM _ _ _ (Fr.ops _ _ (KOper.mk _ _ (some _) _ _ :: _) :: _) Ex.normal _ _ _ _ _; first | refine q0q rfl ?_ | refine q0s rfl ?_ | refine q0g rfl (fun _ => ?_) (fun _ => ?_))
   | (show wpM _ _ _ (Fr.code (K.cond _ _ _) :: _) Ex.normal _ _ _ _ _; first | refine q0r rfl ?_ | refine q0o rfl ?_ | refine q02 rfl (fun _ => ?_) (fun _ => ?_))
   | (show wpM _ _ _ (Fr.ops _ _ (KOper.mk _ _ none _ (KOp.pick _ _ _) :: _) :: _) Ex.normal _ _ _ _ _; refine q0F rfl (fun _ => ?_) (fun _ => ?_))
   | (show wpM _ _ _ [] _ _ _ _ _ _; refine q0c rfl rfl rfl trivial ?_))
  simp only [Bool.not_eq_true', Bool.not_eq_false'] at g1
  rw [q3m, ex, ey, g1]; rfl
 ·simp only [Bool.not_eq_true', Bool.not_eq_false'] at g1
  repeat' (first
   | (refine goP 800 rfl rfl ?_)
   | (show wpM _ _ _ (Fr.ops _ _ (KOper.mk _ _ (some _) _ _ :: _) :: _) Ex.normal _ _ _ _ _; first | refine q0q rfl ?_ | refine q0s rfl ?_ | refine q0g rfl (fun _ => ?_) (fun _ => ?_))
   | (show wpM _ _ _ (Fr.code (K.cond _ _ _) :: _) Ex.normal _ _ _ _ _; first | refine q0r rfl ?_ | refine q0o rfl ?_ | refine q02 rfl (fun _ => ?_) (fun _ => ?_))
   | (show wpM _ _ _ (Fr.ops _ _ (KOper.mk _ _ none _ (KOp.pick _ _ _) :: _) :: _) Ex.normal _ _ _ _ _; refine q0F rfl (fun _ => ?_) (fun _ => ?_))
   | (show wpM _ _ _ [] _ _ _ _ _ _; refine q0c rfl rfl rfl trivial ?_))
  ·rename_i g2
   simp only [Bool.not_eq_true', Bool.not_eq_false'] at g2
   rw [q3m, ex, ey, g1, g2]; rfl
  ·rename_i g2
   simp only [Bool.not_eq_true', Bool.not_eq_false'] at g2
   have g1' := q37.1 g1
   have g2' := q37.1 g2
   rw [q3m, ex, ey, g1, g2, if_pos (by omega), if_pos (by omega)]; rfl
end Go.F

namespace Go.F
attribute [local irreducible] IntKind.wrap wpM
theorem q3i (neg : Bool) (l : List Nat) {k : Nat} [h : Sz l k] (hk : k ≤ 500000000) : PU q32 [.bool neg, nat l] = some (encI (RI.v ⟨neg, l⟩)) := by
 have hl := h.len
 have e : ∀ n : Nat, n = (q06 (val l)).length → ltb 0 (n : Int) = decide (val l ≠ 0) := by
  rintro n rfl
  rw [q1N, decide_eq_decide]
  have := @q2b (val l)
  omega
 refine q0i (fn := q9z) rfl (q0a ?_)
 refine go 800 rfl ?_
 refine q00 rfl rfl (q1d l (by omega)) ?_
 refine go 800 rfl ?_
 refine q0g rfl (fun h1 => ?_) (fun h1 => ?_)
 ·refine go 800 rfl ?_
  refine q0c rfl rfl rfl trivial ?_
  subst h1
  refine q9Z _ ?_ ?_
  ·rw [List.length_map, e _ rfl]
   simp only [RI.v]
   rw [decide_eq_decide]; simp; omega
  ·simp [RI.v]
 ·refine go 800 rfl ?_
  refine q0c rfl rfl rfl trivial ?_
  subst h1
  refine q9Z _ ?_ ?_
  ·simp only [RI.v]
   rw [eq_comm, decide_eq_false_iff_not, if_neg (by decide)]; omega
  ·simp [RI.v]
theorem qch (n : Int) (h1 : -9223372036854775808 ≤ n) (h2 : n ≤ 9223372036854775807) : PU qbf [.int .i64 n] = some (encI n) := by
 refine q0i (fn := qeb) rfl (q0a ?_)
 refine go 800 rfl ?_
 refine q02 rfl (fun g1 => ?_) (fun g1 => ?_)
 ·rw [q0b] at g1
  have e0 : IntKind.i64.wrap (n + 1) = n + 1 := wrap64 (by omega) (by omega)
  have e1 : IntKind.i64.wrap (0 - (n + 1)) = -n - 1 := by rw [wrap64 (by omega) (by omega)]; omega
  have e : IntKind.u64.wrap (IntKind.u64.wrap (-n - 1) + 1) = ((n.natAbs : Nat) : Int) := by simp only [q0G]; omega
  refine go 800 rfl ?_
  rw [e0, e1, e]
  refine q00 rfl rfl (q9Y n.natAbs (by omega)) ?_
  refine go 800 rfl ?_
  refine q0c rfl rfl rfl trivial ?_
  exact q9Z n (by rw [decide_eq_true g1]) rfl
 ·rw [q0d] at g1
  have e : IntKind.u64.wrap n = ((n.natAbs : Nat) : Int) := by simp only [q0G]; omega
  refine go 800 rfl ?_
  rw [e]
  refine q00 rfl rfl (q9Y n.natAbs (by omega)) ?_
  refine go 800 rfl ?_
  refine q0c rfl rfl rfl trivial ?_
  exact q9Z n (by rw [eq_comm, decide_eq_false_iff_not]; omega) rfl
theorem q9G (a : RI) {k : Nat} [h : Sz a.mag k] (hk : k ≤ 500000000) : PU q7P [a.enc] = some (encI a.v) := by
 refine q0i (fn := qaG) rfl (q0a ?_)
 refine go 800 rfl ?_
 refine q00 rfl rfl (q3i a.neg a.mag hk) ?_
 refine go 800 rfl ?_
 exact q0c rfl rfl rfl trivial rfl
theorem qjH (a : RI) {k : Nat} [h : Sz a.mag k] (hk : k ≤ 500000000) : PU qfU [a.enc] = some (encI (-a.v)) := by
 refine q0i (fn := qca) rfl (q0a ?_)
 refine go 800 rfl ?_
 refine q00 rfl rfl (q3i (!a.neg) a.mag hk) ?_
 refine go 800 rfl ?_
 refine q0c rfl rfl rfl trivial ?_
 have : RI.v ⟨!a.neg, a.mag⟩ = -a.v := by unfold RI.v; cases a.neg <;> simp
 rw [this]; rfl
theorem qjI (a b : RI) {j k : Nat} [ha : Sz a.mag j] [hb : Sz b.mag k] (hj : j ≤ 100000000) (hk : k ≤ 100000000) : PU qfT [a.enc, b.enc] = some (encI (a.v + b.v)) := by
 have la := ha.len
 have lb := hb.len
 have nba : NB (val a.mag) j := inferInstance
 have nbb : NB (val b.mag) k := inferInstance
 have sAdd : Sz (q06 (val a.mag + val b.mag)) (j + k + 1) := ⟨q0n _, q0f.2 (q9E nba.lt nbb.lt)⟩
 have sSub : Sz (q06 (val a.mag - val b.mag)) j := ⟨q0n _, q0f.2 (q4G (Nat.sub_le _ _) nba.lt)⟩
 have sSub' : Sz (q06 (val b.mag - val a.mag)) k := ⟨q0n _, q0f.2 (q4G (Nat.sub_le _ _) nbb.lt)⟩
 have s1 := qaO a.mag b.mag (by omega) (by omega)
 have s2 := qaO b.mag a.mag (by omega) (by omega)
 refine q0i (fn := qc8) rfl (q0a ?_)
 refine go 800 rfl ?_
 refine q02 rfl (fun g1 => ?_) (fun g1 => ?_)
 ·refine go 800 rfl ?_
  refine q00 rfl rfl (qek a.mag b.mag (by omega) (by omega)) ?_
  refine go 800 rfl ?_
  refine q00 rfl rfl (q3i a.neg _ (by omega)) ?_
  refine go 800 rfl ?_
  refine q0c rfl rfl rfl trivial ?_
  have g : a.neg = b.neg := by simpa using g1
  have : RI.v ⟨a.neg, q06 (val a.mag + val b.mag)⟩ = a.v + b.v := by
   unfold RI.v; simp only [q0e, ← g]; split <;> omega
  rw [this]; rfl
 have g : b.neg = !a.neg := by revert g1; cases a.neg <;> cases b.neg <;> simp
 refine go 800 rfl ?_
 by_cases hlt : val a.mag < val b.mag
 ·rw [if_pos hlt] at s1
  rw [if_neg (by omega)] at s2
  refine q00 rfl rfl s1 ?_
  refine go 800 rfl ?_
  refine q0o rfl ?_
  refine go 800 rfl ?_
  refine q00 rfl rfl s2 ?_
  refine go 800 rfl ?_
  refine q00 rfl rfl (q3i b.neg _ (by omega)) ?_
  refine go 800 rfl ?_
  refine q0c rfl rfl rfl trivial ?_
  have : RI.v ⟨b.neg, q06 (val b.mag - val a.mag)⟩ = a.v + b.v := by
   unfold RI.v; simp only [q0e, g]; cases a.neg <;> simp <;> omega
  rw [this]; rfl
 ·rw [if_neg hlt] at s1
  refine q00 rfl rfl s1 ?_
  refine go 800 rfl ?_
  refine q0r rfl ?_
  refine go 800 rfl ?_
  refine q00 rfl rfl (q3i a.neg _ (by omega)) ?_
  refine go 800 rfl ?_
  refine q0c rfl rfl rfl trivial ?_
  have : RI.v ⟨a.neg, q06 (val a.mag - val b.mag)⟩ = a.v + b.v := by
   unfold RI.v; simp only [q0e, g]; cases a.neg <;> simp <;> omega
  rw [this]; rfl
theorem qep (a b : RI) {j k : Nat} [ha : Sz a.mag j] [hb : Sz b.mag k] (hj : j ≤ 100000000) (hk : k ≤ 100000000) : PU qbS [a.enc, b.enc] = some (encI (a.v * b.v)) := by
 have la := ha.len
 have lb := hb.len
 have nba : NB (val a.mag) j := inferInstance
 have nbb : NB (val b.mag) k := inferInstance
 have sM : Sz (q06 (val a.mag * val b.mag)) (j + k) := ⟨q0n _, q0f.2 (q1C nba.lt nbb.lt)⟩
 refine q0i (fn := qc9) rfl (q0a ?_)
 refine go 800 rfl ?_
 refine q00 rfl rfl (q36 a.mag b.mag (by omega) (by omega)) ?_
 refine go 800 rfl ?_
 refine q00 rfl rfl (q3i _ _ (by omega)) ?_
 refine go 800 rfl ?_
 refine q0c rfl rfl rfl trivial ?_
 have : RI.v ⟨!(a.neg == b.neg), q06 (val a.mag * val b.mag)⟩ = a.v * b.v := by
  unfold RI.v; simp only [q0e]; cases a.neg <;> cases b.neg <;> simp [Int.mul_neg, Int.neg_mul]
 rw [this]; rfl
set_option maxHeartbeats 1000000 in
theorem qgS (a : RI) {k : Nat} [ha : Sz a.mag k] (hk : k ≤ 500000000) : PU qcE [a.enc] = some (q77 a.v) := by
 refine q0i (fn := q9p) rfl (q0a ?_)
 refine go 800 rfl ?_
 refine q00 rfl rfl (q9G a hk) ?_
 refine go 800 rfl ?_
 have hMo : LOk (q06 a.v.natAbs) := q0n _
 have hMv : val (q06 a.v.natAbs) = a.v.natAbs := q0e _
 have hlen : (q06 a.v.natAbs).length ≤ 2 ↔ a.v.natAbs < 18446744073709551616 := by rw [q0f]
 have hneg : (RI.of a.v).neg = decide (a.v < 0) := rfl
 have hmag : (RI.of a.v).mag = q06 a.v.natAbs := rfl
 rw [hmag] at *
 generalize q06 a.v.natAbs = M at *
 rw [List.length_map]
 refine q02 rfl (fun h1 => ?_) (fun h1 => ?_)
 ·rw [q0b] at h1
  refine go 800 rfl ?_
  refine q0c rfl rfl rfl trivial ?_
  rw [q77, if_neg (by omega)]
 rw [q0d] at h1
 have h2 := hlen.1 (by omega)
 refine go 800 rfl ?_
 rw [List.length_map]
 refine q0x (S := fun x : Nat => ([.ptr 0 0 0, .int .u64 (val (M.drop x)), .int .i64 ((x : Int) - 1)], [some (.row [.agg [.bool (decide (a.v < 0)), nat M]] 2), none, none], [0, 0, 0])) (C := fun x => x ≤ M.length) (m := fun x => x) M.length (Nat.le_refl _) (by omega) ?_ ?_
 ·refine q05 rfl ⟨rfl, trivial⟩ ?_
  have : IntKind.i64.wrap ((M.length : Int) - 1) = (M.length : Int) - 1 := wrap64 (by omega) (by omega)
  simp [nat, val, hneg, this]
 intro i hi N hN
 refine go 800 rfl ?_
 refine q02 rfl (fun g1 => ?_) (fun g1 => ?_)
 ·rw [q24] at g1
  obtain ⟨j, rfl⟩ : ∃ j, i = j + 1 := ⟨i - 1, by omega⟩
  have ej : ((j + 1 : Nat) : Int) - 1 = (j : Int) := by omega
  have hlt : j < M.length := by omega
  have hx := q0T hMo j
  have wj : IntKind.i64.wrap ((j : Int) - 1) = (j : Int) - 1 := wrap64 (by omega) (by omega)
  have hd := q27 M j
  have hb : val (M.drop j) < 18446744073709551616 := by
   have := q1Y M j
   have h3 : val (M.drop j) ≤ 4294967296 ^ j * val (M.drop j) := Nat.le_mul_of_pos_left _ (Nat.pow_pos (by decide))
   omega
  have e : IntKind.u64.wrap (IntKind.u64.wrap ((val (M.drop (j + 1)) : Int) * 4294967296) + IntKind.u64.wrap (dg M j : Int)) = (val (M.drop j) : Int) := by simp only [q0G]; omega
  rw [ej]
  refine go 800 rfl ?_
  refine q0y j rfl rfl rfl (q1B hlt) rfl ?_
  refine go 800 rfl ?_
  rw [e]
  refine q09 ?_
  exact hN j (by omega) (by omega) (q05 rfl ⟨rfl, trivial⟩ (by simp [nat, wj]))
 rw [q25] at g1
 obtain rfl : i = 0 := by omega
 rw [List.drop_zero, hMv] at *
 clear hN
 refine go 800 rfl ?_
 refine q09 ?_
 have e1 : a.v < 0 → a.v.natAbs ≤ 9223372036854775808 → IntKind.i64.wrap (IntKind.i64.wrap (0 - IntKind.i64.wrap (IntKind.u64.wrap ((a.v.natAbs : Int) - 1))) - 1) = a.v := by
  intro h3 h4
  have e2 : IntKind.u64.wrap ((a.v.natAbs : Int) - 1) = (a.v.natAbs : Int) - 1 := by rw [q0G]; omega
  rw [e2, wrap64 (x := (a.v.natAbs : Int) - 1) (by omega) (by omega), wrap64 (x := 0 - ((a.v.natAbs : Int) - 1)) (by omega) (by omega), wrap64 (by omega) (by omega)]
  omega
 have e2 : ¬ a.v < 0 → a.v.natAbs ≤ 9223372036854775807 → IntKind.i64.wrap (a.v.natAbs : Int) = a.v := by
  intro h3 h4
  rw [wrap64 (by omega) (by omega)]; omega
 repeat' (first
  | (refine goP 800 rfl rfl ?_)
  | (show wpM _ _ _ (Fr.ops _ _ (KOper.mk _ _ (some _) _ _ :: _) :: _) Ex.normal _ _ _ _ _; first | refine q0q rfl ?_ | refine q0s rfl ?_ | refine q0g rfl (fun _ => ?_) (fun _ => ?_))
  | (show wpM _ _ _ (Fr.code (K.cond _ _ _) :: _) Ex.normal _ _ _ _ _; first | refine q0r rfl ?_ | refine q0o rfl ?_ | refine q02 rfl (fun _ => ?_) (fun _ => ?_))
  | (show wpM _ _ _ (Fr.ops _ _ (KOper.mk _ _ none _ (KOp.pick _ _ _) :: _) :: _) Ex.normal _ _ _ _ _; refine q0F rfl (fun _ => ?_) (fun _ => ?_))
  | (show wpM _ _ _ [] _ _ _ _ _ _; refine q0c rfl rfl rfl trivial ?_))
 all_goals simp only [q1N, q1T, decide_eq_true_eq, decide_eq_false_iff_not, Bool.not_eq_true', Bool.not_eq_false', Bool.not_eq_true, Bool.not_eq_false] at *
 all_goals unfold q77
 all_goals first | (rw [e1 (by omega) (by omega), if_pos (by omega)]) | (rw [e2 (by omega) (by omega), if_pos (by omega)]) | (rw [if_neg (by omega)])
theorem q3z (neg : Bool) (n d : List Nat) {j k : Nat} [hn : Sz n j] [hd : Sz d k] (hj : j ≤ 10000000) (hk : k ≤ 10000000) (hd0 : val d ≠ 0) : PU q3f [.bool neg, nat n, nat d] = some (q5N (mkRat (RI.v ⟨neg, n⟩) (val d))) := by
 have ln := hn.len
 have ld := hd.len
 have nbn : NB (val n) j := inferInstance
 have nbd : NB (val d) k := inferInstance
 have hg0 : Nat.gcd (val n) (val d) ≠ 0 := by
  have := Nat.gcd_pos_of_pos_right (val n) (show 0 < val d by omega); omega
 have lg : (q06 (Nat.gcd (val n) (val d))).length ≤ k := q0f.2 (q4G (Nat.gcd_le_right _ (by omega)) nbd.lt)
 have d1 := q5c n (q06 (Nat.gcd (val n) (val d))) (by omega) (by omega)
 have d2 := q5c d (q06 (Nat.gcd (val n) (val d))) (by omega) (by omega)
 rw [q0e, if_neg hg0] at d1 d2
 have s1 : Sz (q06 (val n / Nat.gcd (val n) (val d))) j := ⟨q0n _, q0f.2 (q4G (Nat.div_le_self _ _) nbn.lt)⟩
 refine q0i (fn := q7Z) rfl (q0a ?_)
 refine go 800 rfl ?_
 refine q00 rfl rfl (qjF n d (by omega) (by omega)) ?_
 refine go 800 rfl ?_
 refine q00 rfl rfl d1 ?_
 refine go 800 rfl ?_
 refine q00 rfl rfl d2 ?_
 refine go 800 rfl ?_
 refine q00 rfl rfl (q9G ⟨neg, q06 (val n / Nat.gcd (val n) (val d))⟩ (by omega)) ?_
 refine go 800 rfl ?_
 refine q0c rfl rfl rfl trivial ?_
 rw [qkw hd0, RI.v_abs]
 have e1 : RI.v ⟨neg, q06 (val n / Nat.gcd (val n) (val d))⟩ = if neg then -((val n / Nat.gcd (val n) (val d) : Nat) : Int) else (val n / Nat.gcd (val n) (val d) : Nat) := by
  rw [RI.v, q0e]
 have hdv := Nat.div_mul_cancel (Nat.gcd_dvd_left (val n) (val d))
 have e2 : decide (RI.v ⟨neg, q06 (val n / Nat.gcd (val n) (val d))⟩ < 0) = decide (RI.v ⟨neg, n⟩ < 0) := by
  rw [e1, decide_eq_decide, RI.v]
  have hz : val n / Nat.gcd (val n) (val d) = 0 ↔ val n = 0 := by
   constructor
   ·intro h; rw [h] at hdv; omega
   ·intro h; rw [h]; simp
  generalize val n / Nat.gcd (val n) (val d) = x at *
  simp only
  split <;> omega
 have e3 : (RI.v ⟨neg, q06 (val n / Nat.gcd (val n) (val d))⟩).natAbs = val n / Nat.gcd (val n) (val d) := by
  rw [RI.v_abs, q0e]
 show D.agg [.bool (decide (RI.v ⟨neg, q06 (val n / Nat.gcd (val n) (val d))⟩ < 0)), nat (q06 (RI.v ⟨neg, q06 (val n / Nat.gcd (val n) (val d))⟩).natAbs), nat (q06 (val d / Nat.gcd (val n) (val d)))] = _
 rw [e2, e3]
theorem qnd (z : Int) : q5N (z : Rat) = .agg [.bool (decide (z < 0)), nat (q06 z.natAbs), nat [1]] := by
 unfold q5N RR.of RR.enc
 simp only [Rat.num_intCast, Rat.den_intCast]
 rfl
theorem qbp (n : Int) (h1 : -9223372036854775808 ≤ n) (h2 : n ≤ 9223372036854775807) : PU q95 [.int .i64 n] = some (q5N (n : Rat)) := by
 refine q0i (fn := q9r) rfl (q0a ?_)
 refine go 800 rfl ?_
 refine q00 rfl rfl (qch n h1 h2) ?_
 refine go 800 rfl ?_
 refine q00 rfl rfl (q9Y 1 (by decide)) ?_
 refine go 800 rfl ?_
 refine q0c rfl rfl rfl trivial ?_
 rw [qnd]; rfl
theorem qgT (a : RR) : a.v = 0 ↔ val a.mag = 0 ∨ val a.den = 0 := by
 unfold RR.v
 by_cases h : val a.den = 0
 ·rw [h, Rat.mkRat_zero]; simp
 ·rw [Rat.mkRat_eq_zero h]
  have := RI.v_abs a.num
  constructor
  ·intro h2; rw [h2] at this; left; exact this.symm
  ·rintro (h2 | h2)
   ·have : a.num.v.natAbs = 0 := by rw [this]; exact h2
    exact Int.natAbs_eq_zero.1 this
   ·exact absurd h2 h
theorem qcP (a : RR) {k : Nat} [h : SzR a k] (hk : k ≤ 100000000) : PU qar [a.enc] = some (.bool (decide (a.v = 0))) := by
 have hm := h.mag.len
 have hd := h.den.len
 have e : ∀ n : Nat, ((q06 n).map u32).length = 0 ↔ n = 0 := fun n => by rw [List.length_map, List.length_eq_zero_iff, qce]
 refine q0i (fn := qaE) rfl (q0a ?_)
 refine go 800 rfl ?_
 refine q00 rfl rfl (q1d a.mag (by omega)) ?_
 refine go 800 rfl ?_
 refine q0g rfl (fun h1 => ?_) (fun h1 => ?_)
 ·rw [q26] at h1
  refine go 800 rfl ?_
  refine q0c rfl rfl rfl trivial ?_
  have := (e (val a.mag)).1 (by omega)
  rw [decide_eq_true ((qgT a).2 (.inl this))]
 ·rw [q2g] at h1
  refine go 800 rfl ?_
  refine q00 rfl rfl (q1d a.den (by omega)) ?_
  refine go 800 rfl ?_
  refine q0c rfl rfl rfl trivial ?_
  rw [q2O, D.bool.injEq, decide_eq_decide, qgT]
  have e1 := e (val a.mag)
  have e2 := e (val a.den)
  omega
theorem q2o (a : RR) {k : Nat} [h : SzR a k] (hk : k ≤ 10000000) : PU q2A [a.enc] = some (q5N a.v) := by
 refine q0i (fn := qaF) rfl (q0a ?_)
 refine go 800 rfl ?_
 refine q00 rfl rfl (qcP a (by omega)) ?_
 refine go 800 rfl ?_
 refine q02 rfl (fun h1 => ?_) (fun h1 => ?_)
 ·have h1 : a.v = 0 := by simpa using h1
  refine go 800 rfl ?_
  refine q00 rfl rfl (qbp 0 (by decide) (by decide)) ?_
  refine go 800 rfl ?_
  refine q0c rfl rfl rfl trivial ?_
  rw [h1]; rfl
 ·have h1 : a.v ≠ 0 := by simpa using h1
  have hd : val a.den ≠ 0 := fun h => h1 ((qgT a).2 (.inr h))
  refine go 800 rfl ?_
  refine q00 rfl rfl (q3z a.neg a.mag a.den hk hk hd) ?_
  refine go 800 rfl ?_
  exact q0c rfl rfl rfl trivial rfl
theorem qlF (n d : Int) (h1 : -9223372036854775808 ≤ n) (h2 : n ≤ 9223372036854775807) (h3 : 0 < d) (h4 : d ≤ 9223372036854775807) : PU qhW [.int .i64 n, .int .i64 d] = some (.tup [q5N (mkRat n d.toNat), .bool true]) := by
 have nb : NB n.natAbs 2 := ⟨by show n.natAbs < 18446744073709551616; omega⟩
 have nb2 : NB d.natAbs 2 := ⟨by show d.natAbs < 18446744073709551616; omega⟩
 have hneg : (RI.of d).neg = false := by show decide (d < 0) = false; simp; omega
 have hr := q3z (RI.of n).neg (q06 n.natAbs) (q06 d.natAbs) (by decide) (by decide) (by rw [q0e]; omega)
 have hv : RI.v ⟨(RI.of n).neg, q06 n.natAbs⟩ = n := RI.of_v n
 rw [hv, q0e] at hr
 have hdn : d.natAbs = d.toNat := by omega
 rw [← hdn]
 refine q0i (fn := qe9) rfl (q0a ?_)
 refine go 800 rfl ?_
 refine q02 rfl (fun g => ?_) (fun g => ?_)
 ·rw [q26] at g; omega
 refine go 800 rfl ?_
 refine q00 rfl rfl (qch n (by omega) (by omega)) ?_
 refine go 800 rfl ?_
 refine q00 rfl rfl (qch d (by omega) (by omega)) ?_
 refine go 800 rfl ?_
 have e : (!((RI.of n).neg == (RI.of d).neg)) = (RI.of n).neg := by rw [hneg]; cases (RI.of n).neg <;> rfl
 rw [e]
 refine q00 rfl rfl hr ?_
 refine go 800 rfl ?_
 exact q0c rfl rfl rfl trivial rfl
theorem qjJ (a : RR) {k : Nat} [h : SzR a k] (hk : k ≤ 1000000) : PU qfR [a.enc] = some (q5N (-a.v)) := by
 have hq : QB a.v (k + 1) := inferInstance
 have sn : Sz (RI.of a.v.num).mag (k + 1) := ⟨q0n _, q0f.2 hq.num⟩
 have hn := qjH (RI.of a.v.num) (by omega)
 rw [RI.of_v] at hn
 refine q0i (fn := qc5) rfl (q0a ?_)
 refine go 800 rfl ?_
 refine q00 rfl rfl (q2o a (by omega)) ?_
 refine go 800 rfl ?_
 refine q00 rfl rfl hn ?_
 refine go 800 rfl ?_
 refine q0c rfl rfl rfl trivial ?_
 unfold q5N RR.of
 rw [Rat.neg_num, Rat.neg_den]; rfl
theorem qaP (a b : RR) {j k : Nat} [ha : SzR a j] [hb : SzR b k] (hj : j ≤ 1000000) (hk : k ≤ 1000000) : PU q9V [a.enc, b.enc] = some (q5N (a.v + b.v)) := by
 have qa : QB a.v (j + 1) := inferInstance
 have qb : QB b.v (k + 1) := inferInstance
 generalize hx : a.v = x at *
 generalize hy : b.v = y at *
 have sx : Sz (RI.of x.num).mag (j + 1) := ⟨q0n _, q0f.2 qa.num⟩
 have sy : Sz (RI.of y.num).mag (k + 1) := ⟨q0n _, q0f.2 qb.num⟩
 have sdx : Sz (q06 x.den) (j + 1) := ⟨q0n _, q0f.2 qa.den⟩
 have sdy : Sz (q06 y.den) (k + 1) := ⟨q0n _, q0f.2 qb.den⟩
 have sdx' : Sz (RI.mag ⟨false, q06 x.den⟩) (j + 1) := sdx
 have sdy' : Sz (RI.mag ⟨false, q06 y.den⟩) (k + 1) := sdy
 have n1 : (x.num * (y.den : Int)).natAbs < 4294967296 ^ ((j + 1) + (k + 1)) := by rw [Int.natAbs_mul]; exact q1C qa.num qb.den
 have n2 : (y.num * (x.den : Int)).natAbs < 4294967296 ^ ((k + 1) + (j + 1)) := by rw [Int.natAbs_mul]; exact q1C qb.num qa.den
 have n3 := q4G (Int.natAbs_add_le (x.num * (y.den : Int)) (y.num * (x.den : Int))) (q9E n1 n2)
 have s1 : Sz (RI.of (x.num * (y.den : Int))).mag _ := ⟨q0n _, q0f.2 n1⟩
 have s2 : Sz (RI.of (y.num * (x.den : Int))).mag _ := ⟨q0n _, q0f.2 n2⟩
 have s3 : Sz (q06 (x.num * (y.den : Int) + y.num * (x.den : Int)).natAbs) _ := ⟨q0n _, q0f.2 n3⟩
 have s4 : Sz (q06 (x.den * y.den)) _ := ⟨q0n _, q0f.2 (q1C qa.den qb.den)⟩
 have m1 := qep (RI.of x.num) ⟨false, q06 y.den⟩ (by omega) (by omega)
 have m2 := qep (RI.of y.num) ⟨false, q06 x.den⟩ (by omega) (by omega)
 rw [pos_v, RI.of_v, q0e] at m1 m2
 have a1 := qjI (RI.of (x.num * (y.den : Int))) (RI.of (y.num * (x.den : Int))) (by omega) (by omega)
 rw [RI.of_v, RI.of_v] at a1
 have ld1 := sdx.len
 have ld2 := sdy.len
 have m3 := q36 (q06 x.den) (q06 y.den) (by omega) (by omega)
 rw [q0e, q0e] at m3
 have r1 := q3z (RI.of (x.num * (y.den : Int) + y.num * (x.den : Int))).neg (q06 (x.num * (y.den : Int) + y.num * (x.den : Int)).natAbs) (q06 (x.den * y.den)) (by omega) (by omega) (by rw [q0e]; exact Nat.mul_ne_zero x.den_nz y.den_nz)
 have hv : RI.v ⟨(RI.of (x.num * (y.den : Int) + y.num * (x.den : Int))).neg, q06 (x.num * (y.den : Int) + y.num * (x.den : Int)).natAbs⟩ = x.num * (y.den : Int) + y.num * (x.den : Int) := RI.of_v _
 rw [hv, q0e, ← Rat.mkRat_add_mkRat _ _ x.den_nz y.den_nz, Rat.mkRat_self, Rat.mkRat_self] at r1
 have na := q2o a (by omega)
 have nb := q2o b (by omega)
 rw [hx] at na
 rw [hy] at nb
 refine q0i (fn := qc4) rfl (q0a ?_)
 refine go 800 rfl ?_
 refine q00 rfl rfl na ?_
 refine go 800 rfl ?_
 refine q00 rfl rfl nb ?_
 refine go 800 rfl ?_
 refine q00 rfl rfl m1 ?_
 refine go 800 rfl ?_
 refine q00 rfl rfl m2 ?_
 refine go 800 rfl ?_
 refine q00 rfl rfl a1 ?_
 refine go 800 rfl ?_
 refine q00 rfl rfl m3 ?_
 refine go 800 rfl ?_
 refine q00 rfl rfl r1 ?_
 refine go 800 rfl ?_
 exact q0c rfl rfl rfl trivial rfl
theorem q8a (a b : RR) {j k : Nat} [ha : SzR a j] [hb : SzR b k] (hj : j ≤ 100000) (hk : k ≤ 100000) : PU q7q [a.enc, b.enc] = some (q5N (a.v - b.v)) := by
 have h1 := qaP a (RR.of (-b.v)) (by omega) (by omega)
 rw [RR.of_v, ← Rat.sub_eq_add_neg] at h1
 refine q0i (fn := qbY) rfl (q0a ?_)
 refine go 800 rfl ?_
 refine q00 rfl rfl (qjJ b (by omega)) ?_
 refine go 800 rfl ?_
 refine q00 rfl rfl h1 ?_
 refine go 800 rfl ?_
 exact q0c rfl rfl rfl trivial rfl
theorem qne (x y : Int) : RI.v ⟨!((RI.of x).neg == (RI.of y).neg), q06 (x.natAbs * y.natAbs)⟩ = x * y := by
 have h1 := RI.of_v x
 have h2 := RI.of_v y
 conv => rhs; rw [← h1, ← h2]
 have e1 : x.natAbs = val (RI.of x).mag := (q0e _).symm
 have e2 : y.natAbs = val (RI.of y).mag := (q0e _).symm
 rw [e1, e2]
 unfold RI.v
 simp only [q0e]
 cases (RI.of x).neg <;> cases (RI.of y).neg <;> simp [Int.mul_neg, Int.neg_mul]
theorem q8b (a b : RR) {j k : Nat} [ha : SzR a j] [hb : SzR b k] (hj : j ≤ 1000000) (hk : k ≤ 1000000) : PU q7r [a.enc, b.enc] = some (q5N (a.v * b.v)) := by
 have qa : QB a.v (j + 1) := inferInstance
 have qb : QB b.v (k + 1) := inferInstance
 generalize hx : a.v = x at *
 generalize hy : b.v = y at *
 have sx : Sz (q06 x.num.natAbs) (j + 1) := ⟨q0n _, q0f.2 qa.num⟩
 have sy : Sz (q06 y.num.natAbs) (k + 1) := ⟨q0n _, q0f.2 qb.num⟩
 have sdx : Sz (q06 x.den) (j + 1) := ⟨q0n _, q0f.2 qa.den⟩
 have sdy : Sz (q06 y.den) (k + 1) := ⟨q0n _, q0f.2 qb.den⟩
 have l1 := sx.len
 have l2 := sy.len
 have l3 := sdx.len
 have l4 := sdy.len
 have s3 : Sz (q06 (x.num.natAbs * y.num.natAbs)) _ := ⟨q0n _, q0f.2 (q1C qa.num qb.num)⟩
 have s4 : Sz (q06 (x.den * y.den)) _ := ⟨q0n _, q0f.2 (q1C qa.den qb.den)⟩
 have m1 := q36 (q06 x.num.natAbs) (q06 y.num.natAbs) (by omega) (by omega)
 have m2 := q36 (q06 x.den) (q06 y.den) (by omega) (by omega)
 rw [q0e, q0e] at m1 m2
 have r1 := q3z (!((RI.of x.num).neg == (RI.of y.num).neg)) (q06 (x.num.natAbs * y.num.natAbs)) (q06 (x.den * y.den)) (by omega) (by omega) (by rw [q0e]; exact Nat.mul_ne_zero x.den_nz y.den_nz)
 rw [qne, q0e, ← Rat.mkRat_mul_mkRat, Rat.mkRat_self, Rat.mkRat_self] at r1
 have na := q2o a (by omega)
 have nb := q2o b (by omega)
 rw [hx] at na
 rw [hy] at nb
 refine q0i (fn := qc1) rfl (q0a ?_)
 refine go 800 rfl ?_
 refine q00 rfl rfl na ?_
 refine go 800 rfl ?_
 refine q00 rfl rfl nb ?_
 refine go 800 rfl ?_
 refine q00 rfl rfl m1 ?_
 refine go 800 rfl ?_
 refine q00 rfl rfl m2 ?_
 refine go 800 rfl ?_
 refine q00 rfl rfl r1 ?_
 refine go 800 rfl ?_
 exact q0c rfl rfl rfl trivial rfl
theorem qjK (a b : RR) {j k : Nat} [ha : SzR a j] [hb : SzR b k] (hj : j ≤ 1000000) (hk : k ≤ 1000000) : PU qfP [a.enc, b.enc] = some (if b.v = 0 then .tup [RR.enc ⟨false, [], []⟩, .bool false] else .tup [q5N (a.v / b.v), .bool true]) := by
 have qa : QB a.v (j + 1) := inferInstance
 have qb : QB b.v (k + 1) := inferInstance
 have na := q2o a (by omega)
 have nb := q2o b (by omega)
 have nz := qcP b (by omega)
 generalize hx : a.v = x at *
 generalize hy : b.v = y at *
 have sx : Sz (q06 x.num.natAbs) (j + 1) := ⟨q0n _, q0f.2 qa.num⟩
 have sy : Sz (q06 y.num.natAbs) (k + 1) := ⟨q0n _, q0f.2 qb.num⟩
 have sdx : Sz (q06 x.den) (j + 1) := ⟨q0n _, q0f.2 qa.den⟩
 have sdy : Sz (q06 y.den) (k + 1) := ⟨q0n _, q0f.2 qb.den⟩
 have l1 := sx.len
 have l2 := sy.len
 have l3 := sdx.len
 have l4 := sdy.len
 refine q0i (fn := qbW) rfl (q0a ?_)
 refine go 800 rfl ?_
 refine q00 rfl rfl nz ?_
 refine go 800 rfl ?_
 refine q02 rfl (fun g => ?_) (fun g => ?_)
 ·have g : y = 0 := by simpa using g
  refine go 800 rfl ?_
  refine q0c rfl rfl rfl trivial ?_
  rw [if_pos g]; rfl
 ·have g : y ≠ 0 := by simpa using g
  have hn0 : y.num.natAbs ≠ 0 := by
   intro h
   exact g (Rat.num_eq_zero.1 (Int.natAbs_eq_zero.1 h))
  have s3 : Sz (q06 (x.num.natAbs * y.den)) _ := ⟨q0n _, q0f.2 (q1C qa.num qb.den)⟩
  have s4 : Sz (q06 (x.den * y.num.natAbs)) _ := ⟨q0n _, q0f.2 (q1C qa.den qb.num)⟩
  have m1 := q36 (q06 x.num.natAbs) (q06 y.den) (by omega) (by omega)
  have m2 := q36 (q06 x.den) (q06 y.num.natAbs) (by omega) (by omega)
  rw [q0e, q0e] at m1 m2
  have r1 := q3z (!((RI.of x.num).neg == (RI.of y.num).neg)) (q06 (x.num.natAbs * y.den)) (q06 (x.den * y.num.natAbs)) (by omega) (by omega) (by rw [q0e]; exact Nat.mul_ne_zero x.den_nz hn0)
  have hdm := qnc (RR.of x) (RR.of y) (by rw [RR.of_den]; exact x.den_nz) (by rw [RR.of_den]; exact y.den_nz) (by show val (q06 y.num.natAbs) ≠ 0; rw [q0e]; exact hn0)
  rw [RR.of_v, RR.of_v, RR.of_den, RR.of_den] at hdm
  have em : val (RR.of x).mag = x.num.natAbs := q0e _
  have em' : val (RR.of y).mag = y.num.natAbs := q0e _
  rw [em, em'] at hdm
  have hdm' : mkRat (RI.v ⟨!((RI.of x.num).neg == (RI.of y.num).neg), q06 (x.num.natAbs * y.den)⟩) (x.den * y.num.natAbs) = x / y := hdm
  rw [q0e, hdm'] at r1
  refine go 800 rfl ?_
  refine q00 rfl rfl na ?_
  refine go 800 rfl ?_
  refine q00 rfl rfl nb ?_
  refine go 800 rfl ?_
  refine q00 rfl rfl m1 ?_
  refine go 800 rfl ?_
  refine q00 rfl rfl m2 ?_
  refine go 800 rfl ?_
  refine q00 rfl rfl r1 ?_
  refine go 800 rfl ?_
  refine q0c rfl rfl rfl trivial ?_
  rw [if_neg g]; rfl
theorem qgU (a : RR) {k : Nat} [h : SzR a k] (hk : k ≤ 1000000) : PU qcF [a.enc] = some (encI (q11 a.v)) := by
 have qa : QB a.v (k + 1) := inferInstance
 have na := q2o a (by omega)
 generalize hx : a.v = x at *
 have sx : Sz (q06 x.num.natAbs) (k + 1) := ⟨q0n _, q0f.2 qa.num⟩
 have sdx : Sz (q06 x.den) (k + 1) := ⟨q0n _, q0f.2 qa.den⟩
 have l1 := sx.len
 have l3 := sdx.len
 have l2' : (q06 2).length ≤ 1 := q0f.2 (by decide)
 have n2 : 2 * x.num.natAbs < 4294967296 ^ (1 + (k + 1)) := q1C (by decide) qa.num
 have n4 : 2 * x.den < 4294967296 ^ (1 + (k + 1)) := q1C (by decide) qa.den
 have n3 := q9E n2 qa.den
 have l4 := q0f.2 n2
 have l5 := q0f.2 n3
 have l6 := q0f.2 n4
 have m1 := q36 (q06 2) (q06 x.num.natAbs) (by omega) (by omega)
 have m2 := q36 (q06 2) (q06 x.den) (by omega) (by omega)
 rw [q0e, q0e] at m1 m2
 have a1 := qek (q06 (2 * x.num.natAbs)) (q06 x.den) (by omega) (by omega)
 rw [q0e, q0e] at a1
 have hdn := x.den_nz
 have d1 := q5c (q06 (2 * x.num.natAbs + x.den)) (q06 (2 * x.den)) (by omega) (by omega)
 rw [q0e, q0e, if_neg (by omega)] at d1
 have s5 : Sz (RI.mag ⟨(RR.of x).neg, q06 ((2 * x.num.natAbs + x.den) / (2 * x.den))⟩) _ := ⟨q0n _, q0f.2 (q4G (Nat.div_le_self _ _) n3)⟩
 have nrm := q9G ⟨(RR.of x).neg, q06 ((2 * x.num.natAbs + x.den) / (2 * x.den))⟩ (by omega)
 have hrm := qia (RR.of x) (by rw [RR.of_den]; exact hdn)
 have em : val (RR.of x).mag = x.num.natAbs := q0e _
 rw [em, RR.of_den, RR.of_v, ← Nat.two_mul, ← Nat.two_mul] at hrm
 rw [hrm] at nrm
 refine q0i (fn := q9q) rfl (q0a ?_)
 refine go 800 rfl ?_
 refine q00 rfl rfl na ?_
 refine go 800 rfl ?_
 refine q00 rfl rfl (q9Y 2 (by decide)) ?_
 refine go 800 rfl ?_
 refine q00 rfl rfl m1 ?_
 refine go 800 rfl ?_
 refine q00 rfl rfl a1 ?_
 refine go 800 rfl ?_
 refine q00 rfl rfl m2 ?_
 refine go 800 rfl ?_
 refine q00 rfl rfl d1 ?_
 refine go 800 rfl ?_
 refine q00 rfl rfl nrm ?_
 refine go 800 rfl ?_
 exact q0c rfl rfl rfl trivial rfl
end Go.F

namespace Go.F
section
variable {T : Tab} {sh : Shr} {nx0 : Nat} {s : List Fr} {t : q0p} {h : q08} {z : Frz} {nx : Nat} {q : Ex → q0p → q08 → Frz → Nat → Prop}
abbrev Rep := Option (List D × List Nat)
inductive Obl where
 | p (es : List D)
 | s (h : q08) (es l : List D) (rs : List Nat)
def Obl.ok : Obl → Prop
 | .p es => es.all (plain 4) = true
 | .s h es l rs => es.all (plain 4) = false ∧ es.mapM (q0P h 8) = some l ∧ es.flatMap (q0L h depth) = rs ∧ l.all (plain 4) = true
def qjL : List Obl → Prop
 | [] => True
 | o :: r => o.ok ∧ qjL r
def qaf (t : q0p) : Live → List Rep → q08 → Frz → Option (List Obl × q08 × Frz)
 | [], _, h, z => some ([], h, z)
 | x :: rest, reps, h, z =>
   match q7B (t x.1) with
   | none =>
     match plain 4 (t x.1) with
     | true => qaf t rest reps h z
     | false => none
   | some id =>
     match h id with
     | some (.row es esz) =>
       match reps with
       | [] => none
       | none :: reps =>
         match qaf t rest reps h z with
         | some (o, h', z') => some (.p es :: o, h', z')
         | none => none
       | some (l, rs) :: reps =>
         match qaf t rest reps (upd h id (some (.row l esz))) (qbG h z rs) with
         | some (o, h', z') => some (.s h es l rs :: o, h', z')
         | none => none
     | some (.mp _ _) => none
     | none => qaf t rest reps h z
theorem qnf {t : q0p} : ∀ {live : Live} {reps : List Rep} {h : q08} {z : Frz} {o : List Obl} {h' : q08} {z' : Frz} {k : q08 → Frz → Prop}, qaf t live reps h z = some (o, h', z') → qjL o → k h' z' → q2v live t h z k := by
 intro live
 induction live with
 | nil => intro reps h z o h' z' k hr _ hk; simp only [qaf, Option.some.injEq, Prod.mk.injEq] at hr; obtain ⟨_, rfl, rfl⟩ := hr; exact hk
 | cons x live ih =>
   intro reps h z o h' z' k hr ho hk
   simp only [qaf] at hr
   simp only [q2v]
   cases hid : q7B (t x.1) with
   | none =>
     rw [hid] at hr
     simp only at hr ⊢
     cases hb : plain 4 (t x.1) with
     | true => rw [hb] at hr; exact ih hr ho hk
     | false => rw [hb] at hr; cases hr
   | some id =>
     rw [hid] at hr
     simp only at hr ⊢
     cases hb : h id with
     | none => rw [hb] at hr; exact ih hr ho hk
     | some b =>
       rw [hb] at hr
       cases b with
       | mp ks vs => cases hr
       | row es esz =>
         simp only at hr ⊢
         match reps, hr with
         | none :: reps, hr =>
           simp only at hr
           cases hx : qaf t live reps h z with
           | none => rw [hx] at hr; cases hr
           | some y =>
             obtain ⟨o1, h1, z1⟩ := y
             rw [hx] at hr
             simp only [Option.some.injEq, Prod.mk.injEq] at hr
             obtain ⟨rfl, rfl, rfl⟩ := hr
             unfold qan
             exact .inl ⟨ho.1, ih hx ho.2 hk⟩
         | some (l, rs) :: reps, hr =>
           simp only at hr
           cases hx : qaf t live reps (upd h id (some (.row l esz))) (qbG h z rs) with
           | none => rw [hx] at hr; cases hr
           | some y =>
             obtain ⟨o1, h1, z1⟩ := y
             rw [hx] at hr
             simp only [Option.some.injEq, Prod.mk.injEq] at hr
             obtain ⟨rfl, rfl, rfl⟩ := hr
             obtain ⟨g1, g2, g3, g4⟩ := ho.1
             unfold qan
             exact .inr ⟨l, rs, g1, g2, g3, g4, ih hx ho.2 hk⟩
def setX (live : Live) (reps : List Rep) (t : q0p) (h : q08) (z : Frz) (nx : Nat) : Option (List Obl × Kept) :=
 match qa7 live t h z nx with
 | (t, h, z) =>
   match qaf t live reps h z with
   | some (o, h', z') => fL1 (q8M 0 (q0u t live) t live) fun vs => fLi (q8N 0 (q0u t live) h' (q0u t live) 0) fun bs => fNs (qdM 0 (q0u t live) z' (q0u t live) 0) fun zs => some (o, vs, bs, zs)
   | none => none
theorem qoi {live : Live} (reps : List Rep) {o : List Obl} {kp : Kept} {K : Kept → Prop} (hs : setX live reps t h z nx = some (o, kp)) (hp : qjL o) (hk : K kp) : q0R 0 live t h z nx fun _ _ kp => K kp := by
 unfold setX at hs
 split at hs
 rename_i t1 h1 z1 hn
 split at hs
 ·rename_i o1 h2 z2 hr
  simp only [q4h, qjg, qjf, Option.some.injEq, Prod.mk.injEq] at hs
  obtain ⟨rfl, rfl⟩ := hs
  unfold q0R
  refine qdP _ _ _ _ _ _ fun nx' => ?_
  rw [hn]
  refine qnf hr hp ?_
  rw [q5S, q5T]
  exact hk
 ·cases hs
end
theorem qlG {h : q08} : ∀ (n m : Nat) (d : D), dat n d = true → q0L h m d = [] := by
 intro n
 induction n with
 | zero => intro m d hd; simp [dat] at hd
 | succ n ih =>
   intro m d hd
   cases m with
   | zero => rfl
   | succ m =>
     have list : ∀ l : List D, l.all (dat n) = true → l.flatMap (q0L h m) = [] := by
      intro l hl
      rw [List.flatMap_eq_nil_iff]
      intro x hx
      exact ih m x (List.all_eq_true.1 hl x hx)
     cases d with
     | agg l => simp only [dat] at hd; simp only [q0L]; exact list l hd
     | tup l => simp only [dat] at hd; simp only [q0L]; exact list l hd
     | _ => first | (simp [dat] at hd; done) | rfl
theorem qid {h : q08} {es : List D} {m : Nat} (hd : es.all (dat 4) = true) : es.flatMap (q0L h m) = [] := by
 rw [List.flatMap_eq_nil_iff]
 intro x hx
 exact qlG 4 m x (List.all_eq_true.1 hd x hx)
theorem qng {h : q08} {es : List D} {e e' : D} {rs : List Nat} (hd : es.all (dat 4) = true) (hp : es.all (plain 4) = true) (he : plain 4 e = false) (hs : q0P h 8 e = some e') (hr : q0L h depth e = rs) (hp' : plain 4 e' = true) :
 Obl.ok (.s h (es ++ [e]) (es ++ [e']) rs) := by
 refine ⟨?_, ?_, ?_, ?_⟩
 ·rw [List.all_append]; simp [he]
 ·rw [List.mapM_append, qbN hd]; simp [hs]
 ·rw [List.flatMap_append, qid hd]; simp [hr]
 ·rw [List.all_append, hp]; simp [hp']
end Go.F

namespace Go.F
attribute [local irreducible] IntKind.wrap wpM
def pt (p : List Spot) (i : Nat) : Spot := p.getD i ⟨0, 0⟩
theorem q1f {p : List Spot} {i : Nat} (h : i < p.length) : pt p i = p[i] := by simp [pt, h]
theorem q0Q {p : List Spot} {i : Nat} (h : i < p.length) : (p.map Spot.enc)[i]? = some (pt p i).enc := by simp [pt, h]
class OkP (p : List Spot) : Prop where
 ok : ∀ s ∈ p, OkS s
instance qlH {p : List Spot} [h : OkP p] {i : Nat} : OkS (pt p i) := by
 by_cases hi : i < p.length
 ·rw [q1f hi]; exact h.ok _ (List.getElem_mem _)
 ·have : pt p i = ⟨0, 0⟩ := by simp [pt, List.getElem?_eq_none (Nat.le_of_not_lt hi)]
  rw [this]; exact ⟨by decide, by decide⟩
def q3M (p : List Spot) : Prop :=
 (∀ i, i < p.length → pt p i ∉ p.take i) ∧
 ∀ i, i < p.length → q2D (pt p i) (pt p ((i + 1) % p.length)) (pt p ((i + 2) % p.length)) = false ∧
   ∀ k, k < p.length → i + 2 ≤ k → (k + 1) % p.length ≠ i → q48 (pt p i) (pt p ((i + 1) % p.length)) (pt p k) (pt p ((k + 1) % p.length)) = false
instance (p : List Spot) : Decidable (q3M p) := by unfold q3M; exact inferInstance
theorem q1e {a n : Nat} : ((a : Int)).tmod (n : Int) = ((a % n : Nat) : Int) := by
 rw [Int.tmod_eq_emod_of_nonneg (by omega)]; simp
set_option maxHeartbeats 1000000 in
theorem qlI (p : List Spot) [OkP p] (h3 : 3 ≤ p.length) (hp : p.length ≤ 1000) : PU q7o [q0k p] = some (.bool (decide (q3M p))) := by
 refine q0i (fn := q4V) rfl (q0a ?_)
 refine go 800 rfl ?_
 have hcells : (p.map Spot.enc).all (fun d => d.cells.length == 2) = true := q1x (f := Spot.enc) (n := 2) (fun _ => rfl) p
 refine q0x (S := fun k : Nat => ([q0k p, q01 p.length, q0k p, q01 p.length, q01 k], [none, none, none, none, none], [0, 0, 0, 0, 0])) (C := fun k => k ≤ p.length ∧ ∀ j, j < k → pt p j ∉ p.take j) (m := fun k => p.length - k) 0 ⟨by omega, fun j h => by omega⟩ (by omega) ?_ ?_
 ·exact q05 rfl trivial (by simp [q0k, q01])
 intro k ⟨hk, hno⟩ N hN
 refine go 800 rfl ?_
 refine q02 rfl (fun h1 => ?_) (fun h1 => ?_)
 ·rw [q0b] at h1
  have hlt : k < p.length := by omega
  refine go 800 rfl ?_
  refine q0y k rfl rfl rfl (q0Q hlt) rfl ?_
  refine go 800 rfl ?_
  refine qcL k rfl hcells ⟨_, _, rfl, rfl⟩ (by simp; omega) ?_
  refine go 800 rfl ?_
  have hc := qi4 (p.take k) (pt p k) (by simp; omega)
  rw [q0k, List.map_take] at hc
  refine q00 rfl rfl hc ?_
  refine go 800 rfl ?_
  refine q02 rfl (fun h2 => ?_) (fun h2 => ?_)
  ·refine go 800 rfl ?_
   refine q09 ?_
   refine go 800 rfl ?_
   refine q0c rfl rfl rfl trivial ?_
   have : ¬ q3M p := fun hs => hs.1 k hlt (by simpa using h2)
   simp [this]
  ·refine go 800 rfl ?_
   refine q09 ?_
   refine hN (k + 1) ⟨by omega, fun j hj => ?_⟩ (by omega) ?_
   ·by_cases hjk : j < k
    ·exact hno j hjk
    ·obtain rfl : j = k := by omega
     simpa using h2
   ·exact q05 rfl trivial (by simp [q0k, q01, wrap64 (x := (k : Int) + 1) (by omega) (by omega)])
 rw [q0d] at h1
 have hdup : ∀ j, j < p.length → pt p j ∉ p.take j := fun j hj => hno j (by omega)
 clear hN
 refine go 800 rfl ?_
 refine q09 ?_
 refine go 800 rfl ?_
 refine q0x (S := fun k : Nat => ([q0k p, q01 p.length, q0k p, q01 p.length, q01 k], [none, none, none, none, none], [0, 0, 0, 0, 0]))
  (C := fun i => i ≤ p.length ∧ ∀ j, j < i → q2D (pt p j) (pt p ((j + 1) % p.length)) (pt p ((j + 2) % p.length)) = false ∧ ∀ k, k < p.length → j + 2 ≤ k → (k + 1) % p.length ≠ j → q48 (pt p j) (pt p ((j + 1) % p.length)) (pt p k) (pt p ((k + 1) % p.length)) = false)
  (m := fun k => p.length - k) 0 ⟨by omega, fun j h => by omega⟩ (by omega) ?_ ?_
 ·exact q05 rfl trivial (by simp [q0k, q01])
 intro i ⟨hi, hall⟩ N hN
 refine go 800 rfl ?_
 refine q02 rfl (fun g1 => ?_) (fun g1 => ?_)
 ·rw [q0b] at g1
  have hlt : i < p.length := by omega
  have w1 : IntKind.i64.wrap ((i : Int) + 1) = ((i + 1 : Nat) : Int) := wrap64 (by omega) (by omega)
  have w2 : IntKind.i64.wrap ((i : Int) + 2) = ((i + 2 : Nat) : Int) := wrap64 (by omega) (by omega)
  refine go 800 rfl ?_
  refine q0y i rfl rfl rfl (q0Q hlt) rfl ?_
  refine go 800 rfl ?_
  refine q4j rfl rfl (by omega) ?_
  refine go 800 rfl ?_
  refine q0y ((i + 1) % p.length) rfl rfl (by rw [w1, q1e]) (q0Q (Nat.mod_lt _ (by omega))) rfl ?_
  refine go 800 rfl ?_
  refine q4j rfl rfl (by omega) ?_
  refine go 800 rfl ?_
  refine q0y ((i + 2) % p.length) rfl rfl (by rw [w2, q1e]) (q0Q (Nat.mod_lt _ (by omega))) rfl ?_
  refine go 800 rfl ?_
  refine q00 rfl rfl (qlw (pt p i) (pt p ((i + 1) % p.length)) (pt p ((i + 2) % p.length))) ?_
  refine go 800 rfl ?_
  refine q02 rfl (fun g2 => ?_) (fun g2 => ?_)
  ·refine go 800 rfl ?_
   refine q09 ?_
   refine go 800 rfl ?_
   refine q0c rfl rfl rfl trivial ?_
   have : ¬ q3M p := fun hs => by have := (hs.2 i hlt).1; rw [g2] at this; cases this
   simp [this]
  refine go 800 rfl ?_
  have fin : ∀ {t : q0p} {h : q08} {z : Frz} {nx : Nat}, (∀ k, k < p.length → i + 2 ≤ k → (k + 1) % p.length ≠ i → q48 (pt p i) (pt p ((i + 1) % p.length)) (pt p k) (pt p ((k + 1) % p.length)) = false) →
   (q0R 0 [(0, 0), (3, 0), (25, 0), (26, 0), (27, 0)] t h z nx fun _ _ kp => kp = ([q0k p, q01 p.length, q0k p, q01 p.length, q01 ((i + 1 : Nat) : Int)], [none, none, none, none, none], [0, 0, 0, 0, 0])) → N t h z nx := by
   intro t h z nx hm hst
   refine hN (i + 1) ⟨by omega, fun j hj => ?_⟩ (by omega) hst
   by_cases hji : j < i
   ·exact hall j hji
   ·obtain rfl : j = i := by omega
    exact ⟨g2, hm⟩
  clear hN
  refine q0x (S := fun k : Nat => ([q0k p, q01 p.length, q01 i, .ptr 3 0 0, .ptr 4 0 0, q01 k, q0k p, q01 p.length, q01 i], [none, none, none, some (.row [(pt p i).enc] 2), some (.row [(pt p ((i + 1) % p.length)).enc] 2), none, none, none, none], [0, 0, 0, 0, 0, 0, 0, 0, 0]))
   (C := fun k => i + 2 ≤ k ∧ k ≤ p.length + 2 ∧ ∀ k', k' < p.length → k' < k → i + 2 ≤ k' → (k' + 1) % p.length ≠ i → q48 (pt p i) (pt p ((i + 1) % p.length)) (pt p k') (pt p ((k' + 1) % p.length)) = false)
   (m := fun k => p.length + 2 - k) (i + 2) ⟨by omega, by omega, fun k' _ h1 h2 => by omega⟩ (by omega) ?_ ?_
  ·exact q05 rfl ⟨rfl, rfl, trivial⟩ (by simp [q0k, q01, Spot.enc, w2])
  intro k ⟨hk1, hk2, hkall⟩ N2 hN2
  refine go 800 rfl ?_
  refine q0g rfl (fun e1 => ?_) (fun e1 => ?_)
  ·rw [q0b] at e1
   have hkl : k < p.length := by omega
   have wk : IntKind.i64.wrap ((k : Int) + 1) = ((k + 1 : Nat) : Int) := wrap64 (by omega) (by omega)
   refine go 800 rfl ?_
   refine q4j rfl rfl (by omega) ?_
   refine go 800 rfl ?_
   refine q02 rfl (fun e2 => ?_) (fun e2 => ?_)
   ·rw [q17, wk, q1e] at e2
    have hne : (k + 1) % p.length ≠ i := fun e => e2 (by rw [e])
    refine go 800 rfl ?_
    refine q0y k rfl rfl rfl (q0Q hkl) rfl ?_
    refine go 800 rfl ?_
    refine q4j rfl rfl (by omega) ?_
    refine go 800 rfl ?_
    refine q0y ((k + 1) % p.length) rfl rfl (by rw [wk, q1e]) (q0Q (Nat.mod_lt _ (by omega))) rfl ?_
    refine go 800 rfl ?_
    refine q00 rfl rfl (qob (pt p i) (pt p ((i + 1) % p.length)) (pt p k) (pt p ((k + 1) % p.length))) ?_
    refine go 800 rfl ?_
    refine q02 rfl (fun e3 => ?_) (fun e3 => ?_)
    ·refine go 800 rfl ?_
     refine q09 ?_
     refine go 800 rfl ?_
     refine q09 ?_
     refine go 800 rfl ?_
     refine q0c rfl rfl rfl trivial ?_
     have : ¬ q3M p := fun hs => by have := (hs.2 i hlt).2 k hkl hk1 hne; rw [e3] at this; cases this
     simp [this]
    ·refine go 800 rfl ?_
     refine q09 ?_
     refine hN2 (k + 1) ⟨by omega, by omega, fun k' h1 h2 h3 h4 => ?_⟩ (by omega) ?_
     ·by_cases hkk : k' < k
      ·exact hkall k' h1 hkk h3 h4
      ·obtain rfl : k' = k := by omega
       exact e3
     ·exact q05 rfl ⟨rfl, rfl, trivial⟩ (by simp [q0k, q01, Spot.enc, wk])
   ·rw [q1j, wk, q1e] at e2
    have heq : (k + 1) % p.length = i := by omega
    refine go 800 rfl ?_
    refine q09 ?_
    refine go 800 rfl ?_
    refine q09 ?_
    refine fin (fun k' h1 h2 h3 => ?_) ?_
    ·by_cases hkk : k' < k
     ·exact hkall k' h1 hkk h2 h3
     ·by_cases hkk2 : k' = k
      ·subst hkk2; exact absurd heq h3
      ·exfalso
       rw [Nat.mod_eq_of_lt (by omega)] at heq
       omega
    ·exact q05 rfl trivial (by simp [q0k, q01, w1])
  ·rw [q0d] at e1
   refine go 800 rfl ?_
   refine q0o rfl ?_
   refine go 800 rfl ?_
   refine q09 ?_
   refine go 800 rfl ?_
   refine q09 ?_
   refine fin (fun k' h1 h2 h3 => hkall k' h1 (by omega) h2 h3) ?_
   exact q05 rfl trivial (by simp [q0k, q01, w1])
 ·rw [q0d] at g1
  refine go 800 rfl ?_
  refine q09 ?_
  refine go 800 rfl ?_
  refine q0c rfl rfl rfl trivial ?_
  have : q3M p := ⟨hdup, fun j hj => hall j (by omega)⟩
  simp [this]
end Go.F

namespace Go.F
attribute [local irreducible] IntKind.wrap wpM
theorem q6F {s : Spot} {m : Int} : q0v s m = true ↔ (-m ≤ s.x ∧ s.x ≤ m ∧ -m ≤ s.y ∧ s.y ≤ m) := by simp [q0v]
theorem qjM {p : List Spot} (h : p.any (fun s => !q0v s 1048576) = false) : OkP p := by
 refine ⟨fun s hs => ?_⟩
 have : q0v s 1048576 = true := by
  cases hw : q0v s 1048576
  ·exact absurd (List.any_eq_true (p := fun s => !q0v s 1048576).2 ⟨s, hs, by simp [hw]⟩) (by simp only [h]; decide)
  ·rfl
 rw [q6F] at this
 exact ⟨by omega, by omega⟩
def q1O (p : List Spot) : Int :=
 if 40 < p.length then 5 else if p.length < 3 then 11 else if p.any (fun s => !q0v s 1048576) then 3 else if q3M p then 0 else 11
theorem q3j (p : List Spot) : PU q3H [q0k p] = some (.int .i64 (q1O p)) := by
 refine q0i (fn := q5v) rfl (q0a ?_)
 refine go 800 rfl ?_
 refine q02 rfl (fun h1 => ?_) (fun h1 => ?_)
 ·refine go 800 rfl ?_
  refine q0c rfl rfl rfl trivial ?_
  rw [q0b] at h1
  simp at h1
  rw [q1O, if_pos (by omega)]
 refine go 800 rfl ?_
 rw [q0d] at h1
 simp at h1
 refine q02 rfl (fun h2 => ?_) (fun h2 => ?_)
 ·refine go 800 rfl ?_
  refine q0c rfl rfl rfl trivial ?_
  rw [q0b] at h2
  simp at h2
  rw [q1O, if_neg (by omega), if_pos (by omega)]
 refine go 800 rfl ?_
 rw [q0d] at h2
 simp at h2
 refine q00 rfl rfl (q8s q4m _ rfl qjB p (by omega)) ?_
 refine go 800 rfl ?_
 refine q02 rfl (fun h3 => ?_) (fun h3 => ?_)
 ·refine go 800 rfl ?_
  refine q0c rfl rfl rfl trivial ?_
  simp [q1O, show ¬ 40 < p.length by omega, show ¬ p.length < 3 by omega] at h3 ⊢
  intro h4
  exact absurd h3 (by simpa using h4)
 refine go 800 rfl ?_
 have := qjM h3
 refine q00 rfl rfl (qlI p (by omega) (by omega)) ?_
 refine go 800 rfl ?_
 refine q02 rfl (fun h4 => ?_) (fun h4 => ?_)
 ·refine go 800 rfl ?_
  refine q0c rfl rfl rfl trivial ?_
  simp at h4
  rw [q1O, if_neg (by omega), if_neg (by omega), if_neg (by simp [h3]), if_neg h4]
 ·refine go 800 rfl ?_
  refine q0c rfl rfl rfl trivial ?_
  simp at h4
  rw [q1O, if_neg (by omega), if_neg (by omega), if_neg (by simp [h3]), if_pos h4]
def q1V (p : List Spot) : Nat → Int
 | 0 => 0
 | k + 1 => q1V p k + ((pt p k).x * (pt p ((k + 1) % p.length)).y - (pt p k).y * (pt p ((k + 1) % p.length)).x)
def qie (p : List Spot) : Int := q1V p p.length
theorem qa0 (p : List Spot) [OkP p] (k : Nat) : Bd (q1V p k) (k * 35184372088832) := by
 induction k with
 | zero => exact ⟨by simp [q1V]⟩
 | succ k ih =>
   have h : Bd ((pt p k).x * (pt p ((k + 1) % p.length)).y - (pt p k).y * (pt p ((k + 1) % p.length)).x) _ := inferInstance
   have := h.le
   have := ih.le
   refine ⟨?_⟩
   rw [q1V]
   omega
set_option maxHeartbeats 1000000 in
theorem qoj (p : List Spot) [OkP p] (hp : p.length ≤ 1000) : PU q8X [q0k p] = some (.int .i64 (qie p)) := by
 refine q0i (fn := q6e) rfl (q0a ?_)
 refine go 800 rfl ?_
 refine q0x (S := fun k : Nat => ([q0k p, q01 (q1V p k), q0k p, q01 p.length, q01 k], [none, none, none, none, none], [0, 0, 0, 0, 0])) (C := fun k => k ≤ p.length) (m := fun k => p.length - k) 0 (by omega) (by omega) ?_ ?_
 ·exact q05 rfl trivial (by simp [q0k, q01, q1V])
 intro k hk N hN
 refine go 800 rfl ?_
 refine q02 rfl (fun h1 => ?_) (fun h1 => ?_)
 ·rw [q0b] at h1
  have hlt : k < p.length := by omega
  have w1 : IntKind.i64.wrap ((k : Int) + 1) = ((k + 1 : Nat) : Int) := wrap64 (by omega) (by omega)
  have b0 := (qa0 p k).le
  have b1 := (qa0 p (k + 1)).le
  refine go 800 rfl ?_
  refine q0y k rfl rfl rfl (q0Q hlt) rfl ?_
  refine go 800 rfl ?_
  refine q4j rfl rfl (by rw [List.length_map]; omega) ?_
  refine go 800 rfl ?_
  refine q0y ((k + 1) % p.length) rfl rfl (by rw [w1, List.length_map, q1e]) (q0Q (Nat.mod_lt _ (by omega))) rfl ?_
  refine go 800 rfl ?_
  refine q09 ?_
  refine hN (k + 1) (by omega) (by omega) ?_
  refine q05 rfl trivial ?_
  have e1 : IntKind.i64.wrap ((pt p k).x * (pt p ((k + 1) % p.length)).y) = (pt p k).x * (pt p ((k + 1) % p.length)).y := q0M (by decide)
  have e2 : IntKind.i64.wrap ((pt p k).y * (pt p ((k + 1) % p.length)).x) = (pt p k).y * (pt p ((k + 1) % p.length)).x := q0M (by decide)
  have e3 : IntKind.i64.wrap ((pt p k).x * (pt p ((k + 1) % p.length)).y - (pt p k).y * (pt p ((k + 1) % p.length)).x) = (pt p k).x * (pt p ((k + 1) % p.length)).y - (pt p k).y * (pt p ((k + 1) % p.length)).x := q0M (by decide)
  have e4 : IntKind.i64.wrap (q1V p (k + 1)) = q1V p (k + 1) := wrap64 (by omega) (by omega)
  rw [q1V] at e4
  simp [q0k, q01, q1V, w1, e1, e2, e3, e4]
 rw [q0d] at h1
 refine go 800 rfl ?_
 refine q09 ?_
 refine go 800 rfl ?_
 refine q0c rfl rfl rfl trivial ?_
 obtain rfl : k = p.length := by omega
 rfl
def q1b (p : List Spot) : Int := if q1O p = 0 then qie p else 0
theorem q2L {p : List Spot} (h : q1O p = 0) : 3 ≤ p.length ∧ p.length ≤ 40 ∧ OkP p ∧ (∀ s ∈ p, q0v s 1048576 = true) ∧ q3M p := by
 unfold q1O at h
 split at h
 ·cases h
 split at h
 ·cases h
 split at h
 ·cases h
 split at h
 ·rename_i h1 h2 h3 h4
  have h3' : p.any (fun s => !q0v s 1048576) = false := by simpa using h3
  refine ⟨by omega, by omega, qjM h3', ?_, h4⟩
  simpa using h3
 ·cases h
theorem qnh (p : List Spot) : PU q5s [q0k p] = some (.int .i64 (q1b p)) := by
 refine q0i (fn := q5w) rfl (q0a ?_)
 refine go 800 rfl ?_
 refine q00 rfl rfl (q3j p) ?_
 refine go 800 rfl ?_
 refine q02 rfl (fun h => ?_) (fun h => ?_)
 ·refine go 800 rfl ?_
  refine q0c rfl rfl rfl trivial ?_
  rw [q17] at h
  rw [q1b, if_neg h]
 ·rw [q1j] at h
  obtain ⟨_, h2, h3, _, _⟩ := q2L h
  refine go 800 rfl ?_
  refine q00 rfl rfl (qoj p (by omega)) ?_
  refine go 800 rfl ?_
  refine q0c rfl rfl rfl trivial ?_
  rw [q1b, if_pos h]
end Go.F

namespace Go.F
attribute [local irreducible] IntKind.wrap wpM
def q1W (p : List Spot) : Int :=
 if 40 < p.length then 5 else if p.length < 2 then 11 else if p.any (fun s => !q0v s 1048576) then 3 else if ∀ i, i < p.length - 1 → pt p i ≠ pt p (i + 1) then 0 else 11
theorem qbq (p : List Spot) : PU q7n [q0k p] = some (.int .i64 (q1W p)) := by
 refine q0i (fn := q4U) rfl (q0a ?_)
 refine go 800 rfl ?_
 refine q02 rfl (fun h1 => ?_) (fun h1 => ?_)
 ·refine go 800 rfl ?_
  refine q0c rfl rfl rfl trivial ?_
  rw [q0b, List.length_map] at h1
  rw [q1W, if_pos (by omega)]
 refine go 800 rfl ?_
 rw [q0d, List.length_map] at h1
 refine q02 rfl (fun h2 => ?_) (fun h2 => ?_)
 ·refine go 800 rfl ?_
  refine q0c rfl rfl rfl trivial ?_
  rw [q0b, List.length_map] at h2
  rw [q1W, if_neg (by omega), if_pos (by omega)]
 refine go 800 rfl ?_
 rw [q0d, List.length_map] at h2
 refine q00 rfl rfl (q8s q3S _ rfl qa5 p (by omega)) ?_
 refine go 800 rfl ?_
 refine q02 rfl (fun h3 => ?_) (fun h3 => ?_)
 ·refine go 800 rfl ?_
  refine q0c rfl rfl rfl trivial ?_
  rw [q1W, if_neg (by omega), if_neg (by omega), if_pos h3]
 refine go 800 rfl ?_
 refine q0x (S := fun k : Nat => ([q0k p, q01 (p.length - 1 : Nat), q01 k], [none, none, none], [0, 0, 0])) (C := fun k => k ≤ p.length - 1 ∧ ∀ i, i < k → pt p i ≠ pt p (i + 1)) (m := fun k => p.length - k) 0 ⟨by omega, fun i hi => by omega⟩ (by omega) ?_ ?_
 ·refine q05 rfl trivial ?_
  have : IntKind.i64.wrap ((p.length : Int) - 1) = ((p.length - 1 : Nat) : Int) := by rw [wrap64 (by omega) (by omega)]; omega
  simp [q0k, q01, this]
 intro k ⟨hk, hno⟩ N hN
 refine go 800 rfl ?_
 refine q02 rfl (fun g1 => ?_) (fun g1 => ?_)
 ·rw [q0b] at g1
  have hlt : k + 1 < p.length := by omega
  have w1 : IntKind.i64.wrap ((k : Int) + 1) = ((k + 1 : Nat) : Int) := wrap64 (by omega) (by omega)
  refine go 800 rfl ?_
  refine q0y k rfl rfl rfl (q0Q (by omega)) rfl ?_
  refine go 800 rfl ?_
  refine q0y (k + 1) rfl rfl w1 (q0Q hlt) rfl ?_
  refine go 800 rfl ?_
  refine q02 rfl (fun g2 => ?_) (fun g2 => ?_)
  ·refine go 800 rfl ?_
   refine q09 ?_
   refine go 800 rfl ?_
   refine q0c rfl rfl rfl trivial ?_
   rw [q1W, if_neg (by omega), if_neg (by omega), if_neg (by rw [h3]; decide), if_neg]
   intro hall
   refine hall k (by omega) ?_
   rw [q13] at g2
   simpa using g2
  ·refine go 800 rfl ?_
   refine q09 ?_
   refine hN (k + 1) ⟨by omega, fun i hi => ?_⟩ (by omega) (q05 rfl trivial (by simp [q0k, q01, w1]))
   by_cases hik : i < k
   ·exact hno i hik
   ·obtain rfl : i = k := by omega
    rw [q13] at g2
    simpa using g2
 rw [q0d] at g1
 refine go 800 rfl ?_
 refine q09 ?_
 refine go 800 rfl ?_
 refine q0c rfl rfl rfl trivial ?_
 rw [q1W, if_neg (by omega), if_neg (by omega), if_neg (by rw [h3]; decide), if_pos (fun i hi => hno i (by omega))]
end Go.F

namespace Go.F
attribute [local irreducible] IntKind.wrap wpM
def q0m (l : List Edge) : List Spot := l.flatMap (fun e => e.line.dropLast)
theorem qaQ {l : List Edge} {k : Nat} (h : k < l.length) : q0m (l.take (k + 1)) = q0m (l.take k) ++ l[k].line.dropLast := by
 rw [List.take_succ_eq_append_getElem h, q0m, List.flatMap_append]; simp [q0m]
theorem q9H {l : List Edge} (k : Nat) : (q0m (l.take k)).length ≤ (q0m l).length := by
 have : q0m l = q0m (l.take k) ++ q0m (l.drop k) := by
  rw [q0m, q0m, q0m, ← List.flatMap_append, List.take_append_drop]
 rw [this, List.length_append]; omega
theorem qci {l : List D} {n : Nat} (hn : n = l.length) (h : l.all (dat 4) = true) : 0 + n ≤ l.length ∧ ((l.drop 0).take n).all (dat 4) = true := by
 subst hn
 simpa using h
theorem qaR {l : List D} {n : Nat} (hn : n = l.length) : D.lst (l.take n) = .lst l := by
 subst hn
 simp
set_option maxHeartbeats 1000000 in
theorem qcQ (l : List Edge) (h1 : ∀ e ∈ l, 1 ≤ e.line.length ∧ e.line.length ≤ 100000) (hl : l.length ≤ 100000) (hv : (q0m l).length ≤ 100000) : PU q3Q [q0A l] = some (q0k (q0m l)) := by
 refine q0i (fn := q3Y) rfl (q0a ?_)
 refine go 800 rfl ?_
 refine q0x (S := fun k : Nat => ([.ref 0 0 (q0m (l.take k)).length, q0A l, q01 l.length, q01 k], [some (.row ((q0m (l.take k)).map Spot.enc) 2), none, none, none], [0, 0, 0, 0])) (C := fun k => k ≤ l.length) (m := fun k => l.length - k) 0 (by omega) (by omega) ?_ ?_
 ·exact q05 rfl ⟨rfl, trivial⟩ (by simp [q0A, q01, q0m])
 intro k hk N hN
 refine go 800 rfl ?_
 refine q02 rfl (fun g1 => ?_) (fun g1 => ?_)
 ·rw [q0b] at g1
  have hlt : k < l.length := by omega
  have w1 : IntKind.i64.wrap ((k : Int) + 1) = ((k + 1 : Nat) : Int) := wrap64 (by omega) (by omega)
  have hln := h1 _ (List.getElem_mem hlt)
  have hcells : (l[k].line.map Spot.enc).all (fun d => d.cells.length == 2) = true := q1x (f := Spot.enc) (n := 2) (fun _ => rfl) _
  have hle := q9H (l := l) (k + 1)
  rw [qaQ hlt, List.length_append] at hle
  have w2 : IntKind.i64.wrap ((l[k].line.length : Int) - 1) = ((l[k].line.length - 1 : Nat) : Int) := by rw [wrap64 (by omega) (by omega)]; omega
  refine go 800 rfl ?_
  refine q0y k rfl rfl rfl (q5L hlt) rfl ?_
  refine go 800 rfl ?_
  refine qcL (l[k].line.length - 1) rfl hcells ⟨_, _, rfl, by rw [List.length_map]; exact w2⟩ (by simp) ?_
  refine go 800 rfl ?_
  have e : (l[k].line.map Spot.enc).take (l[k].line.length - 1) = l[k].line.dropLast.map Spot.enc := by
   rw [List.dropLast_eq_take, List.map_take]
  rw [e]
  refine qjh rfl rfl rfl (q1x (f := Spot.enc) (n := 2) (fun _ => rfl) _) (by simp) (Nat.zero_le _) (by simp [q0O] at *; omega) ?_
  refine go 800 rfl ?_
  refine q09 ?_
  refine hN (k + 1) (by omega) (by omega) (q05 rfl ⟨by rw [← List.map_append]; exact q07 q0I _, trivial⟩ ?_)
  simp [q0A, q01, w1, qaQ hlt]
 rw [q0d] at g1
 refine go 800 rfl ?_
 refine q09 ?_
 refine go 800 rfl ?_
 obtain rfl : k = l.length := by omega
 rw [List.take_length]
 refine q0c rfl rfl rfl ⟨qci (by simp) (q2U q5m _), trivial⟩ ?_
 rw [qaR (by simp), q0k]
end Go.F

namespace Go.F
attribute [local irreducible] IntKind.wrap wpM
def q43 (s : ByteArray) (i : Nat) : UInt8 := s.toList.getD i 0
theorem qeq (s : ByteArray) : s.toList.length = s.size := by rw [Go.ByteArray.toList_eq]; rfl
theorem q8c {s : ByteArray} {i : Nat} (h : i < s.size) : s.toList[i]? = some (q43 s i) := by
 have : i < s.toList.length := by rw [qeq]; exact h
 simp [q43, this]
def q3s (n : Nat) : Bool := decide (48 ≤ n) && decide (n ≤ 57)
theorem qjN (n : Nat) : PU q4q [.int .u8 n] = some (.bool (q3s n)) := by
 refine q0i (fn := q4x) rfl (q0a ?_)
 repeat' (first
  | (refine goP 800 rfl rfl ?_)
  | (show wpM _ _ _ (Fr.ops _ _ (KOper.mk _ _ (some _) _ _ :: _) :: _) Ex.normal _ _ _ _ _; first | refine q0q rfl ?_ | refine q0s rfl ?_ | refine q0g rfl (fun _ => ?_) (fun _ => ?_))
  | (show wpM _ _ _ (Fr.code (K.cond _ _ _) :: _) Ex.normal _ _ _ _ _; first | refine q0r rfl ?_ | refine q0o rfl ?_ | refine q02 rfl (fun _ => ?_) (fun _ => ?_))
  | (show wpM _ _ _ (Fr.ops _ _ (KOper.mk _ _ none _ (KOp.pick _ _ _) :: _) :: _) Ex.normal _ _ _ _ _; refine q0F rfl (fun _ => ?_) (fun _ => ?_))
  | (show wpM _ _ _ [] _ _ _ _ _ _; refine q0c rfl rfl rfl trivial ?_))
 all_goals ((try simp only [q1N, q1T, q2O, q3p, decide_eq_true_eq, decide_eq_false_iff_not, Bool.not_eq_true, Bool.not_eq_false, Int.not_lt, Int.not_le] at *); first | (simp_all [q3s]; done) | (simp_all [q3s]; omega) | (rw [D.bool.injEq, Bool.eq_iff_iff]; simp [q3s]; omega) | (rw [D.bool.injEq, Bool.eq_iff_iff]; simp_all [q3s]; omega) | (simp [q3s]; split <;> (try split) <;> omega))
theorem qgV (n : Nat) : PU q91 [.int .u8 n] = some (.bool (q3s n)) := by
 refine q0i (fn := q9k) rfl (q0a ?_)
 repeat' (first
  | (refine goP 800 rfl rfl ?_)
  | (show wpM _ _ _ (Fr.ops _ _ (KOper.mk _ _ (some _) _ _ :: _) :: _) Ex.normal _ _ _ _ _; first | refine q0q rfl ?_ | refine q0s rfl ?_ | refine q0g rfl (fun _ => ?_) (fun _ => ?_))
  | (show wpM _ _ _ (Fr.code (K.cond _ _ _) :: _) Ex.normal _ _ _ _ _; first | refine q0r rfl ?_ | refine q0o rfl ?_ | refine q02 rfl (fun _ => ?_) (fun _ => ?_))
  | (show wpM _ _ _ (Fr.ops _ _ (KOper.mk _ _ none _ (KOp.pick _ _ _) :: _) :: _) Ex.normal _ _ _ _ _; refine q0F rfl (fun _ => ?_) (fun _ => ?_))
  | (show wpM _ _ _ [] _ _ _ _ _ _; refine q0c rfl rfl rfl trivial ?_))
 all_goals ((try simp only [q1N, q1T, q2O, q3p, decide_eq_true_eq, decide_eq_false_iff_not, Bool.not_eq_true, Bool.not_eq_false, Int.not_lt, Int.not_le] at *); first | (simp_all [q3s]; done) | (simp_all [q3s]; omega) | (rw [D.bool.injEq, Bool.eq_iff_iff]; simp [q3s]; omega) | (rw [D.bool.injEq, Bool.eq_iff_iff]; simp_all [q3s]; omega) | (simp [q3s]; split <;> (try split) <;> omega))
def q5I (i n : Nat) : Bool := (decide (97 ≤ n) && decide (n ≤ 122)) || (!decide (i = 0) && (decide (n = 95) || q3s n))
def q2p (s : ByteArray) : Bool :=
 !decide (s.size = 0) && (!decide (24 < s.size) && (!(s.toList == [109, 105, 110]) && (!(s.toList == [109, 97, 120]) && decide (∀ i, i < s.size → q5I i (q43 s i).toNat = true))))
theorem qbr : (⟨#[109, 105, 110]⟩ : ByteArray).toList = [109, 105, 110] := by rw [Go.ByteArray.toList_eq]
theorem qbs : (⟨#[109, 97, 120]⟩ : ByteArray).toList = [109, 97, 120] := by rw [Go.ByteArray.toList_eq]
set_option maxHeartbeats 2000000 in
theorem qlJ (s : ByteArray) : PU q4R [.str s] = some (.bool (q2p s)) := by
 refine q0i (fn := q51) rfl (q0a ?_)
 refine go 800 rfl ?_
 refine q0g rfl (fun h0 => ?_) (fun h0 => ?_)
 ·repeat' (first
   | (refine goP 800 rfl rfl ?_)
   | (show wpM _ _ _ (Fr.ops _ _ (KOper.mk _ _ (some _) _ _ :: _) :: _) Ex.normal _ _ _ _ _; first | refine q0q rfl ?_ | refine q0s rfl ?_ | refine q0g rfl (fun _ => ?_) (fun _ => ?_))
   | (show wpM _ _ _ (Fr.code (K.cond _ _ _) :: _) Ex.normal _ _ _ _ _; first | refine q0r rfl ?_ | refine q0o rfl ?_ | refine q02 rfl (fun _ => ?_) (fun _ => ?_))
   | (show wpM _ _ _ (Fr.ops _ _ (KOper.mk _ _ none _ (KOp.pick _ _ _) :: _) :: _) Ex.normal _ _ _ _ _; refine q0F rfl (fun _ => ?_) (fun _ => ?_))
   | (show wpM _ _ _ [] _ _ _ _ _ _; refine q0c rfl rfl rfl trivial ?_))
  rw [q26] at h0
  have : s.size = 0 := by omega
  simp [q2p, this]
 refine go 800 rfl ?_
 rw [q2g] at h0
 refine q0g rfl (fun h1 => ?_) (fun h1 => ?_)
 ·repeat' (first
   | (refine goP 800 rfl rfl ?_)
   | (show wpM _ _ _ (Fr.ops _ _ (KOper.mk _ _ (some _) _ _ :: _) :: _) Ex.normal _ _ _ _ _; first | refine q0q rfl ?_ | refine q0s rfl ?_ | refine q0g rfl (fun _ => ?_) (fun _ => ?_))
   | (show wpM _ _ _ (Fr.code (K.cond _ _ _) :: _) Ex.normal _ _ _ _ _; first | refine q0r rfl ?_ | refine q0o rfl ?_ | refine q02 rfl (fun _ => ?_) (fun _ => ?_))
   | (show wpM _ _ _ (Fr.ops _ _ (KOper.mk _ _ none _ (KOp.pick _ _ _) :: _) :: _) Ex.normal _ _ _ _ _; refine q0F rfl (fun _ => ?_) (fun _ => ?_))
   | (show wpM _ _ _ [] _ _ _ _ _ _; refine q0c rfl rfl rfl trivial ?_))
  rw [q0b] at h1
  have : 24 < s.size := by omega
  simp [q2p, this]
 refine go 800 rfl ?_
 rw [q0d] at h1
 refine q0g rfl (fun h2 => ?_) (fun h2 => ?_)
 ·repeat' (first
   | (refine goP 800 rfl rfl ?_)
   | (show wpM _ _ _ (Fr.ops _ _ (KOper.mk _ _ (some _) _ _ :: _) :: _) Ex.normal _ _ _ _ _; first | refine q0q rfl ?_ | refine q0s rfl ?_ | refine q0g rfl (fun _ => ?_) (fun _ => ?_))
   | (show wpM _ _ _ (Fr.code (K.cond _ _ _) :: _) Ex.normal _ _ _ _ _; first | refine q0r rfl ?_ | refine q0o rfl ?_ | refine q02 rfl (fun _ => ?_) (fun _ => ?_))
   | (show wpM _ _ _ (Fr.ops _ _ (KOper.mk _ _ none _ (KOp.pick _ _ _) :: _) :: _) Ex.normal _ _ _ _ _; refine q0F rfl (fun _ => ?_) (fun _ => ?_))
   | (show wpM _ _ _ [] _ _ _ _ _ _; refine q0c rfl rfl rfl trivial ?_))
  rw [qbr] at h2
  simp [q2p, h2]
 refine go 800 rfl ?_
 rw [qbr] at h2
 refine q02 rfl (fun h3 => ?_) (fun h3 => ?_)
 ·refine go 800 rfl ?_
  refine q0c rfl rfl rfl trivial ?_
  rw [qbs] at h3
  simp [q2p, h3]
 refine go 800 rfl ?_
 rw [qbs] at h3
 have key : ∀ b, (decide (∀ i, i < s.size → q5I i (q43 s i).toNat = true)) = b → q2p s = b := by
  intro b hb
  rw [q2p, hb, h2, h3]
  rw [show decide (s.size = 0) = false by rw [decide_eq_false_iff_not]; omega, show decide (24 < s.size) = false by rw [decide_eq_false_iff_not]; omega]
  simp
 refine q0x (S := fun k : Nat => ([.str s, q01 s.size, q01 k], [none, none, none], [0, 0, 0])) (C := fun k => k ≤ s.size ∧ ∀ i, i < k → q5I i (q43 s i).toNat = true) (m := fun k => s.size - k) 0 ⟨by omega, fun i hi => by omega⟩ (by omega) ?_ ?_
 ·exact q05 rfl trivial (by simp [q01])
 intro k ⟨hk, hall⟩ N hN
 refine go 800 rfl ?_
 refine q02 rfl (fun g1 => ?_) (fun g1 => ?_)
 ·rw [q0b] at g1
  have hlt : k < s.size := by omega
  have w1 : IntKind.i64.wrap ((k : Int) + 1) = ((k + 1 : Nat) : Int) := wrap64 (by omega) (by omega)
  have yes : q5I k (q43 s k).toNat = true → ∀ {t : q0p} {h : q08} {z : Frz} {nx : Nat}, (q0R 0 [(0, 0), (23, 0), (24, 0)] t h z nx fun _ _ kp => kp = ([.str s, q01 s.size, q01 ((k + 1 : Nat) : Int)], [none, none, none], [0, 0, 0])) → N t h z nx := by
   intro hc t h z nx hst
   refine hN (k + 1) ⟨by omega, fun i hi => ?_⟩ (by omega) hst
   by_cases hik : i < k
   ·exact hall i hik
   ·obtain rfl : i = k := by omega
    exact hc
  have no : q5I k (q43 s k).toNat = false → q2p s = false := by
   intro hc
   refine key false ?_
   simp
   exact ⟨k, hlt, hc⟩
  clear hN
  refine go 800 rfl ?_
  refine q8O k rfl rfl rfl (q8c hlt) ?_
  repeat' (first
   | (refine goP 800 rfl rfl ?_)
   | (show wpM _ _ _ (Fr.ops _ _ (KOper.mk _ _ (some _) _ _ :: _) :: _) Ex.normal _ _ _ _ _; first | refine q0q rfl ?_ | refine q0s rfl ?_ | refine q0g rfl (fun _ => ?_) (fun _ => ?_))
   | (show wpM _ _ _ (Fr.code (K.cond _ _ _) :: _) Ex.normal _ _ _ _ _; first | refine q0r rfl ?_ | refine q0o rfl ?_ | refine q02 rfl (fun _ => ?_) (fun _ => ?_))
   | (show wpM _ _ _ (Fr.ops _ _ (KOper.mk _ _ none _ (KOp.pick _ _ _) :: _) :: _) Ex.normal _ _ _ _ _; refine q0F rfl (fun _ => ?_) (fun _ => ?_))
   | (show wpM _ _ _ (Fr.ops _ _ (KOper.mk _ _ none _ (KOp.callF q4q _) :: _) :: _) Ex.normal _ _ _ _ _; refine q00 rfl rfl (qjN _) ?_))
  all_goals refine q09 ?_
  all_goals first
   | (refine yes ?_ (q05 rfl trivial (by simp [q01, w1]))
      simp only [q1N, q1T, q2O, q3p, decide_eq_true_eq, decide_eq_false_iff_not, Bool.not_eq_true, Bool.not_eq_false, Int.not_lt, Int.not_le] at *
      simp_all [q5I]
      try omega)
   | (refine go 800 rfl ?_
      refine q0c rfl rfl rfl trivial ?_
      rw [no]
      simp only [q1N, q1T, q2O, q3p, decide_eq_true_eq, decide_eq_false_iff_not, Bool.not_eq_true, Bool.not_eq_false, Int.not_lt, Int.not_le] at *
      simp_all [q5I]
      try omega)
 rw [q0d] at g1
 refine go 800 rfl ?_
 refine q09 ?_
 refine go 800 rfl ?_
 refine q0c rfl rfl rfl trivial ?_
 rw [key true (by simp; exact fun i hi => hall i (by omega))]
end Go.F

namespace Go.F
attribute [local irreducible] IntKind.wrap wpM
theorem qer : (⟨#[]⟩ : ByteArray).toList = [] := by rw [Go.ByteArray.toList_eq]
theorem qif {s : ByteArray} : (s.toList == []) = decide (s.size = 0) := by
 rw [← qeq]
 cases s.toList <;> simp
set_option maxHeartbeats 2000000 in
theorem qig (s : ByteArray) : PU qdW [.str s] = some (.bool (q2p s)) := by
 refine q0i (fn := qaw) rfl (q0a ?_)
 refine go 800 rfl ?_
 refine q0g rfl (fun h0 => ?_) (fun h0 => ?_)
 ·repeat' (first
   | (refine goP 800 rfl rfl ?_)
   | (show wpM _ _ _ (Fr.ops _ _ (KOper.mk _ _ (some _) _ _ :: _) :: _) Ex.normal _ _ _ _ _; first | refine q0q rfl ?_ | refine q0s rfl ?_ | refine q0g rfl (fun _ => ?_) (fun _ => ?_))
   | (show wpM _ _ _ (Fr.code (K.cond _ _ _) :: _) Ex.normal _ _ _ _ _; first | refine q0r rfl ?_ | refine q0o rfl ?_ | refine q02 rfl (fun _ => ?_) (fun _ => ?_))
   | (show wpM _ _ _ (Fr.ops _ _ (KOper.mk _ _ none _ (KOp.pick _ _ _) :: _) :: _) Ex.normal _ _ _ _ _; refine q0F rfl (fun _ => ?_) (fun _ => ?_))
   | (show wpM _ _ _ [] _ _ _ _ _ _; refine q0c rfl rfl rfl trivial ?_))
  rw [qer, qif, decide_eq_true_eq] at h0
  simp [q2p, h0]
 refine go 800 rfl ?_
 rw [qer, qif, decide_eq_false_iff_not] at h0
 refine q0g rfl (fun h1 => ?_) (fun h1 => ?_)
 ·repeat' (first
   | (refine goP 800 rfl rfl ?_)
   | (show wpM _ _ _ (Fr.ops _ _ (KOper.mk _ _ (some _) _ _ :: _) :: _) Ex.normal _ _ _ _ _; first | refine q0q rfl ?_ | refine q0s rfl ?_ | refine q0g rfl (fun _ => ?_) (fun _ => ?_))
   | (show wpM _ _ _ (Fr.code (K.cond _ _ _) :: _) Ex.normal _ _ _ _ _; first | refine q0r rfl ?_ | refine q0o rfl ?_ | refine q02 rfl (fun _ => ?_) (fun _ => ?_))
   | (show wpM _ _ _ (Fr.ops _ _ (KOper.mk _ _ none _ (KOp.pick _ _ _) :: _) :: _) Ex.normal _ _ _ _ _; refine q0F rfl (fun _ => ?_) (fun _ => ?_))
   | (show wpM _ _ _ [] _ _ _ _ _ _; refine q0c rfl rfl rfl trivial ?_))
  rw [q0b] at h1
  have : 24 < s.size := by omega
  simp [q2p, this]
 refine go 800 rfl ?_
 rw [q0d] at h1
 refine q0g rfl (fun h2 => ?_) (fun h2 => ?_)
 ·repeat' (first
   | (refine goP 800 rfl rfl ?_)
   | (show wpM _ _ _ (Fr.ops _ _ (KOper.mk _ _ (some _) _ _ :: _) :: _) Ex.normal _ _ _ _ _; first | refine q0q rfl ?_ | refine q0s rfl ?_ | refine q0g rfl (fun _ => ?_) (fun _ => ?_))
   | (show wpM _ _ _ (Fr.code (K.cond _ _ _) :: _) Ex.normal _ _ _ _ _; first | refine q0r rfl ?_ | refine q0o rfl ?_ | refine q02 rfl (fun _ => ?_) (fun _ => ?_))
   | (show wpM _ _ _ (Fr.ops _ _ (KOper.mk _ _ none _ (KOp.pick _ _ _) :: _) :: _) Ex.normal _ _ _ _ _; refine q0F rfl (fun _ => ?_) (fun _ => ?_))
   | (show wpM _ _ _ [] _ _ _ _ _ _; refine q0c rfl rfl rfl trivial ?_))
  rw [qbr] at h2
  simp [q2p, h2]
 refine go 800 rfl ?_
 rw [qbr] at h2
 refine q0g rfl (fun h3 => ?_) (fun h3 => ?_)
 ·repeat' (first
   | (refine goP 800 rfl rfl ?_)
   | (show wpM _ _ _ (Fr.ops _ _ (KOper.mk _ _ (some _) _ _ :: _) :: _) Ex.normal _ _ _ _ _; first | refine q0q rfl ?_ | refine q0s rfl ?_ | refine q0g rfl (fun _ => ?_) (fun _ => ?_))
   | (show wpM _ _ _ (Fr.code (K.cond _ _ _) :: _) Ex.normal _ _ _ _ _; first | refine q0r rfl ?_ | refine q0o rfl ?_ | refine q02 rfl (fun _ => ?_) (fun _ => ?_))
   | (show wpM _ _ _ (Fr.ops _ _ (KOper.mk _ _ none _ (KOp.pick _ _ _) :: _) :: _) Ex.normal _ _ _ _ _; refine q0F rfl (fun _ => ?_) (fun _ => ?_))
   | (show wpM _ _ _ [] _ _ _ _ _ _; refine q0c rfl rfl rfl trivial ?_))
  rw [qbs] at h3
  simp [q2p, h3]
 refine go 800 rfl ?_
 rw [qbs] at h3
 have key : ∀ b, (decide (∀ i, i < s.size → q5I i (q43 s i).toNat = true)) = b → q2p s = b := by
  intro b hb
  rw [q2p, hb, h2, h3]
  rw [show decide (s.size = 0) = false by rw [decide_eq_false_iff_not]; omega, show decide (24 < s.size) = false by rw [decide_eq_false_iff_not]; omega]
  simp
 have no : ∀ k, k < s.size → q5I k (q43 s k).toNat = false → q2p s = false := by
  intro k hk hc
  refine key false ?_
  simp
  exact ⟨k, hk, hc⟩
 have h00 : 0 < s.size := by omega
 refine q8O 0 rfl rfl rfl (q8c h00) ?_
 refine go 800 rfl ?_
 refine q0g rfl (fun h4 => ?_) (fun h4 => ?_)
 ·repeat' (first
   | (refine goP 800 rfl rfl ?_)
   | (show wpM _ _ _ (Fr.ops _ _ (KOper.mk _ _ (some _) _ _ :: _) :: _) Ex.normal _ _ _ _ _; first | refine q0q rfl ?_ | refine q0s rfl ?_ | refine q0g rfl (fun _ => ?_) (fun _ => ?_))
   | (show wpM _ _ _ (Fr.code (K.cond _ _ _) :: _) Ex.normal _ _ _ _ _; first | refine q0r rfl ?_ | refine q0o rfl ?_ | refine q02 rfl (fun _ => ?_) (fun _ => ?_))
   | (show wpM _ _ _ (Fr.ops _ _ (KOper.mk _ _ none _ (KOp.pick _ _ _) :: _) :: _) Ex.normal _ _ _ _ _; refine q0F rfl (fun _ => ?_) (fun _ => ?_))
   | (show wpM _ _ _ [] _ _ _ _ _ _; refine q0c rfl rfl rfl trivial ?_))
  rw [q0b] at h4
  rw [no 0 h00 (by simp [q5I]; omega)]
 refine go 800 rfl ?_
 rw [q0d] at h4
 refine q8O 0 rfl rfl rfl (q8c h00) ?_
 refine go 800 rfl ?_
 refine q02 rfl (fun h5 => ?_) (fun h5 => ?_)
 ·repeat' (first
   | (refine goP 800 rfl rfl ?_)
   | (show wpM _ _ _ (Fr.ops _ _ (KOper.mk _ _ (some _) _ _ :: _) :: _) Ex.normal _ _ _ _ _; first | refine q0q rfl ?_ | refine q0s rfl ?_ | refine q0g rfl (fun _ => ?_) (fun _ => ?_))
   | (show wpM _ _ _ (Fr.code (K.cond _ _ _) :: _) Ex.normal _ _ _ _ _; first | refine q0r rfl ?_ | refine q0o rfl ?_ | refine q02 rfl (fun _ => ?_) (fun _ => ?_))
   | (show wpM _ _ _ (Fr.ops _ _ (KOper.mk _ _ none _ (KOp.pick _ _ _) :: _) :: _) Ex.normal _ _ _ _ _; refine q0F rfl (fun _ => ?_) (fun _ => ?_))
   | (show wpM _ _ _ [] _ _ _ _ _ _; refine q0c rfl rfl rfl trivial ?_))
  rw [q0b] at h5
  rw [no 0 h00 (by simp [q5I]; omega)]
 refine go 800 rfl ?_
 rw [q0d] at h5
 refine q0x (S := fun k : Nat => ([.str s, q01 k], [none, none], [0, 0])) (C := fun k => k ≤ s.size ∧ ∀ i, i < k → q5I i (q43 s i).toNat = true) (m := fun k => s.size - k) 0 ⟨by omega, fun i hi => by omega⟩ (by omega) ?_ ?_
 ·exact q05 rfl trivial (by simp [q01])
 intro k ⟨hk, hall⟩ N hN
 refine go 800 rfl ?_
 refine q02 rfl (fun g1 => ?_) (fun g1 => ?_)
 ·rw [q0b] at g1
  have hlt : k < s.size := by omega
  have w1 : IntKind.i64.wrap ((k : Int) + 1) = ((k + 1 : Nat) : Int) := wrap64 (by omega) (by omega)
  have yes : q5I k (q43 s k).toNat = true → ∀ {t : q0p} {h : q08} {z : Frz} {nx : Nat}, (q0R 0 [(0, 0), (3, 0)] t h z nx fun _ _ kp => kp = ([.str s, q01 ((k + 1 : Nat) : Int)], [none, none], [0, 0])) → N t h z nx := by
   intro hc t h z nx hst
   refine hN (k + 1) ⟨by omega, fun i hi => ?_⟩ (by omega) hst
   by_cases hik : i < k
   ·exact hall i hik
   ·obtain rfl : i = k := by omega
    exact hc
  have no' := no k hlt
  have k0 : k = 0 → 97 ≤ (q43 s k).toNat ∧ (q43 s k).toNat ≤ 122 := by intro e; subst e; omega
  clear hN no key hall h4 h5 h2 h3
  refine go 800 rfl ?_
  repeat' (first
   | (refine goP 800 rfl rfl ?_)
   | (show wpM _ _ _ (Fr.ops _ _ (KOper.mk _ _ (some _) _ _ :: _) :: _) Ex.normal _ _ _ _ _; first | refine q0q rfl ?_ | refine q0s rfl ?_ | refine q0g rfl (fun _ => ?_) (fun _ => ?_))
   | (show wpM _ _ _ (Fr.code (K.cond _ _ _) :: _) Ex.normal _ _ _ _ _; first | refine q0r rfl ?_ | refine q0o rfl ?_ | refine q02 rfl (fun _ => ?_) (fun _ => ?_))
   | (show wpM _ _ _ (Fr.ops _ _ (KOper.mk _ _ none _ (KOp.pick _ _ _) :: _) :: _) Ex.normal _ _ _ _ _; refine q0F rfl (fun _ => ?_) (fun _ => ?_))
   | (show wpM _ _ _ [] _ _ _ _ _ _; refine q0c rfl rfl rfl trivial ?_)
   | (show wpM _ _ _ (Fr.ops _ _ (KOper.mk _ _ none _ (KOp.istr _ _) :: _) :: _) Ex.normal _ _ _ _ _; refine q8O k rfl rfl rfl (q8c hlt) ?_)
   | (show wpM _ _ _ (Fr.ops _ _ (KOper.mk _ _ none _ (KOp.callF q91 _) :: _) :: _) Ex.normal _ _ _ _ _; refine q00 rfl rfl (qgV _) ?_))
  all_goals refine q09 ?_
  all_goals generalize (q43 s k).toNat = c at *
  all_goals simp only [q1N, q1T, q2O, q3p, q3s, decide_eq_true_eq, decide_eq_false_iff_not, Bool.not_eq_true, Bool.not_eq_false, Int.not_lt, Int.not_le] at *
  all_goals first
   | (refine yes ?_ (q05 rfl trivial (by simp [q01, w1]))
      simp_all [q5I, q3s]
      try omega)
   | (refine go 800 rfl ?_
      refine q0c rfl rfl rfl trivial ?_
      rw [no']
      simp_all [q5I, q3s]
      try omega)
 rw [q0d] at g1
 refine go 800 rfl ?_
 refine q09 ?_
 refine go 800 rfl ?_
 refine q0c rfl rfl rfl trivial ?_
 rw [key true (by simp; exact fun i hi => hall i (by omega))]
theorem qgW : PU q3T [.int .i64 2] = some (.tup [.int .i64 0, .int .i64 0]) := by
 refine q0i (fn := q41) rfl (q0a ?_)
 repeat' (first
  | (refine goP 800 rfl rfl ?_)
  | (show wpM _ _ _ (Fr.ops _ _ (KOper.mk _ _ (some _) _ _ :: _) :: _) Ex.normal _ _ _ _ _; first | refine q0q rfl ?_ | refine q0s rfl ?_ | refine q0g rfl (fun _ => ?_) (fun _ => ?_))
  | (show wpM _ _ _ (Fr.code (K.cond _ _ _) :: _) Ex.normal _ _ _ _ _; first | refine q0r rfl ?_ | refine q0o rfl ?_ | refine q02 rfl (fun _ => ?_) (fun _ => ?_))
  | (show wpM _ _ _ (Fr.ops _ _ (KOper.mk _ _ none _ (KOp.pick _ _ _) :: _) :: _) Ex.normal _ _ _ _ _; refine q0F rfl (fun _ => ?_) (fun _ => ?_))
  | (show wpM _ _ _ [] _ _ _ _ _ _; refine q0c rfl rfl rfl trivial ?_))
 all_goals simp_all [eqb]
theorem qes : PU q98 [.agg [.bool false, .lst [], .lst []], .agg [.bool false, .lst [], .lst []]] = some (.int .i64 0) := qmT (n := 30) (by kernel_rfl)
def qni (s : ByteArray) : D := .agg [.int .i64 2, .bool false, .lst [], .lst [], .str s, .lst []]
theorem qnj (s : ByteArray) : PU q8p [qni s] = some (.bool (q2p s)) := by
 refine q0i (fn := q5D) rfl (q0a ?_)
 repeat' (first
  | (refine goP 800 rfl rfl ?_)
  | (show wpM _ _ _ (Fr.ops _ _ (KOper.mk _ _ (some _) _ _ :: _) :: _) Ex.normal _ _ _ _ _; first | refine q0q rfl ?_ | refine q0s rfl ?_ | refine q0g rfl (fun _ => ?_) (fun _ => ?_))
  | (show wpM _ _ _ (Fr.code (K.cond _ _ _) :: _) Ex.normal _ _ _ _ _; first | refine q0r rfl ?_ | refine q0o rfl ?_ | refine q02 rfl (fun _ => ?_) (fun _ => ?_))
  | (show wpM _ _ _ (Fr.ops _ _ (KOper.mk _ _ none _ (KOp.pick _ _ _) :: _) :: _) Ex.normal _ _ _ _ _; refine q0F rfl (fun _ => ?_) (fun _ => ?_))
  | (show wpM _ _ _ [] _ _ _ _ _ _; refine q0c rfl rfl rfl trivial ?_)
  | (show wpM _ _ _ (Fr.ops _ _ (KOper.mk _ _ none _ (KOp.callF q3T _) :: _) :: _) Ex.normal _ _ _ _ _; refine q00 rfl rfl (qgW) ?_)
  | (show wpM _ _ _ (Fr.ops _ _ (KOper.mk _ _ none _ (KOp.callF q4R _) :: _) :: _) Ex.normal _ _ _ _ _; refine q00 rfl rfl (qlJ s) ?_)
  | (show wpM _ _ _ (Fr.ops _ _ (KOper.mk _ _ none _ (KOp.callF q98 _) :: _) :: _) Ex.normal _ _ _ _ _; refine q00 rfl rfl (qes) ?_))
 all_goals simp_all [ltb, eqb]
end Go.F

namespace Go.F
attribute [local irreducible] IntKind.wrap wpM
theorem qcj (s : ByteArray) : PU q5t [qni s, .int .i64 1] = some (.int .i64 (if q2p s then 0 else 1)) := by
 refine q0i (fn := q5C) rfl (q0a ?_)
 refine go 800 rfl ?_
 refine q02 rfl (fun h => ?_) (fun h => ?_)
 ·exact absurd h (by simp [ltb])
 refine go 800 rfl ?_
 refine q00 rfl rfl (qnj s) ?_
 refine go 800 rfl ?_
 refine q02 rfl (fun h1 => ?_) (fun h1 => ?_)
 ·repeat' (first
   | (refine goP 800 rfl rfl ?_)
   | (show wpM _ _ _ (Fr.ops _ _ (KOper.mk _ _ (some _) _ _ :: _) :: _) Ex.normal _ _ _ _ _; first | refine q0q rfl ?_ | refine q0s rfl ?_ | refine q0g rfl (fun _ => ?_) (fun _ => ?_))
   | (show wpM _ _ _ (Fr.code (K.cond _ _ _) :: _) Ex.normal _ _ _ _ _; first | refine q0r rfl ?_ | refine q0o rfl ?_ | refine q02 rfl (fun _ => ?_) (fun _ => ?_))
   | (show wpM _ _ _ (Fr.ops _ _ (KOper.mk _ _ none _ (KOp.pick _ _ _) :: _) :: _) Ex.normal _ _ _ _ _; refine q0F rfl (fun _ => ?_) (fun _ => ?_))
   | (show wpM _ _ _ [] _ _ _ _ _ _; refine q0c rfl rfl rfl trivial ?_))
  simp at h1
  simp [h1]
 refine go 800 rfl ?_
 refine q0x (S := fun _ : Unit => ([.int .i64 1, .lst [], .int .i64 0, .int .i64 0], [none, none, none, none], [0, 0, 0, 0])) (C := fun _ => True) (m := fun _ => 0) () trivial (by decide) ?_ ?_
 ·exact q05 rfl trivial (by simp)
 intro _ _ N hN
 repeat' (first
  | (refine goP 800 rfl rfl ?_)
  | (show wpM _ _ _ (Fr.ops _ _ (KOper.mk _ _ (some _) _ _ :: _) :: _) Ex.normal _ _ _ _ _; first | refine q0q rfl ?_ | refine q0s rfl ?_ | refine q0g rfl (fun _ => ?_) (fun _ => ?_))
  | (show wpM _ _ _ (Fr.code (K.cond _ _ _) :: _) Ex.normal _ _ _ _ _; first | refine q0r rfl ?_ | refine q0o rfl ?_ | refine q02 rfl (fun _ => ?_) (fun _ => ?_))
  | (show wpM _ _ _ (Fr.ops _ _ (KOper.mk _ _ none _ (KOp.pick _ _ _) :: _) :: _) Ex.normal _ _ _ _ _; refine q0F rfl (fun _ => ?_) (fun _ => ?_))
  | (show wpM _ _ _ [] _ _ _ _ _ _; refine q0c rfl rfl rfl trivial ?_))
 ·exact absurd ‹ltb _ _ = true› (by simp [ltb])
 refine q09 ?_
 refine go 800 rfl ?_
 refine q0c rfl rfl rfl trivial ?_
 simp at h1
 simp [h1]
theorem qck (s : ByteArray) : PU q8n [qni s] = some (.int .i64 (if q2p s then 0 else 1)) := by
 refine q0i (fn := q5y) rfl (q0a ?_)
 refine go 800 rfl ?_
 refine q00 rfl rfl (qcj s) ?_
 repeat' (first
  | (refine goP 800 rfl rfl ?_)
  | (show wpM _ _ _ (Fr.ops _ _ (KOper.mk _ _ (some _) _ _ :: _) :: _) Ex.normal _ _ _ _ _; first | refine q0q rfl ?_ | refine q0s rfl ?_ | refine q0g rfl (fun _ => ?_) (fun _ => ?_))
  | (show wpM _ _ _ (Fr.code (K.cond _ _ _) :: _) Ex.normal _ _ _ _ _; first | refine q0r rfl ?_ | refine q0o rfl ?_ | refine q02 rfl (fun _ => ?_) (fun _ => ?_))
  | (show wpM _ _ _ (Fr.ops _ _ (KOper.mk _ _ none _ (KOp.pick _ _ _) :: _) :: _) Ex.normal _ _ _ _ _; refine q0F rfl (fun _ => ?_) (fun _ => ?_))
  | (show wpM _ _ _ [] _ _ _ _ _ _; refine q0c rfl rfl rfl trivial ?_))
 rfl
theorem qbt (s : ByteArray) : PU q7m [.str s] = some (.bool (q2p s)) := by
 refine q0i (fn := q4T) rfl (q0a ?_)
 refine go 800 rfl ?_
 refine q00 rfl rfl (qck s) ?_
 repeat' (first
  | (refine goP 800 rfl rfl ?_)
  | (show wpM _ _ _ (Fr.ops _ _ (KOper.mk _ _ (some _) _ _ :: _) :: _) Ex.normal _ _ _ _ _; first | refine q0q rfl ?_ | refine q0s rfl ?_ | refine q0g rfl (fun _ => ?_) (fun _ => ?_))
  | (show wpM _ _ _ (Fr.code (K.cond _ _ _) :: _) Ex.normal _ _ _ _ _; first | refine q0r rfl ?_ | refine q0o rfl ?_ | refine q02 rfl (fun _ => ?_) (fun _ => ?_))
  | (show wpM _ _ _ (Fr.ops _ _ (KOper.mk _ _ none _ (KOp.pick _ _ _) :: _) :: _) Ex.normal _ _ _ _ _; refine q0F rfl (fun _ => ?_) (fun _ => ?_))
  | (show wpM _ _ _ [] _ _ _ _ _ _; refine q0c rfl rfl rfl trivial ?_))
 cases q2p s <;> simp [eqb]
def q0W (f : Nat → Int) : Nat → Int
 | 0 => 0
 | k + 1 => if q0W f k = 0 then f k else q0W f k
theorem q6G {f : Nat → Int} {k n : Nat} (h0 : q0W f k = 0) (h1 : f k ≠ 0) (h : k < n) : q0W f n = f k := by
 induction n with
 | zero => omega
 | succ n ih =>
   rw [q0W]
   by_cases hk : k < n
   ·rw [ih hk, if_neg h1]
   ·obtain rfl : k = n := by omega
    rw [if_pos h0]
theorem q5d {f : Nat → Int} {k : Nat} (h0 : q0W f k = 0) (h1 : f k = 0) : q0W f (k + 1) = 0 := by
 rw [q0W, if_pos h0, h1]
theorem q4b {f : Nat → Int} {n k : Nat} (h0 : q0W f n = 0) (h : k < n) : f k = 0 := by
 induction n with
 | zero => omega
 | succ n ih =>
   rw [q0W] at h0
   split at h0
   ·rename_i h2
    by_cases hk : k < n
    ·exact ih h2 hk
    ·obtain rfl : k = n := by omega
     exact h0
   ·rename_i h2; exact absurd h0 h2
def eg (l : List Edge) (i : Nat) : Edge := l.getD i ⟨⟨#[]⟩, []⟩
theorem q2Q {l : List Edge} {i : Nat} (h : i < l.length) : (l.map Edge.enc)[i]? = some (eg l i).enc := by simp [eg, h]
theorem qet {l : List Edge} {i : Nat} (h : i < l.length) : eg l i = l[i] := by simp [eg, h]
def qaS (l : List Edge) (i : Nat) : Bool := (List.range i).any fun j => (eg l j).name.toList == (eg l i).name.toList
theorem qeu {l : List Edge} {i j : Nat} (hj : j < i) (h : (eg l j).name.toList == (eg l i).name.toList) : qaS l i = true :=
 List.any_eq_true.2 ⟨j, List.mem_range.2 hj, h⟩
theorem qg3 {l : List Edge} {i : Nat} (h : ∀ j, j < i → ((eg l j).name.toList == (eg l i).name.toList) = false) : qaS l i = false := by
 unfold qaS
 rw [List.any_eq_false]
 intro j hj
 rw [h j (List.mem_range.1 hj)]
 decide
def q16 (l : List Edge) (i : Nat) : Int :=
 if q2p (eg l i).name = false then 1 else if qaS l i then 7 else q1W (eg l i).line
def q2h (l : List Edge) (i : Nat) : Int :=
 if pt (eg l i).line ((eg l i).line.length - 1) = pt (eg l ((i + 1) % l.length)).line 0 then 0 else 11
def q0Y (l : List Edge) : Int :=
 if 16 < l.length then 5 else if l.length < 2 then 11
 else if q0W (q16 l) l.length = 0 then
  if q0W (q2h l) l.length = 0 then q1O (q0m l) else q0W (q2h l) l.length
 else q0W (q16 l) l.length
theorem q5X {p : List Spot} (h : q1W p = 0) : 2 ≤ p.length ∧ p.length ≤ 40 ∧ (∀ s ∈ p, q0v s 1048576 = true) := by
 unfold q1W at h
 split at h
 ·cases h
 split at h
 ·cases h
 split at h
 ·cases h
 rename_i h1 h2 h3
 exact ⟨by omega, by omega, by simpa using h3⟩
theorem q6o {l : List Edge} {i : Nat} (h : q16 l i = 0) : q1W (eg l i).line = 0 := by
 unfold q16 at h
 split at h
 ·cases h
 split at h
 ·cases h
 exact h
theorem qcR {l : List Edge} {m : Nat} (h : ∀ e ∈ l, e.line.length ≤ m) : (q0m l).length ≤ l.length * m := by
 induction l with
 | nil => simp [q0m]
 | cons e l ih =>
   have h1 := ih fun e he => h e (List.mem_cons_of_mem _ he)
   have h2 := h e List.mem_cons_self
   have : q0m (e :: l) = e.line.dropLast ++ q0m l := rfl
   rw [this, List.length_append, List.length_dropLast, List.length_cons, Nat.succ_mul]
   omega
theorem qjO {l : List Edge} {e : Edge} (h : e ∈ l) : ∃ i, i < l.length ∧ eg l i = e := by
 obtain ⟨i, hi, rfl⟩ := List.getElem_of_mem h
 exact ⟨i, hi, qet hi⟩
set_option maxHeartbeats 2000000 in
theorem qcl (l : List Edge) : PU q8m [q0A l] = some (.int .i64 (q0Y l)) := by
 refine q0i (fn := q5u) rfl (q0a ?_)
 refine go 800 rfl ?_
 refine q02 rfl (fun h1 => ?_) (fun h1 => ?_)
 ·refine go 800 rfl ?_
  refine q0c rfl rfl rfl trivial ?_
  rw [q0b, List.length_map] at h1
  rw [q0Y, if_pos (by omega)]
 refine go 800 rfl ?_
 rw [q0d, List.length_map] at h1
 refine q02 rfl (fun h2 => ?_) (fun h2 => ?_)
 ·refine go 800 rfl ?_
  refine q0c rfl rfl rfl trivial ?_
  rw [q0b, List.length_map] at h2
  rw [q0Y, if_neg (by omega), if_pos (by omega)]
 refine go 800 rfl ?_
 rw [q0d, List.length_map] at h2
 have hcells : (l.map Edge.enc).all (fun d => d.cells.length == 2) = true := q1x (f := Edge.enc) (n := 2) (fun _ => rfl) l
 refine q0x (S := fun k : Nat => ([q0A l, q0A l, q01 l.length, q01 k], [none, none, none, none], [0, 0, 0, 0])) (C := fun k => k ≤ l.length ∧ q0W (q16 l) k = 0) (m := fun k => l.length - k) 0 ⟨by omega, rfl⟩ (by omega) ?_ ?_
 ·exact q05 rfl trivial (by simp [q0A, q01])
 intro k ⟨hk, hall⟩ N hN
 refine go 800 rfl ?_
 refine q02 rfl (fun g1 => ?_) (fun g1 => ?_)
 ·rw [q0b] at g1
  have hlt : k < l.length := by omega
  have w1 : IntKind.i64.wrap ((k : Int) + 1) = ((k + 1 : Nat) : Int) := wrap64 (by omega) (by omega)
  have yes : q16 l k = 0 → ∀ {t : q0p} {h : q08} {z : Frz} {nx : Nat}, (q0R 0 [(0, 0), (17, 0), (18, 0), (19, 0)] t h z nx fun _ _ kp => kp = ([q0A l, q0A l, q01 l.length, q01 ((k + 1 : Nat) : Int)], [none, none, none, none], [0, 0, 0, 0])) → N t h z nx :=
   fun hc {t h z nx} hst => hN (k + 1) ⟨by omega, q5d hall hc⟩ (by omega) hst
  have no : q16 l k ≠ 0 → q0Y l = q16 l k := by
   intro hc
   have := q6G hall hc hlt
   rw [q0Y, if_neg (by omega), if_neg (by omega), if_neg (by rw [this]; exact hc), this]
  clear hN
  refine go 800 rfl ?_
  refine q0y k rfl rfl rfl (q2Q hlt) rfl ?_
  refine go 800 rfl ?_
  refine q00 rfl rfl (qbt (eg l k).name) ?_
  refine go 800 rfl ?_
  refine q02 rfl (fun g2 => ?_) (fun g2 => ?_)
  ·refine go 800 rfl ?_
   refine q09 ?_
   refine go 800 rfl ?_
   refine q0c rfl rfl rfl trivial ?_
   have : q16 l k = 1 := by rw [q16, if_pos (by simpa using g2)]
   rw [no (by rw [this]; decide), this]
  have g2' : ¬ q2p (eg l k).name = false := by simpa using g2
  refine go 800 rfl ?_
  refine qcL k rfl hcells ⟨_, _, rfl, rfl⟩ (by simp; omega) ?_
  refine go 800 rfl ?_
  refine q0x (S := fun j : Nat => ([q0A l, .ptr 1 0 0, q0A l, q01 l.length, q01 k, q0A (l.take k), q01 k, q01 j], [none, some (.row [(eg l k).enc] 2), none, none, none, none, none, none], [0, 0, 0, 0, 0, 0, 0, 0]))
   (C := fun j => j ≤ k ∧ ∀ i, i < j → ((eg l i).name.toList == (eg l k).name.toList) = false) (m := fun j => k - j) 0 ⟨by omega, fun i hi => by omega⟩ (by omega) ?_ ?_
  ·exact q05 rfl ⟨rfl, trivial⟩ (by simp [q0A, q01, q0k, Edge.enc, List.map_take, Nat.min_eq_left (Nat.le_of_lt hlt)])
  intro j ⟨hj, hno⟩ N2 hN2
  refine go 800 rfl ?_
  refine q02 rfl (fun e1 => ?_) (fun e1 => ?_)
  ·rw [q0b] at e1
   have hjk : j < k := by omega
   have wj : IntKind.i64.wrap ((j : Int) + 1) = ((j + 1 : Nat) : Int) := wrap64 (by omega) (by omega)
   have hj2 : ((l.take k).map Edge.enc)[j]? = some (eg l j).enc := by
    rw [List.map_take, List.getElem?_take, if_pos hjk]; exact q2Q (by omega)
   refine go 800 rfl ?_
   refine q0y j rfl rfl rfl hj2 rfl ?_
   refine go 800 rfl ?_
   refine q02 rfl (fun e2 => ?_) (fun e2 => ?_)
   ·refine go 800 rfl ?_
    refine q09 ?_
    refine go 800 rfl ?_
    refine q09 ?_
    refine go 800 rfl ?_
    refine q0c rfl rfl rfl trivial ?_
    have : q16 l k = 7 := by rw [q16, if_neg g2', if_pos (qeu hjk e2)]
    rw [no (by rw [this]; decide), this]
   ·refine go 800 rfl ?_
    refine q09 ?_
    refine hN2 (j + 1) ⟨by omega, fun i hi => ?_⟩ (by omega) (q05 rfl ⟨rfl, trivial⟩ (by simp [q0A, q01, q0k, Edge.enc, wj]))
    by_cases hij : i < j
    ·exact hno i hij
    ·obtain rfl : i = j := by omega
     exact e2
  rw [q0d] at e1
  clear hN2
  refine go 800 rfl ?_
  refine q09 ?_
  refine go 800 rfl ?_
  have hnb : qaS l k = false := qg3 fun i hi => hno i (by omega)
  have hee : q16 l k = q1W (eg l k).line := by rw [q16, if_neg g2', if_neg (by rw [hnb]; decide)]
  refine q00 rfl rfl (qbq (eg l k).line) ?_
  refine go 800 rfl ?_
  refine q02 rfl (fun g3 => ?_) (fun g3 => ?_)
  ·rw [q17, ← hee] at g3
   refine go 800 rfl ?_
   refine q09 ?_
   refine go 800 rfl ?_
   refine q0c rfl rfl rfl trivial ?_
   rw [no g3, hee]
  ·rw [q1j, ← hee] at g3
   refine go 800 rfl ?_
   refine q09 ?_
   exact yes g3 (q05 rfl trivial (by simp [q0A, q01, w1]))
 rw [q0d] at g1
 obtain rfl : k = l.length := by omega
 clear hN hk g1
 have hln : ∀ i, i < l.length → 2 ≤ (eg l i).line.length ∧ (eg l i).line.length ≤ 40 ∧ _ := fun i hi => q5X (q6o (q4b hall hi))
 refine go 800 rfl ?_
 refine q09 ?_
 refine go 800 rfl ?_
 refine q0x (S := fun k : Nat => ([q0A l, q0A l, q01 l.length, q01 k], [none, none, none, none], [0, 0, 0, 0])) (C := fun k => k ≤ l.length ∧ q0W (q2h l) k = 0) (m := fun k => l.length - k) 0 ⟨by omega, rfl⟩ (by omega) ?_ ?_
 ·exact q05 rfl trivial (by simp [q0A, q01])
 intro k ⟨hk, hjo⟩ N hN
 refine go 800 rfl ?_
 refine q02 rfl (fun g1 => ?_) (fun g1 => ?_)
 ·rw [q0b] at g1
  have hlt : k < l.length := by omega
  have hlt2 : (k + 1) % l.length < l.length := Nat.mod_lt _ (by omega)
  have w1 : IntKind.i64.wrap ((k : Int) + 1) = ((k + 1 : Nat) : Int) := wrap64 (by omega) (by omega)
  have a1 := hln k hlt
  have a2 := hln _ hlt2
  have w2 : IntKind.i64.wrap (((eg l k).line.length : Int) - 1) = (((eg l k).line.length - 1 : Nat) : Int) := by rw [wrap64 (by omega) (by omega)]; omega
  refine go 800 rfl ?_
  refine q0y k rfl rfl rfl (q2Q hlt) rfl ?_
  refine go 800 rfl ?_
  refine q4j rfl rfl (by rw [List.length_map]; omega) ?_
  refine go 800 rfl ?_
  refine q0y ((k + 1) % l.length) rfl rfl (by rw [w1, List.length_map, q1e]) (q2Q hlt2) rfl ?_
  refine go 800 rfl ?_
  refine q0y ((eg l k).line.length - 1) rfl rfl (by rw [List.length_map]; exact w2) (q0Q (by omega)) rfl ?_
  refine go 800 rfl ?_
  refine q0y 0 rfl rfl rfl (q0Q (by omega)) rfl ?_
  refine go 800 rfl ?_
  refine q02 rfl (fun g2 => ?_) (fun g2 => ?_)
  ·refine go 800 rfl ?_
   refine q09 ?_
   refine go 800 rfl ?_
   refine q0c rfl rfl rfl trivial ?_
   rw [q13] at g2
   have : q2h l k = 11 := by rw [q2h, if_neg (by simpa using g2)]
   have h11 := q6G hjo (by rw [this]; decide) hlt
   rw [q0Y, if_neg (by omega), if_neg (by omega), if_pos hall, if_neg (by rw [h11, this]; decide), h11, this]
  ·refine go 800 rfl ?_
   refine q09 ?_
   rw [q13] at g2
   have : q2h l k = 0 := by rw [q2h, if_pos (by simpa using g2)]
   refine hN (k + 1) ⟨by omega, q5d hjo this⟩ (by omega) (q05 rfl trivial (by simp [q0A, q01, w1]))
 rw [q0d] at g1
 obtain rfl : k = l.length := by omega
 refine go 800 rfl ?_
 refine q09 ?_
 refine go 800 rfl ?_
 have hb : ∀ e ∈ l, 1 ≤ e.line.length ∧ e.line.length ≤ 40 := by
  intro e he
  obtain ⟨i, hi, rfl⟩ := qjO he
  have := hln i hi
  exact ⟨by omega, by omega⟩
 have hv := qcR (m := 40) fun e he => (hb e he).2
 refine q00 rfl rfl (qcQ l (fun e he => ⟨(hb e he).1, by have := (hb e he).2; omega⟩) (by omega) (by omega)) ?_
 refine go 800 rfl ?_
 refine q00 rfl rfl (q3j (q0m l)) ?_
 refine go 800 rfl ?_
 refine q0c rfl rfl rfl trivial ?_
 rw [q0Y, if_neg (by omega), if_neg (by omega), if_pos hall, if_pos hjo]
theorem q2M {l : List Edge} (h : q0Y l = 0) : 2 ≤ l.length ∧ l.length ≤ 16 ∧ q0W (q16 l) l.length = 0 ∧ q0W (q2h l) l.length = 0 ∧ q1O (q0m l) = 0 := by
 unfold q0Y at h
 split at h
 ·cases h
 split at h
 ·cases h
 split at h
 ·split at h
  ·exact ⟨by omega, by omega, ‹_›, ‹_›, h⟩
  ·exact absurd h ‹_›
 ·exact absurd h ‹_›
theorem q4D {l : List Edge} (h : q0Y l = 0) : ∀ e ∈ l, 2 ≤ e.line.length ∧ e.line.length ≤ 40 := by
 intro e he
 obtain ⟨i, hi, rfl⟩ := qjO he
 have := q5X (q6o (q4b (q2M h).2.2.1 hi))
 exact ⟨this.1, this.2.1⟩
def q9I (l : List Edge) : D := if q0Y l = 0 then .tup [q0k (q0m l), .int .i64 0] else .tup [.lst [], .int .i64 (q0Y l)]
theorem q6p (l : List Edge) : PU q4l [q0A l] = some (q9I l) := by
 refine q0i (fn := q4s) rfl (q0a ?_)
 refine go 800 rfl ?_
 refine q00 rfl rfl (qcl l) ?_
 refine go 800 rfl ?_
 refine q02 rfl (fun h => ?_) (fun h => ?_)
 ·rw [q17] at h
  refine go 800 rfl ?_
  refine q0c rfl rfl rfl trivial ?_
  rw [q9I, if_neg h]
 ·rw [q1j] at h
  have hb := q4D h
  have := q2M h
  have hv := q2L this.2.2.2.2
  refine go 800 rfl ?_
  refine q00 rfl rfl (qcQ l (fun e he => ⟨by have := hb e he; omega, by have := hb e he; omega⟩) (by omega) (by omega)) ?_
  refine go 800 rfl ?_
  refine q0c rfl rfl rfl trivial ?_
  rw [q9I, if_pos h, q0k]
end Go.F

namespace Go.F
attribute [local irreducible] IntKind.wrap wpM
def qgX (n : Int) : Bool := decide (1048576 < n) || decide (n < -1048576)
theorem qjP (n : Int) : PU q9U [.int .i64 n] = some (.bool (qgX n)) := by
 refine q0i (fn := qbZ) rfl (q0a ?_)
 repeat' (first
  | (refine goP 800 rfl rfl ?_)
  | (show wpM _ _ _ (Fr.ops _ _ (KOper.mk _ _ (some _) _ _ :: _) :: _) Ex.normal _ _ _ _ _; first | refine q0q rfl ?_ | refine q0s rfl ?_ | refine q0g rfl (fun _ => ?_) (fun _ => ?_))
  | (show wpM _ _ _ (Fr.code (K.cond _ _ _) :: _) Ex.normal _ _ _ _ _; first | refine q0r rfl ?_ | refine q0o rfl ?_ | refine q02 rfl (fun _ => ?_) (fun _ => ?_))
  | (show wpM _ _ _ (Fr.ops _ _ (KOper.mk _ _ none _ (KOp.pick _ _ _) :: _) :: _) Ex.normal _ _ _ _ _; refine q0F rfl (fun _ => ?_) (fun _ => ?_))
  | (show wpM _ _ _ [] _ _ _ _ _ _; refine q0c rfl rfl rfl trivial ?_))
 all_goals ((try simp only [q1N, q1T, q2O, q3p, decide_eq_true_eq, decide_eq_false_iff_not, Bool.not_eq_true, Bool.not_eq_false, Int.not_lt, Int.not_le] at *); first | (simp_all [qgX]; done) | (simp_all [qgX]; omega) | (rw [D.bool.injEq, Bool.eq_iff_iff]; simp [qgX]; omega) | (rw [D.bool.injEq, Bool.eq_iff_iff]; simp_all [qgX]; omega) | (simp [qgX]; split <;> (try split) <;> omega))
theorem qjQ (s : Spot) : (qgX s.x || qgX s.y) = !q0v s 1048576 := by
 rw [Bool.eq_iff_iff]
 simp [qgX, q0v]
 omega
theorem qjR (p : List Spot) (hp : p.length < 4611686018427387904) : PU qfN [q0k p] = some (.bool (p.any fun s => !q0v s 1048576)) := by
 refine q0i (fn := qbU) rfl (q0a ?_)
 refine go 800 rfl ?_
 refine q0x (S := fun k : Nat => ([q0k p, q01 k], [none, none], [0, 0])) (C := fun k => k ≤ p.length ∧ ∀ i, i < k → (!q0v (pt p i) 1048576) = false) (m := fun k => p.length - k) 0 ⟨by omega, fun i hi => by omega⟩ (by omega) ?_ ?_
 ·exact q05 rfl trivial (by simp [q0k, q01])
 intro k ⟨hk, hall⟩ N hN
 refine go 800 rfl ?_
 refine q02 rfl (fun g1 => ?_) (fun g1 => ?_)
 ·rw [q0b, List.length_map] at g1
  have hlt : k < p.length := by omega
  have w1 : IntKind.i64.wrap ((k : Int) + 1) = ((k + 1 : Nat) : Int) := wrap64 (by omega) (by omega)
  have hfar := qjQ (pt p k)
  have yes : (!q0v (pt p k) 1048576) = true → (p.any fun s => !q0v s 1048576) = true := by
   intro h
   rw [List.any_eq_true]
   exact ⟨pt p k, by rw [q1f hlt]; exact List.getElem_mem hlt, h⟩
  refine go 800 rfl ?_
  repeat' (first
   | (refine goP 800 rfl rfl ?_)
   | (show wpM _ _ _ (Fr.ops _ _ (KOper.mk _ _ (some _) _ _ :: _) :: _) Ex.normal _ _ _ _ _; first | refine q0q rfl ?_ | refine q0s rfl ?_ | refine q0g rfl (fun _ => ?_) (fun _ => ?_))
   | (show wpM _ _ _ (Fr.code (K.cond _ _ _) :: _) Ex.normal _ _ _ _ _; first | refine q0r rfl ?_ | refine q0o rfl ?_ | refine q02 rfl (fun _ => ?_) (fun _ => ?_))
   | (show wpM _ _ _ (Fr.ops _ _ (KOper.mk _ _ none _ (KOp.pick _ _ _) :: _) :: _) Ex.normal _ _ _ _ _; refine q0F rfl (fun _ => ?_) (fun _ => ?_))
   | (show wpM _ _ _ [] _ _ _ _ _ _; refine q0c rfl rfl rfl trivial ?_)
   | (show wpM _ _ _ (Fr.ops _ _ (KOper.mk _ _ none _ (KOp.ixs _ _ _) :: _) :: _) Ex.normal _ _ _ _ _; refine q0y k rfl rfl rfl (q0Q hlt) rfl ?_)
   | (show wpM _ _ _ (Fr.ops _ _ (KOper.mk _ _ none _ (KOp.callF q9U _) :: _) :: _) Ex.normal _ _ _ _ _; refine q00 rfl rfl (qjP _) ?_))
  ·refine q09 ?_
   refine go 800 rfl ?_
   refine q0c rfl rfl rfl trivial ?_
   rw [yes]
   simp_all
  ·refine q09 ?_
   refine go 800 rfl ?_
   refine q0c rfl rfl rfl trivial ?_
   rw [yes]
   simp_all
  ·refine q09 ?_
   refine hN (k + 1) ⟨by omega, fun i hi => ?_⟩ (by omega) (q05 rfl trivial (by simp [q0k, q01, w1]))
   by_cases hik : i < k
   ·exact hall i hik
   ·obtain rfl : i = k := by omega
    rw [← hfar]
    simp_all
 rw [q0d, List.length_map] at g1
 refine go 800 rfl ?_
 refine q09 ?_
 refine go 800 rfl ?_
 refine q0c rfl rfl rfl trivial ?_
 congr 1
 symm
 rw [List.any_eq_false]
 intro s hs
 obtain ⟨i, hi, rfl⟩ := List.getElem_of_mem hs
 rw [← q1f hi, hall i (by omega)]
 decide
theorem qgY (p : List Spot) : PU qcA [q0k p] = some (.int .i64 (q1W p)) := by
 refine q0i (fn := q9e) rfl (q0a ?_)
 refine go 800 rfl ?_
 refine q02 rfl (fun h1 => ?_) (fun h1 => ?_)
 ·refine go 800 rfl ?_
  refine q0c rfl rfl rfl trivial ?_
  rw [q0b, List.length_map] at h1
  rw [q1W, if_pos (by omega)]
 refine go 800 rfl ?_
 rw [q0d, List.length_map] at h1
 refine q02 rfl (fun h2 => ?_) (fun h2 => ?_)
 ·refine go 800 rfl ?_
  refine q0c rfl rfl rfl trivial ?_
  rw [q0b, List.length_map] at h2
  rw [q1W, if_neg (by omega), if_pos (by omega)]
 refine go 800 rfl ?_
 rw [q0d, List.length_map] at h2
 refine q00 rfl rfl (qjR p (by omega)) ?_
 refine go 800 rfl ?_
 refine q02 rfl (fun h3 => ?_) (fun h3 => ?_)
 ·refine go 800 rfl ?_
  refine q0c rfl rfl rfl trivial ?_
  rw [q1W, if_neg (by omega), if_neg (by omega), if_pos h3]
 refine go 800 rfl ?_
 refine q0x (S := fun k : Nat => ([q0k p, q01 k], [none, none], [0, 0])) (C := fun k => 1 ≤ k ∧ k ≤ p.length ∧ ∀ i, i + 1 < k → pt p i ≠ pt p (i + 1)) (m := fun k => p.length - k) 1 ⟨by omega, by omega, fun i hi => by omega⟩ (by omega) ?_ ?_
 ·exact q05 rfl trivial (by simp [q0k, q01])
 intro k ⟨hk0, hk, hno⟩ N hN
 refine go 800 rfl ?_
 refine q02 rfl (fun g1 => ?_) (fun g1 => ?_)
 ·rw [q0b, List.length_map] at g1
  have hlt : k < p.length := by omega
  have w1 : IntKind.i64.wrap ((k : Int) + 1) = ((k + 1 : Nat) : Int) := wrap64 (by omega) (by omega)
  have w2 : IntKind.i64.wrap ((k : Int) - 1) = ((k - 1 : Nat) : Int) := by rw [wrap64 (by omega) (by omega)]; omega
  have hk1 : k - 1 + 1 = k := by omega
  refine go 800 rfl ?_
  refine q0y k rfl rfl rfl (q0Q hlt) rfl ?_
  refine go 800 rfl ?_
  refine q0y (k - 1) rfl rfl w2 (q0Q (by omega)) rfl ?_
  refine go 800 rfl ?_
  refine q02 rfl (fun g2 => ?_) (fun g2 => ?_)
  ·refine go 800 rfl ?_
   refine q09 ?_
   refine go 800 rfl ?_
   refine q0c rfl rfl rfl trivial ?_
   rw [q1W, if_neg (by omega), if_neg (by omega), if_neg (by rw [h3]; decide), if_neg]
   intro hall
   refine hall (k - 1) (by omega) ?_
   rw [q13] at g2
   rw [hk1]
   exact (of_decide_eq_true g2).symm
  ·refine go 800 rfl ?_
   refine q09 ?_
   refine hN (k + 1) ⟨by omega, by omega, fun i hi => ?_⟩ (by omega) (q05 rfl trivial (by simp [q0k, q01, w1]))
   by_cases hik : i + 1 < k
   ·exact hno i hik
   ·obtain rfl : i = k - 1 := by omega
    rw [q13] at g2
    rw [hk1]
    exact fun e => of_decide_eq_false g2 e.symm
 rw [q0d, List.length_map] at g1
 refine go 800 rfl ?_
 refine q09 ?_
 refine go 800 rfl ?_
 refine q0c rfl rfl rfl trivial ?_
 rw [q1W, if_neg (by omega), if_neg (by omega), if_neg (by rw [h3]; decide), if_pos (fun i hi => hno i (by omega))]
theorem qag (s : Spot) : PU q7M [s.enc, .int .i64 1048576] = some (.bool (q0v s 1048576)) := by
 have w : IntKind.i64.wrap (0 - 1048576) = -1048576 := wrap64 (by decide) (by decide)
 refine q0i (fn := q7U) rfl (q0a ?_)
 repeat' (first
  | (refine goP 800 rfl rfl ?_)
  | (show wpM _ _ _ (Fr.ops _ _ (KOper.mk _ _ (some _) _ _ :: _) :: _) Ex.normal _ _ _ _ _; first | refine q0q rfl ?_ | refine q0s rfl ?_ | refine q0g rfl (fun _ => ?_) (fun _ => ?_))
  | (show wpM _ _ _ (Fr.code (K.cond _ _ _) :: _) Ex.normal _ _ _ _ _; first | refine q0r rfl ?_ | refine q0o rfl ?_ | refine q02 rfl (fun _ => ?_) (fun _ => ?_))
  | (show wpM _ _ _ (Fr.ops _ _ (KOper.mk _ _ none _ (KOp.pick _ _ _) :: _) :: _) Ex.normal _ _ _ _ _; refine q0F rfl (fun _ => ?_) (fun _ => ?_))
  | (show wpM _ _ _ [] _ _ _ _ _ _; refine q0c rfl rfl rfl trivial ?_))
 all_goals rw [D.bool.injEq, Bool.eq_iff_iff]
 all_goals simp only [q1N, q1T, w, decide_eq_true_eq, decide_eq_false_iff_not] at *
 all_goals simp [q0v]
 all_goals omega
set_option maxHeartbeats 1000000 in
theorem qgZ (p : List Spot) [OkP p] (hp : p.length ≤ 1000) : PU qcG [q0k p] = some (.int .i64 (qie p)) := by
 refine q0i (fn := q9s) rfl (q0a ?_)
 refine go 800 rfl ?_
 refine q0x (S := fun k : Nat => ([q0k p, q01 (q1V p k), q01 k], [none, none, none], [0, 0, 0])) (C := fun k => k ≤ p.length) (m := fun k => p.length - k) 0 (by omega) (by omega) ?_ ?_
 ·exact q05 rfl trivial (by simp [q0k, q01, q1V])
 intro k hk N hN
 refine go 800 rfl ?_
 refine q02 rfl (fun h1 => ?_) (fun h1 => ?_)
 ·rw [q0b, List.length_map] at h1
  have hlt : k < p.length := by omega
  have w1 : IntKind.i64.wrap ((k : Int) + 1) = ((k + 1 : Nat) : Int) := wrap64 (by omega) (by omega)
  have b0 := (qa0 p k).le
  have b1 := (qa0 p (k + 1)).le
  refine go 800 rfl ?_
  refine q0y k rfl rfl rfl (q0Q hlt) rfl ?_
  refine go 800 rfl ?_
  refine q4j rfl rfl (by rw [List.length_map]; omega) ?_
  refine go 800 rfl ?_
  refine q0y ((k + 1) % p.length) rfl rfl (by rw [w1, List.length_map, q1e]) (q0Q (Nat.mod_lt _ (by omega))) rfl ?_
  refine go 800 rfl ?_
  refine q09 ?_
  refine hN (k + 1) (by omega) (by omega) ?_
  refine q05 rfl trivial ?_
  have e1 : IntKind.i64.wrap ((pt p k).x * (pt p ((k + 1) % p.length)).y) = (pt p k).x * (pt p ((k + 1) % p.length)).y := q0M (by decide)
  have e2 : IntKind.i64.wrap ((pt p k).y * (pt p ((k + 1) % p.length)).x) = (pt p k).y * (pt p ((k + 1) % p.length)).x := q0M (by decide)
  have hx : Bd ((pt p k).x * (pt p ((k + 1) % p.length)).y) _ := inferInstance
  have hx := hx.le
  have e3 : IntKind.i64.wrap (q1V p k + (pt p k).x * (pt p ((k + 1) % p.length)).y) = q1V p k + (pt p k).x * (pt p ((k + 1) % p.length)).y := wrap64 (by omega) (by omega)
  have e4 : IntKind.i64.wrap (q1V p k + (pt p k).x * (pt p ((k + 1) % p.length)).y - (pt p k).y * (pt p ((k + 1) % p.length)).x) = q1V p (k + 1) := by
   have : q1V p k + (pt p k).x * (pt p ((k + 1) % p.length)).y - (pt p k).y * (pt p ((k + 1) % p.length)).x = q1V p (k + 1) := by rw [q1V]; omega
   rw [this]; exact wrap64 (by omega) (by omega)
  simp [q0k, q01, w1, e1, e2, e3, e4]
 rw [q0d, List.length_map] at h1
 refine go 800 rfl ?_
 refine q09 ?_
 refine go 800 rfl ?_
 refine q0c rfl rfl rfl trivial ?_
 obtain rfl : k = p.length := by omega
 rfl
theorem q6H (p q : List Spot) (hp : p.length < 4611686018427387904) : PU q68 [q0k p, q0k q] = some (.bool (decide (p = q))) := by
 refine q0i (fn := qat) rfl (q0a ?_)
 refine go 800 rfl ?_
 refine q02 rfl (fun h1 => ?_) (fun h1 => ?_)
 ·refine go 800 rfl ?_
  refine q0c rfl rfl rfl trivial ?_
  rw [q17, List.length_map, List.length_map] at h1
  have : p ≠ q := by rintro rfl; exact h1 rfl
  simp [this]
 rw [q1j, List.length_map, List.length_map] at h1
 refine go 800 rfl ?_
 refine q0x (S := fun k : Nat => ([q0k p, q0k q, q01 k], [none, none, none], [0, 0, 0])) (C := fun k => k ≤ p.length ∧ ∀ i, i < k → pt p i = pt q i) (m := fun k => p.length - k) 0 ⟨by omega, fun i hi => by omega⟩ (by omega) ?_ ?_
 ·exact q05 rfl trivial (by simp [q0k, q01])
 intro k ⟨hk, hall⟩ N hN
 refine go 800 rfl ?_
 refine q02 rfl (fun g1 => ?_) (fun g1 => ?_)
 ·rw [q0b, List.length_map] at g1
  have hlt : k < p.length := by omega
  have w1 : IntKind.i64.wrap ((k : Int) + 1) = ((k + 1 : Nat) : Int) := wrap64 (by omega) (by omega)
  refine go 800 rfl ?_
  refine q0y k rfl rfl rfl (q0Q hlt) rfl ?_
  refine go 800 rfl ?_
  refine q0y k rfl rfl rfl (q0Q (by omega)) rfl ?_
  refine go 800 rfl ?_
  refine q02 rfl (fun g2 => ?_) (fun g2 => ?_)
  ·refine go 800 rfl ?_
   refine q09 ?_
   refine go 800 rfl ?_
   refine q0c rfl rfl rfl trivial ?_
   rw [q13] at g2
   have : p ≠ q := by rintro rfl; simp at g2
   simp [this]
  ·refine go 800 rfl ?_
   refine q09 ?_
   rw [q13] at g2
   refine hN (k + 1) ⟨by omega, fun i hi => ?_⟩ (by omega) (q05 rfl trivial (by simp [q0k, q01, w1]))
   by_cases hik : i < k
   ·exact hall i hik
   ·obtain rfl : i = k := by omega
    simpa using g2
 rw [q0d, List.length_map] at g1
 refine go 800 rfl ?_
 refine q09 ?_
 refine go 800 rfl ?_
 refine q0c rfl rfl rfl trivial ?_
 have : p = q := by
  refine List.ext_getElem (by omega) fun i hi1 hi2 => ?_
  rw [← q1f hi1, ← q1f hi2]; exact hall i (by omega)
 simp [this]
end Go.F

namespace Go.F
def q1P (p : List Spot) : Prop :=
 ∀ i, i < p.length → (pt p i ≠ pt p ((i + 1) % p.length) ∧ onS (pt p i) (pt p ((i + 1) % p.length)) (pt p ((i + 2) % p.length)) = false ∧ onS (pt p ((i + 1) % p.length)) (pt p ((i + 2) % p.length)) (pt p i) = false) ∧
   ∀ k, k < p.length → i + 2 ≤ k → (k + 1) % p.length ≠ i → q48 (pt p i) (pt p ((i + 1) % p.length)) (pt p k) (pt p ((k + 1) % p.length)) = false
instance (p : List Spot) : Decidable (q1P p) := by unfold q1P; exact inferInstance
theorem q7w (t : Int) : 0 ≤ t * t := by
 rcases Int.le_total 0 t with h | h
 ·exact Int.mul_nonneg h h
 ·exact Int.mul_nonneg_of_nonpos_of_nonpos h h
theorem qlK {ux uy vx vy : Int} (hc : ux * vy = uy * vx) (hd : 0 < ux * vx + uy * vy) : 0 ≤ ux * vx ∧ 0 ≤ uy * vy := by
 have e : (ux * vx) * (uy * vy) = (ux * vy) * (ux * vy) := by
  calc (ux * vx) * (uy * vy) = (ux * vy) * (uy * vx) := by ac_rfl
   _ = _ := by rw [← hc]
 have hn := q7w (ux * vy)
 rw [← e] at hn
 constructor
 ·refine Int.not_lt.1 fun h => ?_
  have := Int.mul_neg_of_neg_of_pos h (show 0 < uy * vy by omega)
  omega
 ·refine Int.not_lt.1 fun h => ?_
  have := Int.mul_neg_of_pos_of_neg (show 0 < ux * vx by omega) h
  omega
theorem q7x {u v : Int} (hs : 0 ≤ u * v) (hl : v.natAbs ≤ u.natAbs) : min u 0 ≤ v ∧ v ≤ max u 0 := by
 rcases Int.lt_trichotomy v 0 with h | h | h
 ·have : u ≤ 0 := by
   refine Int.not_lt.1 fun h2 => ?_
   have := Int.mul_neg_of_pos_of_neg h2 h
   omega
  omega
 ·omega
 ·have : 0 ≤ u := by
   refine Int.not_lt.1 fun h2 => ?_
   have := Int.mul_neg_of_neg_of_pos h2 h
   omega
  omega
theorem qnk (a b c : Spot) : q0U a b c = (a.y - b.y) * (c.x - b.x) - (a.x - b.x) * (c.y - b.y) := by
 unfold q0U; grind
theorem qlL (a b c : Spot) : q0U b c a = q0U a b c := by unfold q0U; grind
theorem qa1 {a b p : Spot} : onS a b p = true ↔ q0U a b p = 0 ∧ min a.x b.x ≤ p.x ∧ p.x ≤ max a.x b.x ∧ min a.y b.y ≤ p.y ∧ p.y ≤ max a.y b.y := by simp [onS]
theorem q6I {a b c : Spot} : q2D a b c = true ↔ q0U a b c = 0 ∧ 0 < (a.x - b.x) * (c.x - b.x) + (a.y - b.y) * (c.y - b.y) := by simp [q2D]
theorem qlM {a b c : Spot} (h : q2D a b c = true) : onS a b c = true ∨ onS b c a = true := by
 rw [q6I] at h
 obtain ⟨h1, h2⟩ := h
 have hc : (a.x - b.x) * (c.y - b.y) = (a.y - b.y) * (c.x - b.x) := by rw [qnk] at h1; omega
 obtain ⟨s1, s2⟩ := qlK hc h2
 have hn : (a.x - b.x).natAbs * (c.y - b.y).natAbs = (a.y - b.y).natAbs * (c.x - b.x).natAbs := by rw [← Int.natAbs_mul, ← Int.natAbs_mul, hc]
 rw [qa1, qa1, qlL a b c]
 by_cases hx : (c.x - b.x).natAbs ≤ (a.x - b.x).natAbs
 ·by_cases hy : (c.y - b.y).natAbs ≤ (a.y - b.y).natAbs
  ·left
   have := q7x s1 hx
   have := q7x s2 hy
   refine ⟨h1, ?_⟩
   omega
  ·by_cases hx' : (a.x - b.x).natAbs ≤ (c.x - b.x).natAbs
   ·right
    rw [Int.mul_comm] at s1 s2
    have := q7x s1 hx'
    have := q7x s2 (show (a.y - b.y).natAbs ≤ (c.y - b.y).natAbs by omega)
    refine ⟨h1, ?_⟩
    omega
   ·have := Nat.mul_lt_mul'' (Nat.lt_of_not_le hx') (Nat.lt_of_not_le hy)
    rw [Nat.mul_comm (c.x - b.x).natAbs] at this
    omega
 ·by_cases hy : (a.y - b.y).natAbs ≤ (c.y - b.y).natAbs
  ·right
   rw [Int.mul_comm] at s1 s2
   have := q7x s1 (show (a.x - b.x).natAbs ≤ (c.x - b.x).natAbs by omega)
   have := q7x s2 hy
   refine ⟨h1, ?_⟩
   omega
  ·have := Nat.mul_lt_mul'' (Nat.lt_of_not_le hx) (Nat.lt_of_not_le hy)
   rw [Nat.mul_comm (c.x - b.x).natAbs] at this
   omega
theorem qih {u v : Int} (h : min u 0 ≤ v ∧ v ≤ max u 0) : 0 ≤ u * v := by
 rcases Int.le_total 0 u with h2 | h2
 ·exact Int.mul_nonneg h2 (by omega)
 ·exact Int.mul_nonneg_of_nonpos_of_nonpos h2 (by omega)
theorem qg4 {u v : Int} (h : min u 0 ≤ v ∧ v ≤ max u 0) (hv : v ≠ 0) : 0 < u * v := by
 rcases Int.lt_trichotomy v 0 with h2 | h2 | h2
 ·exact Int.mul_pos_of_neg_of_neg (by omega) h2
 ·exact absurd h2 hv
 ·exact Int.mul_pos (by omega) h2
theorem qok {a b : Spot} (h : a ≠ b) : a.x - b.x ≠ 0 ∨ a.y - b.y ≠ 0 := by
 by_cases hx : a.x = b.x
 ·by_cases hy : a.y = b.y
  ·exact absurd (by cases a; cases b; simp_all) h
  ·right; omega
 ·left; omega
theorem qg5 {a b c : Spot} (hcb : c ≠ b) (h : onS a b c = true) : q2D a b c = true := by
 rw [qa1] at h
 rw [q6I]
 refine ⟨h.1, ?_⟩
 have bx : min (a.x - b.x) 0 ≤ c.x - b.x ∧ c.x - b.x ≤ max (a.x - b.x) 0 := by omega
 have bY : min (a.y - b.y) 0 ≤ c.y - b.y ∧ c.y - b.y ≤ max (a.y - b.y) 0 := by omega
 have p1 := qih bx
 have p2 := qih bY
 rcases qok hcb with h2 | h2
 ·have := qg4 bx h2; omega
 ·have := qg4 bY h2; omega
theorem qjS (a b c : Spot) : q2D a b c = q2D c b a := by
 rw [Bool.eq_iff_iff, q6I, q6I]
 have : q0U c b a = - q0U a b c := by unfold q0U; grind
 rw [this, Int.mul_comm (c.x - b.x), Int.mul_comm (c.y - b.y)]
 omega
theorem on_sym (a b c : Spot) : onS a b c = onS b a c := by
 rw [Bool.eq_iff_iff, qa1, qa1]
 have : q0U b a c = - q0U a b c := by unfold q0U; grind
 rw [this]
 omega
theorem on_end (a b : Spot) : onS a b a = true := by
 rw [qa1]
 refine ⟨by unfold q0U; grind, ?_⟩
 omega
theorem qev {p : List Spot} {i : Nat} (hi : i < p.length) : pt p i ∈ p.take i ↔ ∃ j, j < i ∧ pt p j = pt p i := by
 rw [List.mem_take_iff_getElem]
 constructor
 ·rintro ⟨j, hj, e⟩
  exact ⟨j, by omega, by rw [q1f (by omega)]; exact e⟩
 ·rintro ⟨j, hj, e⟩
  exact ⟨j, by omega, by rw [← e, q1f (by omega)]⟩
theorem mod1 {n i : Nat} (hi : i < n) : (i + 1) % n = if i + 1 = n then 0 else i + 1 := by
 split
 ·rename_i h; rw [h]; simp
 ·exact Nat.mod_eq_of_lt (by omega)
theorem mod2 {n i : Nat} (h3 : 3 ≤ n) (hi : i < n) : (i + 2) % n = if i + 2 < n then i + 2 else i + 2 - n := by
 split
 ·rename_i h; exact Nat.mod_eq_of_lt h
 ·rw [Nat.mod_eq_sub_mod (by omega), Nat.mod_eq_of_lt (by omega)]
theorem qew {p : List Spot} (h3 : 3 ≤ p.length) : q3M p ↔ q1P p := by
 constructor
 ·rintro ⟨hd, hs⟩ i hi
  have inj : ∀ {j k}, j < p.length → k < p.length → j ≠ k → pt p j ≠ pt p k := by
   intro j k hj hk hne e
   rcases Nat.lt_or_gt_of_ne hne with h | h
   ·exact hd k hk ((qev hk).2 ⟨j, h, e⟩)
   ·exact hd j hj ((qev hj).2 ⟨k, h, e.symm⟩)
  have m1 := mod1 hi
  have m2 := mod2 h3 hi
  have l1 : (i + 1) % p.length < p.length := Nat.mod_lt _ (by omega)
  have l2 : (i + 2) % p.length < p.length := Nat.mod_lt _ (by omega)
  have n01 : pt p i ≠ pt p ((i + 1) % p.length) := inj hi l1 (by rw [m1]; split <;> omega)
  have n12 : pt p ((i + 2) % p.length) ≠ pt p ((i + 1) % p.length) := inj l2 l1 (by rw [m1, m2]; split <;> split <;> omega)
  obtain ⟨hf, hm⟩ := hs i hi
  refine ⟨⟨n01, ?_, ?_⟩, hm⟩
  ·cases ho : onS (pt p i) (pt p ((i + 1) % p.length)) (pt p ((i + 2) % p.length))
   ·rfl
   ·rw [qg5 n12 ho] at hf; cases hf
  ·cases ho : onS (pt p ((i + 1) % p.length)) (pt p ((i + 2) % p.length)) (pt p i)
   ·rfl
   ·rw [on_sym] at ho
    rw [qjS, qg5 n01 ho] at hf; cases hf
 ·intro hr
  refine ⟨fun i hi hm => ?_, fun i hi => ⟨?_, (hr i hi).2⟩⟩
  ·obtain ⟨j, hj, e⟩ := (qev hi).1 hm
   have hjl : j < p.length := by omega
   have m1 := mod1 hjl
   have m1' := mod1 hi
   by_cases h1 : j + 1 = i
   ·have := (hr j hjl).1.1
    rw [m1, if_neg (by omega), h1] at this
    exact this e
   ·by_cases h2 : (i + 1) % p.length = j
    ·have := (hr i hi).1.1
     rw [h2] at this
     exact this e.symm
    ·have := (hr j hjl).2 i hi (by omega) h2
     have ho := on_end (pt p j) (pt p ((j + 1) % p.length))
     rw [← e] at this
     simp [q48, ho] at this
  ·cases hf : q2D (pt p i) (pt p ((i + 1) % p.length)) (pt p ((i + 2) % p.length))
   ·rfl
   ·have := (hr i hi).1
    rcases qlM hf with h | h
    ·rw [h] at this; cases this.2.1
    ·rw [h] at this; cases this.2.2
end Go.F

namespace Go.F
attribute [local irreducible] IntKind.wrap wpM
set_option maxHeartbeats 2000000 in
theorem qfg (p : List Spot) [OkP p] (h3 : 3 ≤ p.length) (hp : p.length ≤ 1000) : PU qbe [q0k p] = some (.bool (decide (q1P p))) := by
 refine q0i (fn := q7W) rfl (q0a ?_)
 refine go 800 rfl ?_
 rw [List.length_map]
 refine q0x (S := fun k : Nat => ([q0k p, q01 p.length, q01 k], [none, none, none], [0, 0, 0]))
  (C := fun i => i ≤ p.length ∧ ∀ j, j < i → (pt p j ≠ pt p ((j + 1) % p.length) ∧ onS (pt p j) (pt p ((j + 1) % p.length)) (pt p ((j + 2) % p.length)) = false ∧ onS (pt p ((j + 1) % p.length)) (pt p ((j + 2) % p.length)) (pt p j) = false) ∧
    ∀ k, k < p.length → j + 2 ≤ k → (k + 1) % p.length ≠ j → q48 (pt p j) (pt p ((j + 1) % p.length)) (pt p k) (pt p ((k + 1) % p.length)) = false)
  (m := fun k => p.length - k) 0 ⟨by omega, fun j h => by omega⟩ (by omega) ?_ ?_
 ·exact q05 rfl trivial (by simp [q0k, q01])
 intro i ⟨hi, hall⟩ N hN
 refine go 800 rfl ?_
 refine q02 rfl (fun g1 => ?_) (fun g1 => ?_)
 ·rw [q0b] at g1
  have hlt : i < p.length := by omega
  have w1 : IntKind.i64.wrap ((i : Int) + 1) = ((i + 1 : Nat) : Int) := wrap64 (by omega) (by omega)
  have w2 : IntKind.i64.wrap ((i : Int) + 2) = ((i + 2 : Nat) : Int) := wrap64 (by omega) (by omega)
  refine go 800 rfl ?_
  refine q0y i rfl rfl rfl (q0Q hlt) rfl ?_
  refine go 800 rfl ?_
  refine q4j rfl rfl (by omega) ?_
  refine go 800 rfl ?_
  refine q0y ((i + 1) % p.length) rfl rfl (by rw [w1, q1e]) (q0Q (Nat.mod_lt _ (by omega))) rfl ?_
  refine go 800 rfl ?_
  refine q4j rfl rfl (by omega) ?_
  refine go 800 rfl ?_
  refine q0y ((i + 2) % p.length) rfl rfl (by rw [w2, q1e]) (q0Q (Nat.mod_lt _ (by omega))) rfl ?_
  refine go 800 rfl ?_
  refine q0g rfl (fun e0 => ?_) (fun e0 => ?_)
  ·repeat' (first
    | (refine goP 800 rfl rfl ?_)
    | (show wpM _ _ _ (Fr.ops _ _ (KOper.mk _ _ (some _) _ _ :: _) :: _) Ex.normal _ _ _ _ _; first | refine q0q rfl ?_ | refine q0s rfl ?_ | refine q0g rfl (fun _ => ?_) (fun _ => ?_))
    | (show wpM _ _ _ (Fr.code (K.cond _ _ _) :: _) Ex.normal _ _ _ _ _; first | refine q0r rfl ?_ | refine q0o rfl ?_ | refine q02 rfl (fun _ => ?_) (fun _ => ?_))
    | (show wpM _ _ _ (Fr.ops _ _ (KOper.mk _ _ none _ (KOp.pick _ _ _) :: _) :: _) Ex.normal _ _ _ _ _; refine q0F rfl (fun _ => ?_) (fun _ => ?_))
    | (show wpM _ _ _ [] _ _ _ _ _ _; refine q0c rfl rfl rfl trivial ?_))
   refine q09 ?_
   refine go 800 rfl ?_
   refine q0c rfl rfl rfl trivial ?_
   rw [q13] at e0
   have : ¬ q1P p := fun hs => (hs i hlt).1.1 (of_decide_eq_true e0)
   simp [this]
  rw [q13] at e0
  refine go 800 rfl ?_
  refine q00 rfl rfl (q6k (pt p i) (pt p ((i + 1) % p.length)) (pt p ((i + 2) % p.length))) ?_
  refine go 800 rfl ?_
  refine q0g rfl (fun e1 => ?_) (fun e1 => ?_)
  ·repeat' (first
    | (refine goP 800 rfl rfl ?_)
    | (show wpM _ _ _ (Fr.ops _ _ (KOper.mk _ _ (some _) _ _ :: _) :: _) Ex.normal _ _ _ _ _; first | refine q0q rfl ?_ | refine q0s rfl ?_ | refine q0g rfl (fun _ => ?_) (fun _ => ?_))
    | (show wpM _ _ _ (Fr.code (K.cond _ _ _) :: _) Ex.normal _ _ _ _ _; first | refine q0r rfl ?_ | refine q0o rfl ?_ | refine q02 rfl (fun _ => ?_) (fun _ => ?_))
    | (show wpM _ _ _ (Fr.ops _ _ (KOper.mk _ _ none _ (KOp.pick _ _ _) :: _) :: _) Ex.normal _ _ _ _ _; refine q0F rfl (fun _ => ?_) (fun _ => ?_))
    | (show wpM _ _ _ [] _ _ _ _ _ _; refine q0c rfl rfl rfl trivial ?_))
   refine q09 ?_
   refine go 800 rfl ?_
   refine q0c rfl rfl rfl trivial ?_
   have : ¬ q1P p := fun hs => by have := (hs i hlt).1.2.1; rw [e1] at this; cases this
   simp [this]
  refine go 800 rfl ?_
  refine q00 rfl rfl (q6k (pt p ((i + 1) % p.length)) (pt p ((i + 2) % p.length)) (pt p i)) ?_
  refine go 800 rfl ?_
  refine q02 rfl (fun e2 => ?_) (fun e2 => ?_)
  ·repeat' (first
    | (refine goP 800 rfl rfl ?_)
    | (show wpM _ _ _ (Fr.ops _ _ (KOper.mk _ _ (some _) _ _ :: _) :: _) Ex.normal _ _ _ _ _; first | refine q0q rfl ?_ | refine q0s rfl ?_ | refine q0g rfl (fun _ => ?_) (fun _ => ?_))
    | (show wpM _ _ _ (Fr.code (K.cond _ _ _) :: _) Ex.normal _ _ _ _ _; first | refine q0r rfl ?_ | refine q0o rfl ?_ | refine q02 rfl (fun _ => ?_) (fun _ => ?_))
    | (show wpM _ _ _ (Fr.ops _ _ (KOper.mk _ _ none _ (KOp.pick _ _ _) :: _) :: _) Ex.normal _ _ _ _ _; refine q0F rfl (fun _ => ?_) (fun _ => ?_))
    | (show wpM _ _ _ [] _ _ _ _ _ _; refine q0c rfl rfl rfl trivial ?_))
   refine q09 ?_
   refine go 800 rfl ?_
   refine q0c rfl rfl rfl trivial ?_
   have : ¬ q1P p := fun hs => by have := (hs i hlt).1.2.2; rw [e2] at this; cases this
   simp [this]
  refine go 800 rfl ?_
  have fin : ∀ {t : q0p} {h : q08} {z : Frz} {nx : Nat}, (∀ k, k < p.length → i + 2 ≤ k → (k + 1) % p.length ≠ i → q48 (pt p i) (pt p ((i + 1) % p.length)) (pt p k) (pt p ((k + 1) % p.length)) = false) →
   (q0R 0 [(0, 0), (3, 0), (4, 0)] t h z nx fun _ _ kp => kp = ([q0k p, q01 p.length, q01 ((i + 1 : Nat) : Int)], [none, none, none], [0, 0, 0])) → N t h z nx := by
   intro t h z nx hm hst
   refine hN (i + 1) ⟨by omega, fun j hj => ?_⟩ (by omega) hst
   by_cases hji : j < i
   ·exact hall j hji
   ·obtain rfl : j = i := by omega
    exact ⟨⟨of_decide_eq_false e0, e1, e2⟩, hm⟩
  clear hN
  refine q0x (S := fun k : Nat => ([q0k p, q01 p.length, q01 i, .ptr 3 0 0, .ptr 4 0 0, q01 k], [none, none, none, some (.row [(pt p i).enc] 2), some (.row [(pt p ((i + 1) % p.length)).enc] 2), none], [0, 0, 0, 0, 0, 0]))
   (C := fun k => i + 2 ≤ k ∧ k ≤ p.length + 2 ∧ ∀ k', k' < p.length → k' < k → i + 2 ≤ k' → (k' + 1) % p.length ≠ i → q48 (pt p i) (pt p ((i + 1) % p.length)) (pt p k') (pt p ((k' + 1) % p.length)) = false)
   (m := fun k => p.length + 2 - k) (i + 2) ⟨by omega, by omega, fun k' _ h1 h2 => by omega⟩ (by omega) ?_ ?_
  ·exact q05 rfl ⟨rfl, rfl, trivial⟩ (by simp [q0k, q01, Spot.enc, w2])
  intro k ⟨hk1, hk2, hkall⟩ N2 hN2
  refine go 800 rfl ?_
  refine q02 rfl (fun e3 => ?_) (fun e3 => ?_)
  ·rw [q0b] at e3
   have hkl : k < p.length := by omega
   have wk : IntKind.i64.wrap ((k : Int) + 1) = ((k + 1 : Nat) : Int) := wrap64 (by omega) (by omega)
   have nxt : ∀ {t : q0p} {h : q08} {z : Frz} {nx : Nat}, ((k + 1) % p.length ≠ i → q48 (pt p i) (pt p ((i + 1) % p.length)) (pt p k) (pt p ((k + 1) % p.length)) = false) →
    (q0R 0 [(0, 0), (3, 0), (4, 0), (5, 0), (6, 0), (8, 0)] t h z nx fun _ _ kp => kp = ([q0k p, q01 p.length, q01 i, .ptr 3 0 0, .ptr 4 0 0, q01 ((k + 1 : Nat) : Int)], [none, none, none, some (.row [(pt p i).enc] 2), some (.row [(pt p ((i + 1) % p.length)).enc] 2), none], [0, 0, 0, 0, 0, 0])) → N2 t h z nx := by
    intro t h z nx hm hst
    refine hN2 (k + 1) ⟨by omega, by omega, fun k' q1 q2 q3 q4 => ?_⟩ (by omega) hst
    by_cases hkk : k' < k
    ·exact hkall k' q1 hkk q3 q4
    ·obtain rfl : k' = k := by omega
     exact hm q4
   clear hN2
   refine go 800 rfl ?_
   refine q4j rfl rfl (by omega) ?_
   refine go 800 rfl ?_
   refine q0g rfl (fun e4 => ?_) (fun e4 => ?_)
   ·rw [q17, wk, q1e] at e4
    have hne : (k + 1) % p.length ≠ i := fun e => e4 (by rw [e])
    refine go 800 rfl ?_
    refine q0y k rfl rfl rfl (q0Q hkl) rfl ?_
    refine go 800 rfl ?_
    refine q4j rfl rfl (by omega) ?_
    refine go 800 rfl ?_
    refine q0y ((k + 1) % p.length) rfl rfl (by rw [wk, q1e]) (q0Q (Nat.mod_lt _ (by omega))) rfl ?_
    refine go 800 rfl ?_
    refine q00 rfl rfl (qi3 (pt p i) (pt p ((i + 1) % p.length)) (pt p k) (pt p ((k + 1) % p.length))) ?_
    refine go 800 rfl ?_
    refine q02 rfl (fun e5 => ?_) (fun e5 => ?_)
    ·refine go 800 rfl ?_
     refine q09 ?_
     refine go 800 rfl ?_
     refine q09 ?_
     refine go 800 rfl ?_
     refine q0c rfl rfl rfl trivial ?_
     have : ¬ q1P p := fun hs => by have := (hs i hlt).2 k hkl hk1 hne; rw [e5] at this; cases this
     simp [this]
    ·refine go 800 rfl ?_
     refine q09 ?_
     exact nxt (fun _ => e5) (q05 rfl ⟨rfl, rfl, trivial⟩ (by simp [q0k, q01, Spot.enc, wk]))
   ·rw [q1j, wk, q1e] at e4
    have hne : (k + 1) % p.length = i := by omega
    repeat' (first
     | (refine goP 800 rfl rfl ?_)
     | (show wpM _ _ _ (Fr.ops _ _ (KOper.mk _ _ (some _) _ _ :: _) :: _) Ex.normal _ _ _ _ _; first | refine q0q rfl ?_ | refine q0s rfl ?_ | refine q0g rfl (fun _ => ?_) (fun _ => ?_))
     | (show wpM _ _ _ (Fr.code (K.cond _ _ _) :: _) Ex.normal _ _ _ _ _; first | refine q0r rfl ?_ | refine q0o rfl ?_ | refine q02 rfl (fun _ => ?_) (fun _ => ?_))
     | (show wpM _ _ _ (Fr.ops _ _ (KOper.mk _ _ none _ (KOp.pick _ _ _) :: _) :: _) Ex.normal _ _ _ _ _; refine q0F rfl (fun _ => ?_) (fun _ => ?_))
     | (show wpM _ _ _ [] _ _ _ _ _ _; refine q0c rfl rfl rfl trivial ?_))
    refine q09 ?_
    exact nxt (fun h => absurd hne h) (q05 rfl ⟨rfl, rfl, trivial⟩ (by simp [q0k, q01, Spot.enc, wk]))
  rw [q0d] at e3
  refine go 800 rfl ?_
  refine q09 ?_
  refine go 800 rfl ?_
  refine q09 ?_
  exact fin (fun k' q1 q2 q3 => hkall k' q1 (by omega) q2 q3) (q05 rfl trivial (by simp [q0k, q01, w1]))
 rw [q0d] at g1
 refine go 800 rfl ?_
 refine q09 ?_
 refine go 800 rfl ?_
 refine q0c rfl rfl rfl trivial ?_
 have : q1P p := fun i h => hall i (by omega)
 simp [this]
theorem q8d (p : List Spot) : PU q6A [q0k p] = some (.int .i64 (q1O p)) := by
 refine q0i (fn := q9c) rfl (q0a ?_)
 refine go 800 rfl ?_
 refine q02 rfl (fun h1 => ?_) (fun h1 => ?_)
 ·refine go 800 rfl ?_
  refine q0c rfl rfl rfl trivial ?_
  rw [q0b, List.length_map] at h1
  rw [q1O, if_pos (by omega)]
 refine go 800 rfl ?_
 rw [q0d, List.length_map] at h1
 refine q02 rfl (fun h2 => ?_) (fun h2 => ?_)
 ·refine go 800 rfl ?_
  refine q0c rfl rfl rfl trivial ?_
  rw [q0b, List.length_map] at h2
  rw [q1O, if_neg (by omega), if_pos (by omega)]
 refine go 800 rfl ?_
 rw [q0d, List.length_map] at h2
 refine q0x (S := fun k : Nat => ([q0k p, q01 k], [none, none], [0, 0])) (C := fun k => k ≤ p.length ∧ ∀ i, i < k → (!q0v (pt p i) 1048576) = false) (m := fun k => p.length - k) 0 ⟨by omega, fun i hi => by omega⟩ (by omega) ?_ ?_
 ·exact q05 rfl trivial (by simp [q0k, q01])
 intro k ⟨hk, hall⟩ N hN
 refine go 800 rfl ?_
 refine q02 rfl (fun g1 => ?_) (fun g1 => ?_)
 ·rw [q0b, List.length_map] at g1
  have hlt : k < p.length := by omega
  have w1 : IntKind.i64.wrap ((k : Int) + 1) = ((k + 1 : Nat) : Int) := wrap64 (by omega) (by omega)
  refine go 800 rfl ?_
  refine q0y k rfl rfl rfl (q0Q hlt) rfl ?_
  refine go 800 rfl ?_
  refine q00 rfl rfl (qag (pt p k)) ?_
  refine go 800 rfl ?_
  refine q02 rfl (fun g2 => ?_) (fun g2 => ?_)
  ·refine go 800 rfl ?_
   refine q09 ?_
   refine go 800 rfl ?_
   refine q0c rfl rfl rfl trivial ?_
   have : (p.any fun s => !q0v s 1048576) = true := List.any_eq_true.2 ⟨pt p k, by rw [q1f hlt]; exact List.getElem_mem hlt, g2⟩
   rw [q1O, if_neg (by omega), if_neg (by omega), if_pos this]
  ·refine go 800 rfl ?_
   refine q09 ?_
   refine hN (k + 1) ⟨by omega, fun i hi => ?_⟩ (by omega) (q05 rfl trivial (by simp [q0k, q01, w1]))
   by_cases hik : i < k
   ·exact hall i hik
   ·obtain rfl : i = k := by omega
    exact g2
 rw [q0d, List.length_map] at g1
 have hany : (p.any fun s => !q0v s 1048576) = false := by
  rw [List.any_eq_false]
  intro s hs
  obtain ⟨i, hi, rfl⟩ := List.getElem_of_mem hs
  rw [← q1f hi, hall i (by omega)]
  decide
 have := qjM hany
 refine go 800 rfl ?_
 refine q09 ?_
 refine go 800 rfl ?_
 refine q00 rfl rfl (qfg p (by omega) (by omega)) ?_
 refine go 800 rfl ?_
 have hsi := qew (p := p) (by omega)
 refine q02 rfl (fun h4 => ?_) (fun h4 => ?_)
 ·refine go 800 rfl ?_
  refine q0c rfl rfl rfl trivial ?_
  have h4' : ¬ q1P p := by simpa using h4
  rw [q1O, if_neg (by omega), if_neg (by omega), if_neg (by rw [hany]; decide), if_neg (by rw [hsi]; exact h4')]
 ·refine go 800 rfl ?_
  refine q0c rfl rfl rfl trivial ?_
  have h4' : q1P p := by simpa using h4
  rw [q1O, if_neg (by omega), if_neg (by omega), if_neg (by rw [hany]; decide), if_pos (hsi.2 h4')]
theorem qh0 (p : List Spot) : PU q8Z [q0k p] = some (.int .i64 (q1b p)) := by
 refine q0i (fn := q9i) rfl (q0a ?_)
 refine go 800 rfl ?_
 refine q00 rfl rfl (q8d p) ?_
 refine go 800 rfl ?_
 refine q02 rfl (fun h => ?_) (fun h => ?_)
 ·refine go 800 rfl ?_
  refine q0c rfl rfl rfl trivial ?_
  rw [q17] at h
  rw [q1b, if_neg h]
 ·rw [q1j] at h
  obtain ⟨_, h2, h3, _, _⟩ := q2L h
  refine go 800 rfl ?_
  refine q00 rfl rfl (qgZ p (by omega)) ?_
  refine go 800 rfl ?_
  refine q0c rfl rfl rfl trivial ?_
  rw [q1b, if_pos h]
end Go.F

namespace Go.F
attribute [local irreducible] IntKind.wrap wpM
theorem qh1 (l : List Edge) (k : Nat) (hk : k < l.length) (hl : l.length < 4611686018427387904) : PU qcz [q0A l, .int .i64 k, .str (eg l k).name] = some (.bool (qaS l k)) := by
 refine q0i (fn := q9d) rfl (q0a ?_)
 refine go 800 rfl ?_
 refine q0x (S := fun j : Nat => ([q0A l, q01 k, .str (eg l k).name, q01 j], [none, none, none, none], [0, 0, 0, 0])) (C := fun j => j ≤ k ∧ ∀ i, i < j → ((eg l i).name.toList == (eg l k).name.toList) = false) (m := fun j => k - j) 0 ⟨by omega, fun i hi => by omega⟩ (by omega) ?_ ?_
 ·exact q05 rfl trivial (by simp [q0A, q01])
 intro j ⟨hj, hno⟩ N hN
 refine go 800 rfl ?_
 refine q02 rfl (fun e1 => ?_) (fun e1 => ?_)
 ·rw [q0b] at e1
  have hjk : j < k := by omega
  have wj : IntKind.i64.wrap ((j : Int) + 1) = ((j + 1 : Nat) : Int) := wrap64 (by omega) (by omega)
  refine go 800 rfl ?_
  refine q0y j rfl rfl rfl (q2Q (by omega)) rfl ?_
  refine go 800 rfl ?_
  refine q02 rfl (fun e2 => ?_) (fun e2 => ?_)
  ·refine go 800 rfl ?_
   refine q09 ?_
   refine go 800 rfl ?_
   refine q0c rfl rfl rfl trivial ?_
   rw [qeu hjk e2]
  ·refine go 800 rfl ?_
   refine q09 ?_
   refine hN (j + 1) ⟨by omega, fun i hi => ?_⟩ (by omega) (q05 rfl trivial (by simp [q0A, q01, wj]))
   by_cases hij : i < j
   ·exact hno i hij
   ·obtain rfl : i = j := by omega
    exact e2
 rw [q0d] at e1
 refine go 800 rfl ?_
 refine q09 ?_
 refine go 800 rfl ?_
 refine q0c rfl rfl rfl trivial ?_
 rw [qg3 fun i hi => hno i (by omega)]
theorem q2q {l : List Edge} {k : Nat} (h : k < l.length) : q0m (l.take (k + 1)) = q0m (l.take k) ++ (eg l k).line.dropLast := by
 rw [qaQ h, qet h]
set_option maxHeartbeats 1000000 in
theorem q8v (l : List Edge) (h1 : ∀ e ∈ l, e.line.length ≤ 100000) (hl : l.length ≤ 100000) (hv : (q0m l).length ≤ 100000) : PU q6a [q0A l] = some (q0k (q0m l)) := by
 refine q0i (fn := q6d) rfl (q0a ?_)
 refine go 800 rfl ?_
 refine q0x (S := fun k : Nat => ([q0A l, .ref 1 0 (q0m (l.take k)).length, q01 k], [none, some (.row ((q0m (l.take k)).map Spot.enc) 2), none], [0, 0, 0])) (C := fun k => k ≤ l.length) (m := fun k => l.length - k) 0 (by omega) (by omega) ?_ ?_
 ·exact q05 rfl ⟨rfl, trivial⟩ (by simp [q0A, q01, q0m])
 intro k hk N hN
 refine go 800 rfl ?_
 refine q02 rfl (fun g1 => ?_) (fun g1 => ?_)
 ·rw [q0b, List.length_map] at g1
  have hlt : k < l.length := by omega
  have w1 : IntKind.i64.wrap ((k : Int) + 1) = ((k + 1 : Nat) : Int) := wrap64 (by omega) (by omega)
  have hln : (eg l k).line.length ≤ 100000 := by rw [qet hlt]; exact h1 _ (List.getElem_mem hlt)
  have hcells : ((eg l k).line.map Spot.enc).all (fun d => d.cells.length == 2) = true := q1x (f := Spot.enc) (n := 2) (fun _ => rfl) _
  have hle := q9H (l := l) (k + 1)
  rw [q2q hlt, List.length_append] at hle
  refine go 800 rfl ?_
  refine q0y k rfl rfl rfl (q2Q hlt) rfl ?_
  refine go 800 rfl ?_
  refine q02 rfl (fun g2 => ?_) (fun g2 => ?_)
  ·rw [q0b, List.length_map] at g2
   have w2 : IntKind.i64.wrap (((eg l k).line.length : Int) - 1) = (((eg l k).line.length - 1 : Nat) : Int) := by rw [wrap64 (by omega) (by omega)]; omega
   refine go 800 rfl ?_
   refine q0y k rfl rfl rfl (q2Q hlt) rfl ?_
   refine go 800 rfl ?_
   refine qcL ((eg l k).line.length - 1) rfl hcells ⟨_, _, rfl, by rw [List.length_map]; exact w2⟩ (by simp) ?_
   refine go 800 rfl ?_
   have e : ((eg l k).line.map Spot.enc).take ((eg l k).line.length - 1) = (eg l k).line.dropLast.map Spot.enc := by
    rw [List.dropLast_eq_take, List.map_take]
   rw [e]
   refine qjh rfl rfl rfl (q1x (f := Spot.enc) (n := 2) (fun _ => rfl) _) (by simp) (Nat.zero_le _) (by simp [q0O] at *; omega) ?_
   refine go 800 rfl ?_
   refine q09 ?_
   refine hN (k + 1) (by omega) (by omega) (q05 rfl ⟨by rw [← List.map_append]; exact q07 q0I _, trivial⟩ ?_)
   simp [q0A, q01, w1, q2q hlt]
  ·rw [q0d, List.length_map] at g2
   have h0 : (eg l k).line = [] := List.eq_nil_of_length_eq_zero (by omega)
   refine go 800 rfl ?_
   refine q09 ?_
   refine hN (k + 1) (by omega) (by omega) (q05 rfl ⟨q07 q0I _, trivial⟩ ?_)
   simp [q0A, q01, w1, q2q hlt, h0]
 rw [q0d, List.length_map] at g1
 refine go 800 rfl ?_
 refine q09 ?_
 refine go 800 rfl ?_
 obtain rfl : k = l.length := by omega
 rw [List.take_length]
 refine q0c rfl rfl rfl ⟨qci (by simp) (q2U q5m _), trivial⟩ ?_
 rw [qaR (by simp), q0k]
set_option maxHeartbeats 2000000 in
theorem qbu (l : List Edge) : PU q8T [q0A l] = some (.int .i64 (q0Y l)) := by
 refine q0i (fn := q9a) rfl (q0a ?_)
 refine go 800 rfl ?_
 refine q02 rfl (fun h1 => ?_) (fun h1 => ?_)
 ·refine go 800 rfl ?_
  refine q0c rfl rfl rfl trivial ?_
  rw [q0b, List.length_map] at h1
  rw [q0Y, if_pos (by omega)]
 refine go 800 rfl ?_
 rw [q0d, List.length_map] at h1
 refine q02 rfl (fun h2 => ?_) (fun h2 => ?_)
 ·refine go 800 rfl ?_
  refine q0c rfl rfl rfl trivial ?_
  rw [q0b, List.length_map] at h2
  rw [q0Y, if_neg (by omega), if_pos (by omega)]
 refine go 800 rfl ?_
 rw [q0d, List.length_map] at h2
 refine q0x (S := fun k : Nat => ([q0A l, q01 k], [none, none], [0, 0])) (C := fun k => k ≤ l.length ∧ q0W (q16 l) k = 0) (m := fun k => l.length - k) 0 ⟨by omega, rfl⟩ (by omega) ?_ ?_
 ·exact q05 rfl trivial (by simp [q0A, q01])
 intro k ⟨hk, hall⟩ N hN
 refine go 800 rfl ?_
 refine q02 rfl (fun g1 => ?_) (fun g1 => ?_)
 ·rw [q0b, List.length_map] at g1
  have hlt : k < l.length := by omega
  have w1 : IntKind.i64.wrap ((k : Int) + 1) = ((k + 1 : Nat) : Int) := wrap64 (by omega) (by omega)
  have no : q16 l k ≠ 0 → q0Y l = q16 l k := by
   intro hc
   have := q6G hall hc hlt
   rw [q0Y, if_neg (by omega), if_neg (by omega), if_neg (by rw [this]; exact hc), this]
  refine go 800 rfl ?_
  refine q0y k rfl rfl rfl (q2Q hlt) rfl ?_
  refine go 800 rfl ?_
  refine q00 rfl rfl (qig (eg l k).name) ?_
  refine go 800 rfl ?_
  refine q02 rfl (fun g2 => ?_) (fun g2 => ?_)
  ·refine go 800 rfl ?_
   refine q09 ?_
   refine go 800 rfl ?_
   refine q0c rfl rfl rfl trivial ?_
   have : q16 l k = 1 := by rw [q16, if_pos (by simpa using g2)]
   rw [no (by rw [this]; decide), this]
  have g2' : ¬ q2p (eg l k).name = false := by simpa using g2
  refine go 800 rfl ?_
  refine q0y k rfl rfl rfl (q2Q hlt) rfl ?_
  refine go 800 rfl ?_
  refine q00 rfl rfl (qh1 l k hlt (by omega)) ?_
  refine go 800 rfl ?_
  refine q02 rfl (fun e2 => ?_) (fun e2 => ?_)
  ·refine go 800 rfl ?_
   refine q09 ?_
   refine go 800 rfl ?_
   refine q0c rfl rfl rfl trivial ?_
   have : q16 l k = 7 := by rw [q16, if_neg g2', if_pos e2]
   rw [no (by rw [this]; decide), this]
  refine go 800 rfl ?_
  have hee : q16 l k = q1W (eg l k).line := by rw [q16, if_neg g2', if_neg (by rw [e2]; decide)]
  refine q0y k rfl rfl rfl (q2Q hlt) rfl ?_
  refine go 800 rfl ?_
  refine q00 rfl rfl (qgY (eg l k).line) ?_
  refine go 800 rfl ?_
  refine q02 rfl (fun g3 => ?_) (fun g3 => ?_)
  ·rw [q17, ← hee] at g3
   refine go 800 rfl ?_
   refine q09 ?_
   refine go 800 rfl ?_
   refine q0c rfl rfl rfl trivial ?_
   rw [no g3, hee]
  ·rw [q1j, ← hee] at g3
   refine go 800 rfl ?_
   refine q09 ?_
   exact hN (k + 1) ⟨by omega, q5d hall g3⟩ (by omega) (q05 rfl trivial (by simp [q0A, q01, w1]))
 rw [q0d, List.length_map] at g1
 obtain rfl : k = l.length := by omega
 clear hN hk g1
 have hln : ∀ i, i < l.length → 2 ≤ (eg l i).line.length ∧ (eg l i).line.length ≤ 40 ∧ _ := fun i hi => q5X (q6o (q4b hall hi))
 refine go 800 rfl ?_
 refine q09 ?_
 refine go 800 rfl ?_
 refine q0x (S := fun k : Nat => ([q0A l, q01 k], [none, none], [0, 0])) (C := fun k => k ≤ l.length ∧ q0W (q2h l) k = 0) (m := fun k => l.length - k) 0 ⟨by omega, rfl⟩ (by omega) ?_ ?_
 ·exact q05 rfl trivial (by simp [q0A, q01])
 intro k ⟨hk, hjo⟩ N hN
 refine go 800 rfl ?_
 refine q02 rfl (fun g1 => ?_) (fun g1 => ?_)
 ·rw [q0b, List.length_map] at g1
  have hlt : k < l.length := by omega
  have hlt2 : (k + 1) % l.length < l.length := Nat.mod_lt _ (by omega)
  have w1 : IntKind.i64.wrap ((k : Int) + 1) = ((k + 1 : Nat) : Int) := wrap64 (by omega) (by omega)
  have a1 := hln k hlt
  have a2 := hln _ hlt2
  have w2 : IntKind.i64.wrap (((eg l k).line.length : Int) - 1) = (((eg l k).line.length - 1 : Nat) : Int) := by rw [wrap64 (by omega) (by omega)]; omega
  refine go 800 rfl ?_
  refine q0y k rfl rfl rfl (q2Q hlt) rfl ?_
  refine go 800 rfl ?_
  refine q4j rfl rfl (by rw [List.length_map]; omega) ?_
  refine go 800 rfl ?_
  refine q0y ((k + 1) % l.length) rfl rfl (by rw [w1, List.length_map, q1e]) (q2Q hlt2) rfl ?_
  refine go 800 rfl ?_
  refine q0y ((eg l k).line.length - 1) rfl rfl (by rw [List.length_map]; exact w2) (q0Q (by omega)) rfl ?_
  refine go 800 rfl ?_
  refine q0y 0 rfl rfl rfl (q0Q (by omega)) rfl ?_
  refine go 800 rfl ?_
  refine q02 rfl (fun g2 => ?_) (fun g2 => ?_)
  ·refine go 800 rfl ?_
   refine q09 ?_
   refine go 800 rfl ?_
   refine q0c rfl rfl rfl trivial ?_
   rw [q13] at g2
   have : q2h l k = 11 := by rw [q2h, if_neg (by simpa using g2)]
   have h11 := q6G hjo (by rw [this]; decide) hlt
   rw [q0Y, if_neg (by omega), if_neg (by omega), if_pos hall, if_neg (by rw [h11, this]; decide), h11, this]
  ·refine go 800 rfl ?_
   refine q09 ?_
   rw [q13] at g2
   have : q2h l k = 0 := by rw [q2h, if_pos (by simpa using g2)]
   refine hN (k + 1) ⟨by omega, q5d hjo this⟩ (by omega) (q05 rfl trivial (by simp [q0A, q01, w1]))
 rw [q0d, List.length_map] at g1
 obtain rfl : k = l.length := by omega
 refine go 800 rfl ?_
 refine q09 ?_
 refine go 800 rfl ?_
 have hb : ∀ e ∈ l, 1 ≤ e.line.length ∧ e.line.length ≤ 40 := by
  intro e he
  obtain ⟨i, hi, rfl⟩ := qjO he
  have := hln i hi
  exact ⟨by omega, by omega⟩
 have hv := qcR (m := 40) fun e he => (hb e he).2
 refine q00 rfl rfl (q8v l (fun e he => by have := (hb e he).2; omega) (by omega) (by omega)) ?_
 refine go 800 rfl ?_
 refine q00 rfl rfl (q8d (q0m l)) ?_
 refine go 800 rfl ?_
 refine q0c rfl rfl rfl trivial ?_
 rw [q0Y, if_neg (by omega), if_neg (by omega), if_pos hall, if_pos hjo]
theorem q9J (l : List Edge) : PU q6P [q0A l] = some (q9I l) := by
 refine q0i (fn := q6S) rfl (q0a ?_)
 refine go 800 rfl ?_
 refine q00 rfl rfl (qbu l) ?_
 refine go 800 rfl ?_
 refine q02 rfl (fun h => ?_) (fun h => ?_)
 ·rw [q17] at h
  refine go 800 rfl ?_
  refine q0c rfl rfl rfl trivial ?_
  rw [q9I, if_neg h]
 ·rw [q1j] at h
  have hb := q4D h
  have := q2M h
  have hv := q2L this.2.2.2.2
  refine go 800 rfl ?_
  refine q00 rfl rfl (q8v l (fun e he => by have := hb e he; omega) (by omega) (by omega)) ?_
  refine go 800 rfl ?_
  refine q0c rfl rfl rfl trivial ?_
  rw [q9I, if_pos h, q0k]
end Go.F

namespace Go.F
attribute [local irreducible] IntKind.wrap wpM
theorem q38 (p : List Spot) : PU q1v [q0k p] = some (.int .i64 (sgn (q1b p))) := by
 refine q0i (fn := q2m) rfl (q0a ?_)
 repeat' (first
  | (refine goP 800 rfl rfl ?_)
  | (show wpM _ _ _ (Fr.ops _ _ (KOper.mk _ _ (some _) _ _ :: _) :: _) Ex.normal _ _ _ _ _; first | refine q0q rfl ?_ | refine q0s rfl ?_ | refine q0g rfl (fun _ => ?_) (fun _ => ?_))
  | (show wpM _ _ _ (Fr.code (K.cond _ _ _) :: _) Ex.normal _ _ _ _ _; first | refine q0r rfl ?_ | refine q0o rfl ?_ | refine q02 rfl (fun _ => ?_) (fun _ => ?_))
  | (show wpM _ _ _ (Fr.ops _ _ (KOper.mk _ _ none _ (KOp.pick _ _ _) :: _) :: _) Ex.normal _ _ _ _ _; refine q0F rfl (fun _ => ?_) (fun _ => ?_))
  | (show wpM _ _ _ [] _ _ _ _ _ _; refine q0c rfl rfl rfl trivial ?_)
  | (show wpM _ _ _ (Fr.ops _ _ (KOper.mk _ _ none _ (KOp.callF q5s _) :: _) :: _) Ex.normal _ _ _ _ _; refine q00 rfl rfl (qnh p) ?_)
  | (show wpM _ _ _ (Fr.ops _ _ (KOper.mk _ _ none _ (KOp.callF q1h _) :: _) :: _) Ex.normal _ _ _ _ _; refine q00 rfl rfl (qaM _ _) ?_))
 rfl
def q4e (a b : Int) : Int := if a < 0 then -((2 * (-a) + b) / (2 * b)) else (2 * a + b) / (2 * b)
theorem qcS (a b : Int) (h0 : 0 ≤ a) (ha : a ≤ 1099511627776) (hb : 0 < b) (hb' : b ≤ 1099511627776) : PU q1D [.int .i64 a, .int .i64 b] = some (.int .i64 (q4e a b)) := by
 refine q0i (fn := q2f) rfl (q0a ?_)
 refine go 800 rfl ?_
 have w1 : IntKind.i64.wrap (2 * a) = 2 * a := wrap64 (by omega) (by omega)
 have w2 : IntKind.i64.wrap (2 * a + b) = 2 * a + b := wrap64 (by omega) (by omega)
 have w3 : IntKind.i64.wrap (2 * b) = 2 * b := wrap64 (by omega) (by omega)
 refine q02 rfl (fun h => ?_) (fun h => ?_)
 ·rw [q0b] at h; omega
 refine go 800 rfl ?_
 refine qhI rfl rfl (by rw [w3]; omega) ?_
 refine go 800 rfl ?_
 refine q0c rfl rfl rfl trivial ?_
 have hd : (2 * a + b).tdiv (2 * b) = (2 * a + b) / (2 * b) := Int.tdiv_eq_ediv_of_nonneg (by omega)
 have hq : (2 * a + b) / (2 * b) ≤ 2 * a + b := Int.ediv_le_self _ (by omega)
 have hq0 : 0 ≤ (2 * a + b) / (2 * b) := Int.ediv_nonneg (by omega) (by omega)
 rw [w1, w2, w3, hd, wrap64 (by omega) (by omega), q4e, if_neg (by omega)]
theorem qex (a b : Int) (ha0 : -1099511627776 ≤ a) (ha : a ≤ 1099511627776) (hb : 0 < b) (hb' : b ≤ 1099511627776) : PU q1D [.int .i64 a, .int .i64 b] = some (.int .i64 (q4e a b)) := by
 by_cases h0 : 0 ≤ a
 ·exact qcS a b h0 ha hb hb'
 refine q0i (fn := q2f) rfl (q0a ?_)
 refine go 800 rfl ?_
 refine q02 rfl (fun h => ?_) (fun h => ?_)
 ·refine go 800 rfl ?_
  have w1 : IntKind.i64.wrap (0 - a) = -a := by rw [wrap64 (by omega) (by omega)]; omega
  rw [w1]
  refine q00 rfl rfl (qcS (-a) b (by omega) (by omega) hb hb') ?_
  refine go 800 rfl ?_
  refine q0c rfl rfl rfl trivial ?_
  have hq : (2 * (-a) + b) / (2 * b) ≤ 2 * (-a) + b := Int.ediv_le_self _ (by omega)
  have hq0 : 0 ≤ (2 * (-a) + b) / (2 * b) := Int.ediv_nonneg (by omega) (by omega)
  rw [q4e, if_neg (by omega), q4e, if_pos (by omega), wrap64 (by omega) (by omega)]
  simp
 ·rw [q0d] at h; omega
end Go.F

namespace Go.F
attribute [local irreducible] IntKind.wrap wpM
def wd (ws : List Int) (i : Nat) : Int := ws.getD i 0
theorem qey {ws : List Int} {i : Nat} (h : i < ws.length) : (ws.map q01)[i]? = some (q01 (wd ws i)) := by simp [wd, h]
def q1I (l : List Edge) (ws : List Int) : Nat → List Int
 | 0 => []
 | k + 1 => q1I l ws k ++ List.replicate ((eg l k).line.length - 1) (wd ws k)
theorem q9K (l : List Edge) (ws : List Int) : ∀ k, k ≤ l.length → (q1I l ws k).length = (q0m (l.take k)).length := by
 intro k
 induction k with
 | zero => intro _; simp [q1I, q0m]
 | succ k ih =>
   intro hk
   rw [q1I, q2q (by omega), List.length_append, List.length_append, ih (by omega)]
   simp
set_option maxHeartbeats 1000000 in
theorem q7y (l : List Edge) (ws : List Int) (hw : l.length ≤ ws.length) (h1 : ∀ e ∈ l, 1 ≤ e.line.length ∧ e.line.length ≤ 100000) (hl : l.length ≤ 100000) (hv : (q0m l).length ≤ 100000) : PU q1R [q0A l, ints ws] = some (ints (q1I l ws l.length)) := by
 have hlen : ∀ k, k ≤ l.length → (q1I l ws k).length ≤ 100000 := by
  intro k hk
  rw [q9K l ws k hk]
  have := q9H (l := l) k
  omega
 refine q0i (fn := q1S) rfl (q0a ?_)
 refine go 800 rfl ?_
 refine q0x (S := fun k : Nat => ([ints ws, .ref 1 0 (q1I l ws k).length, q0A l, q01 l.length, q01 k], [none, some (.row ((q1I l ws k).map q01) 1), none, none, none], [0, 0, 0, 0, 0])) (C := fun k => k ≤ l.length) (m := fun k => l.length - k) 0 (by omega) (by omega) ?_ ?_
 ·exact q05 rfl ⟨rfl, trivial⟩ (by simp [q0A, ints, q01, q1I])
 intro k hk N hN
 refine go 800 rfl ?_
 refine q02 rfl (fun g1 => ?_) (fun g1 => ?_)
 ·rw [q0b] at g1
  have hlt : k < l.length := by omega
  have w1 : IntKind.i64.wrap ((k : Int) + 1) = ((k + 1 : Nat) : Int) := wrap64 (by omega) (by omega)
  have hln : 1 ≤ (eg l k).line.length ∧ (eg l k).line.length ≤ 100000 := by rw [qet hlt]; exact h1 _ (List.getElem_mem hlt)
  have w2 : IntKind.i64.wrap (((eg l k).line.length : Int) - 1) = (((eg l k).line.length - 1 : Nat) : Int) := by rw [wrap64 (by omega) (by omega)]; omega
  have hk1 := hlen (k + 1) (by omega)
  rw [q1I, List.length_append, List.length_replicate] at hk1
  refine go 800 rfl ?_
  refine q0y k rfl rfl rfl (q2Q hlt) rfl ?_
  refine go 800 rfl ?_
  refine q0x (S := fun j : Nat => ([ints ws, .ref 1 0 ((q1I l ws k).length + j), q01 k, q0A l, q01 l.length, q01 k, q01 ((eg l k).line.length - 1 : Nat), q01 j],
   [none, some (.row ((q1I l ws k ++ List.replicate j (wd ws k)).map q01) 1), none, none, none, none, none, none], [0, 0, 0, 0, 0, 0, 0, 0]))
   (C := fun j => j ≤ (eg l k).line.length - 1) (m := fun j => (eg l k).line.length - j) 0 (by omega) (by omega) ?_ ?_
  ·exact q05 rfl ⟨q07 qcc _, trivial⟩ (by simp [q0A, ints, q01, w2])
  intro j hj N2 hN2
  refine go 800 rfl ?_
  refine q02 rfl (fun e1 => ?_) (fun e1 => ?_)
  ·rw [q0b] at e1
   have hjl : j < (eg l k).line.length - 1 := by omega
   have wj : IntKind.i64.wrap ((j : Int) + 1) = ((j + 1 : Nat) : Int) := wrap64 (by omega) (by omega)
   refine go 800 rfl ?_
   refine q0y k rfl rfl rfl (qey (by omega)) rfl ?_
   refine go 800 rfl ?_
   refine q2w rfl rfl rfl rfl rfl rfl (by simp) (Nat.zero_le _) (by simp [q0O] at *; omega) ?_
   refine go 800 rfl ?_
   refine q09 ?_
   refine hN2 (j + 1) (by omega) (by omega) (q05 rfl ⟨?_, trivial⟩ ?_)
   ·rw [List.all_append, q07 qcc]; rfl
   ·simp [q0A, ints, q01, wj, List.replicate_succ']
    omega
  rw [q0d] at e1
  clear hN2
  obtain rfl : j = (eg l k).line.length - 1 := by omega
  refine go 800 rfl ?_
  refine q09 ?_
  refine go 800 rfl ?_
  refine q09 ?_
  refine hN (k + 1) (by omega) (by omega) (q05 rfl ⟨q07 qcc _, trivial⟩ ?_)
  simp [q0A, ints, q01, w1, q1I]
 rw [q0d] at g1
 obtain rfl : k = l.length := by omega
 refine go 800 rfl ?_
 refine q09 ?_
 refine go 800 rfl ?_
 refine q0c rfl rfl rfl ⟨qci (by simp) (q2U qo9 _), trivial⟩ ?_
 rw [qaR (by simp), ints]
end Go.F

namespace Go.F
open Ieee
theorem qh2 (a b : Nat) : a <<< b = a * 2 ^ b := Nat.shiftLeft_eq a b
theorem dbl : FloatKind.f64.format = Ieee.double := rfl
theorem qh3 {n k : Nat} (h : n < 2 ^ (k + 1)) : n.log2 ≤ k := by
 by_cases h0 : n = 0
 ·subst h0; simp
 ·have := (Nat.log2_lt h0).2 h
  omega
theorem cut_le {neg : Bool} {n drop k : Nat} (h : n < 2 ^ k * 2 ^ drop) : Toward.even.cut neg n drop ≤ 2 ^ k := by
 unfold Toward.cut
 simp only
 have hg : ∀ g : Nat, 0 < g → n < 2 ^ k * g → n / g + 1 ≤ 2 ^ k := by
  intro g hg hn
  have := (Nat.div_lt_iff_lt_mul hg).2 hn
  omega
 by_cases hd : drop ≤ n.log2 + 2
 ·rw [Nat.min_eq_left hd, Nat.one_shiftLeft]
  have := hg _ (Nat.two_pow_pos drop) h
  have hb := Bool.toNat_le (decide (2 ^ drop < 2 * (n % 2 ^ drop)) || (2 ^ drop == 2 * (n % 2 ^ drop) && n / 2 ^ drop % 2 == 1))
  omega
 ·rw [Nat.min_eq_right (by omega), Nat.one_shiftLeft]
  have hn : n < 2 ^ (n.log2 + 2) := Nat.lt_of_lt_of_le Nat.lt_log2_self (Nat.pow_le_pow_right (by omega) (by omega))
  have h0 : n / 2 ^ (n.log2 + 2) = 0 := Nat.div_eq_of_lt hn
  have := Nat.two_pow_pos k
  have hb := Bool.toNat_le (decide (2 ^ (n.log2 + 2) < 2 * (n % 2 ^ (n.log2 + 2))) || (2 ^ (n.log2 + 2) == 2 * (n % 2 ^ (n.log2 + 2)) && n / 2 ^ (n.log2 + 2) % 2 == 1))
  rw [h0] at hb ⊢
  omega
theorem qez {mag : Nat} {place e : Int} (h : place + mag.log2 ≤ e) (he : -1000 ≤ e) : (double.nearest false mag place : Int) ≤ (e + 1024) * 4503599627370496 := by
 unfold Format.nearest
 by_cases h0 : mag = 0
 ·rw [if_pos h0]
  simp only [Format.word]
  simp
  omega
 rw [if_neg h0]
 simp only [Format.word]
 have hb : double.binade = 4503599627370496 := rfl
 have hl : double.leastPlace = -1074 := rfl
 have hf : (double.fractionBits : Int) = 52 := rfl
 rw [hb, hl, hf]
 generalize hlast : max (place + (mag.log2 : Int) - 52) (-1074) = last
 have hm : mag < 2 ^ (mag.log2 + 1) := Nat.lt_log2_self
 have hk : Toward.even.cut false (mag <<< (place - last).toNat) (last - place).toNat ≤ 2 ^ 53 := by
  refine cut_le ?_
  rw [qh2]
  rcases Int.le_total last place with hc | hc
  ·have e1 : (last - place).toNat = 0 := by omega
   rw [e1, Nat.pow_zero, Nat.mul_one]
   have e2 : (place - last).toNat + (mag.log2 + 1) ≤ 53 := by omega
   calc mag * 2 ^ (place - last).toNat < 2 ^ (mag.log2 + 1) * 2 ^ (place - last).toNat := Nat.mul_lt_mul_of_pos_right hm (Nat.two_pow_pos _)
    _ = 2 ^ ((place - last).toNat + (mag.log2 + 1)) := by rw [← Nat.pow_add, Nat.add_comm]
    _ ≤ 2 ^ 53 := Nat.pow_le_pow_right (by omega) e2
  ·have e1 : (place - last).toNat = 0 := by omega
   rw [e1, Nat.pow_zero, Nat.mul_one, ← Nat.pow_add]
   exact Nat.lt_of_lt_of_le hm (Nat.pow_le_pow_right (by omega) (by omega))
 generalize Toward.even.cut false (mag <<< (place - last).toNat) (last - place).toNat = kept at hk ⊢
 generalize double.infRung = inf
 have h2 : (last - -1074).toNat ≤ (e + 1022).toNat := by omega
 generalize (last - -1074).toNat = q at h2 ⊢
 clear hlast hm h0 h
 simp only [Bool.false_eq_true, if_false]
 have hk' : kept ≤ 9007199254740992 := hk
 have h4 : min (q * 4503599627370496 + kept) inf ≤ q * 4503599627370496 + kept := Nat.min_le_left _ _
 generalize min (q * 4503599627370496 + kept) inf = z at h4 ⊢
 have h5 : (q : Int) ≤ e + 1022 := by omega
 clear hk
 omega
theorem qkz {w : Nat} {E : Nat} (hE1 : 1 ≤ E) (hE : E ≤ 2000) (h : w ≤ E * 4503599627370496) : ∃ m i, double.read w = .number false m i ∧ m < 9007199254740992 ∧ i ≤ -1075 + E := by
 unfold Format.read
 have hb : double.binade = 4503599627370496 := rfl
 have hl : double.leastPlace = -1074 := rfl
 have hs : double.signWeight = 9223372036854775808 := rfl
 have hi : double.infRung = 9218868437227405312 := rfl
 simp only [hb, hl, hs, hi]
 have h1 : w / 9223372036854775808 = 0 := by omega
 have h2 : w % 9223372036854775808 = w := by omega
 rw [h1, h2]
 by_cases hc : w < 4503599627370496
 ·rw [if_pos hc]
  exact ⟨w, -1074, rfl, by omega, by omega⟩
 ·rw [if_neg hc, if_pos (by omega)]
  refine ⟨_, _, rfl, by omega, ?_⟩
  have : w / 4503599627370496 ≤ E := by omega
  omega
theorem qii (n : Nat) : ∀ (todo root : Nat), Datum.rootFrom n todo root < root + 2 ^ todo := by
 intro todo
 induction todo with
 | zero => intro root; simp [Datum.rootFrom]
 | succ k ih =>
   intro root
   rw [Datum.rootFrom]
   rw [Nat.one_shiftLeft]
   have hp : 2 ^ (k + 1) = 2 ^ k + 2 ^ k := by rw [Nat.pow_succ]; omega
   split
   ·have := ih (root + 2 ^ k); omega
   ·have := ih root; have := Nat.two_pow_pos k; omega
theorem qnl {m : Nat} {i : Int} (hm : m < 9007199254740992) (hi : i ≤ -25) : ∃ r : Int, Datum.toInt .zero (.number false m i) = some r ∧ 0 ≤ r ∧ r ≤ 268435456 := by
 unfold Datum.toInt Datum.integral
 refine ⟨_, rfl, ?_⟩
 simp only [signed, Bool.false_eq_true, if_false]
 have e1 : i.toNat = 0 := by omega
 rw [e1, qh2, qh2]
 simp only [Nat.pow_zero, Nat.mul_one]
 have : Toward.zero.cut false m (-i).toNat ≤ 268435456 := by
  unfold Toward.cut
  simp only [Bool.toNat_false, Nat.add_zero, Nat.one_shiftLeft]
  by_cases hd : (-i).toNat ≤ m.log2 + 2
  ·rw [Nat.min_eq_left hd]
   have h2 : 2 ^ 25 ≤ 2 ^ (-i).toNat := Nat.pow_le_pow_right (by omega) (by omega)
   have h3 : m / 2 ^ (-i).toNat ≤ m / 2 ^ 25 := Nat.div_le_div_left h2 (by decide)
   have h4 : (2 : Nat) ^ 25 = 33554432 := by decide
   rw [h4] at h3
   omega
  ·rw [Nat.min_eq_right (by omega)]
   have hn : m < 2 ^ (m.log2 + 2) := Nat.lt_of_lt_of_le Nat.lt_log2_self (Nat.pow_le_pow_right (by omega) (by omega))
   rw [Nat.div_eq_of_lt hn]
   omega
 constructor
 ·omega
 ·omega
theorem qlN (n : Nat) (hn : n < 2 ^ 51) : ∃ (y : Nat) (r : Int), FloatKind.f64.format.sqrt (FloatKind.f64.nearest n) = some y ∧ (FloatKind.f64.decode y).toInt .zero = some r ∧ 0 ≤ r ∧ r ≤ 268435456 := by
 have hx : FloatKind.f64.nearest n = double.nearest false n 0 := by
  unfold FloatKind.nearest FloatKind.encode Format.write
  rw [show decide ((n : Int) < 0) = false by simp]
  rfl
 have h1 := qez (mag := n) (place := 0) (e := 50) (by have := qh3 (k := 50) hn; omega) (by omega)
 obtain ⟨m, i, hr, hm, hi⟩ := qkz (w := double.nearest false n 0) (E := 1074) (by omega) (by omega) (by omega)
 have key : ∀ (mag : Nat) (place : Int), place + mag.log2 ≤ 26 → ∃ r : Int, (double.read (double.nearest false mag place)).toInt .zero = some r ∧ 0 ≤ r ∧ r ≤ 268435456 := by
  intro mag place h
  have h2 := qez (mag := mag) (place := place) (e := 26) h (by omega)
  obtain ⟨m', i', hr', hm', hi'⟩ := qkz (w := double.nearest false mag place) (E := 1050) (by omega) (by omega) (by omega)
  rw [hr']
  exact qnl hm' (by omega)
 rw [hx, dbl]
 unfold Format.sqrt
 rw [hr]
 unfold Datum.root
 by_cases h0 : m = 0
 ·subst h0
  simp only [if_true, Option.map_some, Format.write]
  obtain ⟨r, g1, g2, g3⟩ := key 0 i (by simp; omega)
  exact ⟨_, r, rfl, g1, g2, g3⟩
 ·simp only [h0, if_false, Bool.false_eq_true, Option.map_some, Format.write]
  generalize 2 * (double.fractionBits + 2) - m.log2 + ((i - (2 * (double.fractionBits + 2) - m.log2 : Nat)) % 2).toNat = more
  have hnn : m <<< more < 2 ^ (52 + more + 1) := by
   rw [qh2, show 52 + more + 1 = 53 + more by omega, Nat.pow_add]
   exact Nat.mul_lt_mul_of_pos_right (by simpa using hm) (Nat.two_pow_pos _)
  have hlog := qh3 hnn
  have hw := qii (m <<< more) ((m <<< more).log2 / 2 + 1) 0
  generalize hT : (m <<< more).log2 / 2 + 1 = T at hw ⊢
  generalize Datum.rootFrom (m <<< more) T 0 = whole at hw ⊢
  have hbit := Bool.toNat_le (whole * whole != m <<< more)
  generalize (whole * whole != m <<< more).toNat = bit at hbit ⊢
  have hmag : 2 * whole + bit < 2 ^ (T + 1) := by rw [Nat.pow_succ]; omega
  have hl := qh3 hmag
  obtain ⟨r, g1, g2, g3⟩ := key (2 * whole + bit) ((i - more) / 2 - 1) (by omega)
  exact ⟨_, r, rfl, g1, g2, g3⟩
end Go.F
