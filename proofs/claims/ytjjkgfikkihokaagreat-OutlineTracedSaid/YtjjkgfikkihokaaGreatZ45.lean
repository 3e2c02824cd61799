/- Parts of the proof, part 45: Nat12, Int1, Rat1, Rat2, Rat3, Pt1, All3, All4, All5, All6, Ex1, Ex2, Sml, Zero, Nz1, Nz2, Nz3, Nz4, Nz5, Nz6, Nz7, Nz8, Nz9, SegP, Turn1, Turn2, Turn3, RN1, RN2, RN3, RN4, RefA, RefB, RN5, Crv1, Crv2, Map1, Cmp1, Trc1. -/
import Derived.Test.YtjjkgfikkihokaaGreatZ44
import Derived.KernelRfl
set_option linter.all false
namespace Go.F
attribute [local irreducible] IntKind.wrap wpM
theorem qss {U : List Nat} {i n : Nat} (h : i + n + 1 ≤ U.length) : U = U.take i ++ (U.drop i).take (n + 1) ++ U.drop (i + n + 1) ∧ (U.take i).length = i ∧ ((U.drop i).take (n + 1)).length = n + 1 := by
 refine ⟨?_, by simp; omega, by simp; omega⟩
 rw [List.append_assoc, show U.drop (i + n + 1) = (U.drop i).drop (n + 1) by rw [List.drop_drop]; congr 1, List.take_append_drop, List.take_append_drop]
theorem qap {l : List Nat} {n : Nat} (h : val l < 4294967296 ^ n) : val (l.drop n) = 0 ∧ val (l.take n) = val l := by
 have := q2Z l n
 have hz : val (l.drop n) = 0 := by
  by_cases h0 : val (l.drop n) = 0
  ·exact h0
  ·have : 4294967296 ^ n * 1 ≤ 4294967296 ^ n * val (l.drop n) := Nat.mul_le_mul_left _ (by omega)
   omega
 rw [hz] at this
 exact ⟨hz, by omega⟩
structure Dv (r v U Q : List Nat) (n m j : Nat) : Prop where
 jm : j ≤ m
 ul : U.length = m + n
 uo : LOk U
 ql : Q.length = m
 qo : LOk Q
 lt : val (U.drop j) < val (v.take n)
 eq : val r = val U + val (v.take n) * (4294967296 ^ j * val (Q.drop j))
theorem Dv.trial {r v U Q : List Nat} {n m j : Nat} (h : Dv r v U Q n m (j + 1)) (n2 : 2 ≤ n) (vo : LOk v) (vl : n ≤ v.length) (hi : 2147483648 ≤ dg v (n - 1)) :
 Trial ((U.drop j).take (n + 1)) v n ∧ val ((U.drop j).take (n + 1)) = val (U.drop j) := by
 have hl := h.ul
 have hj := h.jm
 have hV := q2h vo n
 have hlt := h.lt
 have e1 : val (U.drop j) < 4294967296 * val (v.take n) := by
  rw [q35]
  have := q1o h.uo j
  omega
 have e2 : val (U.drop j) < 4294967296 ^ (n + 1) := by
  rw [Nat.pow_succ]
  have : 4294967296 * val (v.take n) ≤ 4294967296 * 4294967296 ^ n := Nat.mul_le_mul_left _ (by omega)
  omega
 have e3 := (qap e2).2
 exact ⟨⟨n2, by simp; omega, (h.uo.drop j).take _, vo, vl, hi, by rw [e3]; exact e1⟩, e3⟩
theorem Dv.next {r v U Q w' : List Nat} {n m j : Nat} (h : Dv r v U Q n m (j + 1)) (T : Trial ((U.drop j).take (n + 1)) v n) (hw : val ((U.drop j).take (n + 1)) = val (U.drop j)) (hl' : w'.length = n + 1) (ho' : LOk w') (hv' : val w' = val ((U.drop j).take (n + 1)) % val (v.take n)) :
 Dv r v (U.take j ++ w' ++ U.drop (j + n + 1)) (Q.set j (val ((U.drop j).take (n + 1)) / val (v.take n))) n m j := by
 have hl := h.ul
 have hj := h.jm
 have hpos := T.pos.2
 have hq := T.qlt
 obtain ⟨w1, w2, w3⟩ := qss (U := U) (i := j) (n := n) (by omega)
 have hpz : val (U.drop (j + n + 1)) = 0 := by
  have := q2Z (U.drop j) (n + 1)
  rw [hw, List.drop_drop, show j + (n + 1) = j + n + 1 by omega] at this
  have hp : 0 < 4294967296 ^ (n + 1) := Nat.pow_pos (by decide)
  have h0 : 4294967296 ^ (n + 1) * val (U.drop (j + n + 1)) = 0 := by omega
  rcases Nat.mul_eq_zero.1 h0 with h1 | h1
  ·omega
  ·exact h1
 refine ⟨by omega, by simp [hl']; omega, ((h.uo.take j).append ho').append (h.uo.drop _), by simp [h.ql], h.qo.set _ hq, ?_, ?_⟩
 ·rw [List.append_assoc, List.drop_left' w2, val_append, hpz, hv']
  have := Nat.mod_lt (val ((U.drop j).take (n + 1))) hpos
  omega
 ·have heq := h.eq
  have e1 : val (U.take j ++ w' ++ U.drop (j + n + 1)) = val (U.take j) + 4294967296 ^ j * val w' := by
   rw [List.append_assoc, val_append, val_append, w2, hpz]; simp
  have e2 : val U = val (U.take j) + 4294967296 ^ j * val (U.drop j) := q2Z U j
  rw [e1, q35, q3w, if_pos ⟨rfl, by rw [h.ql]; omega⟩, List.drop_set_of_lt (by omega), hv', hw]
  rw [heq, e2, Nat.pow_succ]
  have hdm := Nat.div_add_mod (val (U.drop j)) (val (v.take n))
  generalize val (v.take n) = V at *
  generalize val (U.drop j) / V = q at *
  generalize val (U.drop j) % V = R at *
  rw [← hdm]
  generalize val (Q.drop (j + 1)) = X
  generalize 4294967296 ^ j = P
  grind
set_option maxHeartbeats 8000000 in
theorem qeE (a b : List Nat) [ha : LOk a] [hb : LOk b] (hla : a.length ≤ 900000000) (hlb : b.length ≤ 900000000) :
 PU q3R [nat a, nat b] = some (if val b = 0 then .tup [nat [], nat [], .bool false] else .tup [nat (q0d (val a / val b)), nat (q0d (val a % val b)), .bool true]) := by
 have ea : val (q0d (val a)) = val a := q0j _
 have eb : val (q0d (val b)) = val b := q0j _
 have hla' := q1J ha
 have hlb' := q1J hb
 refine q0f (fn := q7g) rfl (q0a ?_)
 refine go 800 rfl ?_
 refine q00 rfl rfl (q2Q a (by omega)) ?_
 refine go 800 rfl ?_
 refine q00 rfl rfl (q2Q b (by omega)) ?_
 refine go 800 rfl ?_
 have hAo : LOk (q0d (val a)) := q0x _
 have hBo : LOk (q0d (val b)) := q0x _
 have hb0 : (q0d (val b)).length = 0 ↔ val b = 0 := by rw [List.length_eq_zero_iff]; exact qhY
 have hbtop : val b ≠ 0 → dg (q0d (val b)) ((q0d (val b)).length - 1) ≠ 0 := qmz
 have hlen : val b ≤ val a → (q0d (val b)).length ≤ (q0d (val a)).length := fun h => q0l.2 (Nat.lt_of_le_of_lt h (q0l.1 (Nat.le_refl _)))
 generalize q0d (val a) = A at *
 generalize q0d (val b) = B at *
 rw [List.length_map]
 refine q02 rfl (fun h1 => ?_) (fun h1 => ?_)
 ·rw [q2z] at h1
  refine go 800 rfl ?_
  refine q0c rfl rfl rfl trivial ?_
  rw [if_pos (hb0.1 (by omega))]; rfl
 rw [q1w] at h1
 have hvb : val b ≠ 0 := fun h => h1 (by have := hb0.2 h; omega)
 rw [if_neg hvb]
 refine go 800 rfl ?_
 refine q00 rfl rfl (qkz A B (by omega) (by omega)) ?_
 refine go 800 rfl ?_
 rw [ea, eb]
 refine q02 rfl (fun h2 => ?_) (fun h2 => ?_)
 ·rw [q06] at h2
  have hlt : val a < val b := by
   unfold q45 at h2
   split at h2
   ·omega
   ·split at h2 <;> omega
  refine go 800 rfl ?_
  refine q00 rfl rfl (q5T A (by omega)) ?_
  refine go 800 rfl ?_
  refine q0c rfl rfl rfl trivial ?_
  rw [Nat.div_eq_of_lt hlt, Nat.mod_eq_of_lt hlt, ea]; rfl
 rw [q07] at h2
 have hle : val b ≤ val a := by
  unfold q45 at h2
  split at h2
  ·omega
  ·omega
 have hlen := hlen hle
 refine go 800 rfl ?_
 rw [List.length_map]
 refine q02 rfl (fun h3 => ?_) (fun h3 => ?_)
 ·rw [q2z] at h3
  have hB1 : B.length = 1 := by omega
  have hd := q1o hBo 0
  have ev : val B = dg B 0 := by
   have := q0M B 0
   rw [List.take_of_length_le (by omega)] at this
   simpa [val] using this
  have hd0 : dg B 0 ≠ 0 := by rw [← ev, eb]; exact hvb
  have w0 : IntKind.u64.wrap ((val A % dg B 0 : Nat) : Int) = ((val A % dg B 0 : Nat) : Int) := q0L (by have := Nat.mod_lt (val A) (show 0 < dg B 0 by omega); omega)
  refine go 800 rfl ?_
  refine q0i 0 rfl rfl rfl (q2G (by omega)) rfl ?_
  refine go 800 rfl ?_
  refine q00 rfl rfl (qvn A (dg B 0) (by omega) hd0 hd) ?_
  refine go 800 rfl ?_
  rw [w0]
  refine q00 rfl rfl (q7I (val A % dg B 0) (by have := Nat.mod_lt (val A) (show 0 < dg B 0 by omega); omega)) ?_
  refine go 800 rfl ?_
  refine q0c rfl rfl rfl trivial ?_
  rw [← eb, ← ea, ev]
  rfl
 rw [q1w] at h3
 have hn2 : 2 ≤ B.length := by omega
 generalize hn : B.length = n at *
 have wn1 : IntKind.i64.wrap ((n : Int) - 1) = ((n - 1 : Nat) : Int) := by rw [wrap64 (by omega) (by omega)]; omega
 obtain ⟨s, hs1, hs2, hs3, hs4⟩ := qgJ (dg B (n - 1)) (q1o hBo _) (hbtop hvb)
 refine go 800 rfl ?_
 rw [List.length_map, hn]
 refine q0i (n - 1) rfl rfl wn1 (q2G (by omega)) rfl ?_
 refine go 800 rfl ?_
 refine q00 rfl rfl hs1 ?_
 refine go 800 rfl ?_
 refine q7A rfl rfl ?_
 refine left1 A s (by omega) hs2 trivial fun r h' z' hr hro hrv hh' hz' _ => ?_
 refine go 800 rfl ?_
 refine q7A rfl rfl ?_
 refine left2 B s (by omega) hs2 r ⟨hh', hz'⟩ fun v h'' z'' hv hvo hvv hh'' hz'' hold => ?_
 obtain ⟨h0, rfl⟩ : ∃ h0 : q0e, h'' = upd (upd h0 80 (some (.row (r.map u32) 1))) 131 (some (.row (v.map u32) 1)) := ⟨h'', by rw [q2w (f := h'') hold.1, q2w (f := h'') hh'']⟩
 obtain ⟨z0, rfl⟩ : ∃ z0 : Frz, z'' = upd (upd z0 80 0) 131 0 := ⟨z'', by rw [q2w (f := z'') hold.2, q2w (f := z'') hz'']⟩
 rw [hn] at hv
 refine go 800 rfl ?_
 refine q8n n rfl rfl rfl ⟨_, _, rfl, rfl⟩ (by omega) ?_
 refine go 800 rfl ?_
 have wm : IntKind.i64.wrap (((A.length + 1 : Nat) : Int) - (n : Int)) = ((A.length + 1 - n : Nat) : Int) := by rw [wrap64 (by omega) (by omega)]; omega
 rw [wm]
 refine q4g (A.length + 1 - n) rfl rfl rfl (by simp [q0K]; omega) ?_
 rw [q8x]
 refine go 800 rfl ?_
 have wm1 : IntKind.i64.wrap (((A.length + 1 - n : Nat) : Int) - 1) = ((A.length + 1 - n : Nat) : Int) - 1 := wrap64 (by omega) (by omega)
 generalize hm : A.length + 1 - n = m at *
 have hAl : A.length + 1 = m + n := by omega
 rw [hAl] at hr
 have hvV : val (v.take n) = val b * 2 ^ s := by
  have h5 : val v < 4294967296 ^ n := by
   rw [hvv]
   have e1 := q0M B (n - 1)
   rw [Nat.sub_add_cancel (by omega), List.take_of_length_le (by omega)] at e1
   have e2 := q2h hBo (n - 1)
   have e3 : val B < 4294967296 ^ (n - 1) * (dg B (n - 1) + 1) := by rw [e1, Nat.mul_add]; omega
   have e4 : 4294967296 ^ n = 4294967296 ^ (n - 1) * 4294967296 := by rw [← Nat.pow_succ]; congr 1; omega
   calc val B * 2 ^ s < 4294967296 ^ (n - 1) * (dg B (n - 1) + 1) * 2 ^ s := Nat.mul_lt_mul_of_pos_right e3 (Nat.two_pow_pos s)
    _ = 4294967296 ^ (n - 1) * ((dg B (n - 1) + 1) * 2 ^ s) := Nat.mul_assoc _ _ _
    _ ≤ 4294967296 ^ (n - 1) * 4294967296 := Nat.mul_le_mul_left _ hs4
    _ = 4294967296 ^ n := e4.symm
  rw [(qap h5).2, hvv, eb]
 have hvtop : 2147483648 ≤ dg v (n - 1) := by
  rw [qrd hvo, hvv]
  have e1 := q0M B (n - 1)
  rw [Nat.sub_add_cancel (by omega), List.take_of_length_le (by omega)] at e1
  have e2 : dg B (n - 1) * 2 ^ s ≤ val B * 2 ^ s / 4294967296 ^ (n - 1) := by
   rw [Nat.le_div_iff_mul_le (Nat.pow_pos (by decide)), e1, Nat.mul_right_comm]
   refine Nat.mul_le_mul_right _ ?_
   rw [Nat.mul_comm]; omega
  have e3 : val B * 2 ^ s / 4294967296 ^ (n - 1) < 4294967296 := by
   rw [Nat.div_lt_iff_lt_mul (Nat.pow_pos (by decide)), Nat.mul_comm 4294967296, ← Nat.pow_succ, show (n - 1).succ = n by omega, eb, ← hvV]
   exact q2h hvo n
  rw [Nat.mod_eq_of_lt e3]
  omega
 have hstart : Dv r v r (List.replicate m 0) n m m := by
  refine ⟨Nat.le_refl _, hr, hro, by simp, q5F _, ?_, by simp [val]⟩
  have e1 := q2Z r m
  have e2 : val r < 4294967296 ^ m * (4294967296 ^ (n - 1) * 2 ^ s) := by
   rw [hrv, ← Nat.mul_assoc, ← Nat.pow_add, show m + (n - 1) = A.length by omega]
   exact Nat.mul_lt_mul_of_pos_right (q3f hAo) (Nat.two_pow_pos s)
  have e3 : val (r.drop m) < 4294967296 ^ (n - 1) * 2 ^ s := by
   refine Nat.lt_of_mul_lt_mul_left (a := 4294967296 ^ m) ?_
   omega
  have e4 : 4294967296 ^ (n - 1) * dg v (n - 1) ≤ val (v.take n) := by
   have := q0M v (n - 1)
   rw [Nat.sub_add_cancel (by omega)] at this
   omega
  have e5 : 2 ^ s ≤ 2147483648 := by simpa using Nat.pow_le_pow_right (n := 2) (by decide) hs2
  have e6 : 4294967296 ^ (n - 1) * 2 ^ s ≤ 4294967296 ^ (n - 1) * dg v (n - 1) := Nat.mul_le_mul_left _ (by omega)
  omega
 refine q0p (S := fun x : Nat × List Nat × List Nat => ([q01 n, q01 s, .ref 2 0 (m + n), .ref 3 0 n, .ref 4 0 m, q01 ((x.1 : Int) - 1)], [none, none, some (.row (x.2.1.map u32) 1), some (.row (v.map u32) 1), some (.row (x.2.2.map u32) 1), none], [0, 0, 0, 0, 0, 0]))
  (C := fun x => Dv r v x.2.1 x.2.2 n m x.1) (m := fun x => x.1) (m, r, List.replicate m 0) hstart (by simp only; omega) ?_ ?_
 ·exact q03 rfl ⟨q04 q0q _, q04 q0q _, q04 q0q _, trivial⟩ (by simp [q01, wm1, hAl])
 rintro ⟨j, U, Q⟩ hD N hN
 simp only at hD
 have hul := hD.ul
 have hql := hD.ql
 have hjm := hD.jm
 refine go 800 rfl ?_
 refine q02 rfl (fun g1 => ?_) (fun g1 => ?_)
 ·rw [q1k] at g1
  simp only at g1
  obtain ⟨i, rfl⟩ : ∃ i, j = i + 1 := ⟨j - 1, by omega⟩
  obtain ⟨T, hT⟩ := hD.trial hn2 hvo (by omega) hvtop
  obtain ⟨w1, w2, w3⟩ := qss (U := U) (i := i) (n := n) (by omega)
  have ei : ((i + 1 : Nat) : Int) - 1 = (i : Int) := by omega
  have wi : IntKind.i64.wrap (IntKind.i64.wrap ((i : Int) + (n : Int)) + 1) = ((i + n + 1 : Nat) : Int) := by rw [wrap64 (x := (i : Int) + n) (by omega) (by omega), wrap64 (by omega) (by omega)]; omega
  refine go 800 rfl ?_
  rw [ei]
  refine qlk i (i + n + 1) rfl rfl rfl ⟨_, _, rfl, rfl⟩ ⟨_, _, rfl, wi⟩ (by omega) ?_
  have esl : (if i = 0 then D.ref 2 0 (i + n + 1) else if i = i + n + 1 then D.lst [] else D.ref 2 (0 + i) (i + n + 1 - i)) = D.ref 2 (U.take i).length (n + 1) := by
   rw [w2]
   by_cases hi0 : i = 0
   ·subst hi0; simp
   ·rw [if_neg hi0, if_neg (by omega)]; congr 1 <;> omega
  rw [esl]
  refine go 800 rfl ?_
  refine q7A rfl rfl ?_
  refine qvk (U.take i) ((U.drop i).take (n + 1)) (U.drop (i + n + 1)) v Q n T (by omega) (Old.of (by rw [← w1]; rfl) rfl rfl rfl rfl rfl) fun w' h' z' nx' hnx hl' ho' hv' hold => ?_
  obtain ⟨⟨h1, rfl⟩, z1, rfl⟩ := hold
  have hD' := hD.next T hT hl' ho' hv'
  generalize U.take i ++ w' ++ U.drop (i + n + 1) = U' at *
  have hq := T.qlt
  generalize val ((U.drop i).take (n + 1)) / val (v.take n) = qd at *
  have wj : IntKind.i64.wrap ((i : Int) - 1) = (i : Int) - 1 := wrap64 (by omega) (by omega)
  rcases hnx with rfl | rfl
  ·refine go 800 rfl ?_
   refine q0B i rfl rfl rfl rfl rfl (by omega) ?_
   refine go 800 rfl ?_
   refine q25 Q i qd rfl rfl (Nat.zero_add _) rfl rfl (Nat.zero_le _) (by omega) ?_
   refine go 800 rfl ?_
   refine q05 ?_
   exact hN (i, U', Q.set i qd) hD' (by simp only; omega) (q03 rfl ⟨q04 q0q _, q04 q0q _, q04 q0q _, trivial⟩ (by simp [q01, wj]))
  ·refine go 800 rfl ?_
   refine q0B i rfl rfl rfl rfl rfl (by omega) ?_
   refine go 800 rfl ?_
   refine q25 Q i qd rfl rfl (Nat.zero_add _) rfl rfl (Nat.zero_le _) (by omega) ?_
   refine go 800 rfl ?_
   refine q05 ?_
   exact hN (i, U', Q.set i qd) hD' (by simp only; omega) (q03 rfl ⟨q04 q0q _, q04 q0q _, q04 q0q _, trivial⟩ (by simp [q01, wj]))
 ·rw [q1f] at g1
  simp only at g1
  obtain rfl : j = 0 := by omega
  have heq := hD.eq
  have hlt := hD.lt
  simp only [Nat.pow_zero, Nat.one_mul, List.drop_zero] at heq hlt
  have hU : val U < 4294967296 ^ n := Nat.lt_trans hlt (q2h hvo n)
  have hUt := (qap hU).2
  have hpos : 0 < val (v.take n) := by omega
  have hQ : val Q = val a / val b := by
   have : val Q = val r / val (v.take n) := by rw [heq, Nat.add_mul_div_left _ _ hpos, Nat.div_eq_of_lt hlt, Nat.zero_add]
   rw [this, hrv, hvV, ea, Nat.mul_div_mul_right _ _ (Nat.two_pow_pos s)]
  have hR : val (U.take n) / 2 ^ s = val a % val b := by
   have : val U = val r % val (v.take n) := by rw [heq, Nat.add_mul_mod_self_left, Nat.mod_eq_of_lt hlt]
   rw [hUt, this, hrv, hvV, ea, Nat.mul_mod_mul_right, Nat.mul_div_cancel _ (Nat.two_pow_pos s)]
  have hQo := hD.qo
  have hUo : LOk (U.take n) := hD.uo.take n
  have hp := q2Q Q (by omega)
  rw [hQ] at hp
  have hp2 := qi0 (U.take n) s (by simp; omega) hs2
  rw [hR] at hp2
  have hrow : D.lst ((U.map u32).take n) = nat (U.take n) := by rw [nat, List.map_take]
  refine go 800 rfl ?_
  refine q05 ?_
  refine go 800 rfl ?_
  refine q1Z rfl rfl ⟨q4b (l := Q) hql.symm, trivial⟩ (by rw [q4A (l := Q) hql.symm]; exact hp) fun z => ?_
  refine go 800 rfl ?_
  refine q8n n rfl rfl rfl ⟨_, _, rfl, rfl⟩ (by omega) ?_
  refine go 800 rfl ?_
  refine q1Z rfl rfl ⟨⟨by simp; omega, ?_⟩, trivial⟩ (by rw [hrow]; exact hp2) fun z => ?_
  ·rw [List.drop_zero, ← List.map_take]; exact q0T qsp _
  refine go 800 rfl ?_
  exact q0c rfl rfl rfl trivial rfl
def bl (n : Nat) : Nat := if n = 0 then 0 else n.log2 + 1
theorem qps {n k : Nat} (h : n < 4294967296 ^ k) : bl n ≤ 32 * k := by
 unfold bl
 split
 ·omega
 ·rename_i h0
  rw [show (4294967296 : Nat) = 2 ^ 32 by decide, ← Nat.pow_mul] at h
  exact (Nat.log2_lt h0).2 h
theorem qvl {x y : Nat} (hy : y ≠ 0) (h : y ≤ x) : bl (x % y) < bl x := by
 have hx : x ≠ 0 := by omega
 unfold bl
 rw [if_neg hx]
 split
 ·omega
 ·rename_i h0
  have h2 : 2 * (x % y) ≤ x := by
   have hm := Nat.mod_lt x (show 0 < y by omega)
   have hd := Nat.div_add_mod x y
   have hq : 1 ≤ x / y := (Nat.le_div_iff_mul_le (by omega)).2 (by omega)
   have : y * 1 ≤ y * (x / y) := Nat.mul_le_mul_left _ hq
   omega
  have h3 : (x % y).log2 + 1 ≤ x.log2 := by
   have := (Nat.le_log2 hx (k := (x % y).log2 + 1)).2 (by
    have := Nat.log2_self_le h0
    rw [Nat.pow_succ]; omega)
   exact this
  omega
theorem Gcd_PU (a b : List Nat) [ha : LOk a] [hb : LOk b] (hla : a.length ≤ 900000000) (hlb : b.length ≤ 900000000) : PU qeY [nat a, nat b] = some (nat (q0d (Nat.gcd (val a) (val b)))) := by
 refine q0f (fn := qab) rfl (q0a ?_)
 refine go 800 rfl ?_
 refine q00 rfl rfl (q5T a (by omega)) ?_
 refine go 800 rfl ?_
 refine q00 rfl rfl (q5T b (by omega)) ?_
 refine go 800 rfl ?_
 obtain ⟨K, hK⟩ : ∃ K : Nat, K = 900000000 := ⟨_, rfl⟩
 rw [← hK] at hla hlb
 have hA := Nat.lt_of_lt_of_le (q3f ha) (Nat.pow_le_pow_right (show 0 < 4294967296 by decide) hla)
 have hB := Nat.lt_of_lt_of_le (q3f hb) (Nat.pow_le_pow_right (show 0 < 4294967296 by decide) hlb)
 refine q0p (S := fun x : Nat × Nat => ([nat (q0d x.1), nat (q0d x.2)], [none, none], [0, 0])) (C := fun x => x.1 < 4294967296 ^ K ∧ x.2 < 4294967296 ^ K ∧ Nat.gcd x.1 x.2 = Nat.gcd (val a) (val b)) (m := fun x => 2 * (bl x.1 + bl x.2) + if x.1 < x.2 then 1 else 0) (val a, val b) ⟨hA, hB, rfl⟩ ?_ ?_ ?_
 ·simp only
  have h1 := qps hA
  have h2 := qps hB
  split <;> omega
 ·exact q03 rfl trivial (by simp [nat])
 rintro ⟨x, y⟩ ⟨hx, hy, hg⟩ N hN
 simp only at hx hy hg
 refine go 800 rfl ?_
 rw [List.length_map]
 refine q02 rfl (fun h1 => ?_) (fun h1 => ?_)
 ·rw [q06] at h1
  have hy0 : y ≠ 0 := q3v.1 (by simp only at h1; omega)
  have hp := qeE (q0d x) (q0d y) (hK ▸ q0l.2 hx) (hK ▸ q0l.2 hy)
  rw [q0j, q0j, if_neg hy0] at hp
  refine go 800 rfl ?_
  refine q00 rfl rfl hp ?_
  refine go 800 rfl ?_
  refine q05 ?_
  refine hN (y, x % y) ⟨hy, Nat.lt_of_le_of_lt (Nat.mod_le _ _) hx, ?_⟩ ?_ (q03 rfl trivial (by simp [nat]))
  ·simp only
   rw [← hg, Nat.gcd_comm x y, Nat.gcd_rec y x, Nat.gcd_comm]
  ·simp only
   have hm := Nat.mod_lt x (show 0 < y by omega)
   by_cases hxy : x < y
   ·rw [if_pos hxy, Nat.mod_eq_of_lt hxy, if_neg (by omega)]; omega
   ·have := qvl hy0 (Nat.le_of_not_lt hxy)
    rw [if_neg hxy, if_neg (by omega)]; omega
 ·rw [q07] at h1
  have hy0 : y = 0 := by
   by_cases h : y = 0
   ·exact h
   ·have := q3v.2 h; simp only at h1; omega
  refine go 800 rfl ?_
  refine q05 ?_
  refine go 800 rfl ?_
  refine q0c rfl rfl rfl trivial ?_
  rw [← hg, hy0, Nat.gcd_zero_right]; rfl
end Go.F

namespace Go.F
attribute [local irreducible] IntKind.wrap wpM
class Sz (l : List Nat) (k : outParam Nat) : Prop where
 ok : LOk l
 len : l.length ≤ k
instance {l : List Nat} {k : Nat} [h : Sz l k] : LOk l := h.ok
class NB (n : Nat) (k : outParam Nat) : Prop where
 lt : n < 4294967296 ^ k
instance szLimbs {n k : Nat} [h : NB n k] : Sz (q0d n) k := ⟨q0x _, q0l.2 h.lt⟩
instance q5D {l : List Nat} {k : Nat} [h : Sz l k] : NB (val l) k := ⟨Nat.lt_of_lt_of_le (q3f h.ok) (Nat.pow_le_pow_right (by decide) h.len)⟩
theorem qdT {j k : Nat} (h : j ≤ k) : 4294967296 ^ j ≤ 4294967296 ^ k := Nat.pow_le_pow_right (by decide) h
theorem quX (k : Nat) : 0 < 4294967296 ^ k := Nat.pow_pos (by decide)
theorem q74 {m n k : Nat} (h : m ≤ n) (hn : n < 4294967296 ^ k) : m < 4294967296 ^ k := Nat.lt_of_le_of_lt h hn
theorem qdU {m n j k : Nat} (h1 : m < 4294967296 ^ j) (h2 : n < 4294967296 ^ k) : m + n < 4294967296 ^ (j + k + 1) := by
 have a := qdT (show j ≤ j + k by omega)
 have b := qdT (show k ≤ j + k by omega)
 rw [Nat.pow_succ]
 omega
theorem q2r {m n j k : Nat} (h1 : m < 4294967296 ^ j) (h2 : n < 4294967296 ^ k) : m * n < 4294967296 ^ (j + k) := by
 rw [Nat.pow_add]
 exact Nat.mul_lt_mul'' h1 h2
structure RI where
 neg : Bool
 mag : List Nat
def RI.enc (a : RI) : D := .agg [.bool a.neg, nat a.mag]
def RI.v (a : RI) : Int := if a.neg then -(val a.mag : Int) else val a.mag
def RI.of (z : Int) : RI := ⟨decide (z < 0), q0d z.natAbs⟩
def encI (z : Int) : D := (RI.of z).enc
theorem RI.of_v (z : Int) : (RI.of z).v = z := by
 unfold RI.of RI.v
 simp only [q0j]
 by_cases h : z < 0
 ·rw [decide_eq_true h]; simp; omega
 ·rw [decide_eq_false h]; simp; omega
theorem RI.v_abs (a : RI) : a.v.natAbs = val a.mag := by
 unfold RI.v; split <;> omega
theorem qeC (z : Int) {neg : Bool} {n : Nat} (h1 : neg = decide (z < 0)) (h2 : n = z.natAbs) : D.agg [.bool neg, nat (q0d n)] = encI z := by
 subst h1; subst h2; rfl
theorem q6s (neg : Bool) (l : List Nat) {k : Nat} [h : Sz l k] (hk : k ≤ 500000000) : PU q1I [.bool neg, nat l] = some (encI (RI.v ⟨neg, l⟩)) := by
 have hl := h.len
 have e : ∀ n : Nat, n = (q0d (val l)).length → ltb 0 (n : Int) = decide (val l ≠ 0) := by
  rintro n rfl
  rw [q22, decide_eq_decide]
  have := @q3v (val l)
  omega
 refine q0f (fn := q7h) rfl (q0a ?_)
 refine go 800 rfl ?_
 refine q00 rfl rfl (q5T l (by omega)) ?_
 refine go 800 rfl ?_
 refine q09 rfl (fun h1 => ?_) (fun h1 => ?_)
 ·refine go 800 rfl ?_
  refine q0c rfl rfl rfl trivial ?_
  subst h1
  refine qeC _ ?_ ?_
  ·rw [List.length_map, e _ rfl]
   simp only [RI.v]
   rw [decide_eq_decide]; simp; omega
  ·simp [RI.v]
 ·refine go 800 rfl ?_
  refine q0c rfl rfl rfl trivial ?_
  subst h1
  refine qeC _ ?_ ?_
  ·simp only [RI.v]
   rw [eq_comm, decide_eq_false_iff_not, if_neg (by decide)]; omega
  ·simp [RI.v]
theorem qf2 (n : Int) (h1 : -9223372036854775808 ≤ n) (h2 : n ≤ 9223372036854775807) : PU qbK [.int .i64 n] = some (encI n) := by
 have nb : NB n.natAbs 2 := ⟨by show n.natAbs < 18446744073709551616; omega⟩
 refine q0f (fn := qbu) rfl (q0a ?_)
 refine go 800 rfl ?_
 refine q02 rfl (fun g1 => ?_) (fun g1 => ?_)
 ·rw [q06] at g1
  have e : IntKind.u64.wrap (0 - IntKind.u64.wrap n) = ((n.natAbs : Nat) : Int) := by simp only [q0V]; omega
  refine go 800 rfl ?_
  rw [e]
  refine q00 rfl rfl (q7I n.natAbs (by omega)) ?_
  refine go 800 rfl ?_
  refine q00 rfl rfl (q6s true (q0d n.natAbs) (by decide)) ?_
  refine go 800 rfl ?_
  refine q0c rfl rfl rfl trivial ?_
  have : RI.v ⟨true, q0d n.natAbs⟩ = n := by rw [RI.v, if_pos rfl, q0j]; omega
  rw [this]; rfl
 ·rw [q07] at g1
  have e : IntKind.u64.wrap n = ((n.natAbs : Nat) : Int) := by simp only [q0V]; omega
  refine go 800 rfl ?_
  rw [e]
  refine q00 rfl rfl (q7I n.natAbs (by omega)) ?_
  refine go 800 rfl ?_
  refine q00 rfl rfl (q6s false (q0d n.natAbs) (by decide)) ?_
  refine go 800 rfl ?_
  refine q0c rfl rfl rfl trivial ?_
  have : RI.v ⟨false, q0d n.natAbs⟩ = n := by rw [RI.v, if_neg (by simp), q0j]; omega
  rw [this]; rfl
theorem q4n (a : RI) {k : Nat} [h : Sz a.mag k] (hk : k ≤ 500000000) : PU q3Q [a.enc] = some (encI a.v) := by
 refine q0f (fn := q8X) rfl (q0a ?_)
 refine go 800 rfl ?_
 refine q00 rfl rfl (q6s a.neg a.mag hk) ?_
 refine go 800 rfl ?_
 exact q0c rfl rfl rfl trivial rfl
theorem qkf (a : RI) {k : Nat} [h : Sz a.mag k] (hk : k ≤ 500000000) : PU qf0 [a.enc] = some (encI (-a.v)) := by
 refine q0f (fn := qae) rfl (q0a ?_)
 refine go 800 rfl ?_
 refine q00 rfl rfl (q6s (!a.neg) a.mag hk) ?_
 refine go 800 rfl ?_
 refine q0c rfl rfl rfl trivial ?_
 have : RI.v ⟨!a.neg, a.mag⟩ = -a.v := by unfold RI.v; cases a.neg <;> simp
 rw [this]; rfl
theorem qkh (a b : RI) {j k : Nat} [ha : Sz a.mag j] [hb : Sz b.mag k] (hj : j ≤ 100000000) (hk : k ≤ 100000000) : PU qeZ [a.enc, b.enc] = some (encI (a.v + b.v)) := by
 have la := ha.len
 have lb := hb.len
 have nba : NB (val a.mag) j := inferInstance
 have nbb : NB (val b.mag) k := inferInstance
 have sAdd : Sz (q0d (val a.mag + val b.mag)) (j + k + 1) := ⟨q0x _, q0l.2 (qdU nba.lt nbb.lt)⟩
 have sSub : Sz (q0d (val a.mag - val b.mag)) j := ⟨q0x _, q0l.2 (q74 (Nat.sub_le _ _) nba.lt)⟩
 have sSub' : Sz (q0d (val b.mag - val a.mag)) k := ⟨q0x _, q0l.2 (q74 (Nat.sub_le _ _) nbb.lt)⟩
 have s1 := qvm a.mag b.mag (by omega) (by omega)
 have s2 := qvm b.mag a.mag (by omega) (by omega)
 refine q0f (fn := qad) rfl (q0a ?_)
 refine go 800 rfl ?_
 refine q02 rfl (fun g1 => ?_) (fun g1 => ?_)
 ·refine go 800 rfl ?_
  refine q00 rfl rfl (qnJ a.mag b.mag (by omega) (by omega)) ?_
  refine go 800 rfl ?_
  refine q00 rfl rfl (q6s a.neg _ (by omega)) ?_
  refine go 800 rfl ?_
  refine q0c rfl rfl rfl trivial ?_
  have g : a.neg = b.neg := by simpa using g1
  have : RI.v ⟨a.neg, q0d (val a.mag + val b.mag)⟩ = a.v + b.v := by
   unfold RI.v; simp only [q0j, ← g]; split <;> omega
  rw [this]; rfl
 have g : b.neg = !a.neg := by revert g1; cases a.neg <;> cases b.neg <;> simp
 refine go 800 rfl ?_
 by_cases hlt : val a.mag < val b.mag
 ·rw [if_pos hlt] at s1
  rw [if_neg (by omega)] at s2
  refine q00 rfl rfl s1 ?_
  refine go 800 rfl ?_
  refine q0n rfl ?_
  refine go 800 rfl ?_
  refine q00 rfl rfl s2 ?_
  refine go 800 rfl ?_
  refine q00 rfl rfl (q6s b.neg _ (by omega)) ?_
  refine go 800 rfl ?_
  refine q0c rfl rfl rfl trivial ?_
  have : RI.v ⟨b.neg, q0d (val b.mag - val a.mag)⟩ = a.v + b.v := by
   unfold RI.v; simp only [q0j, g]; cases a.neg <;> simp <;> omega
  rw [this]; rfl
 ·rw [if_neg hlt] at s1
  refine q00 rfl rfl s1 ?_
  refine go 800 rfl ?_
  refine q0m rfl ?_
  refine go 800 rfl ?_
  refine q00 rfl rfl (q6s a.neg _ (by omega)) ?_
  refine go 800 rfl ?_
  refine q0c rfl rfl rfl trivial ?_
  have : RI.v ⟨a.neg, q0d (val a.mag - val b.mag)⟩ = a.v + b.v := by
   unfold RI.v; simp only [q0j, g]; cases a.neg <;> simp <;> omega
  rw [this]; rfl
instance szOf {z : Int} {k : Nat} [h : NB z.natAbs k] : Sz (RI.of z).mag k := ⟨q0x _, q0l.2 h.lt⟩
theorem q4U (a b : RI) {j k : Nat} [ha : Sz a.mag j] [hb : Sz b.mag k] (hj : j ≤ 100000000) (hk : k ≤ 100000000) : PU q4t [a.enc, b.enc] = some (encI (a.v * b.v)) := by
 have la := ha.len
 have lb := hb.len
 have nba : NB (val a.mag) j := inferInstance
 have nbb : NB (val b.mag) k := inferInstance
 have sM : Sz (q0d (val a.mag * val b.mag)) (j + k) := ⟨q0x _, q0l.2 (q2r nba.lt nbb.lt)⟩
 refine q0f (fn := qac) rfl (q0a ?_)
 refine go 800 rfl ?_
 refine q00 rfl rfl (qkA a.mag b.mag (by omega) (by omega)) ?_
 refine go 800 rfl ?_
 refine q00 rfl rfl (q6s _ _ (by omega)) ?_
 refine go 800 rfl ?_
 refine q0c rfl rfl rfl trivial ?_
 have : RI.v ⟨!(a.neg == b.neg), q0d (val a.mag * val b.mag)⟩ = a.v * b.v := by
  unfold RI.v; simp only [q0j]; cases a.neg <;> cases b.neg <;> simp [Int.mul_neg, Int.neg_mul]
 rw [this]; rfl
theorem orU64g {a b m : Nat} (hm : m ≤ 64) (ha : a < 2 ^ m) (hb : b * 2 ^ m < 18446744073709551616) : IntKind.u64.wrap ((BitVec.ofInt IntKind.u64.bits (a : Int) ||| BitVec.ofInt IntKind.u64.bits ((b * 2 ^ m : Nat) : Int)).toNat : Int) = ((a + b * 2 ^ m : Nat) : Int) := by
 have hp : 2 ^ m ≤ 18446744073709551616 := by simpa using Nat.pow_le_pow_right (n := 2) (by decide) hm
 rw [BitVec.or_comm, q8I, q8I, BitVec.toNat_or, BitVec.toNat_ofNat, BitVec.toNat_ofNat]
 have e : IntKind.u64.bits = 64 := rfl
 rw [e, Nat.mod_eq_of_lt (show b * 2 ^ m < 2 ^ 64 by omega), Nat.mod_eq_of_lt (show a < 2 ^ 64 by omega), Nat.mul_comm b, ← Nat.two_pow_add_eq_or_of_lt ha]
 have : 2 ^ m * b + a < 18446744073709551616 := by
  have h1 : 2 ^ m * b < 2 ^ m * 2 ^ (64 - m) := by rw [← Nat.pow_add, show m + (64 - m) = 64 by omega, Nat.mul_comm]; omega
  have h2 : b + 1 ≤ 2 ^ (64 - m) := Nat.lt_of_mul_lt_mul_left h1
  have h3 := Nat.mul_le_mul_left (2 ^ m) h2
  rw [← Nat.pow_add, show m + (64 - m) = 64 by omega, Nat.mul_add] at h3
  omega
 rw [q0L this, Nat.add_comm]
def q5q (z : Int) : D := if -9223372036854775808 ≤ z ∧ z ≤ 9223372036854775807 then .tup [.int .i64 z, .bool true] else .tup [.int .i64 0, .bool false]
set_option maxHeartbeats 1000000 in
theorem quY (a : RI) {k : Nat} [ha : Sz a.mag k] (hk : k ≤ 500000000) : PU q8j [a.enc] = some (q5q a.v) := by
 refine q0f (fn := q8a) rfl (q0a ?_)
 refine go 800 rfl ?_
 refine q00 rfl rfl (q4n a hk) ?_
 refine go 800 rfl ?_
 have hMo : LOk (q0d a.v.natAbs) := q0x _
 have hMv : val (q0d a.v.natAbs) = a.v.natAbs := q0j _
 have hlen : (q0d a.v.natAbs).length ≤ 2 ↔ a.v.natAbs < 18446744073709551616 := by rw [q0l]
 have hneg : (RI.of a.v).neg = decide (a.v < 0) := rfl
 have hmag : (RI.of a.v).mag = q0d a.v.natAbs := rfl
 rw [hmag] at *
 generalize q0d a.v.natAbs = M at *
 rw [List.length_map]
 refine q02 rfl (fun h1 => ?_) (fun h1 => ?_)
 ·rw [q06] at h1
  refine go 800 rfl ?_
  refine q0c rfl rfl rfl trivial ?_
  rw [q5q, if_neg (by omega)]
 rw [q07] at h1
 have h2 := hlen.1 (by omega)
 refine go 800 rfl ?_
 refine q0p (S := fun x : Nat => ([.ptr 0 0 0, .int .u64 (val (M.take x)), nat M, q01 M.length, q01 x], [some (.row [.agg [.bool (decide (a.v < 0)), nat M]] 2), none, none, none, none], [0, 0, 0, 0, 0])) (C := fun x => x ≤ M.length) (m := fun x => M.length - x) 0 (Nat.zero_le _) (by omega) ?_ ?_
 ·exact q03 rfl ⟨rfl, trivial⟩ (by simp [nat, q01, val, hneg])
 intro i hi N hN
 refine go 800 rfl ?_
 refine q02 rfl (fun g1 => ?_) (fun g1 => ?_)
 ·rw [q06] at g1
  have hlt : i < M.length := by omega
  have hx := q1o hMo i
  have wi : IntKind.i64.wrap ((i : Int) + 1) = ((i + 1 : Nat) : Int) := wrap64 (by omega) (by omega)
  have w3 : IntKind.i64.wrap (32 * (i : Int)) = ((32 * i : Nat) : Int) := by rw [wrap64 (by omega) (by omega)]; omega
  have wx : IntKind.u64.wrap (dg M i : Int) = (dg M i : Int) := q0L (by omega)
  have hb : dg M i * 2 ^ (32 * i) < 18446744073709551616 := by
   have : i = 0 ∨ i = 1 := by omega
   rcases this with rfl | rfl <;> simp <;> omega
  have hv := q2h hMo i
  have ho := orU64g (a := val (M.take i)) (b := dg M i) (m := 32 * i) (by omega) (by rw [Nat.pow_mul]; exact hv) hb
  refine go 800 rfl ?_
  refine q0i i rfl rfl rfl (q2G hlt) rfl ?_
  refine go 800 rfl ?_
  refine q9s (dg M i) (32 * i) rfl rfl wx w3 (by show 32 * i ≤ 64; omega) (q0L hb) ?_
  refine go 800 rfl ?_
  rw [ho]
  refine q05 ?_
  refine hN (i + 1) hlt (by omega) (q03 rfl ⟨rfl, trivial⟩ ?_)
  have e : val (M.take (i + 1)) = val (M.take i) + dg M i * 2 ^ (32 * i) := by rw [q0M, Nat.pow_mul, Nat.mul_comm]
  simp [nat, q01, wi, e]
 rw [q07] at g1
 obtain rfl : i = M.length := by omega
 have e1 : IntKind.i64.wrap (IntKind.u64.wrap (0 - (a.v.natAbs : Int))) = -(a.v.natAbs : Int) ∨ 9223372036854775808 < a.v.natAbs := by
  by_cases h : a.v.natAbs ≤ 9223372036854775808
  ·left
   rw [q0V]
   simp [IntKind.wrap, IntKind.bits, IntKind.signed]
   omega
  ·right; omega
 have e2 : IntKind.i64.wrap (a.v.natAbs : Int) = (a.v.natAbs : Int) ∨ 9223372036854775808 ≤ a.v.natAbs := by
  by_cases h : a.v.natAbs < 9223372036854775808
  ·left; exact wrap64 (by omega) (by omega)
  ·right; omega
 rw [List.take_length, hMv] at *
 clear hN
 refine go 800 rfl ?_
 refine q05 ?_
 repeat' (first
  | (refine goP 800 rfl rfl ?_)
  | (show wpM _ _ _ (Fr.ops _ _ (KOper.mk _ _ (some _) _ _ :: _) :: _) Ex.normal _ _ _ _ _; first | refine q0o rfl ?_ | refine q0u rfl ?_ | refine q09 rfl (fun _ => ?_) (fun _ => ?_))
  | (show wpM _ _ _ (Fr.code (K.cond _ _ _) :: _) Ex.normal _ _ _ _ _; first | refine q0m rfl ?_ | refine q0n rfl ?_ | refine q02 rfl (fun _ => ?_) (fun _ => ?_))
  | (show wpM _ _ _ (Fr.ops _ _ (KOper.mk _ _ none _ (KOp.pick _ _ _) :: _) :: _) Ex.normal _ _ _ _ _; refine q0I rfl (fun _ => ?_) (fun _ => ?_))
  | (show wpM _ _ _ [] _ _ _ _ _ _; refine q0c rfl rfl rfl trivial ?_))
 all_goals simp only [q22, q1U, decide_eq_true_eq, decide_eq_false_iff_not, Bool.not_eq_true', Bool.not_eq_false'] at *
 all_goals unfold q5q
 all_goals (rcases e1 with e1 | e1 <;> rcases e2 with e2 | e2 <;> (try rw [e1]) <;> (try rw [e2]) <;> split <;> first | (exfalso; omega) | rfl | (simp; omega) | trace_state)
end Go.F

namespace Go.F
structure RR where
 neg : Bool
 mag : List Nat
 den : List Nat
def RR.num (a : RR) : RI := ⟨a.neg, a.mag⟩
def RR.enc (a : RR) : D := .agg [.bool a.neg, nat a.mag, nat a.den]
def RR.v (a : RR) : Rat := mkRat a.num.v (val a.den)
def RR.of (q : Rat) : RR := ⟨decide (q.num < 0), q0d q.num.natAbs, q0d q.den⟩
def q8A (q : Rat) : D := (RR.of q).enc
theorem RR.of_v (q : Rat) : (RR.of q).v = q := by
 show mkRat (RI.of q.num).v (val (q0d q.den)) = q
 rw [RI.of_v, q0j, Rat.mkRat_self]
class SzR (a : RR) (k : outParam Nat) : Prop where
 mag : Sz a.mag k
 den : Sz a.den k
instance szRm {a : RR} {k : Nat} [h : SzR a k] : Sz a.mag k := h.mag
instance szRd {a : RR} {k : Nat} [h : SzR a k] : Sz a.den k := h.den
instance szRn {a : RR} {k : Nat} [h : SzR a k] : Sz a.num.mag k := h.mag
class QB (q : Rat) (k : outParam Nat) : Prop where
 num : q.num.natAbs < 4294967296 ^ k
 den : q.den < 4294967296 ^ k
instance qvO {q : Rat} {k : Nat} [h : QB q k] : SzR (RR.of q) k := ⟨⟨q0x _, q0l.2 h.num⟩, ⟨q0x _, q0l.2 h.den⟩⟩
theorem qiN {n : Int} {g : Nat} (hg : g ∣ n.natAbs) : (n / (g : Int)).natAbs = n.natAbs / g := by
 have : (g : Int) ∣ n := Int.dvd_natAbs.1 (Int.natCast_dvd_natCast.2 hg)
 rw [Int.natAbs_ediv_of_dvd this]; simp
theorem qsG {n : Int} {d : Nat} {j : Nat} (hn : n.natAbs < 4294967296 ^ j) (hd : d < 4294967296 ^ j) (hd0 : d ≠ 0) : QB (mkRat n d) j := by
 constructor
 ·rw [Rat.num_mkRat, if_neg hd0, qiN (Nat.gcd_dvd_right _ _)]
  exact q74 (Nat.div_le_self _ _) hn
 ·rw [Rat.den_mkRat, if_neg hd0]
  exact q74 (Nat.div_le_self _ _) hd
instance qvP {a b : Rat} {j k : Nat} [ha : QB a j] [hb : QB b k] : QB (a + b) (j + k + 1) := by
 rw [Rat.add_def']
 refine qsG ?_ ?_ (Nat.mul_ne_zero a.den_nz b.den_nz)
 ·have h1 := q2r ha.num hb.den
  have h2 := q2r hb.num ha.den
  rw [Nat.add_comm k j] at h2
  have : (a.num * b.den + b.num * a.den).natAbs ≤ a.num.natAbs * b.den + b.num.natAbs * a.den := by
   refine Nat.le_trans (Int.natAbs_add_le _ _) ?_
   rw [Int.natAbs_mul, Int.natAbs_mul]; simp
  rw [Nat.pow_succ]
  omega
 ·exact q74 (Nat.le_refl _) (Nat.lt_of_lt_of_le (q2r ha.den hb.den) (qdT (by omega)))
instance qvQ {a b : Rat} {j k : Nat} [ha : QB a j] [hb : QB b k] : QB (a * b) (j + k) := by
 rw [Rat.mul_def']
 refine qsG ?_ (q2r ha.den hb.den) (Nat.mul_ne_zero a.den_nz b.den_nz)
 rw [Int.natAbs_mul]; exact q2r ha.num hb.num
instance qbNeg {a : Rat} {k : Nat} [h : QB a k] : QB (-a) k := ⟨by rw [Rat.neg_num, Int.natAbs_neg]; exact h.num, by rw [Rat.neg_den]; exact h.den⟩
instance qvR {a b : Rat} {j k : Nat} [ha : QB a j] [hb : QB b k] : QB (a - b) (j + k + 1) := by
 rw [Rat.sub_eq_add_neg]; exact qvP
theorem qwT (n : Int) : n.sign.natAbs ≤ 1 := by
 rcases Int.lt_trichotomy n 0 with h | h | h
 ·rw [Int.sign_eq_neg_one_of_neg h]; decide
 ·subst h; decide
 ·rw [Int.sign_eq_one_of_pos h]; decide
instance qbInv {a : Rat} {k : Nat} [h : QB a k] : QB a⁻¹ k := by
 constructor
 ·rw [Rat.num_inv, Int.natAbs_mul]
  have h1 := qwT a.num
  refine q74 ?_ h.den
  calc a.num.sign.natAbs * ((a.den : Int)).natAbs ≤ 1 * a.den := Nat.mul_le_mul h1 (by simp)
   _ = a.den := Nat.one_mul _
 ·rw [Rat.den_inv]
  split
  ·exact q74 a.den_pos h.den
  ·exact h.num
instance qbDiv {a b : Rat} {j k : Nat} [ha : QB a j] [hb : QB b k] : QB (a / b) (j + k) := by
 rw [Rat.div_def]; exact qvQ
theorem ql5 {z : Int} (h1 : -9223372036854775808 ≤ z) (h2 : z ≤ 9223372036854775807) : QB (z : Rat) 2 := by
 constructor
 ·rw [Rat.num_intCast]; show z.natAbs < 18446744073709551616; omega
 ·rw [Rat.den_intCast]; decide
def rnd (n : Int) (d : Nat) : Int := if n < 0 then -(((2 * n.natAbs + d) / (2 * d) : Nat) : Int) else ((2 * n.natAbs + d) / (2 * d) : Nat)
def q0Z (q : Rat) : Int := rnd q.num q.den
theorem qwU (n : Int) (d k : Nat) (hk : k ≠ 0) : rnd (n * k) (d * k) = rnd n d := by
 unfold rnd
 have e : (2 * (n * (k : Int)).natAbs + d * k) / (2 * (d * k)) = (2 * n.natAbs + d) / (2 * d) := by
  rw [Int.natAbs_mul]
  simp only [Int.natAbs_natCast]
  rw [← Nat.mul_assoc, ← Nat.add_mul, ← Nat.mul_assoc, Nat.mul_div_mul_right _ _ (Nat.pos_of_ne_zero hk)]
 have hs : n * (k : Int) < 0 ↔ n < 0 := by
  have hk' : (0 : Int) < k := by omega
  constructor
  ·intro h
   by_cases hn : n < 0
   ·exact hn
   ·have := Int.mul_nonneg (show 0 ≤ n by omega) (Int.le_of_lt hk'); omega
  ·intro h; exact Int.mul_neg_of_neg_of_pos h hk'
 rw [e]
 by_cases h : n < 0
 ·rw [if_pos h, if_pos (hs.2 h)]
 ·rw [if_neg h, if_neg (fun h' => h (hs.1 h'))]
theorem qtY (n : Int) {d : Nat} (hd : d ≠ 0) : q0Z (mkRat n d) = rnd n d := by
 obtain ⟨k, hk, h1, h2⟩ := Rat.normalize_num_den' n d hd
 rw [Rat.normalize_eq_mkRat] at h1 h2
 show rnd (mkRat n d).num (mkRat n d).den = rnd n d
 rw [← qwU _ _ k hk, ← h1, ← h2]
theorem qsH {n : Int} {d : Nat} (hd : d ≠ 0) : q8A (mkRat n d) = .agg [.bool (decide (n < 0)), nat (q0d (n.natAbs / Nat.gcd n.natAbs d)), nat (q0d (d / Nat.gcd n.natAbs d))] := by
 have e1 : (mkRat n d).num.natAbs = n.natAbs / Nat.gcd n.natAbs d := by
  rw [Rat.num_mkRat, if_neg hd, qiN (Nat.gcd_dvd_right _ _), Nat.gcd_comm]
 have e2 : (mkRat n d).den = d / Nat.gcd n.natAbs d := by
  rw [Rat.den_mkRat, if_neg hd, Nat.gcd_comm]
 have e3 : (mkRat n d).num < 0 ↔ n < 0 := by
  have h1 : 0 ≤ (mkRat n d).num ↔ 0 ≤ n := by
   rw [Rat.num_nonneg, ← Rat.divInt_ofNat, Rat.divInt_nonneg_iff_of_pos_right (by omega)]
  omega
 unfold q8A RR.of RR.enc
 simp only [e1, e2]
 rw [show decide ((mkRat n d).num < 0) = decide (n < 0) from by simp only [e3]]
def RR.fix (a : RR) : RR := if val a.den = 0 then ⟨false, [], [1]⟩ else a
theorem RR.fix_v (a : RR) : a.fix.v = a.v := by
 unfold RR.fix
 split
 ·rename_i h
  simp only [RR.v, h, Rat.mkRat_zero]
  rfl
 ·rfl
theorem RR.fix_den (a : RR) : val a.fix.den ≠ 0 := by
 unfold RR.fix
 split
 ·simp [val]
 ·assumption
instance q9T {a : RR} {k : Nat} [h : SzR a k] : SzR a.fix (k + 1) := by
 have h1 := h.mag.len
 have h2 := h.den.len
 unfold RR.fix
 split
 ·exact ⟨⟨⟨by simp⟩, by simp⟩, ⟨⟨by simp⟩, by simp⟩⟩
 ·exact ⟨⟨h.mag.ok, by omega⟩, ⟨h.den.ok, by omega⟩⟩
end Go.F

namespace Go.F
attribute [local irreducible] IntKind.wrap wpM
theorem qsI (l : List Nat) {k : Nat} [h : Sz l k] (hk : k ≤ 100000000) : PU qbI [nat l] = some (.bool (decide (val l = 0))) := by
 have hl := h.len
 refine q0f (fn := qbr) rfl (q0a ?_)
 refine go 800 rfl ?_
 refine q00 rfl rfl (qkz l [] (by omega) (by simp)) ?_
 refine go 800 rfl ?_
 refine q0c rfl rfl rfl trivial ?_
 congr 1
 rw [q2C, decide_eq_decide]
 have e : q45 (val l : Int) (val ([] : List Nat) : Int) = if val l = 0 then 0 else 1 := by
  show q45 (val l : Int) 0 = _
  unfold q45
  by_cases h0 : val l = 0
  ·simp [h0]
  ·rw [if_neg (by omega), if_pos (by omega), if_neg h0]
 rw [e]
 by_cases h0 : val l = 0 <;> simp [h0]
theorem q9U (l : List Nat) : PU q3T [nat l] = some (RI.enc ⟨false, l⟩) := by
 refine q0f (fn := q7i) rfl (q0a ?_)
 refine go 800 rfl ?_
 exact q0c rfl rfl rfl trivial rfl
theorem q5I (a : RR) {k : Nat} [h : SzR a k] (hk : k ≤ 100000000) : PU q1W [a.enc] = some a.fix.enc := by
 refine q0f (fn := qa6) rfl (q0a ?_)
 refine go 800 rfl ?_
 refine q00 rfl rfl (qsI a.den hk) ?_
 refine go 800 rfl ?_
 refine q02 rfl (fun g => ?_) (fun g => ?_)
 ·refine go 800 rfl ?_
  refine q00 rfl rfl (q7I 1 (by decide)) ?_
  refine go 800 rfl ?_
  refine q0c rfl rfl rfl trivial ?_
  rw [RR.fix, if_pos (by simpa using g)]; rfl
 ·refine go 800 rfl ?_
  refine q0c rfl rfl rfl trivial ?_
  rw [RR.fix, if_neg (by simpa using g)]; rfl
theorem qb4 (n : RI) (d : List Nat) {j k : Nat} [hn : Sz n.mag j] [hd : Sz d k] (hj : j ≤ 100000000) (hk : k ≤ 100000000) (hd0 : val d ≠ 0) : PU q3S [n.enc, nat d] = some (q8A (mkRat n.v (val d))) := by
 have ln := hn.len
 have ld := hd.len
 have nbn : NB (val n.mag) j := inferInstance
 have nbd : NB (val d) k := inferInstance
 have hg0 : Nat.gcd (val n.mag) (val d) ≠ 0 := by
  have := Nat.gcd_pos_of_pos_right (val n.mag) (show 0 < val d by omega); omega
 have lg : (q0d (Nat.gcd (val n.mag) (val d))).length ≤ k := q0l.2 (q74 (Nat.gcd_le_right _ (by omega)) nbd.lt)
 have d1 := qeE n.mag (q0d (Nat.gcd (val n.mag) (val d))) (by omega) (by omega)
 have d2 := qeE d (q0d (Nat.gcd (val n.mag) (val d))) (by omega) (by omega)
 rw [q0j, if_neg hg0] at d1 d2
 have s1 : Sz (q0d (val n.mag / Nat.gcd (val n.mag) (val d))) j := ⟨q0x _, q0l.2 (q74 (Nat.div_le_self _ _) nbn.lt)⟩
 refine q0f (fn := q8Y) rfl (q0a ?_)
 refine go 800 rfl ?_
 refine q00 rfl rfl (Gcd_PU n.mag d (by omega) (by omega)) ?_
 refine go 800 rfl ?_
 refine q00 rfl rfl d1 ?_
 refine go 800 rfl ?_
 refine q00 rfl rfl d2 ?_
 refine go 800 rfl ?_
 refine q00 rfl rfl (q4n ⟨n.neg, q0d (val n.mag / Nat.gcd (val n.mag) (val d))⟩ (by omega)) ?_
 refine go 800 rfl ?_
 refine q0c rfl rfl rfl trivial ?_
 rw [qsH hd0, RI.v_abs]
 have e1 : RI.v ⟨n.neg, q0d (val n.mag / Nat.gcd (val n.mag) (val d))⟩ = if n.neg then -((val n.mag / Nat.gcd (val n.mag) (val d) : Nat) : Int) else (val n.mag / Nat.gcd (val n.mag) (val d) : Nat) := by
  rw [RI.v, q0j]
 have hdv := Nat.div_mul_cancel (Nat.gcd_dvd_left (val n.mag) (val d))
 have e2 : decide (RI.v ⟨n.neg, q0d (val n.mag / Nat.gcd (val n.mag) (val d))⟩ < 0) = decide (n.v < 0) := by
  rw [e1, decide_eq_decide, RI.v]
  have hz : val n.mag / Nat.gcd (val n.mag) (val d) = 0 ↔ val n.mag = 0 := by
   constructor
   ·intro h; rw [h] at hdv; omega
   ·intro h; rw [h]; simp
  generalize val n.mag / Nat.gcd (val n.mag) (val d) = x at *
  split <;> omega
 have e3 : (RI.v ⟨n.neg, q0d (val n.mag / Nat.gcd (val n.mag) (val d))⟩).natAbs = val n.mag / Nat.gcd (val n.mag) (val d) := by
  rw [RI.v_abs, q0j]
 show D.agg [.bool (decide (RI.v ⟨n.neg, q0d (val n.mag / Nat.gcd (val n.mag) (val d))⟩ < 0)), nat (q0d (RI.v ⟨n.neg, q0d (val n.mag / Nat.gcd (val n.mag) (val d))⟩).natAbs), nat (q0d (val d / Nat.gcd (val n.mag) (val d)))] = _
 rw [e2, e3]
theorem qee (n d : Int) (h1 : -9223372036854775808 ≤ n) (h2 : n ≤ 9223372036854775807) (h3 : 0 < d) (h4 : d ≤ 9223372036854775807) : PU q9g [.int .i64 n, .int .i64 d] = some (.tup [q8A (mkRat n d.toNat), .bool true]) := by
 have nb : NB n.natAbs 2 := ⟨by show n.natAbs < 18446744073709551616; omega⟩
 have nb2 : NB d.natAbs 2 := ⟨by show d.natAbs < 18446744073709551616; omega⟩
 have hneg : (RI.of d).neg = false := by show decide (d < 0) = false; simp; omega
 have hr := qb4 (RI.of n) (q0d d.natAbs) (by decide) (by decide) (by rw [q0j]; omega)
 rw [RI.of_v, q0j] at hr
 have hdn : d.natAbs = d.toNat := by omega
 rw [← hdn]
 refine q0f (fn := qfq) rfl (q0a ?_)
 refine go 800 rfl ?_
 refine q02 rfl (fun g => ?_) (fun g => ?_)
 ·rw [q2z] at g; omega
 refine go 800 rfl ?_
 refine q00 rfl rfl (qf2 n (by omega) (by omega)) ?_
 refine go 800 rfl ?_
 refine q00 rfl rfl (qf2 d (by omega) (by omega)) ?_
 refine go 800 rfl ?_
 have e : (!((RI.of n).neg == (RI.of d).neg)) = (RI.of n).neg := by rw [hneg]; cases (RI.of n).neg <;> rfl
 rw [e]
 refine q00 rfl rfl hr ?_
 refine go 800 rfl ?_
 exact q0c rfl rfl rfl trivial rfl
theorem qob (a : RR) {k : Nat} [h : SzR a k] (hk : k ≤ 10000000) : PU qiv [a.enc] = some (q8A (-a.v)) := by
 have h0 := a.fix_den
 have hv := a.fix_v
 have sn : Sz (RI.of (-a.fix.num.v)).mag (k + 1) := ⟨q0x _, q0l.2 (by rw [Int.natAbs_neg, RI.v_abs]; exact (q5D (l := a.fix.num.mag)).lt)⟩
 have hr := qb4 (RI.of (-a.fix.num.v)) a.fix.den (by omega) (by omega) h0
 rw [RI.of_v, ← Rat.neg_mkRat] at hr
 refine q0f (fn := qdg) rfl (q0a ?_)
 refine go 800 rfl ?_
 refine q00 rfl rfl (q5I a (by omega)) ?_
 refine go 800 rfl ?_
 refine q00 rfl rfl (qkf a.fix.num (by omega)) ?_
 refine go 800 rfl ?_
 refine q00 rfl rfl hr ?_
 refine go 800 rfl ?_
 refine q0c rfl rfl rfl trivial ?_
 rw [← hv]; rfl
theorem qvT (l : List Nat) : RI.v ⟨false, l⟩ = val l := by simp [RI.v]
theorem qc5 (a b : RR) {j k : Nat} [ha : SzR a j] [hb : SzR b k] (hj : j ≤ 10000000) (hk : k ≤ 10000000) : PU q9M [a.enc, b.enc] = some (q8A (a.v + b.v)) := by
 have ha0 := a.fix_den
 have hb0 := b.fix_den
 have hva := a.fix_v
 have hvb := b.fix_v
 have na := (q5D (l := a.fix.num.mag)).lt
 have nad := (q5D (l := a.fix.den)).lt
 have nb := (q5D (l := b.fix.num.mag)).lt
 have nbd := (q5D (l := b.fix.den)).lt
 have s1 : Sz (RI.of (a.fix.num.v * val b.fix.den)).mag ((j + 1) + (k + 1)) := ⟨q0x _, q0l.2 (by rw [Int.natAbs_mul, RI.v_abs]; exact q2r na nbd)⟩
 have s2 : Sz (RI.of (b.fix.num.v * val a.fix.den)).mag ((k + 1) + (j + 1)) := ⟨q0x _, q0l.2 (by rw [Int.natAbs_mul, RI.v_abs]; exact q2r nb nad)⟩
 have s3 : Sz (RI.of (a.fix.num.v * val b.fix.den + b.fix.num.v * val a.fix.den)).mag (((j + 1) + (k + 1)) + ((k + 1) + (j + 1)) + 1) :=
  ⟨q0x _, q0l.2 (q74 (Int.natAbs_add_le _ _) (qdU (by rw [Int.natAbs_mul, RI.v_abs]; exact q2r na nbd) (by rw [Int.natAbs_mul, RI.v_abs]; exact q2r nb nad)))⟩
 have s4 : Sz (q0d (val a.fix.den * val b.fix.den)) ((j + 1) + (k + 1)) := ⟨q0x _, q0l.2 (q2r nad nbd)⟩
 have sp1 : Sz (RI.mag ⟨false, b.fix.den⟩) (k + 1) := (q9T (a := b)).den
 have sp2 : Sz (RI.mag ⟨false, a.fix.den⟩) (j + 1) := (q9T (a := a)).den
 have lad := (q9T (a := a)).den.len
 have lbd := (q9T (a := b)).den.len
 have m1 := q4U a.fix.num ⟨false, b.fix.den⟩ (by omega) (by omega)
 have m2 := q4U b.fix.num ⟨false, a.fix.den⟩ (by omega) (by omega)
 rw [qvT] at m1 m2
 have a1 := qkh (RI.of (a.fix.num.v * val b.fix.den)) (RI.of (b.fix.num.v * val a.fix.den)) (by omega) (by omega)
 rw [RI.of_v, RI.of_v] at a1
 have r1 := qb4 (RI.of (a.fix.num.v * val b.fix.den + b.fix.num.v * val a.fix.den)) (q0d (val a.fix.den * val b.fix.den)) (by omega) (by omega) (by rw [q0j]; exact Nat.mul_ne_zero ha0 hb0)
 rw [RI.of_v, q0j, ← Rat.mkRat_add_mkRat _ _ ha0 hb0] at r1
 refine q0f (fn := qdf) rfl (q0a ?_)
 refine go 800 rfl ?_
 refine q00 rfl rfl (q5I a (by omega)) ?_
 refine go 800 rfl ?_
 refine q00 rfl rfl (q5I b (by omega)) ?_
 refine go 800 rfl ?_
 refine q00 rfl rfl (q9U b.fix.den) ?_
 refine go 800 rfl ?_
 refine q00 rfl rfl m1 ?_
 refine go 800 rfl ?_
 refine q00 rfl rfl (q9U a.fix.den) ?_
 refine go 800 rfl ?_
 refine q00 rfl rfl m2 ?_
 refine go 800 rfl ?_
 refine q00 rfl rfl a1 ?_
 refine go 800 rfl ?_
 refine q00 rfl rfl (qkA a.fix.den b.fix.den (by omega) (by omega)) ?_
 refine go 800 rfl ?_
 refine q00 rfl rfl r1 ?_
 refine go 800 rfl ?_
 refine q0c rfl rfl rfl trivial ?_
 rw [← hva, ← hvb]; rfl
end Go.F

namespace Go.F
attribute [local irreducible] IntKind.wrap wpM
instance qbV {a : RR} {k : Nat} [h : SzR a k] : QB a.v (k + 1) := by
 by_cases h0 : val a.den = 0
 ·have e : a.v = 0 := by rw [RR.v, h0, Rat.mkRat_zero]
  rw [e]
  refine ⟨?_, ?_⟩
  ·show 0 < _; exact quX _
  ·show 1 < _
   have := qdT (show 1 ≤ k + 1 by omega)
   omega
 ·have h1 := (q5D (l := a.num.mag)).lt
  have h2 := (q5D (l := a.den)).lt
  have := qdT (show k ≤ k + 1 by omega)
  exact qsG (by rw [RI.v_abs]; omega) (by omega) h0
theorem qc6 (a b : RR) {j k : Nat} [ha : SzR a j] [hb : SzR b k] (hj : j ≤ 1000000) (hk : k ≤ 1000000) : PU q9J [a.enc, b.enc] = some (q8A (a.v - b.v)) := by
 have h1 := qc5 a (RR.of (-b.v)) (by omega) (by omega)
 rw [RR.of_v, ← Rat.sub_eq_add_neg] at h1
 refine q0f (fn := qd6) rfl (q0a ?_)
 refine go 800 rfl ?_
 refine q00 rfl rfl (qob b (by omega)) ?_
 refine go 800 rfl ?_
 refine q00 rfl rfl h1 ?_
 refine go 800 rfl ?_
 exact q0c rfl rfl rfl trivial rfl
theorem q8B (a b : RR) {j k : Nat} [ha : SzR a j] [hb : SzR b k] (hj : j ≤ 10000000) (hk : k ≤ 10000000) : PU q6r [a.enc, b.enc] = some (q8A (a.v * b.v)) := by
 have ha0 := a.fix_den
 have hb0 := b.fix_den
 have hva := a.fix_v
 have hvb := b.fix_v
 have na := (q5D (l := a.fix.num.mag)).lt
 have nad := (q5D (l := a.fix.den)).lt
 have nb := (q5D (l := b.fix.num.mag)).lt
 have nbd := (q5D (l := b.fix.den)).lt
 have lad := (q9T (a := a)).den.len
 have lbd := (q9T (a := b)).den.len
 have s1 : Sz (RI.of (a.fix.num.v * b.fix.num.v)).mag ((j + 1) + (k + 1)) := ⟨q0x _, q0l.2 (by rw [Int.natAbs_mul, RI.v_abs, RI.v_abs]; exact q2r na nb)⟩
 have s4 : Sz (q0d (val a.fix.den * val b.fix.den)) ((j + 1) + (k + 1)) := ⟨q0x _, q0l.2 (q2r nad nbd)⟩
 have r1 := qb4 (RI.of (a.fix.num.v * b.fix.num.v)) (q0d (val a.fix.den * val b.fix.den)) (by omega) (by omega) (by rw [q0j]; exact Nat.mul_ne_zero ha0 hb0)
 rw [RI.of_v, q0j, ← Rat.mkRat_mul_mkRat] at r1
 refine q0f (fn := qdd) rfl (q0a ?_)
 refine go 800 rfl ?_
 refine q00 rfl rfl (q5I a (by omega)) ?_
 refine go 800 rfl ?_
 refine q00 rfl rfl (q5I b (by omega)) ?_
 refine go 800 rfl ?_
 refine q00 rfl rfl (q4U a.fix.num b.fix.num (by omega) (by omega)) ?_
 refine go 800 rfl ?_
 refine q00 rfl rfl (qkA a.fix.den b.fix.den (by omega) (by omega)) ?_
 refine go 800 rfl ?_
 refine q00 rfl rfl r1 ?_
 refine go 800 rfl ?_
 refine q0c rfl rfl rfl trivial ?_
 rw [← hva, ← hvb]; rfl
theorem qq4 (a : RR) (ha : val a.den ≠ 0) : RI.v ⟨a.neg, q0d ((val a.mag + val a.mag + val a.den) / (val a.den + val a.den))⟩ = q0Z a.v := by
 rw [RR.v, qtY _ ha]
 unfold rnd
 rw [RI.v_abs]
 simp only [RR.num, q0j, RI.v]
 rw [← Nat.two_mul, ← Nat.two_mul]
 by_cases h0 : val a.mag = 0
 ·have : (2 * val a.mag + val a.den) / (2 * val a.den) = 0 := by rw [h0]; exact Nat.div_eq_of_lt (by omega)
  rw [this]; simp [h0]
 ·by_cases hn : a.neg = true
  ·simp only [hn, if_true]; rw [if_pos (by omega)]
  ·simp only [hn, if_false]; rw [if_neg (by simp), if_neg (by rw [if_neg (by simp)]; omega)]
theorem qu0 (q : Rat) : (q0Z q).natAbs ≤ 2 * q.num.natAbs + q.den := by
 unfold q0Z rnd
 have := Nat.div_le_self (2 * q.num.natAbs + q.den) (2 * q.den)
 generalize (2 * q.num.natAbs + q.den) / (2 * q.den) = x at *
 split <;> omega
instance nbRound {q : Rat} {k : Nat} [h : QB q k] : NB (q0Z q).natAbs (k + 1) := by
 refine ⟨q74 (qu0 q) ?_⟩
 have h1 := h.num
 have h2 := h.den
 rw [Nat.pow_succ]
 omega
theorem ql6 (a : RR) {k : Nat} [h : SzR a k] (hk : k ≤ 1000000) : PU qeW [a.enc] = some (encI (q0Z a.v)) := by
 have ha0 := a.fix_den
 have hva := a.fix_v
 have na := (q5D (l := a.fix.mag)).lt
 have nad := (q5D (l := a.fix.den)).lt
 have lad := (q9T (a := a)).den.len
 have lam := (q9T (a := a)).mag.len
 have n2 := qdU na na
 have n3 := qdU n2 nad
 have n4 := qdU nad nad
 have l2 := q0l.2 n2
 have l3 := q0l.2 n3
 have l4 := q0l.2 n4
 have a2 := qnJ (q0d (val a.fix.mag + val a.fix.mag)) a.fix.den (by omega) (by omega)
 rw [q0j] at a2
 have d1 := qeE (q0d (val a.fix.mag + val a.fix.mag + val a.fix.den)) (q0d (val a.fix.den + val a.fix.den)) (by omega) (by omega)
 rw [q0j, q0j, if_neg (by omega)] at d1
 have s5 : Sz (RI.mag ⟨a.fix.neg, q0d ((val a.fix.mag + val a.fix.mag + val a.fix.den) / (val a.fix.den + val a.fix.den))⟩) _ := ⟨q0x _, q0l.2 (q74 (Nat.div_le_self _ _) n3)⟩
 have nrm := q4n ⟨a.fix.neg, q0d ((val a.fix.mag + val a.fix.mag + val a.fix.den) / (val a.fix.den + val a.fix.den))⟩ (by omega)
 rw [qq4 a.fix ha0, hva] at nrm
 refine q0f (fn := qa1) rfl (q0a ?_)
 refine go 800 rfl ?_
 refine q00 rfl rfl (q5I a (by omega)) ?_
 refine go 800 rfl ?_
 refine q00 rfl rfl (qnJ a.fix.mag a.fix.mag (by omega) (by omega)) ?_
 refine go 800 rfl ?_
 refine q00 rfl rfl a2 ?_
 refine go 800 rfl ?_
 refine q00 rfl rfl (qnJ a.fix.den a.fix.den (by omega) (by omega)) ?_
 refine go 800 rfl ?_
 refine q00 rfl rfl d1 ?_
 refine go 800 rfl ?_
 refine q00 rfl rfl nrm ?_
 refine go 800 rfl ?_
 exact q0c rfl rfl rfl trivial rfl
end Go.F

namespace Go.F
attribute [local irreducible] IntKind.wrap wpM
structure RP where
 x : RR
 y : RR
structure QP where
 x : Rat
 y : Rat
 deriving DecidableEq
def RP.enc (p : RP) : D := .agg [.bool p.x.neg, nat p.x.mag, nat p.x.den, .bool p.y.neg, nat p.y.mag, nat p.y.den]
def RP.v (p : RP) : QP := ⟨p.x.v, p.y.v⟩
def RP.of (q : QP) : RP := ⟨RR.of q.x, RR.of q.y⟩
def qi6 (q : QP) : D := (RP.of q).enc
theorem RP.of_v (q : QP) : (RP.of q).v = q := by
 unfold RP.of RP.v; simp only [RR.of_v]
class SzP (p : RP) (k : outParam Nat) : Prop where
 x : SzR p.x k
 y : SzR p.y k
instance szPx {p : RP} {k : Nat} [h : SzP p k] : SzR p.x k := h.x
instance szPy {p : RP} {k : Nat} [h : SzP p k] : SzR p.y k := h.y
class QPB (q : QP) (k : outParam Nat) : Prop where
 x : QB q.x k
 y : QB q.y k
instance qpX {q : QP} {k : Nat} [h : QPB q k] : QB q.x k := h.x
instance qpY {q : QP} {k : Nat} [h : QPB q k] : QB q.y k := h.y
instance szPOf {q : QP} {k : Nat} [h : QPB q k] : SzP (RP.of q) k := ⟨qvO (h := h.x), qvO (h := h.y)⟩
instance qpV {p : RP} {k : Nat} [h : SzP p k] : QPB p.v (k + 1) := ⟨qbV (h := h.x), qbV (h := h.y)⟩
def qe9 (a b : QP) : QP := ⟨a.x + b.x, a.y + b.y⟩
def q1t (a b : QP) : QP := ⟨a.x - b.x, a.y - b.y⟩
def q4d (a : QP) (r : Rat) : QP := ⟨a.x * r, a.y * r⟩
def q4B (a b : QP) : Rat := a.x * b.y - a.y * b.x
def onP (a b : QP) (t : Rat) : QP := qe9 a (q4d (q1t b a) t)
instance qpAdd {a b : QP} {j k : Nat} [QPB a j] [QPB b k] : QPB (qe9 a b) (j + k + 1) := ⟨qvP, qvP⟩
instance qpSub {a b : QP} {j k : Nat} [QPB a j] [QPB b k] : QPB (q1t a b) (j + k + 1) := ⟨qvR, qvR⟩
instance qpScale {a : QP} {r : Rat} {j k : Nat} [QPB a j] [QB r k] : QPB (q4d a r) (j + k) := ⟨qvQ, qvQ⟩
instance qbCross {a b : QP} {j k : Nat} [QPB a j] [QPB b k] : QB (q4B a b) ((j + k) + (j + k) + 1) := qvR
instance qpOn {a b : QP} {t : Rat} {i j k : Nat} [QPB a i] [QPB b j] [QB t k] : QPB (onP a b t) (i + ((j + i + 1) + k) + 1) := qpAdd
theorem qgS (n : Int) : mkRat n (1 : Int).toNat = (n : Rat) := Rat.mkRat_one n
theorem qo2 (a b : RP) {j k : Nat} [ha : SzP a j] [hb : SzP b k] (hj : j ≤ 1000000) (hk : k ≤ 1000000) : PU qiu [a.enc, b.enc] = some (qi6 (qe9 a.v b.v)) := by
 refine q0f (fn := qde) rfl (q0a ?_)
 refine go 800 rfl ?_
 refine q00 rfl rfl (qc5 a.x b.x (by omega) (by omega)) ?_
 refine go 800 rfl ?_
 refine q00 rfl rfl (qc5 a.y b.y (by omega) (by omega)) ?_
 refine go 800 rfl ?_
 exact q0c rfl rfl rfl trivial rfl
theorem q6V (a b : RP) {j k : Nat} [ha : SzP a j] [hb : SzP b k] (hj : j ≤ 1000000) (hk : k ≤ 1000000) : PU q6q [a.enc, b.enc] = some (qi6 (q1t a.v b.v)) := by
 refine q0f (fn := qcY) rfl (q0a ?_)
 refine go 800 rfl ?_
 refine q00 rfl rfl (qc6 a.x b.x (by omega) (by omega)) ?_
 refine go 800 rfl ?_
 refine q00 rfl rfl (qc6 a.y b.y (by omega) (by omega)) ?_
 refine go 800 rfl ?_
 exact q0c rfl rfl rfl trivial rfl
theorem ql0 (a : RP) (r : RR) {j k : Nat} [ha : SzP a j] [hb : SzR r k] (hj : j ≤ 1000000) (hk : k ≤ 1000000) : PU qeX [a.enc, r.enc] = some (qi6 (q4d a.v r.v)) := by
 refine q0f (fn := qa9) rfl (q0a ?_)
 refine go 800 rfl ?_
 refine q00 rfl rfl (q8B a.x r (by omega) (by omega)) ?_
 refine go 800 rfl ?_
 refine q00 rfl rfl (q8B a.y r (by omega) (by omega)) ?_
 refine go 800 rfl ?_
 exact q0c rfl rfl rfl trivial rfl
theorem qeb (a b : RP) (t : RR) {i j k : Nat} [ha : SzP a i] [hb : SzP b j] [ht : SzR t k] (hi : i ≤ 10000) (hj : j ≤ 10000) (hk : k ≤ 10000) : PU qfK [a.enc, b.enc, t.enc] = some (qi6 (onP a.v b.v t.v)) := by
 have s := ql0 (RP.of (q1t b.v a.v)) t (by omega) (by omega)
 rw [RP.of_v] at s
 have d := qo2 a (RP.of (q4d (q1t b.v a.v) t.v)) (by omega) (by omega)
 rw [RP.of_v] at d
 refine q0f (fn := qfn) rfl (q0a ?_)
 refine go 800 rfl ?_
 refine q00 rfl rfl (q6V b a (by omega) (by omega)) ?_
 refine go 800 rfl ?_
 refine q00 rfl rfl s ?_
 refine go 800 rfl ?_
 refine q00 rfl rfl d ?_
 refine go 800 rfl ?_
 exact q0c rfl rfl rfl trivial rfl
def q5r (z : Int) : Bool := decide (-1048576 ≤ z) && decide (z ≤ 1048576)
theorem qf7 (r : RR) {k : Nat} [h : SzR r k] (hk : k ≤ 100000) : PU q6d [r.enc] = some (.tup [.int .i64 (if -9223372036854775808 ≤ q0Z r.v ∧ q0Z r.v ≤ 9223372036854775807 then q0Z r.v else 0), .bool (q5r (q0Z r.v))]) := by
 have s := quY (RI.of (q0Z r.v)) (by omega)
 rw [RI.of_v] at s
 refine q0f (fn := q63) rfl (q0a ?_)
 refine go 800 rfl ?_
 refine q00 rfl rfl (ql6 r (by omega)) ?_
 refine go 800 rfl ?_
 by_cases h1 : -9223372036854775808 ≤ q0Z r.v ∧ q0Z r.v ≤ 9223372036854775807
 ·rw [q5q, if_pos h1] at s
  rw [if_pos h1]
  refine q00 rfl rfl s ?_
  repeat' (first
   | (refine goP 800 rfl rfl ?_)
   | (show wpM _ _ _ (Fr.ops _ _ (KOper.mk _ _ (some _) _ _ :: _) :: _) Ex.normal _ _ _ _ _; first | refine q0o rfl ?_ | refine q0u rfl ?_ | refine q09 rfl (fun _ => ?_) (fun _ => ?_))
   | (show wpM _ _ _ (Fr.code (K.cond _ _ _) :: _) Ex.normal _ _ _ _ _; first | refine q0m rfl ?_ | refine q0n rfl ?_ | refine q02 rfl (fun _ => ?_) (fun _ => ?_))
   | (show wpM _ _ _ (Fr.ops _ _ (KOper.mk _ _ none _ (KOp.pick _ _ _) :: _) :: _) Ex.normal _ _ _ _ _; refine q0I rfl (fun _ => ?_) (fun _ => ?_))
   | (show wpM _ _ _ [] _ _ _ _ _ _; refine q0c rfl rfl rfl trivial ?_))
  all_goals simp only [q22, q1U, decide_eq_true_eq, decide_eq_false_iff_not] at *
  all_goals simp only [q5r]
  all_goals simp_all
  all_goals omega
 ·rw [q5q, if_neg h1] at s
  rw [if_neg h1]
  refine q00 rfl rfl s ?_
  repeat' (first
   | (refine goP 800 rfl rfl ?_)
   | (show wpM _ _ _ (Fr.ops _ _ (KOper.mk _ _ (some _) _ _ :: _) :: _) Ex.normal _ _ _ _ _; first | refine q0o rfl ?_ | refine q0u rfl ?_ | refine q09 rfl (fun _ => ?_) (fun _ => ?_))
   | (show wpM _ _ _ (Fr.code (K.cond _ _ _) :: _) Ex.normal _ _ _ _ _; first | refine q0m rfl ?_ | refine q0n rfl ?_ | refine q02 rfl (fun _ => ?_) (fun _ => ?_))
   | (show wpM _ _ _ (Fr.ops _ _ (KOper.mk _ _ none _ (KOp.pick _ _ _) :: _) :: _) Ex.normal _ _ _ _ _; refine q0I rfl (fun _ => ?_) (fun _ => ?_))
   | (show wpM _ _ _ [] _ _ _ _ _ _; refine q0c rfl rfl rfl trivial ?_))
  all_goals simp only [q5r]
  all_goals (simp; omega)
def q20 (p : QP) : Spot × Int := if q5r (q0Z p.x) && q5r (q0Z p.y) then (⟨q0Z p.x, q0Z p.y⟩, 0) else (⟨0, 0⟩, 3)
theorem q51 {z : Int} : q5r z = true ↔ -1048576 ≤ z ∧ z ≤ 1048576 := by simp [q5r]
theorem qjj (p : RP) {k : Nat} [h : SzP p k] (hk : k ≤ 100000) : PU q6N [p.enc] = some (.tup [(q20 p.v).1.enc, .int .i64 (q20 p.v).2]) := by
 have ex : p.v.x = p.x.v := rfl
 have ey : p.v.y = p.y.v := rfl
 refine q0f (fn := qbi) rfl (q0a ?_)
 refine go 800 rfl ?_
 refine q00 rfl rfl (qf7 p.x hk) ?_
 refine go 800 rfl ?_
 refine q00 rfl rfl (qf7 p.y hk) ?_
 refine go 800 rfl ?_
 refine q09 rfl (fun g1 => ?_) (fun g1 => ?_)
 ·repeat' (first
   | (refine goP 800 rfl rfl ?_)
   | (show wpM _ _ _ (Fr.ops _ _ (KOper.mk _ _ (some _) _ _ :: _) :: _) Ex.normal _ _ _ _ _; first | refine q0o rfl ?_ | refine q0u rfl ?_ | refine q09 rfl (fun _ => ?_) (fun _ => ?_))
   | (show wpM _ _ _ (Fr.code (K.cond _ _ _) :: _) Ex.normal _ _ _ _ _; first | refine q0m rfl ?_ | refine q0n rfl ?_ | refine q02 rfl (fun _ => ?_) (fun _ => ?_))
   | (show wpM _ _ _ (Fr.ops _ _ (KOper.mk _ _ none _ (KOp.pick _ _ _) :: _) :: _) Ex.normal _ _ _ _ _; refine q0I rfl (fun _ => ?_) (fun _ => ?_))
   | (show wpM _ _ _ [] _ _ _ _ _ _; refine q0c rfl rfl rfl trivial ?_))
  simp only [Bool.not_eq_true', Bool.not_eq_false'] at g1
  rw [q20, ex, ey, g1]; rfl
 ·simp only [Bool.not_eq_true', Bool.not_eq_false'] at g1
  repeat' (first
   | (refine goP 800 rfl rfl ?_)
   | (show wpM _ _ _ (Fr.ops _ _ (KOper.mk _ _ (some _) _ _ :: _) :: _) Ex.normal _ _ _ _ _; first | refine q0o rfl ?_ | refine q0u rfl ?_ | refine q09 rfl (fun _ => ?_) (fun _ => ?_))
   | (show wpM _ _ _ (Fr.code (K.cond _ _ _) :: _) Ex.normal _ _ _ _ _; first | refine q0m rfl ?_ | refine q0n rfl ?_ | refine q02 rfl (fun _ => ?_) (fun _ => ?_))
   | (show wpM _ _ _ (Fr.ops _ _ (KOper.mk _ _ none _ (KOp.pick _ _ _) :: _) :: _) Ex.normal _ _ _ _ _; refine q0I rfl (fun _ => ?_) (fun _ => ?_))
   | (show wpM _ _ _ [] _ _ _ _ _ _; refine q0c rfl rfl rfl trivial ?_))
  ·rename_i g2
   simp only [Bool.not_eq_true', Bool.not_eq_false'] at g2
   rw [q20, ex, ey, g1, g2]; rfl
  ·rename_i g2
   simp only [Bool.not_eq_true', Bool.not_eq_false'] at g2
   have g1' := q51.1 g1
   have g2' := q51.1 g2
   rw [q20, ex, ey, g1, g2, if_pos (by omega), if_pos (by omega)]; rfl
end Go.F

namespace Go.F
attribute [local irreducible] IntKind.wrap wpM
section
variable {T : Tab} {sh : Shr} {nx0 : Nat} {s : List Fr} {t : q0z} {h : q0e} {z : Frz} {nx : Nat} {q : Ex → q0z → q0e → Frz → Nat → Prop}
variable {base i : Nat} {res : List Nat} {dst : Nat} {g : Gd} {rest : List KOper}
end
def qiX (n : Nat) : Nat → Nat → Nat
 | 0, r => r
 | k + 1, r => if (r + 2 ^ k) * (r + 2 ^ k) ≤ n then qiX n k (r + 2 ^ k) else qiX n k r
theorem qm8 (n : Nat) : ∀ (k r : Nat), r * r ≤ n → n < (r + 2 ^ k) * (r + 2 ^ k) → qiX n k r * qiX n k r ≤ n ∧ n < (qiX n k r + 1) * (qiX n k r + 1) := by
 intro k
 induction k with
 | zero => intro r h1 h2; simp only [qiX]; exact ⟨h1, by simpa using h2⟩
 | succ k ih =>
   intro r h1 h2
   rw [qiX]
   rw [Nat.pow_succ] at h2
   split
   ·rename_i h; exact ih _ h (by rw [show r + 2 ^ k + 2 ^ k = r + 2 ^ k * 2 by omega]; exact h2)
   ·rename_i h; exact ih _ h1 (by omega)
theorem qg2 {a b : Nat} (h : a * a < b * b) : a < b := by
 by_cases hc : b ≤ a
 ·exact absurd (Nat.mul_le_mul hc hc) (by omega)
 ·omega
end Go.F

namespace Go.F
attribute [local irreducible] IntKind.wrap wpM
def q3i {α : Type} (d : α) (n : Nat) (f : Nat → α) (k : Nat) : List α := (List.range n).map fun i => if i < k then f i else d
theorem qaA {α : Type} (d : α) (n : Nat) (f : Nat → α) : q3i d n f 0 = List.replicate n d := by
 unfold q3i
 apply List.ext_getElem <;> simp
theorem qhe {α : Type} (d : α) (n : Nat) (f : Nat → α) : q3i d n f n = (List.range n).map f := by
 unfold q3i
 refine List.map_congr_left fun i hi => ?_
 rw [if_pos (List.mem_range.1 hi)]
theorem q8M {α : Type} (d : α) (n : Nat) (f : Nat → α) (k : Nat) : (q3i d n f k).length = n := by simp [q3i]
theorem qcC {α : Type} (d : α) {n : Nat} (f : Nat → α) {k : Nat} (h : k < n) : (q3i d n f k).set k (f k) = q3i d n f (k + 1) := by
 unfold q3i
 apply List.ext_getElem
 ·simp
 ·intro i h1 h2
  simp only [List.length_set, List.length_map, List.length_range] at h1
  rw [List.getElem_set]
  by_cases hik : k = i
  ·subst hik; simp
  ·rw [if_neg hik]
   simp only [List.getElem_map, List.getElem_range]
   by_cases h3 : i < k
   ·rw [if_pos h3, if_pos (by omega)]
   ·rw [if_neg h3, if_neg (by omega)]
section
variable {T : Tab} {sh : Shr} {nx0 : Nat} {s : List Fr} {t : q0z} {h : q0e} {z : Frz} {nx : Nat} {q : Ex → q0z → q0e → Frz → Nat → Prop}
variable {base i : Nat} {res : List Nat} {g : Gd} {rest : List KOper}
theorem q4i {α : Type} {enc : α → D} {hint : Bool} {a v : X} {dst : Option Nat} {id k' n : Nat} (L : List α) (k : Nat) (w : α) (ha : a.ev t = .ptr id k' 0) (hv : v.ev t = enc w) (hkk : k' = k)
 (hn : (Nat.beq (enc w).cells.length n && (enc w).sto) = true) (hs : ∀ x : α, qb6 (enc x) 0 (enc w).cells = some (enc w))
 (hr : g.h base h id = some (.row (L.map enc) n)) (hz : g.z base z id ≤ k) (hl : k < L.length)
 (hk : wpM T sh nx0 (.ops base res rest :: s) .normal (put t dst (.tup [])) (upd h id (some (.row ((L.set k w).map enc) n))) z nx q) :
 wpM T sh nx0 (.ops base res (⟨i, dst, none, g, .store hint n a v⟩ :: rest) :: s) .normal t h z nx q := by
 subst hkk
 refine qli (e := enc L[k']) (e' := enc w) ha (by rw [hv]; exact hn) hr hz (q7C hl) (by rw [hv]; exact hs _) ?_
 rw [← List.map_set]
 exact hk
end
def sqd (a b : Spot) : Nat := ((b.x - a.x) * (b.x - a.x) + (b.y - a.y) * (b.y - a.y)).toNat
theorem q75 (a b : Spot) : ((sqd a b : Nat) : Int) = (b.x - a.x) * (b.x - a.x) + (b.y - a.y) * (b.y - a.y) := by
 unfold sqd
 have h1 := q7w (b.x - a.x)
 have h2 := q7w (b.y - a.y)
 omega
theorem qut {x : Int} (h : x ≠ 0) : 0 < x * x := by
 rcases Int.lt_or_gt_of_ne h with h | h
 ·have := Int.mul_pos (show 0 < -x by omega) (show 0 < -x by omega)
  rwa [Int.neg_mul_neg] at this
 ·exact Int.mul_pos h h
theorem qeo {a b : Spot} (h : a ≠ b) : 0 < sqd a b := by
 have e := q75 a b
 have h1 := q7w (b.x - a.x)
 have h2 := q7w (b.y - a.y)
 by_cases hx : b.x - a.x = 0
 ·have hy : b.y - a.y ≠ 0 := fun hy => h (by cases a; cases b; simp at hx hy ⊢; omega)
  have := qut hy
  omega
 ·have := qut hx
  omega
theorem q7B {a b : Int} {m : Nat} (hb : 0 < b) (h1 : -(m : Int) ≤ a) (h2 : a ≤ m) : -(m : Int) ≤ q1D a b ∧ q1D a b ≤ m := by
 have key : ∀ x : Int, 0 ≤ x → x ≤ m → 0 ≤ (2 * x + b) / (2 * b) ∧ (2 * x + b) / (2 * b) ≤ m := by
  intro x h0 hx
  refine ⟨Int.ediv_nonneg (by omega) (by omega), ?_⟩
  by_cases hx0 : x = 0
  ·subst hx0; rw [Int.ediv_eq_zero_of_lt (by omega) (by omega)]; omega
  ·have h4 : 2 * x + b < (x + 1) * (2 * b) := by
    have : x * (2 * b) ≥ x * 2 := Int.mul_le_mul_of_nonneg_left (by omega) h0
    rw [Int.add_mul]; omega
   have := Int.ediv_lt_of_lt_mul (by omega) h4
   omega
 unfold q1D
 split
 ·have := key (-a) (by omega) (by omega); omega
 ·have := key a (by omega) (by omega); omega
end Go.F

namespace Go.F
attribute [local irreducible] IntKind.wrap wpM
def qp (s : Spot) : QP := ⟨s.x, s.y⟩
class MidS (s : Spot) : Prop where
 bx : s.x.natAbs ≤ 1099511627776
 byy : s.y.natAbs ≤ 1099511627776
instance midOk {s : Spot} [h : OkS s] : MidS s := ⟨by have := h.bx; omega, by have := h.byy; omega⟩
instance (priority := 100) midX {s : Spot} [h : MidS s] : Bd s.x 1099511627776 := ⟨h.bx⟩
instance (priority := 100) midY {s : Spot} [h : MidS s] : Bd s.y 1099511627776 := ⟨h.byy⟩
instance qbQx {s : Spot} [h : MidS s] : QPB (qp s) 2 := ⟨ql5 (by have := h.bx; omega) (by have := h.bx; omega), ql5 (by have := h.byy; omega) (by have := h.byy; omega)⟩
structure Seg where
 fr : Spot
 to : Spot
 w : Int
def Seg.enc (s : Seg) : D := .agg [.int .i64 s.fr.x, .int .i64 s.fr.y, .int .i64 s.to.x, .int .i64 s.to.y, .int .i64 s.w]
class SegOk (s : Seg) : Prop where
 fr : MidS s.fr
 to : MidS s.to
 w0 : 0 ≤ s.w
 w1 : s.w ≤ 500
instance {s : Seg} [h : SegOk s] : MidS s.fr := h.fr
instance {s : Seg} [h : SegOk s] : MidS s.to := h.to
end Go.F

namespace Go.F
attribute [local irreducible] IntKind.wrap wpM
section
variable {T : Tab} {sh : Shr} {nx0 : Nat} {s : List Fr} {t : q0z} {h : q0e} {z : Frz} {nx : Nat} {q : Ex → q0z → q0e → Frz → Nat → Prop}
variable {base i : Nat} {res : List Nat} {g : Gd} {rest : List KOper}
theorem q1O {α : Type} {enc : α → D} {hint ag : Bool} {n : Nat} {a : X} {dst : Nat} {id k' esz : Nat} (L : List α) (k : Nat) (d : α) (ha : a.ev t = .ptr id k' 0) (hkk : k' = k) (hp : ∀ w : α, qmS ag n (enc w) 0 = some (enc w)) (hr : g.h base h id = some (.row (L.map enc) esz)) (hd : L[k]? = some d)
 (hk : wpM T sh nx0 (.ops base res rest :: s) .normal (upd t dst (enc d)) h z nx q) :
 wpM T sh nx0 (.ops base res (⟨i, some dst, none, g, .load hint ag n a⟩ :: rest) :: s) .normal t h z nx q := by
 subst hkk
 exact qsM ha hr (e := enc d) (by rw [List.getElem?_map, hd]; rfl) (hp d) hk
end
end Go.F

namespace Go.F
attribute [local irreducible] IntKind.wrap wpM
section
variable {T : Tab} {sh : Shr} {nx0 : Nat} {s : List Fr} {t : q0z} {h : q0e} {z : Frz} {nx : Nat} {q : Ex → q0z → q0e → Frz → Nat → Prop}
variable {base i : Nat} {res : List Nat} {dst : Nat} {g : Gd} {rest : List KOper}
end
def qmd (p : List Spot) (i : Nat) : Edge := ⟨⟨#[UInt8.ofNat (97 + i % 26)]⟩, [pt p i, pt p ((i + 1) % p.length)]⟩
def quM (p : List Spot) : List Edge := (List.range p.length).map (qmd p)
def qjK (x y z w : Int) : List Spot := [⟨x, y⟩, ⟨z, y⟩, ⟨z, w⟩, ⟨x, w⟩]
def quN (s : ByteArray) : Bool :=
 !decide (s.size = 0) && (!decide (24 < s.size) && (!(s.data.toList == [109, 105, 110]) && (!(s.data.toList == [109, 97, 120]) && decide (∀ i, i < s.size → q8p i (s.data.toList.getD i 0).toNat = true))))
theorem quO : q3O = quN := by
 funext s
 unfold q3O quN q69
 simp only [Go.ByteArray.toList_eq]
def qgh (l : List Edge) (i : Nat) : Int :=
 if quN (eg l i).name = false then 1 else if ((List.range i).any fun j => (eg l j).name.data.toList == (eg l i).name.data.toList) then 7 else q1v (eg l i).line
theorem qoU : q1q = qgh := by
 funext l i
 unfold q1q qgh qdy
 simp only [quO, Go.ByteArray.toList_eq]
def quP (l : List Edge) : Int :=
 if 16 < l.length then 5 else if l.length < 2 then 11
 else if q1n (qgh l) l.length = 0 then
  if q1n (q2O l) l.length = 0 then q1V (q0k l) else q1n (q2O l) l.length
 else q1n (qgh l) l.length
theorem qaD : q0J = quP := by
 funext l
 unfold q0J quP
 simp only [qoU]
def ex1 : List Edge := quM (qjK 0 0 10 10)
def ex2 : List Edge := quM [⟨0, 0⟩, ⟨30, 0⟩, ⟨0, 40⟩]
end Go.F

namespace Go.F
attribute [local irreducible] IntKind.wrap wpM
end Go.F

namespace Go.F
attribute [local irreducible] IntKind.wrap wpM
end Go.F

namespace Go.F
end Go.F

namespace Go.F
end Go.F

namespace Go.F
end Go.F

namespace Go.F
def crU (U : Nat → Int) (j : Nat) (z : Int) : Prop := (U j ≤ z ∧ z < U (j + 1)) ∨ (U (j + 1) ≤ z ∧ z < U j)
instance (U : Nat → Int) (j : Nat) (z : Int) : Decidable (crU U j z) := by unfold crU; exact inferInstance
def yU (U V : Nat → Int) (t : Nat → Rat) (j : Nat) (z : Int) : Rat := (V j : Rat) + t j * ((z : Rat) - (U j : Rat))
structure ClU (n : Nat) (U V : Nat → Int) (t : Nat → Rat) : Prop where
 cU : U n = U 0
 cV : V n = V 0
 ne : ∀ j, j < n → U j ≠ U (j + 1)
 yt : ∀ j, j < n → yU U V t j (U (j + 1)) = V (j + 1)
end Go.F

namespace Go.F
def inU (U : Nat → Int) (j : Nat) (z : Int) : Prop := (U j ≤ z ∧ z ≤ U (j + 1)) ∨ (U (j + 1) ≤ z ∧ z ≤ U j)
structure SmU (n : Nat) (U V : Nat → Int) (t : Nat → Rat) : Prop extends ClU n U V t where
 n3 : 3 ≤ n
 same : ∀ i j z, i < n → j < n → i ≠ j → crU U i z → crU U j z →
  (yU U V t i z ≤ yU U V t j z ∧ yU U V t i (z + 1) ≤ yU U V t j (z + 1) ∧ yU U V t i z + yU U V t i (z + 1) < yU U V t j z + yU U V t j (z + 1)) ∨
  (yU U V t j z ≤ yU U V t i z ∧ yU U V t j (z + 1) ≤ yU U V t i (z + 1) ∧ yU U V t j z + yU U V t j (z + 1) < yU U V t i z + yU U V t i (z + 1))
 tch : ∀ i j z, i < n → j < n → i ≠ j → inU U i z → inU U j z → yU U V t i z = yU U V t j z →
  ∃ m m', (m = i ∨ m = i + 1) ∧ (m' = j ∨ m' = j + 1) ∧ U m = z ∧ (m = m' ∨ (m = 0 ∧ m' = n) ∨ (m = n ∧ m' = 0))
def hU (U V : Nat → Int) (t : Nat → Rat) (j : Nat) (z : Int) : Rat := yU U V t j z + yU U V t j (z + 1)
end Go.F

namespace Go.F
end Go.F

namespace Go.F
end Go.F

namespace Go.F
end Go.F

namespace Go.F
end Go.F

namespace Go.F
def vx (p : List Spot) (i : Nat) : Spot := pt p (i % p.length)
end Go.F

namespace Go.F
theorem q9W {p : List Spot} (h : q1v p = 0) {j : Nat} (hj : j + 1 < p.length) : pt p j ≠ pt p (j + 1) := by
 unfold q1v at h
 split at h
 ·cases h
 split at h
 ·cases h
 split at h
 ·cases h
 split at h
 ·rename_i h4; exact h4 j (by omega)
 ·cases h
theorem q3J {p : List Spot} (h : q1v p = 0) {j : Nat} (hj : j < p.length) : q0v (pt p j) 1048576 = true := by
 rw [q0F hj]; exact (q1T h).2.2 _ (List.getElem_mem _)
end Go.F

namespace Go.F
attribute [local irreducible] IntKind.wrap wpM
structure Turn where
 flip : Bool
 quarter : Int
def Turn.enc (t : Turn) : D := .agg [.bool t.flip, .int .i64 t.quarter]
def ng (x : Int) : Int := IntKind.i64.wrap (0 - x)
def q4J : Nat → Spot → Spot
 | 0, s => s
 | k + 1, s => ⟨ng (q4J k s).y, (q4J k s).x⟩
def q3a (f : Bool) (s : Spot) : Spot := if f then ⟨ng s.x, s.y⟩ else s
def q19 (t : Turn) (s : Spot) : Spot := q4J (t.quarter % 4).toNat (q3a t.flip s)
theorem and3 (q : Int) : IntKind.i64.wrap ((BitVec.ofInt IntKind.i64.bits q &&& BitVec.ofInt IntKind.i64.bits 3).toNat : Int) = q % 4 := by
 have e : IntKind.i64.bits = 64 := rfl
 have h3 : (BitVec.ofInt 64 3).toNat = 2 ^ 2 - 1 := by decide
 rw [e, BitVec.toNat_and, h3, Nat.and_two_pow_sub_one_eq_mod, BitVec.toNat_ofInt]
 have hq : ((q % ((2 ^ 64 : Nat) : Int)).toNat % 2 ^ 2 : Nat) = (q % 4).toNat := by omega
 rw [hq, wrap64 (by omega) (by omega)]
 omega
theorem q7N (t : Turn) (s : Spot) : PU q8w [t.enc, s.enc] = some (q19 t s).enc := by
 have hm : (t.quarter % 4) = ((t.quarter % 4).toNat : Int) := by omega
 have hm4 : (t.quarter % 4).toNat < 4 := by omega
 refine q0f (fn := qbl) rfl (q0a ?_)
 refine go 800 rfl ?_
 refine q02 rfl (fun g => ?_) (fun g => ?_)
 ·have hr : q3a t.flip s = ⟨ng s.x, s.y⟩ := by rw [q3a, if_pos g]
  refine go 800 rfl ?_
  rw [and3, hm]
  refine q0p (S := fun k : Nat => ([.ptr 0 0 0, .ptr 1 0 0, q01 (t.quarter % 4).toNat, q01 k], [some (.row [(q4J k (q3a t.flip s)).enc] 2), some (.row [Spot.enc ⟨0, 0⟩] 2), none, none], [0, 0, 0, 0])) (C := fun k => k ≤ (t.quarter % 4).toNat) (m := fun k => 4 - k) 0 (Nat.zero_le _) (by omega) ?_ ?_
  ·exact q03 rfl ⟨rfl, rfl, trivial⟩ (by simp [q01, hr, q4J, Spot.enc, ng])
  intro k hk N hN
  have w1 : IntKind.i64.wrap ((k : Int) + 1) = ((k + 1 : Nat) : Int) := wrap64 (by omega) (by omega)
  refine go 800 rfl ?_
  refine q02 rfl (fun g1 => ?_) (fun g1 => ?_)
  ·rw [q06] at g1
   refine go 800 rfl ?_
   refine q05 ?_
   exact hN (k + 1) (by omega) (by omega) (q03 rfl ⟨rfl, rfl, trivial⟩ (by simp [q01, w1, q4J, Spot.enc, ng]))
  rw [q07] at g1
  obtain rfl : k = (t.quarter % 4).toNat := by omega
  refine go 800 rfl ?_
  refine q05 ?_
  refine go 800 rfl ?_
  exact q0c rfl rfl rfl trivial rfl
 ·have hr : q3a t.flip s = s := by rw [q3a, if_neg (by rw [g]; decide)]
  refine go 800 rfl ?_
  rw [and3, hm]
  refine q0p (S := fun k : Nat => ([.ptr 0 0 0, .ptr 1 0 0, q01 (t.quarter % 4).toNat, q01 k], [some (.row [(q4J k (q3a t.flip s)).enc] 2), some (.row [Spot.enc ⟨0, 0⟩] 2), none, none], [0, 0, 0, 0])) (C := fun k => k ≤ (t.quarter % 4).toNat) (m := fun k => 4 - k) 0 (Nat.zero_le _) (by omega) ?_ ?_
  ·exact q03 rfl ⟨rfl, rfl, trivial⟩ (by simp [q01, hr, q4J, Spot.enc, ng])
  intro k hk N hN
  have w1 : IntKind.i64.wrap ((k : Int) + 1) = ((k + 1 : Nat) : Int) := wrap64 (by omega) (by omega)
  refine go 800 rfl ?_
  refine q02 rfl (fun g1 => ?_) (fun g1 => ?_)
  ·rw [q06] at g1
   refine go 800 rfl ?_
   refine q05 ?_
   exact hN (k + 1) (by omega) (by omega) (q03 rfl ⟨rfl, rfl, trivial⟩ (by simp [q01, w1, q4J, Spot.enc, ng]))
  rw [q07] at g1
  obtain rfl : k = (t.quarter % 4).toNat := by omega
  refine go 800 rfl ?_
  refine q05 ?_
  refine go 800 rfl ?_
  exact q0c rfl rfl rfl trivial rfl
end Go.F

namespace Go.F
attribute [local irreducible] IntKind.wrap wpM
def q4r (t : Turn) (p : List Spot) : List Spot := if t.flip then (p.map (q19 t)).reverse else p.map (q19 t)
def q1s (t : Turn) (e : Edge) : Edge := ⟨e.name, q4r t e.line⟩
def q1R (t : Turn) (n i : Nat) : Nat := if t.flip then (n - i) % n else i
def q0N (t : Turn) (l : List Edge) : List Edge := (List.range l.length).map fun i => q1s t (eg l (q1R t l.length i))
theorem q5k {h : q0e} {id : Nat} {b : Blk} (hh : h id = some b) (hp : q1l (some b) = true) : q2j h id = some b := by
 unfold q2j
 rw [hh, hp]; rfl
def Old4 (b1 b2 b3 b4 : Blk) (h : q0e) (z : Frz) : Prop :=
 (∃ h0 : q0e, h = upd (upd (upd (upd h0 1 (some b1)) 2 (some b2)) 3 (some b3)) 4 (some b4)) ∧ ∃ z0 : Frz, z = upd (upd (upd (upd z0 1 0) 2 0) 3 0) 4 0
theorem Old4.of {b1 b2 b3 b4 : Blk} {h : q0e} {z : Frz} (h1 : h 1 = some b1) (h2 : h 2 = some b2) (h3 : h 3 = some b3) (h4 : h 4 = some b4) (z1 : z 1 = 0) (z2 : z 2 = 0) (z3 : z 3 = 0) (z4 : z 4 = 0) : Old4 b1 b2 b3 b4 h z := by
 refine ⟨⟨h, ?_⟩, z, ?_⟩
 ·rw [q2w (f := h) h1, q2w (f := h) h2, q2w (f := h) h3, q2w (f := h) h4]
 ·rw [q2w (f := z) z1, q2w (f := z) z2, q2w (f := z) z3, q2w (f := z) z4]
theorem Old4.old {b1 b2 b3 b4 : Blk} {h : q0e} {z : Frz} (p1 : q1l (some b1) = true) (p2 : q1l (some b2) = true) (p3 : q1l (some b3) = true) (p4 : q1l (some b4) = true) (h1 : h 1 = some b1) (h2 : h 2 = some b2) (h3 : h 3 = some b3) (h4 : h 4 = some b4) (z1 : z 1 = 0) (z2 : z 2 = 0) (z3 : z 3 = 0) (z4 : z 4 = 0) : Old4 b1 b2 b3 b4 (q2j h) z :=
 Old4.of (q5k h1 p1) (q5k h2 p2) (q5k h3 p3) (q5k h4 p4) z1 z2 z3 z4
theorem q4w {α : Type} {enc : α → D} (h : ∀ x, plain 4 (enc x) = true) (l : List α) (n : Nat) : q1l (some (.row (l.map enc) n)) = true := by
 simp only [q1l]; exact q04 h l
def q4H (a : List Spot) (i : Nat) : List Spot := (List.range a.length).map fun m => if m < i ∨ a.length ≤ m + i then pt a (a.length - 1 - m) else pt a m
theorem qb9 (a : List Spot) (i : Nat) : (q4H a i).length = a.length := by simp [q4H]
theorem qna (a : List Spot) (i m : Nat) (h : m < (q4H a i).length) : (q4H a i)[m] = if m < i ∨ a.length ≤ m + i then pt a (a.length - 1 - m) else pt a m := by
 simp [q4H]
theorem qlp (a : List Spot) : q4H a 0 = a := by
 unfold q4H
 apply List.ext_getElem
 ·simp
 ·intro m h1 h2
  simp only [List.getElem_map, List.getElem_range]
  rw [if_neg (by omega), q0F h2]
theorem qnb (a : List Spot) {i : Nat} (h : a.length ≤ 2 * i + 1) : q4H a i = a.reverse := by
 unfold q4H
 apply List.ext_getElem
 ·simp
 ·intro m h1 h2
  simp only [List.length_map, List.length_range] at h1
  simp only [List.getElem_map, List.getElem_range, List.getElem_reverse]
  split
  ·rw [q0F (by omega)]
  ·rw [q0F h1]
   congr 1
   omega
theorem qlq (a : List Spot) {i : Nat} (h : 2 * i + 1 < a.length) : ((q4H a i).set i (pt a (a.length - 1 - i))).set (a.length - 1 - i) (pt a i) = q4H a (i + 1) := by
 apply List.ext_getElem
 ·simp [q4H]
 ·intro m h1 h2
  simp only [List.length_set, qb9] at h1
  rw [List.getElem_set, List.getElem_set, qna, qna]
  by_cases e1 : a.length - 1 - i = m
  ·rw [if_pos e1, if_pos (by omega)]
   congr 1; omega
  ·rw [if_neg e1]
   by_cases e2 : i = m
   ·rw [if_pos e2, if_pos (by omega), e2]
   ·rw [if_neg e2]
    by_cases e3 : m < i ∨ a.length ≤ m + i
    ·rw [if_pos e3, if_pos (by omega)]
    ·rw [if_neg e3, if_neg (by omega)]
theorem qhc (a : List Spot) {i m : Nat} (hm : m < a.length) (h1 : ¬ m < i) (h2 : m + i < a.length) : (q4H a i)[m]? = some (pt a m) := by
 unfold q4H
 rw [List.getElem?_map, List.getElem?_range hm]
 simp only [Option.map_some]
 rw [if_neg (by omega)]
set_option maxHeartbeats 2000000 in
theorem rev71 (a : List Spot) (ha : a.length ≤ 1000000) (b1 b2 b3 : Blk) (p1 : q1l (some b1) = true) (p2 : q1l (some b2) = true) (p3 : q1l (some b3) = true) {h : q0e} {z : Frz} {K : D → q0e → Frz → Nat → Prop}
 (hold : Old4 b1 b2 b3 (.row (a.map Spot.enc) 2) h z)
 (hk : ∀ (h' : q0e) (z' : Frz), Old4 b1 b2 b3 (.row (a.reverse.map Spot.enc) 2) h' z' → K (.tup []) h' z' 85) :
 wpM TT (shr TT 5) 71 [.code k_slices_Reverse_Spot_Spot.code] .normal (enter [.ref 4 0 a.length]) h z 71 (qhS k_slices_Reverse_Spot_Spot K) := by
 obtain ⟨⟨h0, rfl⟩, z0, rfl⟩ := hold
 refine go 800 rfl ?_
 refine q6Y (S := fun x : Nat => ([.ref 4 0 a.length, q01 x, .int .i64 ((a.length : Int) - 1 - x)], [none, none, none], [0, 0, 0]))
  (O := fun x ho zo => Old4 b1 b2 b3 (.row ((q4H a x).map Spot.enc) 2) ho zo)
  (C := fun x => x ≤ a.length) (m := fun x => a.length - x) 0 (Nat.zero_le _) (by omega) ?_ ?_
 ·have w0 : IntKind.i64.wrap ((a.length : Int) - 1) = (a.length : Int) - 1 := wrap64 (by omega) (by omega)
  refine q27 rfl ⟨q04 q0h _, trivial⟩ ⟨by simp [q01, w0], ?_⟩
  rw [qlp]
  exact Old4.old p1 p2 p3 (q4w q0h _ _) rfl rfl rfl rfl rfl rfl rfl rfl
 rintro k hk' ho zo hold N hN
 obtain ⟨⟨h1, rfl⟩, z1, rfl⟩ := hold
 refine go 800 rfl ?_
 refine q02 rfl (fun e1 => ?_) (fun e1 => ?_)
 ·rw [q06] at e1
  have hlt : 2 * k + 1 < a.length := by omega
  have ej : (a.length : Int) - 1 - k = ((a.length - 1 - k : Nat) : Int) := by omega
  have w1 : IntKind.i64.wrap ((k : Int) + 1) = ((k + 1 : Nat) : Int) := wrap64 (by omega) (by omega)
  have w2 : IntKind.i64.wrap (((a.length - 1 - k : Nat) : Int) - 1) = (a.length : Int) - 1 - ((k + 1 : Nat) : Int) := by rw [wrap64 (by omega) (by omega)]; omega
  have hst := qlq a hlt
  have l1 := qhc a (i := k) (m := a.length - 1 - k) (by omega) (by omega) (by omega)
  have l2 := qhc a (i := k) (m := k) (by omega) (by omega) (by omega)
  rw [ej]
  refine go 800 rfl ?_
  refine q0B (a.length - 1 - k) rfl rfl rfl rfl rfl (by omega) ?_
  refine go 800 rfl ?_
  refine q1O (enc := Spot.enc) (q4H a k) (a.length - 1 - k) (pt a (a.length - 1 - k)) rfl (Nat.zero_add _) (fun _ => rfl) rfl l1 ?_
  refine go 800 rfl ?_
  refine q0B k rfl rfl rfl rfl rfl (by omega) ?_
  refine go 800 rfl ?_
  refine q1O (enc := Spot.enc) (q4H a k) k (pt a k) rfl (Nat.zero_add _) (fun _ => rfl) rfl l2 ?_
  refine go 800 rfl ?_
  refine q0B k rfl rfl rfl rfl rfl (by omega) ?_
  refine go 800 rfl ?_
  refine q4i (enc := Spot.enc) (q4H a k) k (pt a (a.length - 1 - k)) rfl rfl (Nat.zero_add _) rfl (fun _ => rfl) rfl (Nat.zero_le _) (by rw [qb9]; omega) ?_
  refine go 800 rfl ?_
  refine q0B (a.length - 1 - k) rfl rfl rfl rfl rfl (by omega) ?_
  refine go 800 rfl ?_
  refine q4i (enc := Spot.enc) ((q4H a k).set k (pt a (a.length - 1 - k))) (a.length - 1 - k) (pt a k) rfl rfl (Nat.zero_add _) rfl (fun _ => rfl) rfl (Nat.zero_le _) (by rw [List.length_set, qb9]; omega) ?_
  rw [hst]
  refine go 800 rfl ?_
  refine q05 ?_
  refine hN (k + 1) (by omega) (by omega) (q27 rfl ⟨q04 q0h _, trivial⟩ ⟨by simp [q01, w1, w2], ?_⟩)
  exact Old4.old p1 p2 p3 (q4w q0h _ _) rfl rfl rfl rfl rfl rfl rfl rfl
 ·rw [q07] at e1
  rw [qnb a (by omega)]
  refine go 800 rfl ?_
  refine q05 ?_
  refine go 800 rfl ?_
  exact qbO rfl rfl (hk _ _ (Old4.of rfl rfl rfl rfl rfl rfl rfl rfl))
theorem qox {hp : q0e} {es : List D} {m : Nat} (hm : 4 ≤ m) (hd : es.all (dat 4) = true) : es.mapM (q13 hp m) = some es := by
 induction es with
 | nil => rfl
 | cons x es ih =>
   simp only [List.all_cons, Bool.and_eq_true] at hd
   rw [List.mapM_cons, qqk 4 m x hd.1 hm, ih hd.2]; rfl
theorem qnc {h : q0e} {id n : Nat} {l : List Spot} {name : ByteArray} (hr : h id = some (.row (l.map Spot.enc) 2)) (hn : n = l.length) : q13 h 8 (.agg [.str name, .ref id 0 n]) = some (Edge.enc ⟨name, l⟩) := by
 subst hn
 have e : q13 h 7 (.ref id 0 l.length) = some (q0g l) := by
  rw [q13, hr]
  simp only
  rw [if_pos (by simp), List.drop_zero, List.take_of_length_le (by simp), qox (by decide) (q0T q24 _)]
  rfl
 rw [q13]
 simp only [List.mapM_cons, List.mapM_nil, e]
 rfl
theorem qlr {h : q0e} {id n : Nat} {l : List Spot} {name : ByteArray} (hr : h id = some (.row (l.map Spot.enc) 2)) : q0R h depth (.agg [.str name, .ref id 0 n]) = [id] := by
 have e : q0R h 11 (.ref id 0 n) = [id] := by
  rw [q0R, hr]
  simp only
  rw [q9Y]
  rw [List.drop_zero, ← List.map_take]
  exact q0T q24 _
 show q0R h 12 _ = _
 rw [q0R]
 simp only [List.flatMap_cons, List.flatMap_nil, e]
 rfl
theorem qiW (t : Turn) (l : List Edge) {k : Nat} (n : Nat) : ((List.range (k + 1)).map fun i => q1s t (eg l (q1R t n i))).map Edge.enc = ((List.range k).map fun i => q1s t (eg l (q1R t n i))).map Edge.enc ++ [(q1s t (eg l (q1R t n k))).enc] := by
 rw [List.range_succ, List.map_append, List.map_append]; rfl
set_option maxHeartbeats 8000000 in
theorem q1Q (l : List Edge) (t : Turn) (hl : l.length ≤ 1000) (hlen : ∀ e ∈ l, e.line.length ≤ 1000) : PU q1i [q0s l, t.enc] = some (q0s (q0N t l)) := by
 refine q0f (fn := q77) rfl (q0a ?_)
 refine go 800 rfl ?_
 rw [List.length_map]
 refine q0p (S := fun k : Nat => ([q0s l, .ptr 1 0 0, .ref 2 0 k, q01 l.length, q01 k], [none, some (.row [t.enc] 2), some (.row (((List.range k).map fun i => q1s t (eg l (q1R t l.length i))).map Edge.enc) 2), none, none], [0, 0, 0, 0, 0])) (C := fun k => k ≤ l.length) (m := fun k => l.length - k) 0 (Nat.zero_le _) (by omega) ?_ ?_
 ·exact q03 rfl ⟨rfl, rfl, trivial⟩ (by simp [q0s, q01, Turn.enc])
 intro k hk N hN
 refine go 800 rfl ?_
 refine q02 rfl (fun e1 => ?_) (fun e1 => ?_)
 ·rw [q06] at e1
  have hlt : k < l.length := by omega
  have w1 : IntKind.i64.wrap ((k : Int) + 1) = ((k + 1 : Nat) : Int) := wrap64 (by omega) (by omega)
  have hstep := qiW t l (k := k) l.length
  have hln : ∀ i, i < l.length → (eg l i).line.length ≤ 1000 := fun i hi => by rw [q4z hi]; exact hlen _ (List.getElem_mem _)
  refine go 800 rfl ?_
  refine q0i k rfl rfl rfl (q15 hlt) rfl ?_
  refine go 800 rfl ?_
  refine q02 rfl (fun g => ?_) (fun g => ?_)
  ·have g : t.flip = true := g
   have hm : (l.length - k) % l.length < l.length := Nat.mod_lt _ (by omega)
   have hx : q1R t l.length k = (l.length - k) % l.length := by rw [q1R, if_pos g]
   have w2 : IntKind.i64.wrap (((l.map Edge.enc).length : Int) - (k : Int)) = ((l.length - k : Nat) : Int) := by rw [List.length_map, wrap64 (by omega) (by omega)]; omega
   have hE := hln _ hm
   rw [hx] at hstep
   refine go 800 rfl ?_
   refine q3Y rfl rfl (by rw [List.length_map]; omega) ?_
   refine go 800 rfl ?_
   refine q0i ((l.length - k) % l.length) rfl rfl (by rw [w2, List.length_map, q1m]) (q15 hm) rfl ?_
   have hle : (q1s t (eg l ((l.length - k) % l.length))).enc = .agg [.str (eg l ((l.length - k) % l.length)).name, q0g ((eg l ((l.length - k) % l.length)).line.map (q19 t)).reverse] := by
    unfold q1s q4r; rw [if_pos g]; rfl
   generalize eg l ((l.length - k) % l.length) = E at *
   refine go 800 rfl ?_
   refine q0p (S := fun j : Nat => ([q0s l, .ptr 1 0 0, .ref 2 0 k, .ptr 3 0 0, .ref 4 0 j, q01 l.length, q01 k, q0g (E).line, q01 (E).line.length, q01 j], [none, some (.row [t.enc] 2), some (.row (((List.range k).map fun i => q1s t (eg l (q1R t l.length i))).map Edge.enc) 2), some (.row [(E).enc] 2), some (.row ((((E).line.take j).map (q19 t)).map Spot.enc) 2), none, none, none, none, none], [0, 0, 0, 0, 0, 0, 0, 0, 0, 0])) (C := fun j => j ≤ (E).line.length) (m := fun j => (E).line.length - j) 0 (Nat.zero_le _) (by omega) ?_ ?_
   ·exact q03 rfl ⟨rfl, q04 q1G _, rfl, rfl, trivial⟩ (by simp [q0s, q0g, q01, Edge.enc, Turn.enc])
   intro j hj N2 hN2
   refine go 800 rfl ?_
   refine q02 rfl (fun f1 => ?_) (fun f1 => ?_)
   ·rw [q06] at f1
    have hjl : j < (E).line.length := by omega
    have wj : IntKind.i64.wrap ((j : Int) + 1) = ((j + 1 : Nat) : Int) := wrap64 (by omega) (by omega)
    have hst : (((E).line.take (j + 1)).map (q19 t)).map Spot.enc = (((E).line.take j).map (q19 t)).map Spot.enc ++ [(q19 t (pt (E).line j)).enc] := by
     rw [List.take_succ_eq_append_getElem hjl, List.map_append, List.map_append, q0F hjl]; rfl
    refine go 800 rfl ?_
    refine q0i j rfl rfl rfl (q0D hjl) rfl ?_
    refine go 800 rfl ?_
    refine q00 rfl rfl (q7N t (pt (E).line j)) ?_
    refine go 800 rfl ?_
    refine q1e rfl rfl rfl rfl rfl rfl (by simp; omega) (Nat.zero_le _) (by simp [q0K]; omega) ?_
    refine go 800 rfl ?_
    refine q05 ?_
    refine hN2 (j + 1) hjl (by omega) (q03 rfl ⟨rfl, q04 q1G _, rfl, ?_, trivial⟩ ?_)
    ·rw [List.all_append, q04 q0h]; rfl
    ·rw [hst]; simp [q0s, q0g, q01, Edge.enc, Turn.enc, wj, Spot.enc]
   rw [q07] at f1
   obtain rfl : j = (E).line.length := by omega
   clear hN2
   rw [List.take_length]
   refine go 800 rfl ?_
   refine q05 ?_
   refine go 800 rfl ?_
   refine q02 rfl (fun _ => ?_) (fun g2 => absurd g (by have g2 : t.flip = false := g2; rw [g2]; decide))
   refine go 800 rfl ?_
   have er : E.line.length = (E.line.map (q19 t)).length := by simp
   rw [er]
   refine q7A rfl rfl ?_
   refine rev71 (E.line.map (q19 t)) (by simp; omega) _ _ _ rfl (q4w q1G _ _) rfl (Old4.of rfl rfl rfl rfl rfl rfl rfl rfl) fun h' z' hold => ?_
   obtain ⟨⟨h0, rfl⟩, z0, rfl⟩ := hold
   refine go 800 rfl ?_
   refine q1e rfl rfl rfl rfl rfl rfl (by simp) (Nat.zero_le _) (by simp [q0K]; omega) ?_
   refine go 800 rfl ?_
   refine q05 ?_
   refine hN (k + 1) hlt (by omega) (qjm [none, some (((List.range (k + 1)).map fun i => q1s t (eg l (q1R t l.length i))).map Edge.enc, [4])] rfl ⟨rfl, ?_, trivial⟩ ?_)
   ·rw [hstep]
    refine qei (q0T q5u _) (q04 q1G _) rfl ?_ (qlr (l := (E.line.map (q19 t)).reverse) rfl) rfl
    rw [qnc (l := (E.line.map (q19 t)).reverse) rfl (by simp), hle]; rfl
   ·simp [q0s, q01, w1, Turn.enc]
  ·have g : t.flip = false := g
   have hx : q1R t l.length k = k := by rw [q1R, if_neg (by rw [g]; decide)]
   have hE := hln k hlt
   rw [hx] at hstep
   have hle : (q1s t (eg l k)).enc = .agg [.str (eg l k).name, q0g ((eg l k).line.map (q19 t))] := by
    unfold q1s q4r; rw [if_neg (by rw [g]; decide)]; rfl
   generalize eg l k = E at *
   refine go 800 rfl ?_
   refine q0p (S := fun j : Nat => ([q0s l, .ptr 1 0 0, .ref 2 0 k, .ptr 3 0 0, .ref 4 0 j, q01 l.length, q01 k, q0g (E).line, q01 (E).line.length, q01 j], [none, some (.row [t.enc] 2), some (.row (((List.range k).map fun i => q1s t (eg l (q1R t l.length i))).map Edge.enc) 2), some (.row [(E).enc] 2), some (.row ((((E).line.take j).map (q19 t)).map Spot.enc) 2), none, none, none, none, none], [0, 0, 0, 0, 0, 0, 0, 0, 0, 0])) (C := fun j => j ≤ (E).line.length) (m := fun j => (E).line.length - j) 0 (Nat.zero_le _) (by omega) ?_ ?_
   ·exact q03 rfl ⟨rfl, q04 q1G _, rfl, rfl, trivial⟩ (by simp [q0s, q0g, q01, Edge.enc, Turn.enc])
   intro j hj N2 hN2
   refine go 800 rfl ?_
   refine q02 rfl (fun f1 => ?_) (fun f1 => ?_)
   ·rw [q06] at f1
    have hjl : j < (E).line.length := by omega
    have wj : IntKind.i64.wrap ((j : Int) + 1) = ((j + 1 : Nat) : Int) := wrap64 (by omega) (by omega)
    have hst : (((E).line.take (j + 1)).map (q19 t)).map Spot.enc = (((E).line.take j).map (q19 t)).map Spot.enc ++ [(q19 t (pt (E).line j)).enc] := by
     rw [List.take_succ_eq_append_getElem hjl, List.map_append, List.map_append, q0F hjl]; rfl
    refine go 800 rfl ?_
    refine q0i j rfl rfl rfl (q0D hjl) rfl ?_
    refine go 800 rfl ?_
    refine q00 rfl rfl (q7N t (pt (E).line j)) ?_
    refine go 800 rfl ?_
    refine q1e rfl rfl rfl rfl rfl rfl (by simp; omega) (Nat.zero_le _) (by simp [q0K]; omega) ?_
    refine go 800 rfl ?_
    refine q05 ?_
    refine hN2 (j + 1) hjl (by omega) (q03 rfl ⟨rfl, q04 q1G _, rfl, ?_, trivial⟩ ?_)
    ·rw [List.all_append, q04 q0h]; rfl
    ·rw [hst]; simp [q0s, q0g, q01, Edge.enc, Turn.enc, wj, Spot.enc]
   rw [q07] at f1
   obtain rfl : j = (E).line.length := by omega
   clear hN2
   rw [List.take_length]
   refine go 800 rfl ?_
   refine q05 ?_
   refine go 800 rfl ?_
   refine q02 rfl (fun g2 => absurd g (by have g2 : t.flip = true := g2; rw [g2]; decide)) (fun _ => ?_)
   refine go 800 rfl ?_
   refine q1e rfl rfl rfl rfl rfl rfl (by simp) (Nat.zero_le _) (by simp [q0K]; omega) ?_
   refine go 800 rfl ?_
   refine q05 ?_
   refine hN (k + 1) hlt (by omega) (qjm [none, some (((List.range (k + 1)).map fun i => q1s t (eg l (q1R t l.length i))).map Edge.enc, [4])] rfl ⟨rfl, ?_, trivial⟩ ?_)
   ·rw [hstep]
    refine qei (q0T q5u _) (q04 q1G _) rfl ?_ (qlr (l := E.line.map (q19 t)) rfl) rfl
    rw [qnc (l := E.line.map (q19 t)) rfl (by simp), hle]; rfl
   ·simp [q0s, q01, w1, Turn.enc]
 rw [q07] at e1
 obtain rfl : k = l.length := by omega
 refine go 800 rfl ?_
 refine q05 ?_
 refine go 800 rfl ?_
 refine q0c rfl rfl rfl ⟨q2u (by simp) (q0T q5u _), trivial⟩ ?_
 rw [q2q (by simp)]; rfl
end Go.F

namespace Go.F
attribute [local irreducible] IntKind.wrap wpM
set_option maxHeartbeats 1000000 in
theorem q6x (l : List Edge) (hl : l.length ≤ 1000000) (hlen : ∀ e ∈ l, e.line.length ≤ 1000000) : PU q6a [q0s l, q0s l] = some (.bool true) := by
 refine q0f (fn := qfc) rfl (q0a ?_)
 refine go 800 rfl ?_
 refine q02 rfl (fun g => absurd rfl (q0O.1 g)) (fun _ => ?_)
 refine go 800 rfl ?_
 refine q0p (S := fun k : Nat => ([q0s l, q0s l, q01 k], [none, none, none], [0, 0, 0])) (C := fun k => k ≤ l.length) (m := fun k => l.length - k) 0 (Nat.zero_le _) (by omega) ?_ ?_
 ·exact q03 rfl trivial (by simp [q0s, q01])
 intro k hk N hN
 refine go 800 rfl ?_
 rw [List.length_map]
 refine q02 rfl (fun g => ?_) (fun g => ?_)
 ·rw [q06] at g
  have hlt : k < l.length := by omega
  have w1 : IntKind.i64.wrap ((k : Int) + 1) = ((k + 1 : Nat) : Int) := wrap64 (by omega) (by omega)
  have hln := hlen _ (show eg l k ∈ l by rw [q4z hlt]; exact List.getElem_mem _)
  refine go 800 rfl ?_
  refine q0i k rfl rfl rfl (q15 hlt) rfl ?_
  refine go 800 rfl ?_
  refine q0i k rfl rfl rfl (q15 hlt) rfl ?_
  refine go 800 rfl ?_
  refine q09 rfl (fun e => absurd e (by simp)) (fun _ => ?_)
  refine go 800 rfl ?_
  refine q0i k rfl rfl rfl (q15 hlt) rfl ?_
  refine go 800 rfl ?_
  refine q0i k rfl rfl rfl (q15 hlt) rfl ?_
  refine go 800 rfl ?_
  refine q00 rfl rfl (q2W (eg l k).line (eg l k).line (by omega)) ?_
  refine go 800 rfl ?_
  refine q02 rfl (fun e => absurd e (by simp)) (fun _ => ?_)
  refine go 800 rfl ?_
  refine q05 ?_
  exact hN (k + 1) hlt (by omega) (q03 rfl trivial (by simp [q0s, q01, w1]))
 rw [q07] at g
 refine go 800 rfl ?_
 refine q05 ?_
 refine go 800 rfl ?_
 exact q0c rfl rfl rfl trivial rfl
end Go.F

namespace Go.F
attribute [local irreducible] IntKind.wrap wpM
theorem q1y (l : List Nat) (i : Nat) [ho : LOk l] (hi : i ≤ 4000000000) : PU q23 [nat l, .int .i64 i] = some (.int .u64 (dg l i)) := by
 have hd := q1o ho i
 refine q0f (fn := qfA) rfl (q0a ?_)
 refine go 800 rfl ?_
 refine q09 rfl (fun h => ?_) (fun h => ?_)
 ·rw [q06] at h; omega
 refine go 800 rfl ?_
 rw [List.length_map]
 refine q02 rfl (fun h1 => ?_) (fun h1 => ?_)
 ·rw [q1k] at h1
  refine go 800 rfl ?_
  refine q0c rfl rfl rfl trivial ?_
  rw [q8q (by omega)]; rfl
 ·rw [q1f] at h1
  refine go 800 rfl ?_
  refine q0i i rfl rfl rfl (q2G (by omega)) rfl ?_
  refine go 800 rfl ?_
  refine q0c rfl rfl rfl trivial ?_
  rw [q0L (by omega)]
theorem q26 (l : List Nat) [ho : LOk l] (hl : l.length ≤ 1000000000) : PU q2e [nat l] = some (nat (q0d (val l))) := by
 refine q0f (fn := qfz) rfl (q0a ?_)
 refine go 800 rfl ?_
 refine q0p (S := fun n : Nat => ([nat l, q01 n], [none, none], [0, 0])) (C := fun n => n ≤ l.length ∧ ∀ i, n ≤ i → dg l i = 0) (m := fun n => n) l.length ⟨Nat.le_refl _, fun i hi => q8q hi⟩ (by omega) ?_ ?_
 ·exact q03 rfl trivial (by simp [nat, q01])
 intro n ⟨hn, h0⟩ N hN
 have fin : (n = 0 ∨ dg l (n - 1) ≠ 0) → (l.map u32).take n = (q0d (val l)).map u32 := fun h => by
  rw [← qmA ho hn h0 h, List.map_take]
 have hlen := q1J ho
 refine go 800 rfl ?_
 refine q09 rfl (fun h1 => ?_) (fun h1 => ?_)
 ·rw [q06] at h1
  have w1 : IntKind.i64.wrap ((n : Int) - 1) = ((n - 1 : Nat) : Int) := by rw [wrap64 (by omega) (by omega)]; omega
  refine go 800 rfl ?_
  refine q0i (n - 1) rfl rfl w1 (q2G (by omega)) rfl ?_
  refine go 800 rfl ?_
  refine q02 rfl (fun h2 => ?_) (fun h2 => ?_)
  ·rw [q2z] at h2
   refine go 800 rfl ?_
   refine q05 ?_
   refine hN (n - 1) ⟨by omega, fun i hi => ?_⟩ (by omega) (q03 rfl trivial (by simp [nat, q01, w1]))
   by_cases hin : i = n - 1
   ·subst hin; omega
   ·exact h0 i (by omega)
  ·rw [q1w] at h2
   refine go 800 rfl ?_
   refine q05 ?_
   refine go 800 rfl ?_
   refine qg6 n rfl (q1S (f := u32) (n := 1) (fun _ => rfl) _) ⟨_, _, rfl, rfl⟩ (by simpa using hn) ?_
   rw [fin (.inr (by omega))]
   refine go 800 rfl ?_
   refine qn2 rfl rfl (q1S (f := u32) (n := 1) (fun _ => rfl) _) (by simp [q0K]; omega) ?_
   refine go 800 rfl ?_
   exact q0c rfl rfl rfl ⟨q4b (by simp), trivial⟩ (q4A (by simp))
 ·rw [q07] at h1
  refine go 800 rfl ?_
  refine q0n rfl ?_
  refine go 800 rfl ?_
  refine q05 ?_
  refine go 800 rfl ?_
  refine qg6 n rfl (q1S (f := u32) (n := 1) (fun _ => rfl) _) ⟨_, _, rfl, rfl⟩ (by simpa using hn) ?_
  rw [fin (.inl (by omega))]
  refine go 800 rfl ?_
  refine qn2 rfl rfl (q1S (f := u32) (n := 1) (fun _ => rfl) _) (by simp [q0K]; omega) ?_
  refine go 800 rfl ?_
  exact q0c rfl rfl rfl ⟨q4b (by simp), trivial⟩ (q4A (by simp))
theorem qj8 (n k : Nat) (h : n / 4294967296 ^ k ≠ 0) : (q0d n).take (k + 1) = (q0d n).take k ++ [n / 4294967296 ^ k % 4294967296] := by
 have hl : k < (q0d n).length := by
  rcases Nat.lt_or_ge k (q0d n).length with g | g
  ·exact g
  ·exact absurd (Nat.div_eq_of_lt (q0l.1 g)) h
 rw [qso hl, qrd (q0x n), q0j]
theorem qeG (n : Nat) (hn : n < 18446744073709551616) : PU qdQ [.int .u64 n] = some (nat (q0d n)) := by
 refine q0f (fn := qjy) rfl (q0a ?_)
 refine go 800 rfl ?_
 refine q0p (S := fun k : Nat => ([.int .u64 (n / 4294967296 ^ k : Nat), .ref 1 0 ((q0d n).take k).length], [none, some (.row (((q0d n).take k).map u32) 1)], [0, 0])) (C := fun k => k ≤ 3) (m := fun k => 4 - k) 0 (by omega) (by omega) ?_ ?_
 ·exact q03 rfl ⟨rfl, trivial⟩ (by simp)
 intro k hk N hN
 have hle : n / 4294967296 ^ k ≤ n := Nat.div_le_self _ _
 refine go 800 rfl ?_
 refine q02 rfl (fun h1 => ?_) (fun h1 => ?_)
 ·rw [q06] at h1
  have hne : n / 4294967296 ^ k ≠ 0 := by omega
  have hst := qj8 n k hne
  have hdd : n / 4294967296 ^ (k + 1) = n / 4294967296 ^ k / 4294967296 := by rw [Nat.pow_succ, Nat.div_div_eq_div_mul]
  have hk2 : k + 1 ≤ 3 := by
   rcases Nat.lt_or_ge k 3 with g | g
   ·omega
   ·obtain rfl : k = 3 := by omega
    exact absurd (Nat.div_eq_of_lt (show n < 4294967296 ^ 3 by omega)) hne
  generalize n / 4294967296 ^ k = m at *
  refine go 800 rfl ?_
  refine q9j m 4294967296 rfl rfl rfl rfl (by decide) ?_
  refine go 800 rfl ?_
  rw [q0W, Nat.mod_mod]
  refine q1e rfl rfl rfl rfl rfl rfl (by simp) (Nat.zero_le _) (by simp [q0K]; omega) ?_
  refine go 800 rfl ?_
  refine q4X m 4294967296 rfl rfl rfl rfl (by decide) (q0L (by omega)) ?_
  refine go 800 rfl ?_
  refine q05 ?_
  refine hN (k + 1) hk2 (by omega) (q03 rfl ⟨?_, trivial⟩ ?_)
  ·rw [List.all_append, q04 q0q]; rfl
  ·rw [hst, hdd]
   simp [u32]
 ·rw [q07] at h1
  have hz : n / 4294967296 ^ k = 0 := by
   have : ((n / 4294967296 ^ k : Nat) : Int) ≤ 0 := h1
   exact Nat.le_zero.1 (by exact_mod_cast this)
  have hl : (q0d n).length ≤ k := q0l.2 (by
   rcases Nat.lt_or_ge n (4294967296 ^ k) with g | g
   ·exact g
   ·have := Nat.div_pos g (Nat.pow_pos (n := k) (show 0 < 4294967296 by decide)); omega)
  rw [List.take_of_length_le hl]
  refine go 800 rfl ?_
  refine q05 ?_
  refine go 800 rfl ?_
  exact q0c rfl rfl rfl ⟨q4b (by simp), trivial⟩ (q4A (by simp))
theorem qpT {a b : List Nat} {n : Nat} (h : ∀ i, n ≤ i → dg a i = dg b i) : val (a.drop n) = val (b.drop n) := by
 have key : ∀ k n, n + k = a.length + b.length → (∀ i, n ≤ i → dg a i = dg b i) → val (a.drop n) = val (b.drop n) := by
  intro k
  induction k with
  | zero => intro n hn _; rw [List.drop_of_length_le (by omega), List.drop_of_length_le (by omega)]
  | succ k ih => intro n hn h; rw [q35, q35 b, h n (Nat.le_refl _), ih (n + 1) (by omega) (fun i hi => h i (by omega))]
 by_cases hn : n ≤ a.length + b.length
 ·exact key (a.length + b.length - n) n (by omega) h
 ·rw [List.drop_of_length_le (by omega), List.drop_of_length_le (by omega)]
theorem ql1 {a b : List Nat} (ha : LOk a) {i : Nat} (h : ∀ j, i + 1 ≤ j → dg a j = dg b j) (hi : dg a i < dg b i) : val a < val b := by
 have e1 := q2Z a i
 have e2 := q2Z b i
 rw [q35, qpT h] at e1
 rw [q35] at e2
 have h1 := q3f (ha.take i)
 have h3 : 4294967296 ^ (a.take i).length ≤ 4294967296 ^ i := Nat.pow_le_pow_right (by decide) (by simp; omega)
 generalize 4294967296 ^ i = P at *
 generalize 4294967296 * val (List.drop (i + 1) b) = R at *
 have h2 : P * (dg a i + R) + P ≤ P * (dg b i + R) := by
  rw [← Nat.mul_succ]; exact Nat.mul_le_mul_left _ (by omega)
 omega
theorem qrt (a b : List Nat) [ha : LOk a] [hb : LOk b] (hla : a.length ≤ 1000000000) (hlb : b.length ≤ 1000000000) : PU qmn [nat a, nat b] = some (.int .i64 (q45 (val a) (val b))) := by
 refine q0f (fn := qhA) rfl (q0a ?_)
 refine go 800 rfl ?_
 rw [List.length_map, List.length_map]
 refine q0p (S := fun n : Nat => ([nat a, nat b, .int .i64 ((n : Int) - 1)], [none, none, none], [0, 0, 0])) (C := fun n => n ≤ max a.length b.length ∧ ∀ i, n ≤ i → dg a i = dg b i) (m := fun n => n) (max a.length b.length) ⟨Nat.le_refl _, fun i hi => by rw [q8q (by omega), q8q (by omega)]⟩ (by omega) ?_ ?_
 ·refine q03 rfl trivial ?_
  have : IntKind.i64.wrap (max (a.length : Int) b.length - 1) = ((max a.length b.length : Nat) : Int) - 1 := by rw [wrap64 (by omega) (by omega)]; omega
  simp [nat, this]
 intro n ⟨hn, hall⟩ N hN
 refine go 800 rfl ?_
 refine q02 rfl (fun h1 => ?_) (fun h1 => ?_)
 ·rw [q1k] at h1
  have hn1 : ((n : Int) - 1) = ((n - 1 : Nat) : Int) := by omega
  have w1 : IntKind.i64.wrap (((n - 1 : Nat) : Int) - 1) = ((n - 1 : Nat) : Int) - 1 := wrap64 (by omega) (by omega)
  have hxa := q1o ha (n - 1)
  have hall' : ∀ j, n - 1 + 1 ≤ j → dg a j = dg b j := fun j hj => hall j (by omega)
  rw [hn1]
  refine go 800 rfl ?_
  refine q00 rfl rfl (q1y a (n - 1) (by omega)) ?_
  refine go 800 rfl ?_
  refine q00 rfl rfl (q1y b (n - 1) (by omega)) ?_
  refine go 800 rfl ?_
  refine q02 rfl (fun h2 => ?_) (fun h2 => ?_)
  ·rw [q06] at h2
   refine go 800 rfl ?_
   refine q05 ?_
   refine go 800 rfl ?_
   refine q0c rfl rfl rfl trivial ?_
   have := ql1 ha hall' (by omega)
   rw [q45, if_pos (by omega)]
  rw [q07] at h2
  refine go 800 rfl ?_
  refine q00 rfl rfl (q1y a (n - 1) (by omega)) ?_
  refine go 800 rfl ?_
  refine q00 rfl rfl (q1y b (n - 1) (by omega)) ?_
  refine go 800 rfl ?_
  refine q02 rfl (fun h3 => ?_) (fun h3 => ?_)
  ·rw [q06] at h3
   refine go 800 rfl ?_
   refine q05 ?_
   refine go 800 rfl ?_
   refine q0c rfl rfl rfl trivial ?_
   have := ql1 hb (fun j hj => (hall' j hj).symm) (show dg b (n - 1) < dg a (n - 1) by omega)
   rw [q45, if_neg (by omega), if_pos (by omega)]
  rw [q07] at h3
  refine go 800 rfl ?_
  refine q05 ?_
  refine hN (n - 1) ⟨by omega, fun i hi => ?_⟩ (by omega) (q03 rfl trivial (by simp [nat, w1]))
  by_cases hin : i = n - 1
  ·subst hin; omega
  ·exact hall i (by omega)
 ·rw [q1f] at h1
  obtain rfl : n = 0 := by omega
  refine go 800 rfl ?_
  refine q05 ?_
  refine go 800 rfl ?_
  refine q0c rfl rfl rfl trivial ?_
  have h := qpT (a := a) (b := b) (n := 0) hall
  rw [List.drop_zero, List.drop_zero] at h
  rw [h, q45, if_neg (by omega), if_neg (by omega)]
set_option maxHeartbeats 1000000 in
theorem qfU (a b : List Nat) [ha : LOk a] [hb : LOk b] (hla : a.length ≤ 100000000) (hlb : b.length ≤ 100000000) :
 PU qeB [nat a, nat b] = some (if val a < val b then .tup [nat [], .bool false] else .tup [nat (q0d (val a - val b)), .bool true]) := by
 refine q0f (fn := qhw) rfl (q0a ?_)
 refine go 800 rfl ?_
 refine q00 rfl rfl (qrt a b (by omega) (by omega)) ?_
 refine go 800 rfl ?_
 refine q02 rfl (fun h1 => ?_) (fun h1 => ?_)
 ·rw [q06] at h1
  have : val a < val b := by
   unfold q45 at h1
   split at h1
   ·omega
   ·split at h1 <;> omega
  refine go 800 rfl ?_
  refine q0c rfl rfl rfl trivial ?_
  rw [if_pos this]; rfl
 rw [q07] at h1
 have hle : val b ≤ val a := by
  unfold q45 at h1
  split at h1
  ·omega
  ·omega
 rw [if_neg (by omega)]
 refine go 800 rfl ?_
 refine q0p (S := fun x : Nat × List Nat × Nat => ([nat a, nat b, .ref 2 0 x.2.1.length, .int .u64 x.2.2, q01 x.1], [none, none, some (.row (x.2.1.map u32) 1), none, none], [0, 0, 0, 0, 0]))
  (C := fun x => x.1 ≤ max a.length b.length ∧ x.2.1.length = x.1 ∧ LOk x.2.1 ∧ x.2.2 ≤ 1 ∧ val x.2.1 + val (b.take x.1) = val (a.take x.1) + 4294967296 ^ x.1 * x.2.2) (m := fun x => max a.length b.length - x.1) (0, [], 0) ⟨Nat.zero_le _, rfl, qkx, by decide, by simp [val]⟩ (by simp; omega) ?_ ?_
 ·exact q03 rfl ⟨rfl, trivial⟩ (by simp [nat, q01])
 rintro ⟨k, r, c⟩ ⟨hk, hr, hro, hc, hinv⟩ N hN
 simp only at hk hr hro hc hinv
 have hx := q1o ha k
 have hy := q1o hb k
 have w1 : IntKind.i64.wrap ((k : Int) + 1) = ((k + 1 : Nat) : Int) := wrap64 (by omega) (by omega)
 refine go 800 rfl ?_
 rw [List.length_map, List.length_map]
 refine q02 rfl (fun h2 => ?_) (fun h2 => ?_)
 ·rw [q06] at h2
  have e : IntKind.u64.wrap (IntKind.u64.wrap (IntKind.u64.wrap (4294967296 + (dg a k : Int)) - (dg b k : Int)) - (c : Int)) = ((4294967296 + dg a k - dg b k - c : Nat) : Int) := by simp only [q0V]; omega
  have e2 : IntKind.u64.wrap (1 - (((4294967296 + dg a k - dg b k - c) / 4294967296 : Nat) : Int)) = ((1 - (4294967296 + dg a k - dg b k - c) / 4294967296 : Nat) : Int) := by rw [q0V]; omega
  generalize hT : 4294967296 + dg a k - dg b k - c = T at *
  refine go 800 rfl ?_
  refine q00 rfl rfl (q1y a k (by omega)) ?_
  refine go 800 rfl ?_
  refine q00 rfl rfl (q1y b k (by omega)) ?_
  refine go 800 rfl ?_
  rw [e]
  refine q9j T 4294967296 rfl rfl rfl rfl (by decide) ?_
  refine go 800 rfl ?_
  rw [q0W, Nat.mod_mod]
  refine q1e rfl rfl rfl rfl rfl rfl (by simp) (Nat.zero_le _) (by simp [q0K]; omega) ?_
  refine go 800 rfl ?_
  refine q4X T 4294967296 rfl rfl rfl rfl (by decide) (q0L (by omega)) ?_
  refine go 800 rfl ?_
  rw [e2]
  refine q05 ?_
  refine hN (k + 1, r ++ [T % 4294967296], 1 - T / 4294967296) ⟨by simp only; omega, by simp [hr], hro.snoc (by omega), by simp only; omega, ?_⟩ (by simp only; omega) (q03 rfl ⟨?_, trivial⟩ ?_)
  ·simp only
   rw [q6S, hr, q0M, q0M, Nat.pow_succ]
   have e3 : T % 4294967296 + (c + dg b k) = dg a k + 4294967296 * (1 - T / 4294967296) := by omega
   have e4 : 4294967296 ^ k * (T % 4294967296) + (4294967296 ^ k * c + 4294967296 ^ k * dg b k) = 4294967296 ^ k * dg a k + 4294967296 ^ k * 4294967296 * (1 - T / 4294967296) := by
    rw [← Nat.mul_add, ← Nat.mul_add, e3, Nat.mul_add, Nat.mul_assoc]
   omega
  ·rw [List.all_append, q04 q0q]; rfl
  ·simp [nat, q01, w1, u32]
 rw [q07] at h2
 rw [List.take_of_length_le (by omega), List.take_of_length_le (by omega)] at hinv
 have hv : val r = val a - val b := by
  have h1 := q3f hro
  rw [hr] at h1
  have hc0 : c = 0 ∨ c = 1 := by omega
  rcases hc0 with rfl | rfl
  ·omega
  ·omega
 have hp := q26 r (by omega)
 rw [hv] at hp
 refine go 800 rfl ?_
 refine q05 ?_
 refine go 800 rfl ?_
 refine q1Z rfl rfl ⟨q4b (l := r) rfl, trivial⟩ (by rw [q4A rfl]; exact hp) fun z => ?_
 refine go 800 rfl ?_
 exact q0c rfl rfl rfl trivial rfl
end Go.F

namespace Go.F
attribute [local irreducible] IntKind.wrap wpM
def q7x (n : Nat) : Nat := if n = 0 then 0 else Nat.log2 n + 1
theorem qo3 (n : Nat) : n < 2 ^ q7x n := by
 unfold q7x
 split
 ·omega
 ·rename_i h
  exact (Nat.log2_lt h).1 (Nat.lt_succ_self _)
theorem qsF {n : Nat} (h : n ≠ 0) : 2 ^ q7x n ≤ 2 * n := by
 unfold q7x
 rw [if_neg h, Nat.pow_succ]
 have := Nat.log2_self_le h
 omega
theorem qwS {n L : Nat} (h1 : n < 2 ^ L) (h2 : 2 ^ L ≤ 2 * n) : L = q7x n := by
 have h0 : n ≠ 0 := by rintro rfl; have := Nat.pow_pos (n := L) (show 0 < 2 by decide); omega
 have a := qo3 n
 have b := qsF h0
 have c1 : 2 ^ L < 2 ^ (q7x n + 1) := by rw [Nat.pow_succ]; omega
 have c2 : 2 ^ q7x n < 2 ^ (L + 1) := by rw [Nat.pow_succ]; omega
 have d1 := (Nat.pow_lt_pow_iff_right (by decide)).1 c1
 have d2 := (Nat.pow_lt_pow_iff_right (by decide)).1 c2
 omega
theorem qtW {n : Nat} : q7x n = 0 ↔ n = 0 := by unfold q7x; split <;> omega
theorem qmO (k : Nat) : (4294967296 : Nat) ^ k = 2 ^ (32 * k) := by rw [Nat.pow_mul]
theorem qec (l : List Nat) [ho : LOk l] (hl : l.length ≤ 100000000) : PU qbM [nat l] = some (.int .i64 (q7x (val l))) := by
 have hlen := q1J ho
 refine q0f (fn := qfB) rfl (q0a ?_)
 refine go 800 rfl ?_
 refine q00 rfl rfl (q26 l (by omega)) ?_
 refine go 800 rfl ?_
 rw [List.length_map]
 refine q02 rfl (fun h1 => ?_) (fun h1 => ?_)
 ·rw [q2z] at h1
  have h0 : val l = 0 := qhY.1 (List.length_eq_zero_iff.1 (by omega))
  refine go 800 rfl ?_
  refine q0c rfl rfl rfl trivial ?_
  rw [h0]; rfl
 rw [q1w] at h1
 have hv0 : val l ≠ 0 := fun h => h1 (by rw [h]; rfl)
 obtain ⟨m, hm⟩ : ∃ m, (q0d (val l)).length = m + 1 := ⟨(q0d (val l)).length - 1, by omega⟩
 have hv := q0j (val l)
 have hLo := q0x (val l)
 have htop := qmz hv0
 have hval : val l = val ((q0d (val l)).take m) + 4294967296 ^ m * dg (q0d (val l)) m := by
  conv => lhs; rw [← hv]
  rw [← q0M, List.take_of_length_le (by omega)]
 have htl := q3f (hLo.take m)
 rw [List.length_take, Nat.min_eq_left (by omega)] at htl
 rw [hm, Nat.add_sub_cancel] at htop
 have hdl := q1o hLo m
 generalize q0d (val l) = A at *
 have w1 : IntKind.i64.wrap (((m + 1 : Nat) : Int) - 1) = (m : Int) := by rw [wrap64 (by omega) (by omega)]; omega
 have w2 : IntKind.i64.wrap (32 * (m : Int)) = ((32 * m : Nat) : Int) := by rw [wrap64 (by omega) (by omega)]; omega
 rw [hm]
 refine go 800 rfl ?_
 rw [List.length_map, hm]
 refine q0i m rfl rfl w1 (q2G (by omega)) rfl ?_
 refine go 800 rfl ?_
 rw [w1, w2]
 have hz : ∃ j, dg A m / 2 ^ j = 0 := ⟨32, by omega⟩
 refine q0p (S := fun j : Nat => ([q01 (32 * m + j : Nat), .int .u32 (dg A m / 2 ^ j : Nat)], [none, none], [0, 0])) (C := fun j => j ≤ 32 ∧ (j ≠ 0 → dg A m / 2 ^ (j - 1) ≠ 0)) (m := fun j => 40 - j) 0 ⟨by omega, fun h => absurd rfl h⟩ (by omega) ?_ ?_
 ·exact q03 rfl trivial (by simp [q01, u32])
 rintro j ⟨hj, hprev⟩ N hN
 have hle : dg A m / 2 ^ j ≤ dg A m := Nat.div_le_self _ _
 refine go 800 rfl ?_
 refine q02 rfl (fun h2 => ?_) (fun h2 => ?_)
 ·rw [q06] at h2
  have hne : dg A m / 2 ^ j ≠ 0 := by omega
  have hj32 : j < 32 := by
   rcases Nat.lt_or_ge j 32 with g | g
   ·exact g
   ·obtain rfl : j = 32 := by omega
    exact absurd (Nat.div_eq_of_lt (show dg A m < 2 ^ 32 by omega)) hne
  have wj : IntKind.i64.wrap (32 * (m : Int) + (j : Int) + 1) = 32 * (m : Int) + ((j : Int) + 1) := by rw [wrap64 (by omega) (by omega)]; omega
  refine go 800 rfl ?_
  refine q4X (dg A m / 2 ^ j) 2 rfl rfl rfl rfl (by decide) (by rw [q0W]; omega) ?_
  refine go 800 rfl ?_
  refine q05 ?_
  refine hN (j + 1) ⟨by omega, fun _ => by simpa using hne⟩ (by omega) (q03 rfl trivial ?_)
  rw [Nat.pow_succ, ← Nat.div_div_eq_div_mul]
  simp [q01, wj]
 rw [q07] at h2
 have hz0 : dg A m / 2 ^ j = 0 := by
  have : ((dg A m / 2 ^ j : Nat) : Int) ≤ 0 := h2
  exact Nat.le_zero.1 (by exact_mod_cast this)
 refine go 800 rfl ?_
 refine q05 ?_
 refine go 800 rfl ?_
 refine q0c rfl rfl rfl trivial ?_
 have hj0 : j ≠ 0 := by rintro rfl; rw [Nat.pow_zero, Nat.div_one] at hz0; exact htop hz0
 have h3 := hprev hj0
 have hlt : dg A m < 2 ^ j := by
  rcases Nat.lt_or_ge (dg A m) (2 ^ j) with g | g
  ·exact g
  ·have := Nat.div_pos g (Nat.pow_pos (n := j) (show 0 < 2 by decide)); omega
 have hge : 2 ^ (j - 1) ≤ dg A m := by
  rcases Nat.lt_or_ge (dg A m) (2 ^ (j - 1)) with g | g
  ·exact absurd (Nat.div_eq_of_lt g) h3
  ·exact g
 have hp : 2 ^ j = 2 * 2 ^ (j - 1) := by rw [← Nat.pow_succ']; congr 1; omega
 rw [← qwS (n := val l) (L := 32 * m + j)]
 ·rw [Nat.pow_add, ← qmO, hval]
  generalize 4294967296 ^ m = P at *
  have : P * (dg A m + 1) ≤ P * 2 ^ j := Nat.mul_le_mul_left _ hlt
  rw [Nat.mul_add] at this
  omega
 ·rw [Nat.pow_add, ← qmO, hval, hp]
  generalize 4294967296 ^ m = P at *
  have : P * 2 ^ (j - 1) ≤ P * dg A m := Nat.mul_le_mul_left _ hge
  rw [Nat.mul_left_comm]
  omega
set_option maxHeartbeats 1000000 in
theorem qo4 (a : List Nat) (n : Nat) [ha : LOk a] (hla : a.length ≤ 100000000) (hn : n ≤ 3200000000) : PU qix [nat a, .int .i64 n] = some (nat (q0d (val a * 2 ^ n))) := by
 refine q0f (fn := qdk) rfl (q0a ?_)
 refine go 800 rfl ?_
 refine q4X n 32 rfl rfl rfl rfl (by decide) (wrap64 (by omega) (by omega)) ?_
 refine go 800 rfl ?_
 refine q4g (n / 32) rfl rfl rfl (by simp [q0K]; omega) ?_
 rw [q8x]
 refine go 800 rfl ?_
 refine q0p (S := fun x : Nat × List Nat × Nat => ([nat a, .int .i64 n, .ref 2 0 x.2.1.length, .int .u64 x.2.2, q01 x.1], [none, none, some (.row (x.2.1.map u32) 1), none, none], [0, 0, 0, 0, 0]))
  (C := fun x => x.1 ≤ a.length + 1 ∧ x.2.1.length = n / 32 + x.1 ∧ LOk x.2.1 ∧ x.2.2 < 4294967296 ∧ (x.1 = a.length + 1 → x.2.2 = 0) ∧ val x.2.1 + 4294967296 ^ (n / 32 + x.1) * x.2.2 = 4294967296 ^ (n / 32) * (2 ^ (n % 32) * val (a.take x.1))) (m := fun x => a.length + 1 - x.1) (0, List.replicate (n / 32) 0, 0) ⟨Nat.zero_le _, by simp, q5F _, by simp, fun h => rfl, by simp [val, qaU]⟩ (by simp; omega) ?_ ?_
 ·exact q03 rfl ⟨q04 q0q _, trivial⟩ (by simp [nat, q01])
 rintro ⟨k, r, c⟩ ⟨hk, hr, hro, hc, hlast, hinv⟩ N hN
 simp only at hk hr hro hc hlast hinv
 have hx := q1o ha k
 have w1 : IntKind.i64.wrap ((k : Int) + 1) = ((k + 1 : Nat) : Int) := wrap64 (by omega) (by omega)
 refine go 800 rfl ?_
 rw [List.length_map]
 refine q02 rfl (fun h1 => ?_) (fun h1 => ?_)
 ·rw [q1k] at h1
  have hs : n % 32 ≤ 31 := by omega
  have hpw : 2 ^ (n % 32) ≤ 2147483648 := by
   have := Nat.pow_le_pow_right (show 0 < 2 by decide) hs
   omega
  have hmul : dg a k * 2 ^ (n % 32) ≤ 4294967295 * 2147483648 := Nat.mul_le_mul (by omega) hpw
  have hz : k = a.length → dg a k = 0 := fun h => q8q (by omega)
  generalize hT : dg a k * 2 ^ (n % 32) + c = T
  have e : IntKind.u64.wrap (((dg a k * 2 ^ (n % 32) : Nat) : Int) + (c : Int)) = (T : Int) := by rw [q0V]; omega
  have wc : IntKind.u64.wrap ((n % 32 : Nat) : Int) = ((n % 32 : Nat) : Int) := q0L (by omega)
  refine go 800 rfl ?_
  refine q00 rfl rfl (q1y a k (by omega)) ?_
  refine go 800 rfl ?_
  refine q9j n 32 rfl rfl rfl rfl (by decide) ?_
  refine go 800 rfl ?_
  rw [wc]
  refine q9s (dg a k) (n % 32) rfl rfl rfl rfl (by show n % 32 ≤ 64; omega) (q0L (by omega)) ?_
  refine go 800 rfl ?_
  rw [e]
  refine q9j T 4294967296 rfl rfl rfl rfl (by decide) ?_
  refine go 800 rfl ?_
  rw [q0W, Nat.mod_mod]
  refine q1e rfl rfl rfl rfl rfl rfl (by simp) (Nat.zero_le _) (by simp [q0K]; omega) ?_
  refine go 800 rfl ?_
  refine q4X T 4294967296 rfl rfl rfl rfl (by decide) (q0L (by omega)) ?_
  refine go 800 rfl ?_
  refine q05 ?_
  refine hN (k + 1, r ++ [T % 4294967296], T / 4294967296) ⟨by simp only; omega, by simp [hr]; omega, hro.snoc (by omega), by simp only; omega, ?_, ?_⟩ (by simp only; omega) (q03 rfl ⟨?_, trivial⟩ ?_)
  ·simp only
   intro hkk
   have := hz (by omega)
   rw [this] at hT
   omega
  ·simp only
   rw [q6S, hr, q0M, show n / 32 + (k + 1) = (n / 32 + k) + 1 from rfl, Nat.pow_succ, Nat.add_assoc, q4V, Nat.mul_add (2 ^ (n % 32)), Nat.mul_add (4294967296 ^ (n / 32)), ← hinv, ← hT, Nat.mul_add]
   have e5 : 4294967296 ^ (n / 32) * (2 ^ (n % 32) * (4294967296 ^ k * dg a k)) = 4294967296 ^ (n / 32 + k) * (dg a k * 2 ^ (n % 32)) := by
    rw [Nat.pow_add]; ac_rfl
   rw [e5]; omega
  ·rw [List.all_append, q04 q0q]; rfl
  ·simp [nat, q01, w1, u32]
 rw [q1f] at h1
 obtain rfl : k = a.length + 1 := by omega
 have hc0 := hlast rfl
 subst hc0
 have hv : val r = val a * 2 ^ n := by
  rw [List.take_of_length_le (by omega), Nat.mul_zero, Nat.add_zero] at hinv
  rw [hinv, qmO, ← Nat.mul_assoc, ← Nat.pow_add, Nat.div_add_mod, Nat.mul_comm]
 have hp := q26 r (by omega)
 rw [hv] at hp
 refine go 800 rfl ?_
 refine q05 ?_
 refine go 800 rfl ?_
 refine q1Z rfl rfl ⟨q4b (l := r) rfl, trivial⟩ (by rw [q4A rfl]; exact hp) fun z => ?_
 refine go 800 rfl ?_
 exact q0c rfl rfl rfl trivial rfl
theorem qpU (a : List Nat) [ha : LOk a] (hla : a.length ≤ 100000000) : PU qke [nat a] = some (nat (q0d (val a / 2))) := by
 refine q0f (fn := qfC) rfl (q0a ?_)
 refine go 800 rfl ?_
 refine q0p (S := fun x : Nat × List Nat => ([nat a, .ref 1 0 x.2.length, q01 x.1], [none, some (.row (x.2.map u32) 1), none], [0, 0, 0]))
  (C := fun x => x.1 ≤ a.length ∧ x.2.length = x.1 ∧ LOk x.2 ∧ 2 * val x.2 + dg a 0 % 2 = val (a.take x.1) + 4294967296 ^ x.1 * (dg a x.1 % 2)) (m := fun x => a.length - x.1) (0, []) ⟨Nat.zero_le _, rfl, qkx, by simp [val]⟩ (by simp; omega) ?_ ?_
 ·exact q03 rfl ⟨rfl, trivial⟩ (by simp [nat, q01])
 rintro ⟨k, r⟩ ⟨hk, hr, hro, hinv⟩ N hN
 simp only at hk hr hro hinv
 have hx := q1o ha k
 have hy := q1o ha (k + 1)
 have w1 : IntKind.i64.wrap ((k : Int) + 1) = ((k + 1 : Nat) : Int) := wrap64 (by omega) (by omega)
 refine go 800 rfl ?_
 rw [List.length_map]
 refine q02 rfl (fun h1 => ?_) (fun h1 => ?_)
 ·rw [q06] at h1
  have e1 : IntKind.u64.wrap (((dg a (k + 1) % 2 : Nat) : Int) * 2147483648) = ((dg a (k + 1) % 2 * 2147483648 : Nat) : Int) := by rw [q0V]; omega
  have e2 : IntKind.u64.wrap (((dg a k / 2 : Nat) : Int) + ((dg a (k + 1) % 2 * 2147483648 : Nat) : Int)) = ((dg a k / 2 + dg a (k + 1) % 2 * 2147483648 : Nat) : Int) := by rw [q0V]; omega
  have e3 : IntKind.u32.wrap ((dg a k / 2 + dg a (k + 1) % 2 * 2147483648 : Nat) : Int) = ((dg a k / 2 + dg a (k + 1) % 2 * 2147483648 : Nat) : Int) := by rw [q0W]; omega
  refine go 800 rfl ?_
  refine q00 rfl rfl (q1y a k (by omega)) ?_
  refine go 800 rfl ?_
  refine q4X (dg a k) 2 rfl rfl rfl rfl (by decide) (q0L (by omega)) ?_
  refine go 800 rfl ?_
  rw [w1]
  refine q00 rfl rfl (q1y a (k + 1) (by omega)) ?_
  refine go 800 rfl ?_
  refine q9j (dg a (k + 1)) 2 rfl rfl rfl rfl (by decide) ?_
  refine go 800 rfl ?_
  rw [e1, e2, e3]
  refine q1e rfl rfl rfl rfl rfl rfl (by simp) (Nat.zero_le _) (by simp [q0K]; omega) ?_
  refine go 800 rfl ?_
  refine q05 ?_
  refine hN (k + 1, r ++ [dg a k / 2 + dg a (k + 1) % 2 * 2147483648]) ⟨by simp only; omega, by simp [hr], hro.snoc (by omega), ?_⟩ (by simp only; omega) (q03 rfl ⟨?_, trivial⟩ ?_)
  ·simp only
   rw [q6S, hr, q0M, Nat.pow_succ]
   have e4 : 2 * (4294967296 ^ k * (dg a k / 2 + dg a (k + 1) % 2 * 2147483648)) + 4294967296 ^ k * (dg a k % 2) = 4294967296 ^ k * dg a k + 4294967296 ^ k * 4294967296 * (dg a (k + 1) % 2) := by
    generalize 4294967296 ^ k = P
    have : dg a k = 2 * (dg a k / 2) + dg a k % 2 := by omega
    conv => rhs; rw [this]
    generalize dg a k / 2 = u
    generalize dg a k % 2 = v
    generalize dg a (k + 1) % 2 = w
    grind
   omega
  ·rw [List.all_append, q04 q0q]; rfl
  ·simp [nat, q01, w1, u32]
 rw [q07] at h1
 obtain rfl : k = a.length := by omega
 have hd : dg a a.length = 0 := q8q (Nat.le_refl _)
 rw [List.take_length, hd] at hinv
 have hv : val r = val a / 2 := by simp at hinv; omega
 have hp := q26 r (by omega)
 rw [hv] at hp
 refine go 800 rfl ?_
 refine q05 ?_
 refine go 800 rfl ?_
 refine q1Z rfl rfl ⟨q4b (l := r) rfl, trivial⟩ (by rw [q4A rfl]; exact hp) fun z => ?_
 refine go 800 rfl ?_
 exact q0c rfl rfl rfl trivial rfl
end Go.F

namespace Go.F
attribute [local irreducible] IntKind.wrap wpM
theorem qvJ {q : List Nat} (hq : LOk q) {k : Nat} (h : val q % 2 ^ (k + 1) = 0) : dg q (k / 32) + 2 ^ (k % 32) < 4294967296 := by
 have hd := q1o hq (k / 32)
 have hk : 2 ^ (k + 1) = 4294967296 ^ (k / 32) * 2 ^ (k % 32 + 1) := by
  rw [qmO, ← Nat.pow_add]; congr 1; omega
 obtain ⟨m, hm⟩ : ∃ m, val q = 2 ^ (k + 1) * m := ⟨val q / 2 ^ (k + 1), by have := Nat.div_add_mod (val q) (2 ^ (k + 1)); omega⟩
 have e1 : val q / 4294967296 ^ (k / 32) = 2 ^ (k % 32 + 1) * m := by
  rw [hm, hk, Nat.mul_assoc, Nat.mul_div_cancel_left _ (Nat.pow_pos (by decide))]
 have e2 : dg q (k / 32) % 2 ^ (k % 32 + 1) = 0 := by
  rw [qrd hq, e1, show (4294967296 : Nat) = 2 ^ (k % 32 + 1) * 2 ^ (31 - k % 32) by rw [← Nat.pow_add, show k % 32 + 1 + (31 - k % 32) = 32 by omega], Nat.mul_mod_mul_left, Nat.mul_mod_right]
 have hw : k % 32 + 1 ≤ 32 := by omega
 have e3 : (4294967296 : Nat) = 2 ^ (k % 32 + 1) * 2 ^ (31 - k % 32) := by rw [← Nat.pow_add, show k % 32 + 1 + (31 - k % 32) = 32 by omega]
 have e4 : 2 ^ (k % 32 + 1) = 2 * 2 ^ (k % 32) := by rw [Nat.pow_succ]; omega
 have hpos : 0 < 2 ^ (k % 32) := Nat.pow_pos (by decide)
 obtain ⟨u, hu⟩ : ∃ u, dg q (k / 32) = 2 ^ (k % 32 + 1) * u := ⟨dg q (k / 32) / 2 ^ (k % 32 + 1), by have := Nat.div_add_mod (dg q (k / 32)) (2 ^ (k % 32 + 1)); omega⟩
 have hlt : u < 2 ^ (31 - k % 32) := by
  rw [hu, e3] at hd
  exact Nat.lt_of_mul_lt_mul_left hd
 have : 2 ^ (k % 32 + 1) * (u + 1) ≤ 2 ^ (k % 32 + 1) * 2 ^ (31 - k % 32) := Nat.mul_le_mul_left _ hlt
 rw [← e3, Nat.mul_add, ← hu, Nat.mul_one, e4] at this
 omega
theorem qpW {l : List Nat} (h : LOk l) : q7x (val l) ≤ 32 * l.length := qps (q3f h)
theorem qtX {a b q r : Nat} (h : a = q * b + r) (hr : r < b) : a / b = q ∧ a % b = r := by
 subst h
 constructor
 ·rw [Nat.mul_comm, Nat.mul_add_div (by omega), Nat.div_eq_of_lt hr, Nat.add_zero]
 ·rw [Nat.mul_comm, Nat.mul_add_mod, Nat.mod_eq_of_lt hr]
set_option maxHeartbeats 4000000 in
theorem q7M (a b : List Nat) [ha : LOk a] [hb : LOk b] (hla : a.length ≤ 50000000) (hlb : b.length ≤ 50000000) :
 PU q6P [nat a, nat b] = some (if val b = 0 then .tup [nat [], nat [], .bool false] else .tup [nat (q0d (val a / val b)), nat (q0d (val a % val b)), .bool true]) := by
 have hla' := q1J ha
 have hba := qpW ha
 have hbb := qpW hb
 refine q0f (fn := qbt) rfl (q0a ?_)
 refine go 800 rfl ?_
 refine q00 rfl rfl (qec b (by omega)) ?_
 refine go 800 rfl ?_
 refine q02 rfl (fun h1 => ?_) (fun h1 => ?_)
 ·rw [q2z] at h1
  have h0 : val b = 0 := qtW.1 (by omega)
  refine go 800 rfl ?_
  refine q0c rfl rfl rfl trivial ?_
  rw [if_pos h0]; rfl
 rw [q1w] at h1
 have hb0 : val b ≠ 0 := fun h => h1 (by rw [h]; rfl)
 rw [if_neg hb0]
 have hbits := qec (q0d (val a)) (by omega)
 rw [q0j] at hbits
 refine go 800 rfl ?_
 refine q00 rfl rfl (q26 a (by omega)) ?_
 refine go 800 rfl ?_
 refine q00 rfl rfl hbits ?_
 refine go 800 rfl ?_
 refine q00 rfl rfl (qec b (by omega)) ?_
 refine go 800 rfl ?_
 have w1 : IntKind.i64.wrap ((q7x (val a) : Int) - (q7x (val b) : Int)) = (q7x (val a) : Int) - (q7x (val b) : Int) := wrap64 (by omega) (by omega)
 rw [w1]
 have ta := qo3 (val a)
 have tb := qo3 (val b)
 have tb2 := qsF hb0
 refine q02 rfl (fun h2 => ?_) (fun h2 => ?_)
 ·rw [q06] at h2
  have hlt : val a < val b := by
   have : 2 ^ (q7x (val a) + 1) ≤ 2 ^ q7x (val b) := Nat.pow_le_pow_right (by decide) (by omega)
   rw [Nat.pow_succ] at this
   omega
  refine go 800 rfl ?_
  refine q0c rfl rfl rfl trivial ?_
  rw [Nat.div_eq_of_lt hlt, Nat.mod_eq_of_lt hlt]; rfl
 rw [q07] at h2
 obtain ⟨n, hn⟩ : ∃ n : Nat, q7x (val a) = q7x (val b) + n := ⟨q7x (val a) - q7x (val b), by omega⟩
 have en : (q7x (val a) : Int) - (q7x (val b) : Int) = (n : Int) := by omega
 rw [en]
 have hstart : val a < val b * 2 ^ (n + 1) := by
  calc val a < 2 ^ (q7x (val b) + n) := by rw [← hn]; exact ta
   _ = 2 ^ q7x (val b) * 2 ^ n := Nat.pow_add _ _ _
   _ ≤ 2 * val b * 2 ^ n := Nat.mul_le_mul_right _ tb2
   _ = val b * 2 ^ (n + 1) := by rw [Nat.pow_succ]; ac_rfl
 have w2 : IntKind.i64.wrap (((n / 32 : Nat) : Int) + 1) = ((n / 32 + 1 : Nat) : Int) := by rw [wrap64 (by omega) (by omega)]; omega
 refine go 800 rfl ?_
 refine q4X n 32 rfl rfl rfl rfl (by decide) (wrap64 (by omega) (by omega)) ?_
 refine go 800 rfl ?_
 rw [w2]
 refine q4g (n / 32 + 1) rfl rfl rfl (by simp [q0K]; omega) ?_
 rw [q8x]
 refine go 800 rfl ?_
 refine q00 rfl rfl (qo4 b n (by omega) (by omega)) ?_
 refine go 800 rfl ?_
 have hin : val b * 2 ^ (n + 1) / 2 = val b * 2 ^ n := by
  rw [Nat.pow_succ, ← Nat.mul_assoc, Nat.mul_div_cancel _ (by decide)]
 have hsz : ∀ j, j ≤ n + 1 → (q0d (val b * 2 ^ j / 2)).length ≤ 100000000 := by
  intro j hj
  refine q0l.2 ?_
  have h1 : val b * 2 ^ j / 2 ≤ val b * 2 ^ j := Nat.div_le_self _ _
  have h2 : 2 ^ j ≤ 2 ^ (n + 1) := Nat.pow_le_pow_right (by decide) hj
  obtain ⟨K, hK⟩ : ∃ K : Nat, K = 100000000 := ⟨_, rfl⟩
  rw [← hK, qmO]
  calc val b * 2 ^ j / 2 ≤ val b * 2 ^ j := h1
   _ ≤ val b * 2 ^ (n + 1) := Nat.mul_le_mul_left _ h2
   _ < 2 ^ q7x (val b) * 2 ^ (n + 1) := Nat.mul_lt_mul_of_pos_right tb (Nat.pow_pos (by decide))
   _ = 2 ^ (q7x (val b) + (n + 1)) := (Nat.pow_add _ _ _).symm
   _ ≤ 2 ^ (32 * K) := Nat.pow_le_pow_right (by decide) (by omega)
 refine q0p (S := fun x : Nat × List Nat × Nat => ([nat (q0d x.2.2), .ref 1 0 (n / 32 + 1), nat (q0d (val b * 2 ^ x.1 / 2)), .int .i64 ((x.1 : Int) - 1)], [none, some (.row (x.2.1.map u32) 1), none, none], [0, 0, 0, 0]))
  (C := fun x => x.1 ≤ n + 1 ∧ x.2.1.length = n / 32 + 1 ∧ LOk x.2.1 ∧ val x.2.1 % 2 ^ x.1 = 0 ∧ x.2.2 < val b * 2 ^ x.1 ∧ x.2.2 ≤ val a ∧ val a = val x.2.1 * val b + x.2.2) (m := fun x => x.1) (n + 1, List.replicate (n / 32 + 1) 0, val a) ⟨Nat.le_refl _, by simp, q5F _, by simp [qaU], hstart, Nat.le_refl _, by simp [qaU]⟩ (by simp only; omega) ?_ ?_
 ·refine q03 rfl ⟨q04 q0q _, trivial⟩ ?_
  simp only
  rw [hin]
  simp [nat]
 rintro ⟨j, q, R⟩ ⟨hj, hql, hqo, hq0, hR, hRa, hinv⟩ N hN
 simp only at hj hql hqo hq0 hR hRa hinv
 refine go 800 rfl ?_
 refine q02 rfl (fun h3 => ?_) (fun h3 => ?_)
 ·rw [q1k] at h3
  obtain ⟨k, rfl⟩ : ∃ k, j = k + 1 := ⟨j - 1, by omega⟩
  have ek : ((k + 1 : Nat) : Int) - 1 = (k : Int) := by omega
  have hpart : val b * 2 ^ (k + 1) / 2 = val b * 2 ^ k := by rw [Nat.pow_succ, ← Nat.mul_assoc, Nat.mul_div_cancel _ (by decide)]
  have hszk := hsz (k + 1) hj
  rw [hpart] at hszk
  have hszR : (q0d R).length ≤ 50000000 := by
   have : (q0d R).length ≤ a.length := q0l.2 (Nat.lt_of_le_of_lt hRa (q3f ha))
   omega
  have hsub := qfU (q0d R) (q0d (val b * 2 ^ k)) (by omega) (by omega)
  rw [q0j, q0j] at hsub
  have hhalf := qpU (q0d (val b * 2 ^ k)) (by omega)
  rw [q0j] at hhalf
  have wk : IntKind.i64.wrap ((k : Int) - 1) = (k : Int) - 1 := wrap64 (by omega) (by omega)
  rw [ek, hpart]
  by_cases hlt : R < val b * 2 ^ k
  ·rw [if_pos hlt] at hsub
   refine go 800 rfl ?_
   refine q00 rfl rfl hsub ?_
   refine go 800 rfl ?_
   refine q0n rfl ?_
   refine go 800 rfl ?_
   refine q00 rfl rfl hhalf ?_
   refine go 800 rfl ?_
   refine q05 ?_
   refine hN (k, q, R) ⟨by simp only; omega, hql, hqo, ?_, hlt, hRa, hinv⟩ (by simp only; omega) (q03 rfl ⟨q04 q0q _, trivial⟩ (by simp [nat, wk]))
   simp only
   exact Nat.mod_eq_zero_of_dvd (Nat.dvd_trans (Nat.pow_dvd_pow 2 (Nat.le_succ k)) (Nat.dvd_of_mod_eq_zero hq0))
  ·rw [if_neg hlt] at hsub
   have hfree := qvJ hqo hq0
   have hkl : k / 32 < q.length := by omega
   have ew : IntKind.u32.wrap ((dg q (k / 32) : Int) + ((1 * 2 ^ (k % 32) : Nat) : Int)) = ((dg q (k / 32) + 2 ^ (k % 32) : Nat) : Int) := by
    rw [Nat.one_mul, ← Int.natCast_add, q0W, Nat.mod_eq_of_lt hfree]
   have hpl : 2 ^ (k % 32) < 4294967296 := Nat.lt_of_le_of_lt (Nat.le_add_left _ _) hfree
   have wc : IntKind.u64.wrap ((k % 32 : Nat) : Int) = ((k % 32 : Nat) : Int) := q0L (by omega)
   refine go 800 rfl ?_
   refine q00 rfl rfl hsub ?_
   refine go 800 rfl ?_
   refine q0m rfl ?_
   refine go 800 rfl ?_
   refine q4X k 32 rfl rfl rfl rfl (by decide) (wrap64 (by omega) (by omega)) ?_
   refine go 800 rfl ?_
   refine q4X k 32 rfl rfl rfl rfl (by decide) (wrap64 (by omega) (by omega)) ?_
   refine go 800 rfl ?_
   refine q0B (k / 32) rfl rfl rfl rfl rfl (by omega) ?_
   refine go 800 rfl ?_
   refine q4W q (k / 32) rfl (Nat.zero_add _) rfl hkl ?_
   refine go 800 rfl ?_
   refine q9j k 32 rfl rfl rfl rfl (by decide) ?_
   refine go 800 rfl ?_
   rw [wc]
   refine q9s 1 (k % 32) rfl rfl rfl rfl (by show k % 32 ≤ 32; omega) (by rw [Nat.one_mul, q0W, Nat.mod_eq_of_lt hpl]) ?_
   refine go 800 rfl ?_
   rw [ew]
   refine q0B (k / 32) rfl rfl rfl rfl rfl (by omega) ?_
   refine go 800 rfl ?_
   refine q25 q (k / 32) (dg q (k / 32) + 2 ^ (k % 32)) rfl rfl (Nat.zero_add _) rfl rfl (Nat.zero_le _) hkl ?_
   refine go 800 rfl ?_
   refine q00 rfl rfl hhalf ?_
   refine go 800 rfl ?_
   refine q05 ?_
   have hs := qgI (l := q) (i := k / 32) (v := dg q (k / 32) + 2 ^ (k % 32)) hkl
   have hp2 : 4294967296 ^ (k / 32) * 2 ^ (k % 32) = 2 ^ k := by rw [qmO, ← Nat.pow_add, Nat.div_add_mod]
   rw [Nat.mul_add, hp2] at hs
   have hs' : val (q.set (k / 32) (dg q (k / 32) + 2 ^ (k % 32))) = val q + 2 ^ k := by omega
   refine hN (k, q.set (k / 32) (dg q (k / 32) + 2 ^ (k % 32)), R - val b * 2 ^ k) ⟨by simp only; omega, by simp [hql], hqo.set _ hfree, ?_, ?_, by simp only; omega, ?_⟩ (by simp only; omega) (q03 rfl ⟨q04 q0q _, trivial⟩ (by simp [nat, wk]))
   ·simp only
    rw [hs', Nat.add_mod_right]
    exact Nat.mod_eq_zero_of_dvd (Nat.dvd_trans (Nat.pow_dvd_pow 2 (Nat.le_succ k)) (Nat.dvd_of_mod_eq_zero hq0))
   ·simp only
    rw [Nat.pow_succ, ← Nat.mul_assoc] at hR
    omega
   ·simp only
    rw [hs', Nat.add_mul, Nat.mul_comm (2 ^ k)]
    omega
 ·rw [q1f] at h3
  obtain rfl : j = 0 := by omega
  rw [Nat.pow_zero, Nat.mul_one] at hR
  obtain ⟨e1, e2⟩ := qtX hinv hR
  have hp := q26 q (by omega)
  rw [← e1] at hp
  rw [e2]
  refine go 800 rfl ?_
  refine q05 ?_
  refine go 800 rfl ?_
  refine q1Z rfl rfl ⟨q4b (l := q) hql.symm, trivial⟩ (by rw [q4A (l := q) hql.symm]; exact hp) fun z => ?_
  refine go 800 rfl ?_
  exact q0c rfl rfl rfl trivial rfl
theorem qru (a b : List Nat) [ha : LOk a] [hb : LOk b] (hla : a.length ≤ 50000000) (hlb : b.length ≤ 50000000) : PU qmk [nat a, nat b] = some (nat (q0d (Nat.gcd (val a) (val b)))) := by
 refine q0f (fn := qhv) rfl (q0a ?_)
 refine go 800 rfl ?_
 refine q00 rfl rfl (q26 a (by omega)) ?_
 refine go 800 rfl ?_
 refine q00 rfl rfl (q26 b (by omega)) ?_
 refine go 800 rfl ?_
 obtain ⟨K, hK⟩ : ∃ K : Nat, K = 50000000 := ⟨_, rfl⟩
 rw [← hK] at hla hlb
 have hA := Nat.lt_of_lt_of_le (q3f ha) (Nat.pow_le_pow_right (show 0 < 4294967296 by decide) hla)
 have hB := Nat.lt_of_lt_of_le (q3f hb) (Nat.pow_le_pow_right (show 0 < 4294967296 by decide) hlb)
 refine q0p (S := fun x : Nat × Nat => ([nat (q0d x.1), nat (q0d x.2)], [none, none], [0, 0])) (C := fun x => x.1 < 4294967296 ^ K ∧ x.2 < 4294967296 ^ K ∧ Nat.gcd x.1 x.2 = Nat.gcd (val a) (val b)) (m := fun x => 2 * (bl x.1 + bl x.2) + if x.1 < x.2 then 1 else 0) (val a, val b) ⟨hA, hB, rfl⟩ ?_ ?_ ?_
 ·simp only
  have h1 := qps hA
  have h2 := qps hB
  split <;> omega
 ·exact q03 rfl trivial (by simp [nat])
 rintro ⟨x, y⟩ ⟨hx, hy, hg⟩ N hN
 simp only at hx hy hg
 refine go 800 rfl ?_
 rw [List.length_map]
 refine q02 rfl (fun h1 => ?_) (fun h1 => ?_)
 ·rw [q06] at h1
  have hy0 : y ≠ 0 := q3v.1 (by simp only at h1; omega)
  have hp := q7M (q0d x) (q0d y) (hK ▸ q0l.2 hx) (hK ▸ q0l.2 hy)
  rw [q0j, q0j, if_neg hy0] at hp
  refine go 800 rfl ?_
  refine q00 rfl rfl hp ?_
  refine go 800 rfl ?_
  refine q05 ?_
  refine hN (y, x % y) ⟨hy, Nat.lt_of_le_of_lt (Nat.mod_le _ _) hx, ?_⟩ ?_ (q03 rfl trivial (by simp [nat]))
  ·simp only
   rw [← hg, Nat.gcd_comm x y, Nat.gcd_rec y x, Nat.gcd_comm]
  ·simp only
   have hm := Nat.mod_lt x (show 0 < y by omega)
   by_cases hxy : x < y
   ·rw [if_pos hxy, Nat.mod_eq_of_lt hxy, if_neg (by omega)]; omega
   ·have := qvl hy0 (Nat.le_of_not_lt hxy)
    rw [if_neg hxy, if_neg (by omega)]; omega
 ·rw [q07] at h1
  have hy0 : y = 0 := by
   by_cases h : y = 0
   ·exact h
   ·have := q3v.2 h; simp only at h1; omega
  refine go 800 rfl ?_
  refine q05 ?_
  refine go 800 rfl ?_
  refine q0c rfl rfl rfl trivial ?_
  rw [← hg, hy0, Nat.gcd_zero_right]; rfl
end Go.F

namespace Go.F
attribute [local irreducible] IntKind.wrap wpM
theorem q5g (neg : Bool) (l : List Nat) {k : Nat} [h : Sz l k] (hk : k ≤ 500000000) : PU q4T [.bool neg, nat l] = some (encI (RI.v ⟨neg, l⟩)) := by
 have hl := h.len
 have e : ∀ n : Nat, n = (q0d (val l)).length → ltb 0 (n : Int) = decide (val l ≠ 0) := by
  rintro n rfl
  rw [q22, decide_eq_decide]
  have := @q3v (val l)
  omega
 refine q0f (fn := qdj) rfl (q0a ?_)
 refine go 800 rfl ?_
 refine q00 rfl rfl (q26 l (by omega)) ?_
 refine go 800 rfl ?_
 refine q09 rfl (fun h1 => ?_) (fun h1 => ?_)
 ·refine go 800 rfl ?_
  refine q0c rfl rfl rfl trivial ?_
  subst h1
  refine qeC _ ?_ ?_
  ·rw [List.length_map, e _ rfl]
   simp only [RI.v]
   rw [decide_eq_decide]; simp; omega
  ·simp [RI.v]
 ·refine go 800 rfl ?_
  refine q0c rfl rfl rfl trivial ?_
  subst h1
  refine qeC _ ?_ ?_
  ·simp only [RI.v]
   rw [eq_comm, decide_eq_false_iff_not, if_neg (by decide)]; omega
  ·simp [RI.v]
theorem qi7 (n : Int) (h1 : -9223372036854775808 ≤ n) (h2 : n ≤ 9223372036854775807) : PU qgy [.int .i64 n] = some (encI n) := by
 refine q0f (fn := qjz) rfl (q0a ?_)
 refine go 800 rfl ?_
 refine q02 rfl (fun g1 => ?_) (fun g1 => ?_)
 ·rw [q06] at g1
  have e0 : IntKind.i64.wrap (n + 1) = n + 1 := wrap64 (by omega) (by omega)
  have e1 : IntKind.i64.wrap (0 - (n + 1)) = -n - 1 := by rw [wrap64 (by omega) (by omega)]; omega
  have e : IntKind.u64.wrap (IntKind.u64.wrap (-n - 1) + 1) = ((n.natAbs : Nat) : Int) := by simp only [q0V]; omega
  refine go 800 rfl ?_
  rw [e0, e1, e]
  refine q00 rfl rfl (qeG n.natAbs (by omega)) ?_
  refine go 800 rfl ?_
  refine q0c rfl rfl rfl trivial ?_
  exact qeC n (by rw [decide_eq_true g1]) rfl
 ·rw [q07] at g1
  have e : IntKind.u64.wrap n = ((n.natAbs : Nat) : Int) := by simp only [q0V]; omega
  refine go 800 rfl ?_
  rw [e]
  refine q00 rfl rfl (qeG n.natAbs (by omega)) ?_
  refine go 800 rfl ?_
  refine q0c rfl rfl rfl trivial ?_
  exact qeC n (by rw [eq_comm, decide_eq_false_iff_not]; omega) rfl
theorem qed (a : RI) {k : Nat} [h : Sz a.mag k] (hk : k ≤ 500000000) : PU qbJ [a.enc] = some (encI a.v) := by
 refine q0f (fn := qfv) rfl (q0a ?_)
 refine go 800 rfl ?_
 refine q00 rfl rfl (q5g a.neg a.mag hk) ?_
 refine go 800 rfl ?_
 exact q0c rfl rfl rfl trivial rfl
theorem q5H (neg : Bool) (n d : List Nat) {j k : Nat} [hn : Sz n j] [hd : Sz d k] (hj : j ≤ 10000000) (hk : k ≤ 10000000) (hd0 : val d ≠ 0) : PU q5b [.bool neg, nat n, nat d] = some (q8A (mkRat (RI.v ⟨neg, n⟩) (val d))) := by
 have ln := hn.len
 have ld := hd.len
 have nbn : NB (val n) j := inferInstance
 have nbd : NB (val d) k := inferInstance
 have hg0 : Nat.gcd (val n) (val d) ≠ 0 := by
  have := Nat.gcd_pos_of_pos_right (val n) (show 0 < val d by omega); omega
 have lg : (q0d (Nat.gcd (val n) (val d))).length ≤ k := q0l.2 (q74 (Nat.gcd_le_right _ (by omega)) nbd.lt)
 have d1 := q7M n (q0d (Nat.gcd (val n) (val d))) (by omega) (by omega)
 have d2 := q7M d (q0d (Nat.gcd (val n) (val d))) (by omega) (by omega)
 rw [q0j, if_neg hg0] at d1 d2
 have s1 : Sz (q0d (val n / Nat.gcd (val n) (val d))) j := ⟨q0x _, q0l.2 (q74 (Nat.div_le_self _ _) nbn.lt)⟩
 refine q0f (fn := qbs) rfl (q0a ?_)
 refine go 800 rfl ?_
 refine q00 rfl rfl (qru n d (by omega) (by omega)) ?_
 refine go 800 rfl ?_
 refine q00 rfl rfl d1 ?_
 refine go 800 rfl ?_
 refine q00 rfl rfl d2 ?_
 refine go 800 rfl ?_
 refine q00 rfl rfl (qed ⟨neg, q0d (val n / Nat.gcd (val n) (val d))⟩ (by omega)) ?_
 refine go 800 rfl ?_
 refine q0c rfl rfl rfl trivial ?_
 rw [qsH hd0, RI.v_abs]
 have e1 : RI.v ⟨neg, q0d (val n / Nat.gcd (val n) (val d))⟩ = if neg then -((val n / Nat.gcd (val n) (val d) : Nat) : Int) else (val n / Nat.gcd (val n) (val d) : Nat) := by
  rw [RI.v, q0j]
 have hdv := Nat.div_mul_cancel (Nat.gcd_dvd_left (val n) (val d))
 have e2 : decide (RI.v ⟨neg, q0d (val n / Nat.gcd (val n) (val d))⟩ < 0) = decide (RI.v ⟨neg, n⟩ < 0) := by
  rw [e1, decide_eq_decide, RI.v]
  have hz : val n / Nat.gcd (val n) (val d) = 0 ↔ val n = 0 := by
   constructor
   ·intro h; rw [h] at hdv; omega
   ·intro h; rw [h]; simp
  generalize val n / Nat.gcd (val n) (val d) = x at *
  simp only
  split <;> omega
 have e3 : (RI.v ⟨neg, q0d (val n / Nat.gcd (val n) (val d))⟩).natAbs = val n / Nat.gcd (val n) (val d) := by
  rw [RI.v_abs, q0j]
 show D.agg [.bool (decide (RI.v ⟨neg, q0d (val n / Nat.gcd (val n) (val d))⟩ < 0)), nat (q0d (RI.v ⟨neg, q0d (val n / Nat.gcd (val n) (val d))⟩).natAbs), nat (q0d (val d / Nat.gcd (val n) (val d)))] = _
 rw [e2, e3]
theorem qmP (n d : Int) (h1 : -9223372036854775808 ≤ n) (h2 : n ≤ 9223372036854775807) (h3 : 0 < d) (h4 : d ≤ 9223372036854775807) : PU qk8 [.int .i64 n, .int .i64 d] = some (.tup [q8A (mkRat n d.toNat), .bool true]) := by
 have nb : NB n.natAbs 2 := ⟨by show n.natAbs < 18446744073709551616; omega⟩
 have nb2 : NB d.natAbs 2 := ⟨by show d.natAbs < 18446744073709551616; omega⟩
 have hneg : (RI.of d).neg = false := by show decide (d < 0) = false; simp; omega
 have hr := q5H (RI.of n).neg (q0d n.natAbs) (q0d d.natAbs) (by decide) (by decide) (by rw [q0j]; omega)
 have hv : RI.v ⟨(RI.of n).neg, q0d n.natAbs⟩ = n := RI.of_v n
 rw [hv, q0j] at hr
 have hdn : d.natAbs = d.toNat := by omega
 rw [← hdn]
 refine q0f (fn := qjx) rfl (q0a ?_)
 refine go 800 rfl ?_
 refine q02 rfl (fun g => ?_) (fun g => ?_)
 ·rw [q2z] at g; omega
 refine go 800 rfl ?_
 refine q00 rfl rfl (qi7 n (by omega) (by omega)) ?_
 refine go 800 rfl ?_
 refine q00 rfl rfl (qi7 d (by omega) (by omega)) ?_
 refine go 800 rfl ?_
 have e : (!((RI.of n).neg == (RI.of d).neg)) = (RI.of n).neg := by rw [hneg]; cases (RI.of n).neg <;> rfl
 rw [e]
 refine q00 rfl rfl hr ?_
 refine go 800 rfl ?_
 exact q0c rfl rfl rfl trivial rfl
end Go.F

namespace Go.F
attribute [local irreducible] IntKind.wrap wpM
structure RSeg where
 a : Spot
 b : Spot
 w : Int
 s : Spot
def RSeg.enc (g : RSeg) : D := .agg [.int .i64 g.a.x, .int .i64 g.a.y, .int .i64 g.b.x, .int .i64 g.b.y, .int .i64 g.w, .int .i64 g.s.x, .int .i64 g.s.y]
end Go.F

namespace Go.F
attribute [local irreducible] IntKind.wrap wpM
end Go.F

namespace Go.F
attribute [local irreducible] IntKind.wrap wpM
theorem qgU (x : Int) (hx1 : -9223372036854775808 ≤ x) (hx2 : x ≤ 9223372036854775807) : PU qdI [.int .i64 x] = some (q8A (x : Rat)) := by
 have r1 := qmP x 1 hx1 hx2 (by decide) (by decide)
 rw [qgS] at r1
 refine q0f (fn := qd0) rfl (q0a ?_)
 refine go 800 rfl ?_
 refine q00 rfl rfl r1 ?_
 refine go 800 rfl ?_
 exact q0c rfl rfl rfl trivial rfl
theorem qb3 (x y : Int) (hx1 : -9223372036854775808 ≤ x) (hx2 : x ≤ 9223372036854775807) (hy1 : -9223372036854775808 ≤ y) (hy2 : y ≤ 9223372036854775807) : PU qaK [.int .i64 x, .int .i64 y] = some (qi6 ⟨x, y⟩) := by
 refine q0f (fn := qju) rfl (q0a ?_)
 refine go 800 rfl ?_
 refine q00 rfl rfl (qgU x hx1 hx2) ?_
 refine go 800 rfl ?_
 refine q00 rfl rfl (qgU y hy1 hy2) ?_
 refine go 800 rfl ?_
 exact q0c rfl rfl rfl trivial rfl
class RSegOk (g : RSeg) : Prop where
 a : OkS g.a
 b : OkS g.b
 s : g.s.x.natAbs ≤ 4294967296 ∧ g.s.y.natAbs ≤ 4294967296
 w0 : 0 ≤ g.w
 w1 : g.w ≤ 500
end Go.F

namespace Go.F
attribute [local irreducible] IntKind.wrap wpM
def rp0 : RP := ⟨⟨false, [], []⟩, ⟨false, [], []⟩⟩
def rp (c : List RP) (i : Nat) : RP := c.getD i rp0
def q7k : Option RP → D
 | some p => p.enc
 | none => .agg [.bool false, .nilsl, .nilsl, .bool false, .nilsl, .nilsl]
def pts (c : List RP) : D := .lst (c.map RP.enc)
def onR (t : RR) (c : List RP) (i : Nat) : RP := RP.of (onP (rp c i).v (rp c (i + 1)).v t.v)
def q72 (t : RR) (c : List RP) : List RP := (List.range (c.length - 1)).map (onR t c)
def itR (t : RR) (c : List RP) : Nat → List RP
 | 0 => c
 | n + 1 => q72 t (itR t c n)
theorem q2M (t : RR) (c : List RP) (j : Nat) : (itR t c j).length = c.length - j := by
 induction j with
 | zero => rfl
 | succ j ih => simp only [itR, q72, List.length_map, List.length_range, ih]; omega
def RB (k : Nat) (c : List RP) : Prop := ∀ p ∈ c, SzP p k
theorem q5n {c : List RP} {i : Nat} (h : i < c.length) : rp c i = c[i] := by simp [rp, h]
theorem qah {c : List RP} {i : Nat} (h : i < c.length) : (c.map RP.enc)[i]? = some (rp c i).enc := by
 rw [List.getElem?_map, List.getElem?_eq_getElem h, q5n h]; rfl
theorem RB.at {k : Nat} {c : List RP} (h : RB k c) {i : Nat} (hi : i < c.length) : SzP (rp c i) k := by
 rw [q5n hi]; exact h _ (List.getElem_mem _)
theorem RB.next {k kt : Nat} {t : RR} {c : List RP} (h : RB k c) (ht : SzR t kt) : RB (3 * k + kt + 6) (q72 t c) := by
 intro p hp
 simp only [q72, List.mem_map, List.mem_range] at hp
 obtain ⟨i, hi, rfl⟩ := hp
 have h1 := h.at (i := i) (by omega)
 have h2 := h.at (i := i + 1) (by omega)
 have e : 3 * k + kt + 6 = (k + 1) + (((k + 1) + (k + 1) + 1) + (kt + 1)) + 1 := by omega
 rw [e]
 unfold onR
 infer_instance
theorem q6J (p : RP) : plain 4 p.enc = true := rfl
theorem qai (p : RP) : dat 4 p.enc = true := rfl
theorem q7l (p : Option RP) : plain 4 (q7k p) = true := by cases p <;> rfl
theorem qjC (n : Nat) (f : Nat → RP) : (q3i none n (fun i => some (f i)) n).map q7k = ((List.range n).map f).map RP.enc := by
 rw [qhe, List.map_map, List.map_map]; rfl
theorem qdo (c : List RP) : PU qan [pts c] = some (.bool (decide (2 ≤ c.length ∧ c.length ≤ 4))) := by
 refine q0f (fn := qa4) rfl (q0a ?_)
 repeat' (first
  | (refine goP 800 rfl rfl ?_)
  | (show wpM _ _ _ (Fr.ops _ _ (KOper.mk _ _ (some _) _ _ :: _) :: _) Ex.normal _ _ _ _ _; first | refine q0o rfl ?_ | refine q0u rfl ?_ | refine q09 rfl (fun _ => ?_) (fun _ => ?_))
  | (show wpM _ _ _ (Fr.code (K.cond _ _ _) :: _) Ex.normal _ _ _ _ _; first | refine q0m rfl ?_ | refine q0n rfl ?_ | refine q02 rfl (fun _ => ?_) (fun _ => ?_))
  | (show wpM _ _ _ (Fr.ops _ _ (KOper.mk _ _ none _ (KOp.pick _ _ _) :: _) :: _) Ex.normal _ _ _ _ _; refine q0I rfl (fun _ => ?_) (fun _ => ?_))
  | (show wpM _ _ _ [] _ _ _ _ _ _; refine q0c rfl rfl rfl trivial ?_))
 all_goals ((try simp only [q22, q1U, q2C, q31, decide_eq_true_eq, decide_eq_false_iff_not, Bool.not_eq_true, Bool.not_eq_false, Int.not_lt, Int.not_le] at *); first | (simp_all [pts]; done) | (simp_all [pts]; omega) | (rw [D.bool.injEq, Bool.eq_iff_iff]; simp [pts]; omega) | (rw [D.bool.injEq, Bool.eq_iff_iff]; simp_all [pts]; omega) | (simp [pts]; split <;> (try split) <;> omega))
section
variable {t : q0z} {h : q0e} {z : Frz} {nx : Nat}
def setY (live : Live) (reps : List Rep) (t : q0z) (h : q0e) (z : Frz) (nx : Nat) : Option (List Obl × Kept) :=
 match qcv live t h z nx with
 | (t, h, z) =>
   match qeh t live reps h z with
   | some (o, h', z') => fL1 (qav 0 (q0y t live) t live) fun vs => fLi (qaw 0 (q0y t live) h' (q0y t live) 0) fun bs => fLi (qgB 0 (q0y t live) z' (q0y t live) 0) fun zs => some (o, vs, bs, zs)
   | none => none
theorem qer {live : Live} (reps : List Rep) {o : List Obl} {kp : Kept} {K : Kept → Prop} (hs : setY live reps t h z nx = some (o, kp)) (hp : qi9 o) (hk : K kp) : q18 0 live t h z nx fun _ _ kp => K kp := by
 refine qjm reps (o := o) (kp := kp) ?_ hp hk
 rw [← hs]
 unfold setX setY
 simp only [qor, qlg]
 rfl
end
theorem qoF {α : Type} {f : α → D} {h : q0e} {id n e : Nat} {l : List α} (hf : ∀ x, dat 4 (f x) = true) (hr : h id = some (.row (l.map f) e)) (hn : n = l.length) : q13 h 8 (.ref id 0 n) = some (.lst (l.map f)) := by
 subst hn
 rw [q13, hr]
 simp only
 rw [if_pos (by simp), List.drop_zero, List.take_of_length_le (by simp), qox (by decide) (q0T hf _)]
 rfl
theorem qma {α : Type} {f : α → D} {h : q0e} {id n e : Nat} {l : List α} (hf : ∀ x, dat 4 (f x) = true) (hr : h id = some (.row (l.map f) e)) : q0R h depth (.ref id 0 n) = [id] := by
 show q0R h 12 _ = _
 rw [q0R, hr]
 simp only
 rw [q9Y]
 rw [List.drop_zero, ← List.map_take]
 exact q0T hf _
theorem q9A {α : Type} (f : α → List RP) (l : List α) : (l.map fun i => pts (f i)).all (plain 4) = true := q04 (fun _ => rfl) _
theorem qes {α : Type} (f : α → List RP) (l : List α) : (l.map fun i => pts (f i)).all (dat 4) = true := q0T (fun _ => rfl) _
set_option maxHeartbeats 4000000 in
theorem qsY (c : List RP) (t : RR) {kt : Nat} (ht : SzR t kt) (hkt : kt ≤ 10000) (hc1 : 1 ≤ c.length) (hc4 : c.length ≤ 4) (hS : ∀ j, ∃ k, k ≤ 10000 ∧ RB k (itR t c j)) :
 PU qdR [pts c, t.enc] = some (.lst ((List.range c.length).map fun i => pts (itR t c i))) := by
 refine q0f (fn := q8Z) rfl (q0a ?_)
 refine go 800 rfl ?_
 refine q0p (S := fun j : Nat => ([match j with | 0 => pts c | j + 1 => .ref 0 0 (c.length - (j + 1)), .ptr 1 0 0, .ref 2 0 (j + 1)], [match j with | 0 => none | j + 1 => some (.row ((itR t c (j + 1)).map RP.enc) 6), some (.row [t.enc] 3), some (.row ((List.range (j + 1)).map fun i => pts (itR t c i)) 1)], [match j with | 0 => 0 | j + 1 => c.length - (j + 1), 0, 0])) (C := fun j => j + 1 ≤ c.length) (m := fun j => c.length - j) 0 (by omega) (by omega) ?_ ?_
 ·exact q03 rfl ⟨rfl, rfl, trivial⟩ (by simp [pts, itR, RR.enc, nat])
 intro j hj N hN
 have hlj := q2M t c j
 cases j with
 | zero =>
   refine go 800 rfl ?_
   refine q02 rfl (fun e1 => ?_) (fun e1 => ?_)
   ·rw [q06, List.length_map] at e1
    obtain ⟨m, hm⟩ : ∃ m, c.length = m + 1 := ⟨c.length - 1, by omega⟩
    have wm : IntKind.i64.wrap (((c.map RP.enc).length : Int) - 1) = (m : Int) := by rw [List.length_map, wrap64 (by omega) (by omega)]; omega
    have wm' := wm
    have hnx : itR t c (0 + 1) = (List.range m).map (onR t c) := by show q72 t c = _; rw [q72, hm]; rfl
    refine go 800 rfl ?_
    refine q4g m rfl rfl wm (by rw [wm]; simp [q0K]; omega) ?_
    have ez : List.replicate m (D.agg [.bool false, .nilsl, .nilsl, .bool false, .nilsl, .nilsl]) = (q3i none m (fun i => some (onR t (c) i)) 0).map q7k := by
     rw [qaA]; simp [q7k]
    rw [wm', ez]
    refine go 800 rfl ?_
    refine q0p (S := fun k : Nat => ([pts c, .ptr 1 0 0, .ref 2 0 (0 + 1), .ref 3 0 m, q01 m, q01 k], [none, some (.row [t.enc] 3), some (.row ((List.range (0 + 1)).map fun i => pts (itR t c i)) 1), some (.row ((q3i none m (fun i => some (onR t (c) i)) k).map q7k) 6), none, none], [0, 0, 0, 0, 0, 0])) (C := fun k => k ≤ m) (m := fun k => m - k) 0 (Nat.zero_le _) (by omega) ?_ ?_
    ·exact qer (kp := ([pts c, .ptr 1 0 0, .ref 2 0 (0 + 1), .ref 3 0 m, q01 m, .int .i64 0], [none, some (.row [t.enc] 3), some (.row ((List.range (0 + 1)).map fun i => pts (itR t c i)) 1), some (.row ((q3i none m (fun i => some (onR t (c) i)) (0)).map q7k) 6), none, none], [0, 0, 0, 0, 0, 0])) [none, none, none] rfl ⟨rfl, rfl, q04 q7l _, trivial⟩ rfl
    intro k hk N2 hN2
    refine go 800 rfl ?_
    refine q02 rfl (fun f1 => ?_) (fun f1 => ?_)
    ·rw [q06] at f1
     have hkl : k < m := by omega
     have wk : IntKind.i64.wrap ((k : Int) + 1) = ((k + 1 : Nat) : Int) := wrap64 (by omega) (by omega)
     obtain ⟨ks, hks, hb⟩ := hS (0)
     have hb1 : SzP (rp (c) k) ks := hb.at (i := k) (by rw [q2M]; omega)
     have hb2 : SzP (rp (c) (k + 1)) ks := hb.at (i := k + 1) (by rw [q2M]; omega)
     have hset := qcC none (fun i => some (onR t (c) i)) hkl
     refine go 800 rfl ?_
     refine q0i k rfl rfl rfl (qah (by omega)) rfl ?_
     refine go 800 rfl ?_
     refine q0i (k + 1) rfl rfl wk (qah (by omega)) rfl ?_
     refine go 800 rfl ?_
     refine q00 rfl rfl (qeb (rp (c) k) (rp (c) (k + 1)) t hks hks hkt) ?_
     refine go 800 rfl ?_
     refine q0B k rfl rfl rfl rfl rfl (by omega) ?_
     refine go 800 rfl ?_
     refine q4i (enc := q7k) (q3i none m (fun i => some (onR t (c) i)) k) k (some (onR t (c) k)) rfl rfl (Nat.zero_add _) rfl (fun x => by cases x <;> rfl) rfl (Nat.zero_le _) (by rw [q8M]; omega) ?_
     rw [hset]
     refine go 800 rfl ?_
     refine q05 ?_
     refine hN2 (k + 1) hkl (by omega) (qer (kp := ([pts c, .ptr 1 0 0, .ref 2 0 (0 + 1), .ref 3 0 m, q01 m, .int .i64 (IntKind.i64.wrap ((k : Int) + 1))], [none, some (.row [t.enc] 3), some (.row ((List.range (0 + 1)).map fun i => pts (itR t c i)) 1), some (.row ((q3i none m (fun i => some (onR t (c) i)) (k + 1)).map q7k) 6), none, none], [0, 0, 0, 0, 0, 0])) [none, none, none] rfl ⟨rfl, rfl, q04 q7l _, trivial⟩ ?_)
     rw [wk]; rfl
    rw [q07] at f1
    obtain rfl : k = m := by omega
    clear hN2
    rw [qjC]
    refine go 800 rfl ?_
    refine q05 ?_
    refine go 800 rfl ?_
    refine q1e rfl rfl rfl rfl rfl rfl (by simp) (Nat.zero_le _) (by simp [q0K] <;> omega) ?_
    refine go 800 rfl ?_
    refine q05 ?_
    have hst : ((List.range (0 + 1 + 1)).map fun i => pts (itR t c i)) = ((List.range (0 + 1)).map fun i => pts (itR t c i)) ++ [.lst (((List.range k).map (onR t (c))).map RP.enc)] := by
     rw [List.range_succ, List.map_append, ← hnx]; rfl
    refine hN (0 + 1) (by omega) (by omega) (qer (kp := ([.ref 0 0 k, .ptr 1 0 0, .ref 2 0 (0 + 1 + 1)], [some (.row (((List.range k).map (onR t (c))).map RP.enc) 6), some (.row [t.enc] 3), some (.row ((List.range (0 + 1 + 1)).map fun i => pts (itR t c i)) 1)], [(((List.range k).map (onR t (c))).map RP.enc).length, 0, 0])) [none, none, some ((List.range (0 + 1 + 1)).map fun i => pts (itR t c i), [3])] rfl ⟨q04 q6J _, rfl, ?_, trivial⟩ ?_)
    ·rw [hst]
     refine qei (qes _ _) (q9A _ _) rfl (qoF qai rfl (by simp)) (qma qai rfl) rfl
    ·rw [← hnx]; simp [q2M]; omega
   ·rw [q07, List.length_map] at e1
    have hl : 0 + 1 = c.length := by omega
    refine go 800 rfl ?_
    refine q05 ?_
    refine go 800 rfl ?_
    refine q0c rfl rfl rfl ⟨q2u (by simp) (qes _ _), trivial⟩ ?_
    rw [q2q (by simp), hl]
 | succ j =>
   refine go 800 rfl ?_
   refine q02 rfl (fun e1 => ?_) (fun e1 => ?_)
   ·rw [q06] at e1
    obtain ⟨m, hm⟩ : ∃ m, c.length - (j + 1) = m + 1 := ⟨c.length - (j + 1) - 1, by omega⟩
    have wm : IntKind.i64.wrap (((c.length - (j + 1) : Nat) : Int) - 1) = (m : Int) := by rw [wrap64 (by omega) (by omega)]; omega
    have wm' := wm
    have hnx : itR t c (j + 1 + 1) = (List.range m).map (onR t (itR t c (j + 1))) := by show q72 t (itR t c (j + 1)) = _; rw [q72, q2M, hm]; rfl
    refine go 800 rfl ?_
    refine q4g m rfl rfl wm (by rw [wm]; simp [q0K]; omega) ?_
    have ez : List.replicate m (D.agg [.bool false, .nilsl, .nilsl, .bool false, .nilsl, .nilsl]) = (q3i none m (fun i => some (onR t (itR t c (j + 1)) i)) 0).map q7k := by
     rw [qaA]; simp [q7k]
    rw [wm', ez]
    refine go 800 rfl ?_
    refine q0p (S := fun k : Nat => ([.ref 0 0 (c.length - (j + 1)), .ptr 1 0 0, .ref 2 0 ((j + 1) + 1), .ref 3 0 m, q01 m, q01 k], [some (.row ((itR t c (j + 1)).map RP.enc) 6), some (.row [t.enc] 3), some (.row ((List.range ((j + 1) + 1)).map fun i => pts (itR t c i)) 1), some (.row ((q3i none m (fun i => some (onR t (itR t c (j + 1)) i)) k).map q7k) 6), none, none], [c.length - (j + 1), 0, 0, 0, 0, 0])) (C := fun k => k ≤ m) (m := fun k => m - k) 0 (Nat.zero_le _) (by omega) ?_ ?_
    ·exact qer (kp := ([.ref 0 0 (c.length - (j + 1)), .ptr 1 0 0, .ref 2 0 ((j + 1) + 1), .ref 3 0 m, q01 m, .int .i64 0], [some (.row ((itR t c (j + 1)).map RP.enc) 6), some (.row [t.enc] 3), some (.row ((List.range ((j + 1) + 1)).map fun i => pts (itR t c i)) 1), some (.row ((q3i none m (fun i => some (onR t (itR t c (j + 1)) i)) (0)).map q7k) 6), none, none], [c.length - (j + 1), 0, 0, 0, 0, 0])) [none, none, none, none] rfl ⟨q04 q6J _, rfl, q9A _ _, q04 q7l _, trivial⟩ rfl
    intro k hk N2 hN2
    refine go 800 rfl ?_
    refine q02 rfl (fun f1 => ?_) (fun f1 => ?_)
    ·rw [q06] at f1
     have hkl : k < m := by omega
     have wk : IntKind.i64.wrap ((k : Int) + 1) = ((k + 1 : Nat) : Int) := wrap64 (by omega) (by omega)
     obtain ⟨ks, hks, hb⟩ := hS ((j + 1))
     have hb1 : SzP (rp (itR t c (j + 1)) k) ks := hb.at (i := k) (by rw [q2M]; omega)
     have hb2 : SzP (rp (itR t c (j + 1)) (k + 1)) ks := hb.at (i := k + 1) (by rw [q2M]; omega)
     have hset := qcC none (fun i => some (onR t (itR t c (j + 1)) i)) hkl
     refine go 800 rfl ?_
     refine q0B k rfl rfl rfl rfl rfl (by omega) ?_
     refine go 800 rfl ?_
     refine q1O (enc := RP.enc) _ k (rp (itR t c (j + 1)) k) rfl (Nat.zero_add _) (fun _ => rfl) rfl (by rw [q5n (by rw [q2M]; omega)]; exact List.getElem?_eq_getElem _) ?_
     refine go 800 rfl ?_
     refine q0B (k + 1) rfl rfl rfl rfl wk (by omega) ?_
     refine go 800 rfl ?_
     refine q1O (enc := RP.enc) _ (k + 1) (rp (itR t c (j + 1)) (k + 1)) rfl (Nat.zero_add _) (fun _ => rfl) rfl (by rw [q5n (by rw [q2M]; omega)]; exact List.getElem?_eq_getElem _) ?_
     refine go 800 rfl ?_
     refine q00 rfl rfl (qeb (rp (itR t c (j + 1)) k) (rp (itR t c (j + 1)) (k + 1)) t hks hks hkt) ?_
     refine go 800 rfl ?_
     refine q0B k rfl rfl rfl rfl rfl (by omega) ?_
     refine go 800 rfl ?_
     refine q4i (enc := q7k) (q3i none m (fun i => some (onR t (itR t c (j + 1)) i)) k) k (some (onR t (itR t c (j + 1)) k)) rfl rfl (Nat.zero_add _) rfl (fun x => by cases x <;> rfl) rfl (Nat.zero_le _) (by rw [q8M]; omega) ?_
     rw [hset]
     refine go 800 rfl ?_
     refine q05 ?_
     refine hN2 (k + 1) hkl (by omega) (qer (kp := ([.ref 0 0 (c.length - (j + 1)), .ptr 1 0 0, .ref 2 0 ((j + 1) + 1), .ref 3 0 m, q01 m, .int .i64 (IntKind.i64.wrap ((k : Int) + 1))], [some (.row ((itR t c (j + 1)).map RP.enc) 6), some (.row [t.enc] 3), some (.row ((List.range ((j + 1) + 1)).map fun i => pts (itR t c i)) 1), some (.row ((q3i none m (fun i => some (onR t (itR t c (j + 1)) i)) (k + 1)).map q7k) 6), none, none], [c.length - (j + 1), 0, 0, 0, 0, 0])) [none, none, none, none] rfl ⟨q04 q6J _, rfl, q9A _ _, q04 q7l _, trivial⟩ ?_)
     rw [wk]; rfl
    rw [q07] at f1
    obtain rfl : k = m := by omega
    clear hN2
    rw [qjC]
    refine go 800 rfl ?_
    refine q05 ?_
    refine go 800 rfl ?_
    refine q1e rfl rfl rfl rfl rfl rfl (by simp) (Nat.zero_le _) (by simp [q0K] <;> omega) ?_
    refine go 800 rfl ?_
    refine q05 ?_
    have hst : ((List.range ((j + 1) + 1 + 1)).map fun i => pts (itR t c i)) = ((List.range ((j + 1) + 1)).map fun i => pts (itR t c i)) ++ [.lst (((List.range k).map (onR t (itR t c (j + 1)))).map RP.enc)] := by
     rw [List.range_succ, List.map_append, ← hnx]; rfl
    refine hN ((j + 1) + 1) (by omega) (by omega) (qer (kp := ([.ref 0 0 k, .ptr 1 0 0, .ref 2 0 ((j + 1) + 1 + 1)], [some (.row (((List.range k).map (onR t (itR t c (j + 1)))).map RP.enc) 6), some (.row [t.enc] 3), some (.row ((List.range ((j + 1) + 1 + 1)).map fun i => pts (itR t c i)) 1)], [(((List.range k).map (onR t (itR t c (j + 1)))).map RP.enc).length, 0, 0])) [none, none, some ((List.range ((j + 1) + 1 + 1)).map fun i => pts (itR t c i), [3])] rfl ⟨q04 q6J _, rfl, ?_, trivial⟩ ?_)
    ·rw [hst]
     refine qei (qes _ _) (q9A _ _) rfl (qoF qai rfl (by simp)) (qma qai rfl) rfl
    ·rw [← hnx]; simp [q2M]; omega
   ·rw [q07] at e1
    have hl : (j + 1) + 1 = c.length := by omega
    refine go 800 rfl ?_
    refine q05 ?_
    refine go 800 rfl ?_
    refine q0c rfl rfl rfl ⟨q2u (by simp) (qes _ _), trivial⟩ ?_
    rw [q2q (by simp), hl]
def atR (c : List RP) (t : RR) : RP := rp (itR t c (c.length - 1)) 0
theorem qqJ {k kt : Nat} {t : RR} {c : List RP} (h : RB k c) (ht : SzR t kt) (hc4 : c.length ≤ 4) (hk : k ≤ 100) (hkt : kt ≤ 100) : ∀ j, ∃ k', k' ≤ 10000 ∧ RB k' (itR t c j) := by
 have h1 := h.next ht
 have h2 := h1.next ht
 have h3 := h2.next ht
 intro j
 match j with
 | 0 => exact ⟨k, by omega, h⟩
 | 1 => exact ⟨_, by omega, h1⟩
 | 2 => exact ⟨_, by omega, h2⟩
 | 3 => exact ⟨_, by omega, h3⟩
 | j + 4 =>
   refine ⟨0, by omega, fun p hp => ?_⟩
   have hl := q2M t c (j + 4)
   rw [List.eq_nil_of_length_eq_zero (by omega : (itR t c (j + 4)).length = 0)] at hp
   cases hp
def atC (c : List RP) (t : RR) : D := if 2 ≤ c.length ∧ c.length ≤ 4 then .tup [(atR c t).enc, .int .i64 0] else .tup [rp0.enc, .int .i64 1]
set_option maxHeartbeats 4000000 in
theorem qoG (c : List RP) (t : RR) {k kt : Nat} (h : RB k c) (ht : SzR t kt) (hk : k ≤ 100) (hkt : kt ≤ 100) : PU qk9 [pts c, t.enc] = some (atC c t) := by
 unfold atC
 have hv := qdo c
 by_cases e : 2 ≤ c.length ∧ c.length ≤ 4
 ·rw [if_pos e]
  rw [decide_eq_true e] at hv
  refine q0f (fn := qbp) rfl (q0a ?_)
  refine go 800 rfl ?_
  refine q00 rfl rfl hv ?_
  refine go 800 rfl ?_
  refine q0n rfl ?_
  have hd := qsY c t ht (by omega) (by omega) e.2 (qqJ h ht e.2 hk hkt)
  refine go 800 rfl ?_
  refine q00 rfl rfl hd ?_
  refine go 800 rfl ?_
  have w1 : IntKind.i64.wrap ((((List.range c.length).map fun i => pts (itR t c i)).length : Int) - 1) = ((c.length - 1 : Nat) : Int) := by
   rw [List.length_map, List.length_range, wrap64 (by omega) (by omega)]; omega
  refine q0i (c.length - 1) rfl rfl w1 (d := pts (itR t c (c.length - 1))) (by rw [List.getElem?_map, List.getElem?_range (by omega)]; rfl) rfl ?_
  refine go 800 rfl ?_
  refine q0i 0 rfl rfl rfl (qah (by rw [q2M]; omega)) rfl ?_
  refine go 800 rfl ?_
  refine q0c rfl rfl rfl trivial ?_
  rfl
 ·rw [if_neg e]
  rw [decide_eq_false e] at hv
  refine q0f (fn := qbp) rfl (q0a ?_)
  refine go 800 rfl ?_
  refine q00 rfl rfl hv ?_
  refine go 800 rfl ?_
  refine q0m rfl ?_
  refine go 800 rfl ?_
  refine q0c rfl rfl rfl trivial ?_
  rfl
end Go.F

namespace Go.F
attribute [local irreducible] IntKind.wrap wpM
def tR (i n : Nat) : RR := RR.of (mkRat i n)
theorem quE {i n : Nat} (hi : i ≤ 1000) (hn : n ≤ 1000) (h0 : n ≠ 0) : SzR (tR i n) 1 := by
 have : QB (mkRat (i : Int) n) 1 := qsG (by omega) (by omega) h0
 exact qvO
def q93 (c : List RP) (n : Nat) : List RP := (List.range (n + 1)).map fun i => atR c (tR i n)
def q38 (c : List RP) (n : Int) : List RP × Int := if 2 ≤ c.length ∧ c.length ≤ 4 then (if n < 1 ∨ 39 < n then ([], 3) else (q93 c n.toNat, 0)) else ([], 1)
set_option maxHeartbeats 4000000 in
theorem qhC (c : List RP) (n : Int) {k : Nat} (h : RB k c) (hk : k ≤ 100) : PU qch [pts c, .int .i64 n] = some (.tup [pts (q38 c n).1, .int .i64 (q38 c n).2]) := by
 unfold q38
 have hv := qdo c
 by_cases e : 2 ≤ c.length ∧ c.length ≤ 4
 ·rw [if_pos e]
  rw [decide_eq_true e] at hv
  by_cases f : n < 1 ∨ 39 < n
  ·rw [if_pos f]
   refine q0f (fn := q4k) rfl (q0a ?_)
   refine go 800 rfl ?_
   refine q00 rfl rfl hv ?_
   refine go 800 rfl ?_
   refine q0n rfl ?_
   repeat' (first
    | (refine goP 800 rfl rfl ?_)
    | (show wpM _ _ _ (Fr.ops _ _ (KOper.mk _ _ (some _) _ _ :: _) :: _) Ex.normal _ _ _ _ _; first | refine q0o rfl ?_ | refine q0u rfl ?_ | refine q09 rfl (fun _ => ?_) (fun _ => ?_))
    | (show wpM _ _ _ (Fr.code (K.cond _ _ _) :: _) Ex.normal _ _ _ _ _; first | refine q0m rfl ?_ | refine q0n rfl ?_ | refine q02 rfl (fun _ => ?_) (fun _ => ?_))
    | (show wpM _ _ _ (Fr.ops _ _ (KOper.mk _ _ none _ (KOp.pick _ _ _) :: _) :: _) Ex.normal _ _ _ _ _; refine q0I rfl (fun _ => ?_) (fun _ => ?_))
    | (show wpM _ _ _ [] _ _ _ _ _ _; refine q0c rfl rfl rfl trivial ?_))
   all_goals ((try simp only [q22, q1U, q2C, q31, decide_eq_true_eq, decide_eq_false_iff_not, Bool.not_eq_true, Bool.not_eq_false, Int.not_lt, Int.not_le] at *); first | (simp_all [pts]; done) | (simp_all [pts]; omega) | (rw [D.bool.injEq, Bool.eq_iff_iff]; simp [pts]; omega) | (rw [D.bool.injEq, Bool.eq_iff_iff]; simp_all [pts]; omega) | (simp [pts]; split <;> (try split) <;> omega))
  ·rw [if_neg f]
   obtain ⟨m, rfl⟩ : ∃ m : Nat, n = m := ⟨n.toNat, by omega⟩
   have hm1 : 1 ≤ m := by omega
   have hm2 : m ≤ 39 := by omega
   have w0 : IntKind.i64.wrap ((m : Int) + 1) = ((m + 1 : Nat) : Int) := wrap64 (by omega) (by omega)
   refine q0f (fn := q4k) rfl (q0a ?_)
   refine go 800 rfl ?_
   refine q00 rfl rfl hv ?_
   refine go 800 rfl ?_
   refine q0n rfl ?_
   refine go 800 rfl ?_
   refine q09 rfl (fun g => absurd (q06.1 g) (by omega)) (fun _ => ?_)
   repeat' (first
    | (refine goP 800 rfl rfl ?_)
    | (show wpM _ _ _ (Fr.ops _ _ (KOper.mk _ _ (some _) _ _ :: _) :: _) Ex.normal _ _ _ _ _; first | refine q0o rfl ?_ | refine q0u rfl ?_ | refine q09 rfl (fun _ => ?_) (fun _ => ?_))
    | (show wpM _ _ _ (Fr.code (K.cond _ _ _) :: _) Ex.normal _ _ _ _ _; first | refine q0m rfl ?_ | refine q0n rfl ?_ | refine q02 rfl (fun _ => ?_) (fun _ => ?_))
    | (show wpM _ _ _ (Fr.ops _ _ (KOper.mk _ _ none _ (KOp.pick _ _ _) :: _) :: _) Ex.normal _ _ _ _ _; refine q0I rfl (fun _ => ?_) (fun _ => ?_))
    | (show wpM _ _ _ [] _ _ _ _ _ _; refine q0c rfl rfl rfl trivial ?_))
   ·rename_i a; exact absurd (q06.1 a) (by omega)
   refine q4g (m + 1) rfl rfl w0 (by rw [w0]; simp [q0K]; omega) ?_
   have ez : List.replicate (m + 1) (D.agg [.bool false, .nilsl, .nilsl, .bool false, .nilsl, .nilsl]) = (q3i none (m + 1) (fun i => some (atR c (tR i m))) 0).map q7k := by
    rw [qaA]; simp [q7k]
   rw [ez]
   refine go 800 rfl ?_
   refine q0p (S := fun k : Nat => ([pts c, q01 m, .ref 2 0 (m + 1), q01 (m + 1 : Nat), q01 k], [none, none, some (.row ((q3i none (m + 1) (fun i => some (atR c (tR i m))) k).map q7k) 6), none, none], [0, 0, 0, 0, 0])) (C := fun k => k ≤ m + 1) (m := fun k => m + 1 - k) 0 (Nat.zero_le _) (by omega) ?_ ?_
   ·exact q03 rfl ⟨q04 q7l _, trivial⟩ (by simp [pts, q01])
   intro i hi N hN
   refine go 800 rfl ?_
   refine q02 rfl (fun f1 => ?_) (fun f1 => ?_)
   ·rw [q06] at f1
    have hil : i < m + 1 := by omega
    have wi : IntKind.i64.wrap ((i : Int) + 1) = ((i + 1 : Nat) : Int) := wrap64 (by omega) (by omega)
    have hr := qee i m (by omega) (by omega) (by omega) (by omega)
    rw [Int.toNat_natCast] at hr
    have ha := qoG c (tR i m) h (quE (by omega) (by omega) (by omega)) hk (by decide)
    rw [atC, if_pos e] at ha
    have hset := qcC none (fun i => some (atR c (tR i m))) hil
    refine go 800 rfl ?_
    refine q00 rfl rfl hr ?_
    refine go 800 rfl ?_
    refine q00 rfl rfl ha ?_
    refine go 800 rfl ?_
    refine q0B i rfl rfl rfl rfl rfl (by omega) ?_
    refine go 800 rfl ?_
    refine q4i (enc := q7k) (q3i none (m + 1) (fun i => some (atR c (tR i m))) i) i (some (atR c (tR i m))) rfl rfl (Nat.zero_add _) rfl (fun x => by cases x <;> rfl) rfl (Nat.zero_le _) (by rw [q8M]; omega) ?_
    rw [hset]
    refine go 800 rfl ?_
    refine q05 ?_
    refine hN (i + 1) hil (by omega) (q03 rfl ⟨q04 q7l _, trivial⟩ ?_)
    simp [pts, q01, wi]
   rw [q07] at f1
   obtain rfl : i = m + 1 := by omega
   rw [qjC]
   refine go 800 rfl ?_
   refine q05 ?_
   refine go 800 rfl ?_
   refine q0c rfl rfl rfl ⟨q2u (by simp) (q0T qai _), trivial⟩ ?_
   rw [q2q (by simp)]; rfl
 ·rw [if_neg e]
  rw [decide_eq_false e] at hv
  refine q0f (fn := q4k) rfl (q0a ?_)
  refine go 800 rfl ?_
  refine q00 rfl rfl hv ?_
  repeat' (first
   | (refine goP 800 rfl rfl ?_)
   | (show wpM _ _ _ (Fr.ops _ _ (KOper.mk _ _ (some _) _ _ :: _) :: _) Ex.normal _ _ _ _ _; first | refine q0o rfl ?_ | refine q0u rfl ?_ | refine q09 rfl (fun _ => ?_) (fun _ => ?_))
   | (show wpM _ _ _ (Fr.code (K.cond _ _ _) :: _) Ex.normal _ _ _ _ _; first | refine q0m rfl ?_ | refine q0n rfl ?_ | refine q02 rfl (fun _ => ?_) (fun _ => ?_))
   | (show wpM _ _ _ (Fr.ops _ _ (KOper.mk _ _ none _ (KOp.pick _ _ _) :: _) :: _) Ex.normal _ _ _ _ _; refine q0I rfl (fun _ => ?_) (fun _ => ?_))
   | (show wpM _ _ _ [] _ _ _ _ _ _; refine q0c rfl rfl rfl trivial ?_))
  all_goals ((try simp only [q22, q1U, q2C, q31, decide_eq_true_eq, decide_eq_false_iff_not, Bool.not_eq_true, Bool.not_eq_false, Int.not_lt, Int.not_le] at *); first | (simp_all [pts]; done) | (simp_all [pts]; omega) | (rw [D.bool.injEq, Bool.eq_iff_iff]; simp [pts]; omega) | (rw [D.bool.injEq, Bool.eq_iff_iff]; simp_all [pts]; omega) | (simp [pts]; split <;> (try split) <;> omega))
end Go.F

namespace Go.F
section
variable {T : Tab} {sh : Shr} {nx0 : Nat} {s : List Fr} {t : q0z} {h : q0e} {z : Frz} {nx : Nat} {q : Ex → q0z → q0e → Frz → Nat → Prop}
variable {base i : Nat} {res : List Nat} {g : Gd} {rest : List KOper}
def qcn (t : q0z) : Live → List Rep → q0e → Frz → Option (List Obl × q0e × Frz)
 | [], _, h, z => some ([], h, z)
 | x :: rest, reps, h, z =>
   match qak (t x.1) with
   | none =>
     match plain 4 (t x.1) with
     | true => qcn t rest reps h z
     | false => none
   | some id =>
     match h id with
     | some (.row es esz) =>
       match reps with
       | [] => none
       | none :: reps =>
         match qcn t rest reps h z with
         | some (o, h', z') => some (.p es :: o, h', z')
         | none => none
       | some (l, rs) :: reps =>
         match qcn t rest reps (upd h id (some (.row l esz))) (qdx h z rs) with
         | some (o, h', z') => some (.s h es l rs :: o, h', z')
         | none => none
     | some (.mp _ vs) =>
       match qcn t rest reps h z with
       | some (o, h', z') => some (.p vs :: o, h', z')
       | none => none
     | none => qcn t rest reps h z
theorem qvh {t : q0z} : ∀ {live : Live} {reps : List Rep} {h : q0e} {z : Frz} {o : List Obl} {h' : q0e} {z' : Frz} {k : q0e → Frz → Prop}, qcn t live reps h z = some (o, h', z') → qi9 o → k h' z' → q3n live t h z k := by
 intro live
 induction live with
 | nil => intro reps h z o h' z' k hr _ hk; simp only [qcn, Option.some.injEq, Prod.mk.injEq] at hr; obtain ⟨_, rfl, rfl⟩ := hr; exact hk
 | cons x live ih =>
   intro reps h z o h' z' k hr ho hk
   simp only [qcn] at hr
   simp only [q3n]
   cases hid : qak (t x.1) with
   | none =>
     rw [hid] at hr
     simp only at hr ⊢
     cases hb : plain 4 (t x.1) with
     | true => rw [hb] at hr; exact ih hr ho hk
     | false => rw [hb] at hr; cases hr
   | some id =>
     rw [hid] at hr
     simp only at hr ⊢
     cases hb : h id with
     | none => rw [hb] at hr; exact ih hr ho hk
     | some b =>
       rw [hb] at hr
       cases b with
       | mp ks vs =>
         simp only at hr ⊢
         cases hx : qcn t live reps h z with
         | none => rw [hx] at hr; cases hr
         | some y =>
           obtain ⟨o1, h1, z1⟩ := y
           rw [hx] at hr
           simp only [Option.some.injEq, Prod.mk.injEq] at hr
           obtain ⟨rfl, rfl, rfl⟩ := hr
           exact q1C ho.1 (ih hx ho.2 hk)
       | row es esz =>
         simp only at hr ⊢
         match reps, hr with
         | none :: reps, hr =>
           simp only at hr
           cases hx : qcn t live reps h z with
           | none => rw [hx] at hr; cases hr
           | some y =>
             obtain ⟨o1, h1, z1⟩ := y
             rw [hx] at hr
             simp only [Option.some.injEq, Prod.mk.injEq] at hr
             obtain ⟨rfl, rfl, rfl⟩ := hr
             unfold qbN
             exact .inl ⟨ho.1, ih hx ho.2 hk⟩
         | some (l, rs) :: reps, hr =>
           simp only at hr
           cases hx : qcn t live reps (upd h id (some (.row l esz))) (qdx h z rs) with
           | none => rw [hx] at hr; cases hr
           | some y =>
             obtain ⟨o1, h1, z1⟩ := y
             rw [hx] at hr
             simp only [Option.some.injEq, Prod.mk.injEq] at hr
             obtain ⟨rfl, rfl, rfl⟩ := hr
             obtain ⟨g1, g2, g3, g4⟩ := ho.1
             unfold qbN
             exact .inr ⟨l, rs, g1, g2, g3, g4, ih hx ho.2 hk⟩
def setZ (live : Live) (reps : List Rep) (t : q0z) (h : q0e) (z : Frz) (nx : Nat) : Option (List Obl × Kept) :=
 match qcv live t h z nx with
 | (t, h, z) =>
   match qcn t live reps h z with
   | some (o, h', z') => fL1 (qav 0 (q0y t live) t live) fun vs => fLi (qaw 0 (q0y t live) h' (q0y t live) 0) fun bs => fLi (qgB 0 (q0y t live) z' (q0y t live) 0) fun zs => some (o, vs, bs, zs)
   | none => none
theorem qgH {live : Live} (reps : List Rep) {o : List Obl} {kp : Kept} {K : Kept → Prop} (hs : setZ live reps t h z nx = some (o, kp)) (hp : qi9 o) (hk : K kp) : q18 0 live t h z nx fun _ _ kp => K kp := by
 unfold setZ at hs
 split at hs
 rename_i t1 h1 z1 hn
 split at hs
 ·rename_i o1 h2 z2 hr
  simp only [q6k, qlg, Option.some.injEq, Prod.mk.injEq] at hs
  obtain ⟨rfl, rfl⟩ := hs
  unfold q18
  refine qh3 _ _ _ _ _ _ fun nx' => ?_
  rw [hn]
  refine qvh hr hp ?_
  rw [q7y, q7z]
  exact hk
 ·cases hs
def qhW (m : List (ByteArray × D)) (s : ByteArray) : Option D := (m.find? fun p => s == p.1).map (·.2)
theorem qe1 (m : List (ByteArray × D)) (s : ByteArray) : ∀ n, match findKey s (m.map (·.1)) n with
 | some i => n ≤ i ∧ ∃ v, (m.map (·.2))[i - n]? = some v ∧ qhW m s = some v
 | none => qhW m s = none := by
 induction m with
 | nil => intro n; rfl
 | cons p m ih =>
   intro n
   simp only [List.map_cons, findKey]
   by_cases e : (s == p.1) = true
   ·rw [if_pos e]
    refine ⟨Nat.le_refl _, p.2, by simp, by simp [qhW, List.find?_cons, e]⟩
   ·rw [if_neg e]
    have h := ih (n + 1)
    have em : qhW (p :: m) s = qhW m s := by
     unfold qhW; rw [List.find?_cons]
     simp only [Bool.not_eq_true] at e
     rw [e]
    cases hf : findKey s (m.map (·.1)) (n + 1) with
    | none => rw [hf] at h; simp only at h ⊢; rw [em]; exact h
    | some i =>
      rw [hf] at h
      simp only at h ⊢
      obtain ⟨h1, v, h2, h3⟩ := h
      refine ⟨by omega, v, ?_, by rw [em]; exact h3⟩
      have : i - n = (i - (n + 1)) + 1 := by omega
      rw [this, List.getElem?_cons_succ]; exact h2
theorem atLook {zv : D} {x kx : X} {dst : Nat} {m : List (ByteArray × D)} {st : ByteArray} {id : Nat} (hx : x.ev t = .mref id) (hh : g.h base h id = some (.mp (m.map (·.1)) (m.map (·.2)))) (hkx : kx.ev t = .str st)
 (hs : ∀ v, qhW m st = some v → wpM T sh nx0 (.ops base res rest :: s) .normal (upd t dst (.tup [v, .bool true])) h z nx q)
 (hn : qhW m st = none → wpM T sh nx0 (.ops base res rest :: s) .normal (upd t dst (.tup [zv, .bool false])) h z nx q) :
 wpM T sh nx0 (.ops base res (⟨i, some dst, none, g, .lookup zv x kx true⟩ :: rest) :: s) .normal t h z nx q := by
 refine q54 ?_
 have hf := qe1 m st 0
 simp only [kop, qjf, hx, hh, q8H, hkx, qp7]
 cases hk : findKey st (m.map (·.1)) 0 with
 | none => rw [hk] at hf; exact hn hf
 | some j =>
   rw [hk] at hf
   obtain ⟨_, v, h2, h3⟩ := hf
   exact qc9 h2 (hs v h3)
theorem qwz {zv : D} {x kx : X} {dst : Nat} {m : List (ByteArray × D)} {st : ByteArray} (hx : x.ev t = .mlst (m.map (·.1)) (m.map (·.2))) (hkx : kx.ev t = .str st)
 (hs : ∀ v, qhW m st = some v → wpM T sh nx0 (.ops base res rest :: s) .normal (upd t dst (.tup [v, .bool true])) h z nx q)
 (hn : qhW m st = none → wpM T sh nx0 (.ops base res rest :: s) .normal (upd t dst (.tup [zv, .bool false])) h z nx q) :
 wpM T sh nx0 (.ops base res (⟨i, some dst, none, g, .lookup zv x kx true⟩ :: rest) :: s) .normal t h z nx q := by
 refine q54 ?_
 have hf := qe1 m st 0
 simp only [kop, qjf, hx, q8H, hkx, qp7]
 cases hk : findKey st (m.map (·.1)) 0 with
 | none => rw [hk] at hf; exact hn hf
 | some j =>
   rw [hk] at hf
   obtain ⟨_, v, h2, h3⟩ := hf
   exact qc9 h2 (hs v h3)
theorem atPut {mx kx vx : X} {dst : Option Nat} {m : List (ByteArray × D)} {st : ByteArray} {id : Nat} (hx : mx.ev t = .mref id) (hh : g.h base h id = some (.mp (m.map (·.1)) (m.map (·.2)))) (hz : g.z base z id = 0) (hkx : kx.ev t = .str st) (hn : qhW m st = none)
 (hk : wpM T sh nx0 (.ops base res rest :: s) .normal (put t dst (.tup [])) (upd h id (some (.mp ((m ++ [(st, vx.ev t)]).map (·.1)) ((m ++ [(st, vx.ev t)]).map (·.2))))) z nx q) :
 wpM T sh nx0 (.ops base res (⟨i, dst, none, g, .mapset mx kx vx⟩ :: rest) :: s) .normal t h z nx q := by
 refine q54 ?_
 have hf := qe1 m st 0
 simp only [kop, qjg, hx, hh, hkx, hz, qp7]
 cases hk' : findKey st (m.map (·.1)) 0 with
 | none => rw [List.map_append, List.map_append] at hk; exact hk
 | some j =>
   rw [hk'] at hf
   obtain ⟨_, v, h2, h3⟩ := hf
   rw [hn] at h3; cases h3
end
end Go.F

namespace Go.F
attribute [local irreducible] IntKind.wrap wpM
def q0H : List Spot → List Spot
 | [] => []
 | [a] => [a]
 | a :: b :: l => if a = b then q0H (b :: l) else a :: q0H (b :: l)
theorem qnl (l : List Spot) (x y : Spot) : q0H (l ++ [x, y]) = q0H (l ++ [x]) ++ if x = y then [] else [y] := by
 induction l with
 | nil =>
   simp only [List.nil_append, q0H]
   by_cases h : x = y
   ·simp [h]
   ·simp [h]
 | cons a l ih =>
   cases l with
   | nil =>
     by_cases g1 : a = x <;> by_cases g2 : x = y <;> simp [q0H, g1, g2]
   | cons b l =>
     simp only [List.cons_append] at ih ⊢
     rw [q0H, ih, q0H]
     split <;> simp
theorem qbe (a : List Spot) {j : Nat} (h1 : 1 ≤ j) (h2 : j < a.length) : q0H (a.take (j + 1)) = q0H (a.take j) ++ if pt a (j - 1) = pt a j then [] else [pt a j] := by
 obtain ⟨m, rfl⟩ : ∃ m, j = m + 1 := ⟨j - 1, by omega⟩
 have e1 : a.take (m + 1 + 1) = a.take m ++ [pt a m, pt a (m + 1)] := by
  rw [List.take_succ_eq_append_getElem h2, List.take_succ_eq_append_getElem (by omega), q0F h2, q0F (by omega : m < a.length), List.append_assoc]
  rfl
 have e2 : a.take (m + 1) = a.take m ++ [pt a m] := by
  rw [List.take_succ_eq_append_getElem (by omega), q0F (by omega : m < a.length)]
 rw [e1, e2, qnl]
 rfl
theorem qoE {l : List Spot} (h : l ≠ []) : 1 ≤ (q0H l).length := by
 induction l with
 | nil => exact absurd rfl h
 | cons a l ih =>
   cases l with
   | nil => simp [q0H]
   | cons b l =>
     rw [q0H]
     split
     ·exact ih (by simp)
     ·simp
def Old1 (b : Blk) (h : q0e) (z : Frz) : Prop := (∃ h0 : q0e, h = upd h0 0 (some b)) ∧ ∃ z0 : Frz, z = upd z0 0 0
theorem Old1.of {b : Blk} {h : q0e} {z : Frz} (h1 : h 0 = some b) (z1 : z 0 = 0) : Old1 b h z :=
 ⟨⟨h, by rw [q2w (f := h) h1]⟩, z, by rw [q2w (f := z) z1]⟩
theorem Old1.old {b : Blk} {h : q0e} {z : Frz} (p1 : q1l (some b) = true) (h1 : h 0 = some b) (z1 : z 0 = 0) : Old1 b (q2j h) z :=
 Old1.of (q5k h1 p1) z1
section
variable {T : Tab} {sh : Shr} {nx0 : Nat} {s : List Fr} {t : q0z} {h : q0e} {z : Frz} {nx : Nat} {q : Ex → q0z → q0e → Frz → Nat → Prop}
variable {base i : Nat} {res : List Nat} {g : Gd} {rest : List KOper}
theorem qwm {e : El} {sx : X} {dst : Option Nat} {id off len esz : Nat} {es : List D} (hx : sx.ev t = .ref id off len) (hr : g.h base h id = some (.row es esz)) (he : (Nat.beq e.d.cells.length esz && e.d.sto) = true) (hb : off + len ≤ es.length ∧ g.z base z id ≤ off)
 (hk : wpM T sh nx0 (.ops base res rest :: s) .normal (put t dst (.tup [])) (upd h id (some (.row (es.take off ++ List.replicate len e.d ++ es.drop (off + len)) esz))) z nx q) :
 wpM T sh nx0 (.ops base res (⟨i, dst, none, g, .clear e sx⟩ :: rest) :: s) .normal t h z nx q := by
 refine q54 ?_
 simp only [kop, qqY, hx, hr, he]
 exact q1C hb hk
end
def CmpAt (a : List Spot) (i j : Nat) (w : List Spot) : Prop := w.length = a.length ∧ w.take i = q0H (a.take j) ∧ i = (q0H (a.take j)).length ∧ i < j ∧ ∀ x, j ≤ x + 1 → x < a.length → w[x]? = some (pt a x)
set_option maxHeartbeats 2000000 in
theorem qsT (a : List Spot) (ha : a.length ≤ 1000) {h : q0e} {z : Frz} {K : D → q0e → Frz → Nat → Prop}
 (hold : Old1 (.row (a.map Spot.enc) 2) h z)
 (hk : ∀ (w : List Spot) (h' : q0e) (z' : Frz) (nx : Nat), Old1 (.row (w.map Spot.enc) 2) h' z' → w.take (q0H a).length = q0H a → (q0H a).length ≤ w.length → K (.ref 0 0 (q0H a).length) h' z' nx) :
 wpM TT (shr TT 5) 91 [.code k_slices_Compact_Spot_Spot.code] .normal (enter [.ref 0 0 a.length]) h z 91 (qhS k_slices_Compact_Spot_Spot K) := by
 obtain ⟨⟨h0, rfl⟩, z0, rfl⟩ := hold
 refine go 800 rfl ?_
 refine q02 rfl (fun e1 => ?_) (fun e1 => ?_)
 ·rw [q06] at e1
  have hc : q0H a = a := by
   match a, e1 with
   | [], _ => rfl
   | [x], _ => rfl
   | x :: y :: l, e1 => simp at e1; omega
  refine go 800 rfl ?_
  rw [hc] at hk
  exact qbO rfl rfl (hk a _ _ _ (Old1.of rfl rfl) (by simp) (Nat.le_refl _))
 rw [q07] at e1
 refine go 800 rfl ?_
 refine q6Y (S := fun x : Nat => ([.ref 0 0 a.length, q01 x], [none, none], [0, 0]))
  (O := fun x ho zo => Old1 (.row (a.map Spot.enc) 2) ho zo)
  (C := fun x => 1 ≤ x ∧ x ≤ a.length ∧ q0H (a.take x) = a.take x) (m := fun x => a.length - x) 1 ⟨by omega, by omega, ?_⟩ (by omega) ?_ ?_
 ·match a, e1 with
  | x :: y :: l, _ => rfl
 ·refine q27 rfl ⟨q04 q0h _, trivial⟩ ⟨rfl, ?_⟩
  exact Old1.old (q4w q0h _ _) rfl rfl
 rintro k ⟨hk1, hk2, hk3⟩ ho zo hold N hN
 obtain ⟨⟨h1, rfl⟩, z1, rfl⟩ := hold
 refine go 800 rfl ?_
 refine q02 rfl (fun e2 => ?_) (fun e2 => ?_)
 ·rw [q06] at e2
  have hlt : k < a.length := by omega
  have w1 : IntKind.i64.wrap ((k : Int) + 1) = ((k + 1 : Nat) : Int) := wrap64 (by omega) (by omega)
  have w2 : IntKind.i64.wrap ((k : Int) - 1) = ((k - 1 : Nat) : Int) := by rw [wrap64 (by omega) (by omega)]; omega
  have hst := qbe a hk1 hlt
  refine go 800 rfl ?_
  refine q0B k rfl rfl rfl rfl rfl (by omega) ?_
  refine go 800 rfl ?_
  refine q1O (enc := Spot.enc) a k (pt a k) rfl (Nat.zero_add _) (fun _ => rfl) rfl (by rw [q0F hlt]; exact List.getElem?_eq_getElem _) ?_
  refine go 800 rfl ?_
  refine q0B (k - 1) rfl rfl rfl rfl w2 (by omega) ?_
  refine go 800 rfl ?_
  refine q1O (enc := Spot.enc) a (k - 1) (pt a (k - 1)) rfl (Nat.zero_add _) (fun _ => rfl) rfl (by rw [q0F (by omega : k - 1 < a.length)]; exact List.getElem?_eq_getElem _) ?_
  refine go 800 rfl ?_
  refine q02 rfl (fun e3 => ?_) (fun e3 => ?_)
  ·rw [q0Y] at e3
   have e3 := of_decide_eq_true e3
   rw [if_pos e3.symm, List.append_nil, hk3] at hst
   refine go 800 rfl ?_
   refine qlk k a.length rfl rfl rfl ⟨_, _, rfl, rfl⟩ rfl ⟨by omega, Nat.le_refl _⟩ ?_
   rw [if_neg (by omega), if_neg (by omega)]
   refine go 800 rfl ?_
   refine q6Y (S := fun x : Nat × Nat => ([.ref 0 0 a.length, q01 x.1, .ref 0 (0 + k) (a.length - k), q01 x.2], [none, none, none, none], [0, 0, 0, 0]))
    (O := fun x ho zo => ∃ w, CmpAt a x.1 (k + x.2) w ∧ Old1 (.row (w.map Spot.enc) 2) ho zo)
    (C := fun x => 1 ≤ x.2 ∧ x.2 ≤ a.length - k) (m := fun x => a.length - k - x.2) (k, 1) ⟨by omega, by show 1 ≤ a.length - k; omega⟩ (by omega) ?_ ?_
   ·refine q27 rfl ⟨q04 q0h _, q04 q0h _, trivial⟩ ⟨rfl, a, ?_, ?_⟩
    ·refine ⟨rfl, by rw [hst], by rw [hst]; simp; omega, by omega, fun x _ hx => ?_⟩
     rw [q0F hx]; exact List.getElem?_eq_getElem _
    ·exact Old1.old (q4w q0h _ _) rfl rfl
   rintro ⟨i, d⟩ ⟨hd1, hd2⟩ ho zo ⟨w, ⟨hw1, hw2, hw3, hw4, hw5⟩, hold⟩ N2 hN2
   obtain ⟨⟨h2, rfl⟩, z2, rfl⟩ := hold
   simp only at hd1 hd2 hw2 hw3 hw4 hw5
   have wd : IntKind.i64.wrap ((d : Int) + 1) = ((d + 1 : Nat) : Int) := wrap64 (by omega) (by omega)
   have wd' : IntKind.i64.wrap ((d : Int) - 1) = ((d - 1 : Nat) : Int) := by rw [wrap64 (by omega) (by omega)]; omega
   have wi : IntKind.i64.wrap ((i : Int) + 1) = ((i + 1 : Nat) : Int) := wrap64 (by omega) (by omega)
   refine go 800 rfl ?_
   refine q02 rfl (fun e4 => ?_) (fun e4 => ?_)
   ·rw [q06] at e4
    have hj : k + d < a.length := by omega
    have hst2 := qbe a (j := k + d) (by omega) hj
    have l1 := hw5 (k + d) (by omega) hj
    have l2 := hw5 (k + d - 1) (by omega) (by omega)
    refine go 800 rfl ?_
    refine q0B d rfl rfl rfl rfl rfl (by omega) ?_
    refine go 800 rfl ?_
    refine q1O (enc := Spot.enc) w (k + d) (pt a (k + d)) rfl (by omega) (fun _ => rfl) rfl l1 ?_
    refine go 800 rfl ?_
    refine q0B (d - 1) rfl rfl rfl rfl wd' (by omega) ?_
    refine go 800 rfl ?_
    refine q1O (enc := Spot.enc) w (k + d - 1) (pt a (k + d - 1)) rfl (by omega) (fun _ => rfl) rfl l2 ?_
    refine go 800 rfl ?_
    refine q02 rfl (fun e5 => ?_) (fun e5 => ?_)
    ·rw [q0Y] at e5
     have e5 : ¬ pt a (k + d) = pt a (k + d - 1) := by simpa using e5
     rw [if_neg (fun g => e5 g.symm)] at hst2
     refine go 800 rfl ?_
     refine q0B d rfl rfl rfl rfl rfl (by omega) ?_
     refine go 800 rfl ?_
     refine q1O (enc := Spot.enc) w (k + d) (pt a (k + d)) rfl (by omega) (fun _ => rfl) rfl l1 ?_
     refine go 800 rfl ?_
     refine q0B i rfl rfl rfl rfl rfl (by omega) ?_
     refine go 800 rfl ?_
     refine q4i (enc := Spot.enc) w i (pt a (k + d)) rfl rfl (Nat.zero_add _) rfl (fun _ => rfl) rfl (Nat.zero_le _) (by omega) ?_
     refine go 800 rfl ?_
     refine q05 ?_
     refine hN2 (i + 1, d + 1) ⟨by show 1 ≤ d + 1; omega, by show d + 1 ≤ _; omega⟩ (by show _ - (d + 1) < _ - d; omega) (q27 rfl ⟨q04 q0h _, q04 q0h _, trivial⟩ ⟨by simp [q01, wd, wi], w.set i (pt a (k + d)), ⟨?_, ?_, ?_, ?_, ?_⟩, ?_⟩)
     ·rw [List.length_set]; exact hw1
     ·show (w.set i (pt a (k + d))).take (i + 1) = q0H (a.take (k + (d + 1)))
      rw [← Nat.add_assoc, hst2, ← hw2, List.take_succ_eq_append_getElem (by rw [List.length_set]; omega), List.getElem_set_self, List.take_set_of_le (Nat.le_refl _)]
     ·show i + 1 = _
      rw [← Nat.add_assoc, hst2, List.length_append, ← hw3]; rfl
     ·show i + 1 < k + (d + 1); omega
     ·intro x hx1 hx2
      have hx1 : k + (d + 1) ≤ x + 1 := hx1
      rw [List.getElem?_set_ne (by omega)]
      exact hw5 x (by omega) hx2
     ·exact Old1.old (q4w q0h _ _) rfl rfl
    ·rw [q0Y] at e5
     have e5 : pt a (k + d) = pt a (k + d - 1) := by simpa using e5
     rw [if_pos e5.symm, List.append_nil] at hst2
     refine go 800 rfl ?_
     refine q05 ?_
     refine hN2 (i, d + 1) ⟨by show 1 ≤ d + 1; omega, by show d + 1 ≤ _; omega⟩ (by show _ - (d + 1) < _ - d; omega) (q27 rfl ⟨q04 q0h _, q04 q0h _, trivial⟩ ⟨by simp [q01, wd], w, ⟨hw1, ?_, ?_, ?_, ?_⟩, ?_⟩)
     ·show w.take i = q0H (a.take (k + (d + 1)))
      rw [← Nat.add_assoc, hst2]; exact hw2
     ·show i = _
      rw [← Nat.add_assoc, hst2]; exact hw3
     ·show i < k + (d + 1); omega
     ·intro x hx1 hx2
      have hx1 : k + (d + 1) ≤ x + 1 := hx1
      exact hw5 x (by omega) hx2
     ·exact Old1.old (q4w q0h _ _) rfl rfl
   rw [q07] at e4
   have hkd : k + d = a.length := by omega
   rw [hkd, List.take_length] at hw2 hw3
   have hpos := qoE (l := a) (by intro g; rw [g] at hlt; simp at hlt)
   refine go 800 rfl ?_
   refine q05 ?_
   refine go 800 rfl ?_
   refine qlk i a.length rfl rfl rfl ⟨_, _, rfl, rfl⟩ rfl ⟨by omega, Nat.le_refl _⟩ ?_
   rw [if_neg (by omega), if_neg (by omega)]
   refine go 800 rfl ?_
   refine qwm rfl rfl rfl ⟨by simp; omega, Nat.zero_le _⟩ ?_
   have er : (w.map Spot.enc).take (0 + i) ++ List.replicate (a.length - i) (D.agg [.int .i64 0, .int .i64 0]) ++ (w.map Spot.enc).drop (0 + i + (a.length - i)) = (w.take i ++ List.replicate (a.length - i) (⟨0, 0⟩ : Spot) ++ w.drop (i + (a.length - i))).map Spot.enc := by
    simp [List.map_take, List.map_drop, Spot.enc]
   rw [er]
   refine go 800 rfl ?_
   refine q8n i rfl rfl rfl ⟨_, _, rfl, rfl⟩ (by omega) ?_
   refine go 800 rfl ?_
   refine q05 ?_
   refine go 800 rfl ?_
   refine qbO rfl rfl ?_
   subst hw3
   refine hk _ _ _ _ (Old1.of rfl rfl) ?_ ?_
   ·rw [hw2, List.append_assoc, List.take_left' rfl]
   ·rw [hw2]; simp only [List.length_append]; omega
  ·rw [q0Y] at e3
   have e3 := of_decide_eq_false e3
   rw [if_neg (fun g => e3 g.symm), hk3] at hst
   refine go 800 rfl ?_
   refine q05 ?_
   refine hN (k + 1) ⟨by omega, by omega, ?_⟩ (by omega) (q27 rfl ⟨q04 q0h _, trivial⟩ ⟨by simp [q01, w1], ?_⟩)
   ·rw [hst, List.take_succ_eq_append_getElem hlt, q0F hlt]
   ·exact Old1.old (q4w q0h _ _) rfl rfl
 ·rw [q07] at e2
  obtain rfl : k = a.length := by omega
  rw [List.take_length] at hk3
  refine go 800 rfl ?_
  refine q05 ?_
  refine go 800 rfl ?_
  rw [hk3] at hk
  exact qbO rfl rfl (hk a _ _ _ (Old1.of rfl rfl) (by simp) (Nat.le_refl _))
end Go.F

namespace Go.F
attribute [local irreducible] IntKind.wrap wpM
structure Crvd where
 name : ByteArray
 ctl : List ByteArray
 seg : Int
def Crvd.enc (c : Crvd) : D := .agg [.str c.name, .lst (c.ctl.map .str), .int .i64 c.seg]
def Mm (m : List (ByteArray × RP)) : List (ByteArray × D) := m.map fun p => (p.1, p.2.enc)
def q3z (m : List (ByteArray × RP)) (s : ByteArray) : Option RP := (m.find? fun p => s == p.1).map (·.2)
theorem qln (m : List (ByteArray × RP)) (s : ByteArray) : qhW (Mm m) s = (q3z m s).map RP.enc := by
 induction m with
 | nil => rfl
 | cons p m ih =>
   unfold qhW q3z Mm at *
   simp only [List.map_cons, List.find?_cons]
   cases s == p.1 with
   | true => rfl
   | false => exact ih
theorem quh {m : List (ByteArray × RP)} {s : ByteArray} {p : RP} (h : q3z m s = some p) : ∃ q ∈ m, q.2 = p := by
 unfold q3z at h
 rw [Option.map_eq_some_iff] at h
 obtain ⟨q, h1, h2⟩ := h
 exact ⟨q, List.mem_of_find?_eq_some h1, h2⟩
def MB (k : Nat) (m : List (ByteArray × RP)) : Prop := ∀ q ∈ m, SzP q.2 k
theorem qn8 {α β : Type} (f : α → Option β) (l : List α) (x : α) : (l ++ [x]).mapM f = (l.mapM f).bind fun r => (f x).map fun y => r ++ [y] := by
 rw [List.mapM_append]
 cases l.mapM f with
 | none => rfl
 | some r =>
   simp only [List.mapM_cons, List.mapM_nil]
   cases f x <;> rfl
theorem qn9 {α β : Type} (f : α → Option β) {l : List α} {k : Nat} (hk : k < l.length) (h : f l[k] = none) : l.mapM f = none := by
 have e : l = l.take k ++ (l[k] :: l.drop (k + 1)) := by
  rw [← List.drop_eq_getElem_cons hk, List.take_append_drop]
 rw [e, List.mapM_append]
 cases (l.take k).mapM f with
 | none => rfl
 | some r => simp only [List.mapM_cons, h]; rfl
theorem qh9 {k : Nat} {m : List (ByteArray × RP)} (hm : MB k m) : ∀ (l : List ByteArray) (ps : List RP), l.mapM (q3z m) = some ps → RB k ps ∧ ps.length = l.length := by
 intro l
 induction l with
 | nil => intro ps h; cases h; exact ⟨fun _ h => (by cases h), rfl⟩
 | cons x l ih =>
   intro ps h
   rw [List.mapM_cons] at h
   cases h1 : q3z m x with
   | none => rw [h1] at h; cases h
   | some p =>
     rw [h1] at h
     cases h2 : l.mapM (q3z m) with
     | none => rw [h2] at h; cases h
     | some qs =>
       rw [h2] at h
       cases h
       obtain ⟨i1, i2⟩ := ih qs h2
       refine ⟨fun y hy => ?_, by simp [i2]⟩
       rcases List.mem_cons.1 hy with rfl | hy
       ·obtain ⟨q, q1, rfl⟩ := quh h1; exact hm q q1
       ·exact i1 y hy
def q9Z : List RP → Int
 | [] => 0
 | p :: l => if (q20 p.v).2 = 0 then q9Z l else (q20 p.v).2
def q1H (l : List RP) : List Spot := l.map fun p => (q20 p.v).1
def qcx (l : List RP) : List Spot × Int := if q9Z l = 0 then (q0H (q1H l), 0) else ([], q9Z l)
def q1A (m : List (ByteArray × RP)) (c : Crvd) : List Spot × Int :=
 match c.ctl.mapM (q3z m) with
 | none => ([], 6)
 | some ps => if (q38 ps c.seg).2 = 0 then qcx (q38 ps c.seg).1 else ([], (q38 ps c.seg).2)
theorem qot {k : Nat} {c : List RP} (h : RB k c) (hk : k ≤ 100) (n : Int) : (q38 c n).1.length ≤ 40 ∧ ∀ p ∈ (q38 c n).1, ∃ k', k' ≤ 10000 ∧ SzP p k' := by
 unfold q38
 split
 ·rename_i e
  split
  ·exact ⟨by simp, fun p hp => (by cases hp)⟩
  ·rename_i f
   refine ⟨by simp [q93]; omega, fun p hp => ?_⟩
   simp only [q93, List.mem_map, List.mem_range] at hp
   obtain ⟨i, hi, rfl⟩ := hp
   obtain ⟨k', h1, h2⟩ := qqJ h (quE (i := i) (n := n.toNat) (by omega) (by omega) (by omega)) e.2 hk (by decide) (c.length - 1)
   exact ⟨k', h1, h2.at (by rw [q2M]; omega)⟩
 ·exact ⟨by simp, fun p hp => (by cases hp)⟩
theorem qx9 {l w : List Spot} {n : Nat} (hn : n = l.length) (hl : n ≤ w.length) (hw : w.take n = l) : 0 + n ≤ (w.map Spot.enc).length ∧ (((w.map Spot.enc).drop 0).take n).all (dat 4) = true := by
 refine ⟨by simpa using hl, ?_⟩
 rw [List.drop_zero, ← List.map_take, hw]
 exact q0T q24 _
set_option maxHeartbeats 4000000 in
theorem qic (m : List (ByteArray × RP)) (c : Crvd) {k : Nat} (hm : MB k m) (hk : k ≤ 100) (hc : c.ctl.length ≤ 1000) :
 PU qcf [.mlst ((Mm m).map (·.1)) ((Mm m).map (·.2)), c.enc] = some (.tup [q0g (q1A m c).1, .int .i64 (q1A m c).2]) := by
 refine q0f (fn := q88) rfl (q0a ?_)
 refine go 800 rfl ?_
 rw [List.length_map]
 refine q0p (S := fun x : Nat × List RP => ([.mlst ((Mm m).map (·.1)) ((Mm m).map (·.2)), .ptr 1 0 0, .ref 2 0 x.1, .lst (c.ctl.map .str), q01 c.ctl.length, q01 x.1], [none, some (.row [c.enc] 3), some (.row (x.2.map RP.enc) 6), none, none, none], [0, 0, 0, 0, 0, 0])) (C := fun x => x.1 ≤ c.ctl.length ∧ (c.ctl.take x.1).mapM (q3z m) = some x.2) (m := fun x => c.ctl.length - x.1) (0, []) ⟨Nat.zero_le _, rfl⟩ (by show c.ctl.length - 0 < _; omega) ?_ ?_
 ·exact q03 rfl ⟨rfl, rfl, trivial⟩ (by simp [q01, Crvd.enc])
 rintro ⟨i, ps⟩ ⟨hi, hps⟩ N hN
 simp only at hi hps
 refine go 800 rfl ?_
 refine q02 rfl (fun e1 => ?_) (fun e1 => ?_)
 ·rw [q06] at e1
  have hlt : i < c.ctl.length := by omega
  have w1 : IntKind.i64.wrap ((i : Int) + 1) = ((i + 1 : Nat) : Int) := wrap64 (by omega) (by omega)
  have hst : (c.ctl.take (i + 1)).mapM (q3z m) = (q3z m c.ctl[i]).map fun y => ps ++ [y] := by
   rw [List.take_succ_eq_append_getElem hlt, qn8, hps]; rfl
  have hpl : ps.length = i := by
   have := (qh9 hm _ _ hps).2
   rw [List.length_take] at this; omega
  refine go 800 rfl ?_
  refine q0i i rfl rfl rfl (d := .str c.ctl[i]) (by rw [List.getElem?_map, List.getElem?_eq_getElem hlt]; rfl) rfl ?_
  refine go 800 rfl ?_
  refine qwz rfl rfl (fun v hv => ?_) (fun hv => ?_)
  ·rw [qln, Option.map_eq_some_iff] at hv
   obtain ⟨p, hp, rfl⟩ := hv
   rw [hp] at hst
   refine go 800 rfl ?_
   refine q0n rfl ?_
   refine go 800 rfl ?_
   refine q1e rfl rfl rfl rfl rfl rfl (by simp [hpl]) (Nat.zero_le _) (by simp [q0K]; omega) ?_
   refine go 800 rfl ?_
   refine q05 ?_
   refine hN (i + 1, ps ++ [p]) ⟨hlt, hst⟩ (by show _ - (i + 1) < _ - i; omega) (q03 rfl ⟨rfl, ?_, trivial⟩ ?_)
   ·rw [List.all_append, q04 q6J]; rfl
   ·simp [q01, Crvd.enc, w1]; rfl
  ·rw [qln, Option.map_eq_none_iff] at hv
   have hr : q1A m c = ([], 6) := by unfold q1A; rw [qn9 _ hlt hv]
   refine go 800 rfl ?_
   refine q0m rfl ?_
   refine go 800 rfl ?_
   refine q05 ?_
   refine go 800 rfl ?_
   refine q0c rfl rfl rfl trivial ?_
   rw [hr]; rfl
 rw [q07] at e1
 obtain rfl : i = c.ctl.length := by omega
 rw [List.take_length] at hps
 obtain ⟨hb, hpl⟩ := qh9 hm _ _ hps
 have hfl := qhC ps c.seg hb hk
 obtain ⟨hz1, hz2⟩ := qot hb hk c.seg
 have hr : q1A m c = if (q38 ps c.seg).2 = 0 then qcx (q38 ps c.seg).1 else ([], (q38 ps c.seg).2) := by unfold q1A; rw [hps]
 refine go 800 rfl ?_
 refine q05 ?_
 refine go 800 rfl ?_
 refine q1Z rfl rfl ⟨q2u (by simp [hpl]) (q0T qai _), trivial⟩ (by rw [q2q (by simp [hpl])]; exact hfl) fun z => ?_
 rw [hr]
 generalize (q38 ps c.seg).1 = fl at *
 generalize (q38 ps c.seg).2 = er at *
 refine go 800 rfl ?_
 refine q02 rfl (fun e2 => ?_) (fun e2 => ?_)
 ·rw [q0O] at e2
  rw [if_neg e2]
  refine go 800 rfl ?_
  refine q0c rfl rfl rfl trivial ?_
  rfl
 rw [q0S] at e2
 rw [if_pos e2]
 refine go 800 rfl ?_
 rw [List.length_map]
 refine q0p (S := fun x : Nat => ([.ref 0 0 x, pts fl, q01 fl.length, q01 x], [some (.row ((q1H (fl.take x)).map Spot.enc) 2), none, none, none], [0, 0, 0, 0])) (C := fun x => x ≤ fl.length ∧ q9Z fl = q9Z (fl.drop x)) (m := fun x => fl.length - x) 0 ⟨Nat.zero_le _, rfl⟩ (by omega) ?_ ?_
 ·exact q03 rfl ⟨rfl, trivial⟩ (by simp [q01, pts, q1H])
 rintro j ⟨hj, hje⟩ N2 hN2
 refine go 800 rfl ?_
 refine q02 rfl (fun f1 => ?_) (fun f1 => ?_)
 ·rw [q06] at f1
  have hlt : j < fl.length := by omega
  have wj : IntKind.i64.wrap ((j : Int) + 1) = ((j + 1 : Nat) : Int) := wrap64 (by omega) (by omega)
  have hdr : fl.drop j = rp fl j :: fl.drop (j + 1) := by rw [List.drop_eq_getElem_cons hlt, q5n hlt]
  obtain ⟨k', hk1, hk2⟩ := hz2 (rp fl j) (by rw [q5n hlt]; exact List.getElem_mem _)
  have hg := qjj (rp fl j) (h := hk2) (by omega)
  have hst : (q1H (fl.take (j + 1))).map Spot.enc = (q1H (fl.take j)).map Spot.enc ++ [(q20 (rp fl j).v).1.enc] := by
   rw [List.take_succ_eq_append_getElem hlt, q1H, List.map_append, List.map_append, q5n hlt]; rfl
  rw [hdr, q9Z] at hje
  refine go 800 rfl ?_
  refine q0i j rfl rfl rfl (qah hlt) rfl ?_
  refine go 800 rfl ?_
  refine q00 rfl rfl hg ?_
  refine go 800 rfl ?_
  refine q02 rfl (fun f2 => ?_) (fun f2 => ?_)
  ·rw [q0O] at f2
   rw [if_neg f2] at hje
   refine go 800 rfl ?_
   refine q05 ?_
   refine go 800 rfl ?_
   refine q0c rfl rfl rfl trivial ?_
   rw [qcx, if_neg (by rw [hje]; exact f2), hje]; rfl
  ·rw [q0S] at f2
   rw [if_pos f2] at hje
   refine go 800 rfl ?_
   refine q1e rfl rfl rfl rfl rfl rfl (by simp [q1H]; omega) (Nat.zero_le _) (by simp [q0K, q1H]; omega) ?_
   refine go 800 rfl ?_
   refine q05 ?_
   refine hN2 (j + 1) ⟨hlt, hje⟩ (by omega) (q03 rfl ⟨?_, trivial⟩ ?_)
   ·rw [List.all_append, q04 q0h]; rfl
   ·rw [hst]; simp [q01, pts, wj]; rfl
 rw [q07] at f1
 obtain rfl : j = fl.length := by omega
 have hje : q9Z fl = 0 := by rw [hje, List.drop_length]; rfl
 rw [List.take_length]
 have hl : fl.length = (q1H fl).length := by simp [q1H]
 rw [qcx, if_pos hje]
 refine go 800 rfl ?_
 refine q05 ?_
 refine go 800 rfl ?_
 rw [hl]
 refine q7A rfl rfl ?_
 refine qsT (q1H fl) (by rw [← hl]; omega) (Old1.of rfl rfl) fun w h' z' nx hold hw hwl => ?_
 obtain ⟨⟨h0, rfl⟩, z0, rfl⟩ := hold
 refine go 800 rfl ?_
 refine q0c rfl rfl rfl ⟨qx9 rfl hwl hw, trivial⟩ ?_
 rw [← List.map_take, hw]; rfl
end Go.F
