/- Parts of the proof, part 44: Ply2, Gr2, Turn1, Turn2, Turn3, RN1, RN2, RN3, RN4, RefA, RefB, RN5, Crv1, Crv2, Map1, St2, St3, St4, St5, Pl1, Alv, Lgt, Alv2, SPl, SLay, SSz, SSiz, SBs, SBas. -/
import Derived.Test.YtdhpbljlnlpibaaGreatZ43
set_option linter.all false
namespace Go.F
attribute [local irreducible] IntKind.wrap wpM
def q4i (p : List Spot) : Nat → Nat
 | 0 => 0
 | k + 1 => q4i p k + qjr (pt p k) (pt p (k + 1))
theorem qnB {p : List Spot} (h : ∀ i, i < p.length → q0v (pt p i) 1048576 = true) : ∀ k, k < p.length → q4i p k ≤ k * 4294967296 := by
 intro k
 induction k with
 | zero => intro _; simp [q4i]
 | succ k ih =>
   intro hk
   have := ih (by omega)
   have := qm5 (h k (by omega)) (h (k + 1) hk)
   rw [q4i]; omega
def q2E (p : List Spot) : Int × Int := if q1Y p = 0 then ((q4i p (p.length - 1) : Int), 0) else (0, q1Y p)
theorem q8K (p : List Spot) : PU q65 [q0o p] = some (.tup [.int .i64 (q2E p).1, .int .i64 (q2E p).2]) := by
 refine q0h (fn := q5T) rfl (q0c ?_)
 refine gg rfl (q01 rfl rfl (q92 p) (gg rfl (q02 rfl (fun h => ?_) (fun h => ?_))))
 ·rw [q0z] at h
  refine gg rfl (q08 rfl rfl rfl trivial ?_)
  rw [q2E, if_neg h]
 rw [q0A] at h
 rw [q2E, if_pos h]
 obtain ⟨n2, n40, _⟩ := q3M h
 have hin : ∀ i, i < p.length → q0v (pt p i) 1048576 = true := fun i hi => qi8 h hi
 refine gg rfl (q0q (S := fun k : Nat => ([q0o p, q00 (q4i p k), q00 (p.length - 1 : Nat), q00 k], [none, none, none, none], [0, 0, 0, 0])) (C := fun k => k ≤ p.length - 1) (m := fun k => p.length - k) 0 (Nat.zero_le _) (by omega) ?_ ?_)
 ·refine q03 rfl trivial ?_
  have : IntKind.i64.wrap ((p.length : Int) - 1) = ((p.length - 1 : Nat) : Int) := by rw [wrap64 (by omega) (by omega)]; omega
  simp [q0o, q00, q4i, this]
 intro k hk N hN
 refine gg rfl (q02 rfl (fun g1 => ?_) (fun g1 => ?_))
 ·rw [q06] at g1
  have hlt : k + 1 < p.length := by omega
  have w1 := wS (n := k)
  have hin1 := hin k (by omega)
  have hin2 := hin (k + 1) hlt
  have hsl' := qm5 hin1 hin2
  have hle := qnB hin k (by omega)
  have w2 : IntKind.i64.wrap ((q4i p k : Int) + (qjr (pt p k) (pt p (k + 1)) : Int)) = (q4i p (k + 1) : Int) := by rw [wrap64 (by omega) (by omega)]; rfl
  refine gg rfl (q0k k rfl rfl rfl (q0T (by omega)) rfl ?_)
  refine gg rfl (q0k (k + 1) rfl rfl w1 (q0T hlt) rfl (gg rfl (q01 rfl rfl (qdK (pt p k) (pt p (k + 1)) hin1 hin2) (gg rfl ?_))))
  rw [w2]
  exact q04 (hN (k + 1) (by omega) (by omega) (q03 rfl trivial (by simp [q0o, q00, w1])))
 rw [q07] at g1
 obtain rfl : k = p.length - 1 := by omega
 exact gg rfl (q04 (gg rfl (q08 rfl rfl rfl trivial rfl)))
end Go.F

namespace Go.F
attribute [local irreducible] IntKind.wrap wpM
def qdq (fr to at_ : Int) : Prop := fr < 1 ∨ 1099511627776 < fr ∨ to < 0 ∨ 1099511627776 < to ∨ at_ < 0 ∨ fr < at_
instance (a b c : Int) : Decidable (qdq a b c) := by unfold qdq; exact inferInstance
def qfg (fr to : Int) (rev : Bool) (at_ : Int) : Int × Int :=
 if qdq fr to at_ then (0, 3) else (if rev then to - q1q (at_ * to) fr else q1q (at_ * to) fr, 0)
theorem qu5 {a b : Nat} (hb : 0 < b) : q1q (a : Int) b = ((a / b + if b ≤ 2 * (a % b) then 1 else 0 : Nat) : Int) := by
 rw [q1q, if_neg (by omega)]
 have h1 := Nat.div_add_mod a b
 have h2 := Nat.mod_lt a hb
 generalize a / b = q at *
 generalize a % b = r at *
 have e : (2 * (a : Int) + b) = (2 * (r : Int) + b) + (2 * (b : Int)) * q := by
  rw [← h1]; simp only [Int.natCast_add, Int.natCast_mul]; grind
 rw [e, Int.add_mul_ediv_left _ _ (by omega)]
 split
 ·have : (2 * (r : Int) + b) / (2 * b) = 1 := by
   rw [Int.ediv_eq_iff_of_pos (by omega)]; omega
  rw [this]; omega
 have : (2 * (r : Int) + b) / (2 * b) = 0 := Int.ediv_eq_zero_of_lt (by omega) (by omega)
 rw [this]; omega
set_option maxHeartbeats 2000000 in
theorem qoF (fr to : Int) (rev : Bool) (at_ : Int) : PU qcI [.int .i64 fr, .int .i64 to, .bool rev, .int .i64 at_] = some (.tup [.int .i64 (qfg fr to rev at_).1, .int .i64 (qfg fr to rev at_).2]) := by
 by_cases hb : qdq fr to at_
 ·rw [qfg, if_pos hb]
  unfold qdq at hb
  refine q0h (fn := q5U) rfl (q0c ?_)
  repeat' (first
   | refine goP 800 rfl rfl ?_
   | refine q0e rfl ?_ | refine q0j rfl ?_ | refine q05 rfl (fun _ => ?_) (fun _ => ?_)
   | refine q0g rfl ?_ | refine q0m rfl ?_ | refine q02 rfl (fun _ => ?_) (fun _ => ?_)
   | refine q0G rfl (fun _ => ?_) (fun _ => ?_)
   | refine q08 rfl rfl rfl trivial ?_)
  all_goals first
   | rfl
   | (exfalso; simp only [q06, q07] at *; omega)
 rw [qfg, if_neg hb]
 unfold qdq at hb
 obtain ⟨F, rfl⟩ : ∃ n : Nat, fr = n := ⟨fr.toNat, by omega⟩
 obtain ⟨T, rfl⟩ : ∃ n : Nat, to = n := ⟨to.toNat, by omega⟩
 obtain ⟨A, rfl⟩ : ∃ n : Nat, at_ = n := ⟨at_.toNat, by omega⟩
 have hF : 0 < F := by omega
 have hprod : A * T ≤ F * T := Nat.mul_le_mul_right _ (by omega)
 have hm := qsl A T (by omega) (by omega)
 have hquo : A * T / F ≤ T := by
  rw [Nat.div_le_iff_le_mul_add_pred hF]
  omega
 have hhi : A * T / 18446744073709551616 < F := by
  rw [Nat.div_lt_iff_lt_mul (by decide)]
  exact Nat.lt_of_le_of_lt hprod (Nat.mul_lt_mul_of_pos_left (by omega) hF)
 have hd := qsm (A * T / 18446744073709551616) (A * T % 18446744073709551616) F hhi (by omega) (Nat.mod_lt _ (by decide))
 have e0 : A * T / 18446744073709551616 * 18446744073709551616 + A * T % 18446744073709551616 = A * T := by
  have := Nat.div_add_mod (A * T) 18446744073709551616
  rw [Nat.mul_comm] at this; exact this
 rw [e0] at hd
 have hr := qu5 (a := A * T) hF
 rw [Int.natCast_mul] at hr
 rw [hr]
 have hmod := Nat.mod_lt (A * T) hF
 have w1 : IntKind.u64.wrap ((A : Nat) : Int) = (A : Int) := q0y (by omega)
 have w2 : IntKind.u64.wrap ((T : Nat) : Int) = (T : Int) := q0y (by omega)
 have w3 : IntKind.u64.wrap ((F : Nat) : Int) = (F : Int) := q0y (by omega)
 have no : ∀ {x y : Int} {P : Prop}, ¬ x < y → ltb x y = true → P := fun h g => absurd (q06.1 g) h
 generalize A * T / F = q at *
 generalize A * T % F = r at *
 have w4 : IntKind.u64.wrap (2 * (r : Int)) = ((2 * r : Nat) : Int) := qaH (x := 2) (by omega)
 have w5 : IntKind.u64.wrap ((q : Int) + 1) = ((q + 1 : Nat) : Int) := qbG (y := 1) (by omega)
 refine q0h (fn := q5U) rfl (q0c ?_)
 refine gg rfl (q05 rfl (no (by omega)) (fun _ => ?_))
 refine gg rfl (q05 rfl (no (by omega)) (fun _ => ?_))
 refine gg rfl (q05 rfl (no (by omega)) (fun _ => ?_))
 refine gg rfl (q05 rfl (no (by omega)) (fun _ => ?_))
 refine gg rfl (q05 rfl (no (by omega)) (fun _ => ?_))
 refine gg rfl (q02 rfl (no (by omega)) (fun _ => ?_))
 refine gg rfl ?_
 rw [w1, w2]
 refine q01 rfl rfl hm (gg rfl ?_)
 rw [w3]
 refine q01 rfl rfl hd (gg rfl ?_)
 rw [w4, w3]
 refine q02 rfl (fun g => ?_) (fun g => ?_)
 ·rw [q0D] at g
  have ei : (if F ≤ 2 * r then 1 else 0 : Nat) = 1 := if_pos (by omega)
  simp only [ei]
  have w6 := ww (x := ((q + 1 : Nat) : Int))
  have w7 := ww (x := (T : Int) - ((q + 1 : Nat) : Int))
  refine gg rfl ?_
  rw [w5, w6]
  cases rev with
  | true =>
    refine q0g rfl (gg rfl ?_)
    rw [w7]
    exact q08 rfl rfl rfl trivial rfl
  | false =>
    exact q0m rfl (gg rfl (q08 rfl rfl rfl trivial rfl))
 rw [q0E] at g
 have ei : (if F ≤ 2 * r then 1 else 0 : Nat) = 0 := if_neg (by omega)
 simp only [ei]
 have w6 := ww (x := ((q : Nat) : Int))
 have w7 := ww (x := (T : Int) - ((q : Nat) : Int))
 refine gg rfl ?_
 rw [w6]
 cases rev with
 | true =>
   refine q0g rfl (gg rfl ?_)
   rw [w7]
   exact q08 rfl rfl rfl trivial rfl
 | false =>
   exact q0m rfl (gg rfl (q08 rfl rfl rfl trivial rfl))
def q3T (p : Piece) (g : List Edge) (n : Ntc) : Int × Int :=
 if n.edge < 0 ∨ (p.edges.length : Int) ≤ n.edge then (0, 3)
 else if (q2E (eg p.edges n.edge.toNat).line).2 ≠ 0 then (0, (q2E (eg p.edges n.edge.toNat).line).2)
 else if (q2E (eg g n.edge.toNat).line).2 ≠ 0 then (0, (q2E (eg g n.edge.toNat).line).2)
 else qfg (q2E (eg p.edges n.edge.toNat).line).1 (q2E (eg g n.edge.toNat).line).1 false n.at_
def q5X (p : Piece) (g : List Edge) : List Ntc → Int
 | [] => 0
 | n :: l => if (q3T p g n).2 = 0 then q5X p g l else (q3T p g n).2
def q29 (p : Piece) (m : Int) : List Int × Int :=
 if (q0B p m).2 ≠ 0 then ([], (q0B p m).2)
 else if 16 < p.notches.length then ([], 5)
 else if q5X p (q0B p m).1 p.notches ≠ 0 then ([], q5X p (q0B p m).1 p.notches)
 else (p.notches.map fun n => (q3T p (q0B p m).1 n).1, 0)
theorem q5D {p : Piece} {m : Int} (h : (q0B p m).2 = 0) : (q0B p m).1.length = p.edges.length ∧ q0Q p.edges = 0 ∧ q0Q (q0B p m).1 = 0 ∧ p.corners.length = p.edges.length := by
 unfold q0B at h ⊢
 split at h
 ·cases h
 rename_i h1
 rw [if_neg h1]
 split at h
 ·cases h
 rename_i h2
 rw [if_neg h2]
 split at h
 ·cases h
 rename_i h3
 rw [if_neg h3]
 split at h
 ·rename_i h4; exact absurd h h4
 rename_i h4
 rw [if_neg h4]
 split at h
 ·rename_i h5; exact absurd h h5
 rename_i h5
 rw [if_neg h5]
 exact ⟨by simp [q3t], by simpa using h4, by simpa using h5, by simpa using h2⟩
set_option maxHeartbeats 4000000 in
theorem qqL (p : Piece) (m : Int) (hc : p.corners.length ≤ 1000000) :
 PU qcB [p.enc, .int .i64 m] = some (.tup [ints (q29 p m).1, edges (if (q29 p m).2 = 0 then (q0B p m).1 else []), .int .i64 (q29 p m).2]) := by
 refine q0h (fn := q8a) rfl (q0c ?_)
 refine gg rfl (q01 rfl rfl (q7R p m hc) (gg rfl (q02 rfl (fun h => ?_) (fun h => ?_))))
 ·rw [q0z] at h
  refine gg rfl (q08 rfl rfl rfl trivial ?_)
  rw [q29, if_pos h, if_neg h]; rfl
 have h : (q0B p m).2 = 0 := q0A.1 h
 obtain ⟨hg, _, _⟩ := q5D h
 have hr : q29 p m = if 16 < p.notches.length then ([], 5)
  else if q5X p (q0B p m).1 p.notches ≠ 0 then ([], q5X p (q0B p m).1 p.notches)
  else (p.notches.map fun n => (q3T p (q0B p m).1 n).1, 0) := by rw [q29, if_neg (by omega)]
 rw [hr]
 generalize (q0B p m).1 = G at *
 refine gg rfl ?_
 rw [List.length_map]
 refine q02 rfl (fun h2 => ?_) (fun h2 => ?_)
 ·rw [q06] at h2
  refine gg rfl (q08 rfl rfl rfl trivial ?_)
  rw [if_pos (by omega)]; rfl
 rw [q07] at h2
 rw [if_neg (by omega)]
 refine gg rfl ?_
 rw [List.length_map]
 refine q0q (S := fun k : Nat => ([.ptr 0 0 0, edges G, .ref 2 0 k, qpt p.notches, q00 p.notches.length, q00 k], [some (.row [p.enc] 7), none, some (.row (((p.notches.take k).map fun n => (q3T p G n).1).map q00) 1), none, none, none], [0, 0, 0, 0, 0, 0])) (C := fun k => k ≤ p.notches.length ∧ q5X p G p.notches = q5X p G (p.notches.drop k)) (m := fun k => p.notches.length - k) 0 ⟨Nat.zero_le _, rfl⟩ (by omega) ?_ ?_
 ·exact q03 rfl ⟨rfl, rfl, trivial⟩ rfl
 rintro k ⟨hk, hke⟩ N hN
 refine gg rfl (q02 rfl (fun e1 => ?_) (fun e1 => ?_))
 ·rw [q06] at e1
  have hlt : k < p.notches.length := by omega
  have w1 := wS (n := k)
  have hdr : p.notches.drop k = nt p.notches k :: p.notches.drop (k + 1) := by rw [List.drop_eq_getElem_cons hlt, qtI hlt]
  have hst : (((p.notches.take (k + 1)).map fun n => (q3T p G n).1).map q00) = ((p.notches.take k).map fun n => (q3T p G n).1).map q00 ++ [q00 (q3T p G (nt p.notches k)).1] := by
   rw [List.take_succ_eq_append_getElem hlt, List.map_append, List.map_append, qtI hlt]; rfl
  have hne := qvu hlt
  rw [hdr, q5X] at hke
  generalize nt p.notches k = n at *
  have bad : (q3T p G n).2 ≠ 0 → q5X p G p.notches = (q3T p G n).2 := fun h => by rw [hke, if_neg h]
  refine gg rfl (q0k k rfl rfl rfl hne rfl (gg rfl (q05 rfl (fun f1 => ?_) (fun f1 => ?_))))
  ·rw [q06] at f1
   have hn : q3T p G n = (0, 3) := by rw [q3T, if_pos (.inl f1)]
   rw [hn] at bad
   refine gg rfl (q0g rfl (gg rfl (q04 (gg rfl (q08 rfl rfl rfl trivial ?_)))))
   rw [bad (by decide)]; rfl
  rw [q07] at f1
  refine gg rfl ?_
  rw [List.length_map]
  refine q02 rfl (fun f2 => ?_) (fun f2 => ?_)
  ·rw [q0D] at f2
   have hn : q3T p G n = (0, 3) := by rw [q3T, if_pos (.inr f2)]
   rw [hn] at bad
   refine gg rfl (q04 (gg rfl (q08 rfl rfl rfl trivial ?_)))
   rw [bad (by decide)]; rfl
  rw [q0E] at f2
  have ei : n.edge = ((n.edge.toNat : Nat) : Int) := by omega
  have hl1 : n.edge.toNat < p.edges.length := by omega
  have hl2 : n.edge.toNat < G.length := by omega
  have l1 := q8K (eg p.edges n.edge.toNat).line
  have l2 := q8K (eg G n.edge.toNat).line
  have hn0 : q3T p G n = if (q2E (eg p.edges n.edge.toNat).line).2 ≠ 0 then (0, (q2E (eg p.edges n.edge.toNat).line).2)
   else if (q2E (eg G n.edge.toNat).line).2 ≠ 0 then (0, (q2E (eg G n.edge.toNat).line).2)
   else qfg (q2E (eg p.edges n.edge.toNat).line).1 (q2E (eg G n.edge.toNat).line).1 false n.at_ := by rw [q3T, if_neg (by omega)]
  refine gg rfl (q0k n.edge.toNat rfl rfl ei (q24 hl1) rfl (gg rfl (q01 rfl rfl l1 (gg rfl (q02 rfl (fun f3 => ?_) (fun f3 => ?_))))))
  ·rw [q0z] at f3
   rw [if_pos f3] at hn0
   rw [hn0] at bad
   refine gg rfl (q04 (gg rfl (q08 rfl rfl rfl trivial ?_)))
   rw [bad f3, if_pos f3, if_neg f3]; rfl
  rw [q0A] at f3
  rw [if_neg (by simp [f3])] at hn0
  refine gg rfl (q0k n.edge.toNat rfl rfl ei (q24 hl2) rfl (gg rfl (q01 rfl rfl l2 (gg rfl (q02 rfl (fun f4 => ?_) (fun f4 => ?_))))))
  ·rw [q0z] at f4
   rw [if_pos f4] at hn0
   rw [hn0] at bad
   refine gg rfl (q04 (gg rfl (q08 rfl rfl rfl trivial ?_)))
   rw [bad f4, if_pos f4, if_neg f4]; rfl
  rw [q0A] at f4
  rw [if_neg (by simp [f4])] at hn0
  refine gg rfl (q01 rfl rfl (qoF (q2E (eg p.edges n.edge.toNat).line).1 (q2E (eg G n.edge.toNat).line).1 false n.at_) ?_)
  rw [← hn0]
  refine gg rfl (q02 rfl (fun f5 => ?_) (fun f5 => ?_))
  ·rw [q0z] at f5
   refine gg rfl (q04 (gg rfl (q08 rfl rfl rfl trivial ?_)))
   rw [bad f5, if_pos f5, if_neg f5]; rfl
  rw [q0A] at f5
  rw [if_pos f5] at hke
  refine gg rfl (q1E rfl rfl rfl rfl rfl rfl (by simp; omega) (Nat.zero_le _) (by simp [q0U]; omega) ?_)
  refine gg rfl (q04 (hN (k + 1) ⟨hlt, hke⟩ (by omega) (q03 rfl ⟨rfl, ?_, trivial⟩ ?_)))
  ·rw [List.all_append, q0b q9W]; rfl
  rw [hst, w1]; rfl
 rw [q07] at e1
 obtain rfl : k = p.notches.length := by omega
 have hz : q5X p G p.notches = 0 := by rw [hke, List.drop_length]; rfl
 rw [hz, List.take_length]
 refine gg rfl (q04 (gg rfl (q08 rfl rfl rfl ⟨q3s (by simp) (q1t qln _), trivial⟩ ?_)))
 rw [q5n (by simp)]; rfl
theorem qgp (p : Piece) (m : Int) (hc : p.corners.length ≤ 1000000) : PU qcz [p.enc, .int .i64 m] = some (.tup [ints (q29 p m).1, .int .i64 (q29 p m).2]) := by
 have h := qqL p m hc
 refine q0h (fn := q88) rfl (q0c ?_)
 exact gg rfl (q01 rfl rfl h (gg rfl (q08 rfl rfl rfl trivial rfl)))
end Go.F

namespace Go.F
attribute [local irreducible] IntKind.wrap wpM
structure Turn where
 flip : Bool
 quarter : Int
def Turn.enc (t : Turn) : D := .agg [.bool t.flip, .int .i64 t.quarter]
end Go.F

namespace Go.F
attribute [local irreducible] IntKind.wrap wpM
end Go.F

namespace Go.F
attribute [local irreducible] IntKind.wrap wpM
end Go.F

namespace Go.F
attribute [local irreducible] IntKind.wrap wpM
end Go.F

namespace Go.F
attribute [local irreducible] IntKind.wrap wpM
end Go.F

namespace Go.F
attribute [local irreducible] IntKind.wrap wpM
end Go.F

namespace Go.F
attribute [local irreducible] IntKind.wrap wpM
end Go.F

namespace Go.F
attribute [local irreducible] IntKind.wrap wpM
structure RSeg where
 a : Spot
 b : Spot
 w : Int
 s : Spot
def RSeg.enc (g : RSeg) : D := .agg [.int .i64 g.a.x, .int .i64 g.a.y, .int .i64 g.b.x, .int .i64 g.b.y, .int .i64 g.w, .int .i64 g.s.x, .int .i64 g.s.y]
end Go.F

namespace Go.F
attribute [local irreducible] IntKind.wrap wpM
end Go.F

namespace Go.F
attribute [local irreducible] IntKind.wrap wpM
class RSegOk (g : RSeg) : Prop where
 a : OkS g.a
 b : OkS g.b
 s : g.s.x.natAbs ≤ 4294967296 ∧ g.s.y.natAbs ≤ 4294967296
 w0 : 0 ≤ g.w
 w1 : g.w ≤ 500
end Go.F

namespace Go.F
attribute [local irreducible] IntKind.wrap wpM
def rp0 : RP := ⟨⟨false, [], []⟩, ⟨false, [], []⟩⟩
def rp (c : List RP) (i : Nat) : RP := c.getD i rp0
def RB (k : Nat) (c : List RP) : Prop := ∀ p ∈ c, SzP p k
theorem qou {c : List RP} {i : Nat} (h : i < c.length) : rp c i = c[i] := by simp [rp, h]
theorem RB.at {k : Nat} {c : List RP} (h : RB k c) {i : Nat} (hi : i < c.length) : SzP (rp c i) k := by
 rw [qou hi]; exact h _ (List.getElem_mem _)
section
variable {t : q0u} {h : q0f} {z : Frz} {nx : Nat}
end
end Go.F

namespace Go.F
attribute [local irreducible] IntKind.wrap wpM
end Go.F

namespace Go.F
section
variable {T : Tab} {sh : Shr} {nx0 : Nat} {s : List Fr} {t : q0u} {h : q0f} {z : Frz} {nx : Nat} {q : Ex → q0u → q0f → Frz → Nat → Prop}
variable {base i : Nat} {res : List Nat} {g : Gd} {rest : List KOper}
def qbs (t : q0u) : Live → List Rep → q0f → Frz → Option (List Obl × q0f × Frz)
 | [], _, h, z => some ([], h, z)
 | x :: rest, reps, h, z =>
   match q2V (t x.1) with
   | none =>
     match plain 4 (t x.1) with
     | true => qbs t rest reps h z
     | false => none
   | some id =>
     match h id with
     | some (.row es esz) =>
       match reps with
       | [] => none
       | none :: reps =>
         match qbs t rest reps h z with
         | some (o, h', z') => some (.p es :: o, h', z')
         | none => none
       | some (l, rs) :: reps =>
         match qbs t rest reps (upd h id (some (.row l esz))) (qaJ h z rs) with
         | some (o, h', z') => some (.s h es l rs :: o, h', z')
         | none => none
     | some (.mp _ vs) =>
       match qbs t rest reps h z with
       | some (o, h', z') => some (.p vs :: o, h', z')
       | none => none
     | none => qbs t rest reps h z
theorem qsO {t : q0u} : ∀ {live : Live} {reps : List Rep} {h : q0f} {z : Frz} {o : List Obl} {h' : q0f} {z' : Frz} {k : q0f → Frz → Prop}, qbs t live reps h z = some (o, h', z') → qgM o → k h' z' → q2Q live t h z k := by
 intro live
 induction live with
 | nil => intro reps h z o h' z' k hr _ hk; simp only [qbs, Option.some.injEq, Prod.mk.injEq] at hr; obtain ⟨_, rfl, rfl⟩ := hr; exact hk
 | cons x live ih =>
   intro reps h z o h' z' k hr ho hk
   simp only [qbs] at hr
   simp only [q2Q]
   cases hid : q2V (t x.1) with
   | none =>
     rw [hid] at hr
     simp only at hr ⊢
     cases hb : plain 4 (t x.1) with
     | true => rw [hb] at hr; exact ih hr ho hk
     | false => rw [hb] at hr; cases hr
   | some id =>
     rw [hid] at hr
     simp only at hr ⊢
     cases hb : h id with
     | none => rw [hb] at hr; exact ih hr ho hk
     | some b =>
       rw [hb] at hr
       cases b with
       | mp ks vs =>
         simp only at hr ⊢
         cases hx : qbs t live reps h z with
         | none => rw [hx] at hr; cases hr
         | some y =>
           obtain ⟨o1, h1, z1⟩ := y
           rw [hx] at hr
           simp only [Option.some.injEq, Prod.mk.injEq] at hr
           obtain ⟨rfl, rfl, rfl⟩ := hr
           exact q1p ho.1 (ih hx ho.2 hk)
       | row es esz =>
         simp only at hr ⊢
         match reps, hr with
         | none :: reps, hr =>
           simp only at hr
           cases hx : qbs t live reps h z with
           | none => rw [hx] at hr; cases hr
           | some y =>
             obtain ⟨o1, h1, z1⟩ := y
             rw [hx] at hr
             simp only [Option.some.injEq, Prod.mk.injEq] at hr
             obtain ⟨rfl, rfl, rfl⟩ := hr
             unfold qaX
             exact .inl ⟨ho.1, ih hx ho.2 hk⟩
         | some (l, rs) :: reps, hr =>
           simp only at hr
           cases hx : qbs t live reps (upd h id (some (.row l esz))) (qaJ h z rs) with
           | none => rw [hx] at hr; cases hr
           | some y =>
             obtain ⟨o1, h1, z1⟩ := y
             rw [hx] at hr
             simp only [Option.some.injEq, Prod.mk.injEq] at hr
             obtain ⟨rfl, rfl, rfl⟩ := hr
             obtain ⟨g1, g2, g3, g4⟩ := ho.1
             unfold qaX
             exact .inr ⟨l, rs, g1, g2, g3, g4, ih hx ho.2 hk⟩
def setZ (live : Live) (reps : List Rep) (t : q0u) (h : q0f) (z : Frz) (nx : Nat) : Option (List Obl × Kept) :=
 match qbC live t h z nx with
 | (t, h, z) =>
   match qbs t live reps h z with
   | some (o, h', z') => fL1 (q9R 0 (q0x t live) t live) fun vs => fLi (q9S 0 (q0x t live) h' (q0x t live) 0) fun bs => fLi (qfu 0 (q0x t live) z' (q0x t live) 0) fun zs => some (o, vs, bs, zs)
   | none => none
theorem qq2 {live : Live} (reps : List Rep) {o : List Obl} {kp : Kept} {K : Kept → Prop} (hs : setZ live reps t h z nx = some (o, kp)) (hp : qgM o) (hk : K kp) (hnst : q6u live = false := by rfl) : q0Z 0 live t h z nx fun _ _ kp => K kp := by
 unfold setZ at hs
 split at hs
 rename_i t1 h1 z1 hn
 split at hs
 ·rename_i o1 h2 z2 hr
  simp only [q5w, qjM, Option.some.injEq, Prod.mk.injEq] at hs
  obtain ⟨rfl, rfl⟩ := hs
  unfold q0Z
  simp only [hnst]
  unfold q75
  refine qfV _ _ _ _ _ _ fun nx' => ?_
  rw [hn]
  refine qsO hr hp ?_
  rw [q6K, q6L]
  exact hk
 cases hs
def qeC (m : List (ByteArray × D)) (s : ByteArray) : Option D := (m.find? fun p => s == p.1).map (·.2)
theorem q99 (m : List (ByteArray × D)) (s : ByteArray) : ∀ n, match findKey s (m.map (·.1)) n with
 | some i => n ≤ i ∧ ∃ v, (m.map (·.2))[i - n]? = some v ∧ qeC m s = some v
 | none => qeC m s = none := by
 induction m with
 | nil => intro n; rfl
 | cons p m ih =>
   intro n
   simp only [List.map_cons, findKey]
   by_cases e : (s == p.1) = true
   ·rw [if_pos e]
    refine ⟨Nat.le_refl _, p.2, by simp, by simp [qeC, List.find?_cons, e]⟩
   rw [if_neg e]
   have h := ih (n + 1)
   have em : qeC (p :: m) s = qeC m s := by
    unfold qeC; rw [List.find?_cons]
    simp only [Bool.not_eq_true] at e
    rw [e]
   cases hf : findKey s (m.map (·.1)) (n + 1) with
   | none => rw [hf] at h; simp only at h ⊢; rw [em]; exact h
   | some i =>
     rw [hf] at h
     simp only at h ⊢
     obtain ⟨h1, v, h2, h3⟩ := h
     refine ⟨by omega, v, ?_, by rw [em]; exact h3⟩
     have : i - n = (i - (n + 1)) + 1 := by omega
     rw [this, List.getElem?_cons_succ]; exact h2
theorem atPut {mx kx vx : X} {dst : Option Nat} {m : List (ByteArray × D)} {st : ByteArray} {id : Nat} (hx : mx.ev t = .mref id) (hh : g.h base h id = some (.mp (m.map (·.1)) (m.map (·.2)))) (hz : g.z base z id = 0) (hkx : kx.ev t = .str st) (hn : qeC m st = none)
 (hk : wpM T sh nx0 (.ops base res rest :: s) .normal (put t dst (.tup [])) (upd h id (some (.mp ((m ++ [(st, vx.ev t)]).map (·.1)) ((m ++ [(st, vx.ev t)]).map (·.2))))) z nx q) :
 wpM T sh nx0 (.ops base res (⟨i, dst, none, g, .mapset mx kx vx⟩ :: rest) :: s) .normal t h z nx q := by
 refine q4A ?_
 have hf := q99 m st 0
 simp only [kop, qi5, hx, hh, hkx, hz, qlH]
 cases hk' : findKey st (m.map (·.1)) 0 with
 | none => rw [List.map_append, List.map_append] at hk; exact hk
 | some j =>
   rw [hk'] at hf
   obtain ⟨_, v, h2, h3⟩ := hf
   rw [hn] at h3; cases h3
end
end Go.F

namespace Go.F
attribute [local irreducible] IntKind.wrap wpM
section
variable {T : Tab} {sh : Shr} {nx0 : Nat} {s : List Fr} {t : q0u} {h : q0f} {z : Frz} {nx : Nat} {q : Ex → q0u → q0f → Frz → Nat → Prop}
variable {base i : Nat} {res : List Nat} {g : Gd} {rest : List KOper}
theorem qvV {f : FuncId} {dst : Nat} {args : List X} {r : D} (bs : List D) (hs : T.shared f = false) (ha : ∀ k : List D → Prop, k bs → qhM (g.h base h) (args.map (·.ev t)) k) (hp : T.pu f bs = some r)
 (hk : ∀ z, wpM T sh nx0 (.ops base res rest :: s) .normal (upd t dst r) h z nx q) :
 wpM T sh nx0 (.ops base res (⟨i, some dst, none, g, .callF f args⟩ :: rest) :: s) .normal t h z nx q := by
 refine q4A ?_
 simp only [kop, q8G, hs]
 refine ha _ ?_
 unfold qdY
 refine ⟨r, hp, ?_⟩
 simp only [q8O]
 split
 ·exact hk _
 split
 ·exact hk _
 exact hk _
end
def q2B (n : Nat) : Bool := (decide (65 ≤ n) && decide (n ≤ 90)) || (decide (48 ≤ n) && decide (n ≤ 57))
def sizeS (s : ByteArray) : Bool := decide (1 ≤ s.size) && (decide (s.size ≤ 8) && decide (∀ i, i < s.size → q2B (q23 s i).toNat = true))
theorem qoa {s : ByteArray} {k : Nat} (hk : k < s.size) (h : q2B (q23 s k).toNat = false) : sizeS s = false := by
 unfold sizeS
 rw [Bool.and_eq_false_iff, Bool.and_eq_false_iff]
 right; right
 rw [decide_eq_false_iff_not]
 intro g
 rw [g k hk] at h; cases h
theorem q1j (n : Nat) : q2B n = ((leb 65 n && leb n 90) || (leb 48 n && leb n 57)) := by
 simp only [q2B, q1I]
 congr 1
 ·congr 1 <;> (apply decide_eq_decide.2; omega)
 congr 1 <;> (apply decide_eq_decide.2; omega)
set_option maxHeartbeats 2000000 in
theorem qhW (s : ByteArray) (hs : s.size ≤ 1000000) : PU qcH [.str s] = some (.bool (sizeS s)) := by
 refine q0h (fn := q8e) rfl (q0c ?_)
 refine gg rfl (q0q (S := fun k : Nat => ([.str s, q00 s.size, q00 k], [none, none, none], [0, 0, 0])) (C := fun k => k ≤ s.size ∧ ∀ i, i < k → q2B (q23 s i).toNat = true) (m := fun k => s.size - k) 0 ⟨by omega, fun i hi => by omega⟩ (by omega) ?_ ?_)
 ·exact q03 rfl trivial (by simp [q00])
 intro k ⟨hk, hall⟩ N hN
 refine gg rfl (q02 rfl (fun g1 => ?_) (fun g1 => ?_))
 ·rw [q06] at g1
  have hlt : k < s.size := by omega
  have w1 := wS (n := k)
  have hb := q6w hlt
  have hno := qoa hlt
  have hyes : q2B (q23 s k).toNat = true → ∀ i, i < k + 1 → q2B (q23 s i).toNat = true := by
   intro h i hi
   by_cases e : i = k
   ·subst e; exact h
   exact hall i (by omega)
  generalize q23 s k = c at *
  refine gg rfl (q1U k rfl rfl rfl hb (gg rfl (q05 rfl (fun a1 => ?_) (fun a1 => ?_))))
  ·refine gg rfl (q1U k rfl rfl rfl hb (gg rfl (q1U k rfl rfl rfl hb (gg rfl (q05 rfl (fun d1 => ?_) (fun d1 => ?_))))))
   ·refine gg rfl (q1U k rfl rfl rfl hb (gg rfl (q05 rfl (fun e1 => ?_) (fun e1 => ?_))))
    ·refine gg rfl (q02 rfl (fun e2 => ?_) (fun e2 => ?_))
     ·have hc : q2B c.toNat = false := by rw [q1j]; simp_all
      refine gg rfl (q04 (gg rfl (q08 rfl rfl rfl trivial ?_)))
      rw [hno hc]
     have hc : q2B c.toNat = true := by rw [q1j]; simp_all
     exact gg rfl (q04 (hN (k + 1) ⟨hlt, hyes hc⟩ (by omega) (q03 rfl trivial (by simp [q00, w1]))))
    refine gg rfl (q0m rfl ?_)
    have hc : q2B c.toNat = true := by rw [q1j]; simp_all
    exact gg rfl (q04 (hN (k + 1) ⟨hlt, hyes hc⟩ (by omega) (q03 rfl trivial (by simp [q00, w1]))))
   refine gg rfl (q05 rfl (fun e1 => ?_) (fun e1 => ?_))
   ·refine gg rfl (q02 rfl (fun e2 => ?_) (fun e2 => ?_))
    ·have hc : q2B c.toNat = false := by rw [q1j]; simp_all
     refine gg rfl (q04 (gg rfl (q08 rfl rfl rfl trivial ?_)))
     rw [hno hc]
    have hc : q2B c.toNat = true := by rw [q1j]; simp_all
    exact gg rfl (q04 (hN (k + 1) ⟨hlt, hyes hc⟩ (by omega) (q03 rfl trivial (by simp [q00, w1]))))
   refine gg rfl (q0m rfl ?_)
   have hc : q2B c.toNat = true := by rw [q1j]; simp_all
   exact gg rfl (q04 (hN (k + 1) ⟨hlt, hyes hc⟩ (by omega) (q03 rfl trivial (by simp [q00, w1]))))
  refine gg rfl (q1U k rfl rfl rfl hb (gg rfl (q05 rfl (fun d1 => ?_) (fun d1 => ?_))))
  ·refine gg rfl (q1U k rfl rfl rfl hb (gg rfl (q05 rfl (fun e1 => ?_) (fun e1 => ?_))))
   ·refine gg rfl (q02 rfl (fun e2 => ?_) (fun e2 => ?_))
    ·have hc : q2B c.toNat = false := by rw [q1j]; simp_all
     refine gg rfl (q04 (gg rfl (q08 rfl rfl rfl trivial ?_)))
     rw [hno hc]
    have hc : q2B c.toNat = true := by rw [q1j]; simp_all
    exact gg rfl (q04 (hN (k + 1) ⟨hlt, hyes hc⟩ (by omega) (q03 rfl trivial (by simp [q00, w1]))))
   refine gg rfl (q0m rfl ?_)
   have hc : q2B c.toNat = true := by rw [q1j]; simp_all
   exact gg rfl (q04 (hN (k + 1) ⟨hlt, hyes hc⟩ (by omega) (q03 rfl trivial (by simp [q00, w1]))))
  refine gg rfl (q05 rfl (fun e1 => ?_) (fun e1 => ?_))
  ·refine gg rfl (q02 rfl (fun e2 => ?_) (fun e2 => ?_))
   ·have hc : q2B c.toNat = false := by rw [q1j]; simp_all
    refine gg rfl (q04 (gg rfl (q08 rfl rfl rfl trivial ?_)))
    rw [hno hc]
   have hc : q2B c.toNat = true := by rw [q1j]; simp_all
   exact gg rfl (q04 (hN (k + 1) ⟨hlt, hyes hc⟩ (by omega) (q03 rfl trivial (by simp [q00, w1]))))
  refine gg rfl (q0m rfl ?_)
  have hc : q2B c.toNat = true := by rw [q1j]; simp_all
  exact gg rfl (q04 (hN (k + 1) ⟨hlt, hyes hc⟩ (by omega) (q03 rfl trivial (by simp [q00, w1]))))
 rw [q07] at g1
 obtain rfl : k = s.size := by omega
 have hA : decide (∀ i, i < s.size → q2B (q23 s i).toNat = true) = true := decide_eq_true hall
 refine gg rfl (q04 (gg rfl (q05 rfl (fun h1 => ?_) (fun h1 => ?_))))
 ·rw [q0D] at h1
  refine gg rfl (q08 rfl rfl rfl trivial ?_)
  rw [sizeS, hA, q1I, decide_eq_true (show 1 ≤ s.size by omega)]
  simp
  omega
 rw [q0E] at h1
 refine gg rfl (q08 rfl rfl rfl trivial ?_)
 rw [sizeS, decide_eq_false (show ¬ 1 ≤ s.size by omega)]; rfl
theorem qbA (s : ByteArray) : PU q8B [.str s] = some (.bool (q1L s)) := by
 refine q0h (fn := q86) rfl (q0c ?_)
 refine gg rfl (q01 rfl rfl (qa1 s) ?_)
 repeat' (first
  | refine goP 800 rfl rfl ?_
  | refine q0e rfl ?_ | refine q0j rfl ?_ | refine q05 rfl (fun _ => ?_) (fun _ => ?_)
  | refine q0g rfl ?_ | refine q0m rfl ?_ | refine q02 rfl (fun _ => ?_) (fun _ => ?_)
  | refine q0G rfl (fun _ => ?_) (fun _ => ?_)
  | refine q08 rfl rfl rfl trivial ?_)
 cases q1L s <;> simp [eqb]
theorem qkk (s : ByteArray) : PU q3H [.lst [], .str s] = some (.int .i64 (-1)) := by
 refine q0h (fn := q2d) rfl (q0c ?_)
 refine gg rfl (q0q (S := fun k : Nat => ([.lst [], .str s, q00 0, q00 k], [none, none, none, none], [0, 0, 0, 0])) (C := fun k => k = 0) (m := fun k => 0) 0 rfl (by omega) ?_ ?_)
 ·exact q03 rfl trivial rfl
 rintro k rfl N hN
 refine gg rfl (q02 rfl (fun g => absurd (q06.1 g) (by simp)) (fun _ => ?_))
 exact gg rfl (q04 (gg rfl (q08 rfl rfl rfl trivial rfl)))
theorem qgJ (s : ByteArray) : PU q34 [.lst [], .str s] = some (.bool false) := by
 refine q0h (fn := q1S) rfl (q0c ?_)
 refine gg rfl (q01 rfl rfl (qkk s) (gg rfl (q08 rfl rfl rfl trivial ?_)))
 rw [q1I]; rfl
def qgK (s : ByteArray) : D := .agg [.lst [.str s], .int .i64 0, .lst []]
theorem qpx (s : ByteArray) : PU qbm [qgK s, .int .i64 0] = some (.bool true) := by
 refine q0h (fn := q7k) rfl (q0c ?_)
 repeat' (first
  | refine goP 800 rfl rfl ?_
  | refine q0e rfl ?_ | refine q0j rfl ?_ | refine q05 rfl (fun _ => ?_) (fun _ => ?_)
  | refine q0g rfl ?_ | refine q0m rfl ?_ | refine q02 rfl (fun _ => ?_) (fun _ => ?_)
  | refine q0G rfl (fun _ => ?_) (fun _ => ?_)
  | refine q08 rfl rfl rfl trivial ?_)
 all_goals (first | rfl | (simp_all [q1I, q1H]; done) | (simp only [q0E, q07] at *; omega))
set_option maxHeartbeats 4000000 in
theorem qjL (s : ByteArray) (hs : s.size ≤ 1000000) : PU qdP [qgK s] = some (.int .i64 (if sizeS s then 0 else 1)) := by
 have hz := qhW s hs
 refine q0h (fn := q9n) rfl (q0c ?_)
 refine gg rfl (q05 rfl (fun g => absurd (q06.1 g) (by simp)) (fun _ => ?_))
 refine gg rfl (q02 rfl (fun g => absurd (q06.1 g) (by simp)) (fun _ => ?_))
 refine gg rfl (q02 rfl (fun g => absurd (q12.1 g) (by simp)) (fun _ => ?_))
 refine gg rfl (q0q (S := fun k : Nat => ([.ptr 0 0 0, .lst [.str s], q00 1, q00 k], [some (.row [qgK s] 3), none, none, none], [0, 0, 0, 0])) (C := fun k => k ≤ 1 ∧ (k = 1 → sizeS s = true)) (m := fun k => 1 - k) 0 ⟨by omega, fun h => by omega⟩ (by omega) ?_ ?_)
 ·exact q03 rfl ⟨rfl, trivial⟩ rfl
 rintro k ⟨hk, hks⟩ N hN
 refine gg rfl (q02 rfl (fun g => ?_) (fun g => ?_))
 ·rw [q06] at g
  obtain rfl : k = 0 := by omega
  refine gg rfl (q0k 0 rfl rfl rfl rfl rfl (gg rfl (q01 rfl rfl hz ?_)))
  cases hv : sizeS s with
  | false =>
    exact gg rfl (q0g rfl (gg rfl (q04 (gg rfl (q08 rfl rfl rfl trivial rfl)))))
  | true =>
    refine gg rfl (q0m rfl (gg rfl (q04 (hN 1 ⟨by omega, fun _ => hv⟩ (by omega) (q03 rfl ⟨rfl, trivial⟩ ?_)))))
    have w : IntKind.i64.wrap (((0 : Nat) : Int) + 1) = ((1 : Nat) : Int) := ww
    rw [w]; rfl
 rw [q07] at g
 obtain rfl : k = 1 := by omega
 clear hN
 rw [hks rfl]
 refine gg rfl (q04 (gg rfl (q0q (S := fun k : Nat => ([.ptr 0 0 0, .lst [], q00 0, q00 0], [some (.row [qgK s] 3), none, none, none], [0, 0, 0, 0])) (C := fun k => k = 0) (m := fun k => 0) 0 rfl (by omega) ?_ ?_)))
 ·exact q03 rfl ⟨rfl, trivial⟩ rfl
 rintro k rfl N hN
 refine gg rfl (q02 rfl (fun g => absurd (q06.1 g) (by simp)) (fun _ => ?_))
 clear hN
 refine gg rfl (q04 (gg rfl (q0q (S := fun k : Nat => ([.ptr 0 0 0, .lst [.str s], q00 1, q00 k], [some (.row [qgK s] 3), none, none, none], [0, 0, 0, 0])) (C := fun k => k ≤ 1) (m := fun k => 1 - k) 0 (by omega) (by omega) ?_ ?_)))
 ·exact q03 rfl ⟨rfl, trivial⟩ rfl
 intro k hk N hN
 refine gg rfl (q02 rfl (fun g => ?_) (fun g => ?_))
 ·rw [q06] at g
  obtain rfl : k = 0 := by omega
  refine gg rfl (q0k 0 rfl rfl rfl rfl rfl (gg rfl (qdM 0 rfl rfl ⟨_, _, rfl, rfl⟩ (Nat.zero_le _) (gg rfl (q01 rfl rfl (qgJ s) (gg rfl (q0m rfl (gg rfl (q04 (hN 1 (by omega) (by omega) (q03 rfl ⟨rfl, trivial⟩ ?_)))))))))))
  have w : IntKind.i64.wrap (((0 : Nat) : Int) + 1) = ((1 : Nat) : Int) := ww
  rw [w]; rfl
 rw [q07] at g
 clear hN
 refine gg rfl (q04 (gg rfl (q0q (S := fun k : Nat => ([.ptr 0 0 0, .lst [], q00 0, q00 0], [some (.row [qgK s] 3), none, none, none], [0, 0, 0, 0])) (C := fun k => k = 0) (m := fun k => 0) 0 rfl (by omega) ?_ ?_)))
 ·exact q03 rfl ⟨rfl, trivial⟩ rfl
 rintro k rfl N hN
 refine gg rfl (q02 rfl (fun g => absurd (q06.1 g) (by simp)) (fun _ => ?_))
 clear hN
 exact gg rfl (q04 (gg rfl (q01 rfl rfl (qpx s) (gg rfl (q0m rfl (gg rfl (q08 rfl rfl rfl trivial rfl)))))))
theorem qhX (s : ByteArray) (hs : s.size ≤ 1000000) : PU qcy [.str s] = some (.bool (sizeS s)) := by
 have hz := qjL s hs
 refine q0h (fn := q87) rfl (q0c ?_)
 refine gg rfl (q58 rfl rfl ⟨⟨Nat.le_refl _, rfl⟩, trivial⟩ hz rfl (gg rfl (q08 rfl rfl rfl trivial ?_)))
 cases sizeS s <;> simp [q2i]
theorem qmy (l : List Int) (v : Int) (hl : l.length ≤ 1000000) : PU q64 [ints l, .int .i64 v] = some (.int .i64 (qcu (fun x => decide (v = x)) l)) := by
 refine q0h (fn := q3o) rfl (q0c ?_)
 refine gg rfl ?_
 rw [List.length_map]
 refine q0q (S := fun k : Nat => ([ints l, .int .i64 v, q00 l.length, q00 k], [none, none, none, none], [0, 0, 0, 0])) (C := fun k => k ≤ l.length ∧ ∀ j (hj : j < l.length), j < k → decide (v = l[j]) = false) (m := fun k => l.length - k) 0 ⟨Nat.zero_le _, fun j _ h => by omega⟩ (by omega) ?_ ?_
 ·exact q03 rfl trivial (by simp [ints, q00])
 rintro k ⟨hk, hno⟩ N hN
 refine gg rfl (q02 rfl (fun g => ?_) (fun g => ?_))
 ·rw [q06] at g
  have hlt : k < l.length := by omega
  have w1 := wS (n := k)
  refine gg rfl (q0k k rfl rfl rfl (q1J hlt) rfl (gg rfl (q02 rfl (fun e => ?_) (fun e => ?_))))
  ·rw [q12] at e
   refine gg rfl (q04 (gg rfl (q08 rfl rfl rfl trivial ?_)))
   rw [qeu hlt hno (decide_eq_true e)]
  rw [q1a] at e
  refine gg rfl (q04 (hN (k + 1) ⟨hlt, fun j hj hjk => ?_⟩ (by omega) (q03 rfl trivial (by simp [ints, q00, w1]))))
  by_cases ej : j = k
  ·subst ej; exact decide_eq_false e
  exact hno j hj (by omega)
 rw [q07] at g
 obtain rfl : k = l.length := by omega
 refine gg rfl (q04 (gg rfl (q08 rfl rfl rfl trivial ?_)))
 rw [qev fun j hj => hno j hj hj]
theorem qhY (l : List Int) (v : Int) (hl : l.length ≤ 1000000) : PU q4D [ints l, .int .i64 v] = some (.bool (decide (v ∈ l))) := by
 have h := qmy l v hl
 have e : decide (v ∈ l) = decide (0 ≤ qcu (fun x => decide (v = x)) l) := by
  rw [qaK]
  rw [Bool.eq_iff_iff]
  simp
 refine q0h (fn := q2H) rfl (q0c ?_)
 refine gg rfl (q01 rfl rfl h (gg rfl (q08 rfl rfl rfl trivial ?_)))
 rw [e, q1I]
end Go.F

namespace Go.F
attribute [local irreducible] IntKind.wrap wpM
section
variable {T : Tab} {sh : Shr} {nx0 : Nat} {s : List Fr} {t : q0u} {h : q0f} {z : Frz} {nx : Nat} {q : Ex → q0u → q0f → Frz → Nat → Prop}
variable {base i : Nat} {res : List Nat} {g : Gd} {rest : List KOper}
theorem quM {zv : D} {x kx : X} {dst : Nat} {m : List (ByteArray × D)} {st : ByteArray} {id : Nat} (hx : x.ev t = .mref id) (hh : g.h base h id = some (.mp (m.map (·.1)) (m.map (·.2)))) (hkx : kx.ev t = .str st)
 (hs : ∀ v, qeC m st = some v → wpM T sh nx0 (.ops base res rest :: s) .normal (upd t dst v) h z nx q)
 (hn : qeC m st = none → wpM T sh nx0 (.ops base res rest :: s) .normal (upd t dst zv) h z nx q) :
 wpM T sh nx0 (.ops base res (⟨i, some dst, none, g, .lookup zv x kx false⟩ :: rest) :: s) .normal t h z nx q := by
 refine q4A ?_
 have hf := q99 m st 0
 simp only [kop, qft, hx, hh, q6E, hkx, qlH]
 cases hk : findKey st (m.map (·.1)) 0 with
 | none => rw [hk] at hf; exact hn hf
 | some j =>
   rw [hk] at hf
   obtain ⟨_, v, h2, h3⟩ := hf
   exact q9f h2 (hs v h3)
end
theorem quN {a b : ByteArray} (h : a.toList = b.toList) : a = b := by
 rw [Go.ByteArray.toList_eq, Go.ByteArray.toList_eq] at h
 exact ByteArray.ext (Array.ext' h)
theorem ba_eq2 (a b : ByteArray) : (a == b) = (a.toList == b.toList) := by
 have e : (a == b) = (a.data == b.data) := rfl
 rw [e, Bool.eq_iff_iff, beq_iff_eq, beq_iff_eq]
 exact ⟨fun h => by rw [Go.ByteArray.toList_eq, Go.ByteArray.toList_eq, h], fun h => by rw [quN h]⟩
def q7b (l : List ByteArray) : List (ByteArray × D) := l.map fun x => (x, D.bool true)
theorem qpy (l : List ByteArray) (x : ByteArray) : q7b (l ++ [x]) = q7b l ++ [(x, .bool true)] := by simp [q7b]
theorem qrR (l : List ByteArray) (s : ByteArray) : qeC (q7b l) s = cond (l.any fun x => x.toList == s.toList) (some (.bool true)) none := by
 induction l with
 | nil => rfl
 | cons x l ih =>
   unfold qeC q7b at *
   simp only [List.map_cons, List.find?_cons, List.any_cons]
   rw [ba_eq2, Bool.beq_comm]
   cases x.toList == s.toList with
   | true => rfl
   | false => exact ih
theorem qob (l : List ByteArray) : ((q7b l).map (·.2)).all (plain 4) = true := by
 unfold q7b; rw [List.map_map]; exact q0b (fun _ => rfl) _
def q4o (l : List ByteArray) : Bool := (List.range l.length).any fun i => (l.take i).any fun x => x.toList == (sz l i).toList
def q26 (s : Sty) : Int :=
 if q1L s.name = false ∨ s.sizes.length = 0 then 1
 else if s.sizes.any (fun x => !sizeS x) then 1
 else if s.mults.length ≠ s.sizes.length ∨ 0 ∉ s.mults then 1
 else if q4o s.sizes then 7
 else if 12 < s.sizes.length ∨ 12 < s.pieces.length ∨ 12 < s.uses.length then 5
 else if 24 < s.seams.length ∨ 16 < s.ops.length then 5
 else if s.mults.any (fun m => decide (m < -100) || decide (100 < m)) then 3 else 0
structure StyB (s : Sty) : Prop where
 sizes : s.sizes.length ≤ 1000
 size : ∀ x ∈ s.sizes, x.size ≤ 1000
 mults : s.mults.length ≤ 1000
 pieces : s.pieces.length ≤ 1000
 uses : s.uses.length ≤ 1000
 seams : s.seams.length ≤ 1000
 ops : s.ops.length ≤ 1000
 corners : ∀ p ∈ s.pieces, p.corners.length ≤ 1000
 widths : ∀ p ∈ s.pieces, p.widths.length ≤ 1000
 notches : ∀ p ∈ s.pieces, p.notches.length ≤ 1000
theorem qbd (s : Sty) : s.enc = .agg [.str s.name, .lst (s.sizes.map .str), .lst (s.mults.map q00), .lst (s.pieces.map Piece.enc), .lst (s.uses.map Use.enc), .lst (s.seams.map Sew.enc), .lst (s.ops.map Opn.enc)] := rfl
set_option maxHeartbeats 8000000 in
theorem qkl (s : Sty) (hB : StyB s) : PU q8w [s.enc] = some (.int .i64 (q26 s)) := by
 have b1 := hB.sizes
 have b2 := hB.mults
 refine q0h (fn := q5a) rfl (q0c ?_)
 refine gg rfl (q01 rfl rfl (qbA s.name) ?_)
 cases hn : q1L s.name with
 | false =>
   refine gg rfl (q0e rfl (gg rfl (q0g rfl (gg rfl (q08 rfl rfl rfl trivial ?_)))))
   rw [q26, if_pos (.inl hn)]
 | true =>
   refine gg rfl (q0j rfl (gg rfl ?_))
   rw [List.length_map]
   refine q02 rfl (fun g => ?_) (fun g => ?_)
   ·rw [q12] at g
    refine gg rfl (q08 rfl rfl rfl trivial ?_)
    rw [q26, if_pos (.inr (by omega))]
   rw [q1a] at g
   have hc1 : ¬ (q1L s.name = false ∨ s.sizes.length = 0) := by
    rintro (h | h)
    ·rw [hn] at h; cases h
    omega
   refine gg rfl ?_
   rw [List.length_map]
   refine q0q (S := fun k : Nat => ([.ptr 0 0 0, strs s.sizes, q00 s.sizes.length, q00 k], [some (.row [s.enc] 7), none, none, none], [0, 0, 0, 0])) (C := fun k => k ≤ s.sizes.length ∧ ∀ j (hj : j < s.sizes.length), j < k → sizeS s.sizes[j] = true) (m := fun k => s.sizes.length - k) 0 ⟨Nat.zero_le _, fun j _ h => by omega⟩ (by omega) ?_ ?_
   ·exact q03 rfl ⟨rfl, trivial⟩ rfl
   rintro k ⟨hk, hall⟩ N hN
   refine gg rfl (q02 rfl (fun e => ?_) (fun e => ?_))
   ·rw [q06] at e
    have hlt : k < s.sizes.length := by omega
    have w1 := wS (n := k)
    have hz := qhX s.sizes[k] (by have := hB.size _ (List.getElem_mem hlt); omega)
    refine gg rfl (q0k k rfl rfl rfl (q1J hlt) rfl (gg rfl (q01 rfl rfl hz ?_)))
    cases hv : sizeS s.sizes[k] with
    | false =>
      refine gg rfl (q0g rfl (gg rfl (q04 (gg rfl (q08 rfl rfl rfl trivial ?_)))))
      rw [q26, if_neg hc1, if_pos (q3c hlt (by rw [hv]; rfl))]
    | true =>
      refine gg rfl (q0m rfl (gg rfl (q04 (hN (k + 1) ⟨hlt, fun j hj hjk => ?_⟩ (by omega) (q03 rfl ⟨rfl, trivial⟩ (by rw [w1]; rfl))))))
      by_cases ej : j = k
      ·subst ej; exact hv
      exact hall j hj (by omega)
   rw [q07] at e
   obtain rfl : k = s.sizes.length := by omega
   clear hN
   have hc2 : ¬ (s.sizes.any (fun x => !sizeS x)) = true := by rw [q2N fun j hj => by rw [hall j hj hj]; rfl]; decide
   refine gg rfl (q04 (gg rfl ?_))
   rw [List.length_map, List.length_map]
   refine q05 rfl (fun g2 => ?_) (fun g2 => ?_)
   ·rw [q0z] at g2
    refine gg rfl (q0g rfl (gg rfl (q08 rfl rfl rfl trivial ?_)))
    rw [q26, if_neg hc1, if_neg hc2, if_pos (.inl (by omega))]
   rw [q0A] at g2
   have g2' : s.mults.length = s.sizes.length := by omega
   refine gg rfl (q01 rfl rfl (qhY s.mults 0 (by omega)) ?_)
   cases hz : decide (0 ∈ s.mults) with
   | false =>
     have hz := of_decide_eq_false hz
     refine gg rfl (q0g rfl (gg rfl (q08 rfl rfl rfl trivial ?_)))
     rw [q26, if_neg hc1, if_neg hc2, if_pos (.inr hz)]
   | true =>
     have hz := of_decide_eq_true hz
     have hc3 : ¬ (s.mults.length ≠ s.sizes.length ∨ 0 ∉ s.mults) := by
      rintro (h | h)
      ·exact h g2'
      exact h hz
     refine gg rfl (q0m rfl (gg rfl ?_))
     rw [List.length_map]
     refine q0q (S := fun k : Nat => ([.ptr 0 0 0, .mref 1, strs s.sizes, q00 s.sizes.length, q00 k], [some (.row [s.enc] 7), some (.mp ((q7b (s.sizes.take k)).map (·.1)) ((q7b (s.sizes.take k)).map (·.2))), none, none, none], [0, 0, 0, 0, 0])) (C := fun k => k ≤ s.sizes.length ∧ ∀ i, i < k → ((s.sizes.take i).any fun x => x.toList == (sz s.sizes i).toList) = false) (m := fun k => s.sizes.length - k) 0 ⟨Nat.zero_le _, fun j h => by omega⟩ (by omega) ?_ ?_
     ·exact qq2 (o := [.p _, .p _]) (kp := ([.ptr 0 0 0, .mref 1, strs s.sizes, q00 s.sizes.length, q00 0], [some (.row [s.enc] 7), some (.mp [] []), none, none, none], [0, 0, 0, 0, 0])) [none] rfl ⟨rfl, rfl, trivial⟩ rfl
     rintro k ⟨hk, htw⟩ N hN
     refine gg rfl (q02 rfl (fun e => ?_) (fun e => ?_))
     ·rw [q06] at e
      have hlt : k < s.sizes.length := by omega
      have w1 := wS (n := k)
      have hst : q7b (s.sizes.take (k + 1)) = q7b (s.sizes.take k) ++ [(sz s.sizes k, .bool true)] := by
       rw [List.take_succ_eq_append_getElem hlt, qpy, qjK hlt]
      have hgt := qrR (s.sizes.take k) (sz s.sizes k)
      refine gg rfl (q0k k rfl rfl rfl (qpv hlt) rfl (gg rfl (quM (m := q7b (s.sizes.take k)) rfl rfl rfl (fun v hv => ?_) (fun hv => ?_))))
      ·rw [hgt] at hv
       cases ha : ((s.sizes.take k).any fun x => x.toList == (sz s.sizes k).toList) with
       | true =>
         rw [ha] at hv
         cases hv
         refine gg rfl (q0g rfl (gg rfl (q04 (gg rfl (q08 rfl rfl rfl trivial ?_)))))
         have ht : q4o s.sizes = true := by
          unfold q4o
          rw [List.any_eq_true]
          exact ⟨k, List.mem_range.2 hlt, ha⟩
         rw [q26, if_neg hc1, if_neg hc2, if_neg hc3, if_pos ht]
       | false => rw [ha] at hv; cases hv
      have ha : ((s.sizes.take k).any fun x => x.toList == (sz s.sizes k).toList) = false := by
       rw [hgt] at hv
       cases ha : ((s.sizes.take k).any fun x => x.toList == (sz s.sizes k).toList) with
       | true => rw [ha] at hv; cases hv
       | false => rfl
      refine gg rfl (q0m rfl (gg rfl (atPut (m := q7b (s.sizes.take k)) rfl rfl rfl rfl hv (gg rfl (q04 (hN (k + 1) ⟨hlt, fun i hi => ?_⟩ (by omega) (qq2 (o := [.p [s.enc], .p ((q7b (s.sizes.take k) ++ [(sz s.sizes k, D.bool true)] : List (ByteArray × D)).map (·.2))]) (kp := ([.ptr 0 0 0, .mref 1, strs s.sizes, q00 s.sizes.length, .int .i64 (IntKind.i64.wrap ((k : Int) + 1))], [some (.row [s.enc] 7), some (.mp ((q7b (s.sizes.take k) ++ [(sz s.sizes k, D.bool true)] : List (ByteArray × D)).map (·.1)) ((q7b (s.sizes.take k) ++ [(sz s.sizes k, D.bool true)] : List (ByteArray × D)).map (·.2))), none, none, none], [0, 0, 0, 0, 0])) [none] rfl ⟨rfl, ?_, trivial⟩ ?_)))))))
      ·by_cases ei : i = k
       ·subst ei; exact ha
       exact htw i (by omega)
      ·show List.all ((q7b (s.sizes.take k) ++ [(sz s.sizes k, D.bool true)] : List (ByteArray × D)).map (·.2)) _ = true
       rw [← hst]; exact qob _
      rw [w1, hst]; rfl
     rw [q07] at e
     obtain rfl : k = s.sizes.length := by omega
     clear hN
     have hc4 : ¬ q4o s.sizes = true := by
      unfold q4o
      rw [List.any_eq_true]
      rintro ⟨i, hi, h⟩
      rw [htw i (List.mem_range.1 hi)] at h; cases h
     have hw : q26 s = if 12 < s.sizes.length ∨ 12 < s.pieces.length ∨ 12 < s.uses.length then 5
      else if 24 < s.seams.length ∨ 16 < s.ops.length then 5
      else if s.mults.any (fun m => decide (m < -100) || decide (100 < m)) then 3 else 0 := by
      rw [q26, if_neg hc1, if_neg hc2, if_neg hc3, if_neg hc4]
     rw [hw]
     refine gg rfl (q04 (gg rfl ?_))
     rw [List.length_map]
     refine q05 rfl (fun g3 => ?_) (fun g3 => ?_)
     ·rw [q06] at g3
      refine gg rfl (q0e rfl (gg rfl (q0g rfl (gg rfl (q08 rfl rfl rfl trivial ?_)))))
      rw [if_pos (.inl (by omega))]
     rw [q07] at g3
     refine gg rfl ?_
     rw [List.length_map]
     refine q05 rfl (fun g4 => ?_) (fun g4 => ?_)
     ·rw [q06] at g4
      refine gg rfl (q0g rfl (gg rfl (q08 rfl rfl rfl trivial ?_)))
      rw [if_pos (.inr (.inl (by omega)))]
     rw [q07] at g4
     refine gg rfl ?_
     rw [List.length_map]
     refine q02 rfl (fun g5 => ?_) (fun g5 => ?_)
     ·rw [q06] at g5
      refine gg rfl (q08 rfl rfl rfl trivial ?_)
      rw [if_pos (.inr (.inr (by omega)))]
     rw [q07] at g5
     rw [if_neg (by omega)]
     refine gg rfl ?_
     rw [List.length_map]
     refine q05 rfl (fun g6 => ?_) (fun g6 => ?_)
     ·rw [q06] at g6
      refine gg rfl (q0g rfl (gg rfl (q08 rfl rfl rfl trivial ?_)))
      rw [if_pos (.inl (by omega))]
     rw [q07] at g6
     refine gg rfl ?_
     rw [List.length_map]
     refine q02 rfl (fun g7 => ?_) (fun g7 => ?_)
     ·rw [q06] at g7
      refine gg rfl (q08 rfl rfl rfl trivial ?_)
      rw [if_pos (.inr (by omega))]
     rw [q07] at g7
     rw [if_neg (by omega)]
     refine gg rfl ?_
     rw [List.length_map]
     refine q0q (S := fun k : Nat => ([ints s.mults, q00 s.mults.length, q00 k], [none, none, none], [0, 0, 0])) (C := fun k => k ≤ s.mults.length ∧ ∀ j (hj : j < s.mults.length), j < k → (decide (s.mults[j] < -100) || decide (100 < s.mults[j])) = false) (m := fun k => s.mults.length - k) 0 ⟨Nat.zero_le _, fun j _ h => by omega⟩ (by omega) ?_ ?_
     ·exact q03 rfl trivial rfl
     rintro k ⟨hk, hm⟩ N hN
     refine gg rfl (q02 rfl (fun e => ?_) (fun e => ?_))
     ·rw [q06] at e
      have hlt : k < s.mults.length := by omega
      have w1 := wS (n := k)
      have bad : (decide (s.mults[k] < -100) || decide (100 < s.mults[k])) = true → (s.mults.any fun m => decide (m < -100) || decide (100 < m)) = true := fun h => q3c hlt h
      have hx : (s.mults.map q00)[k]? = some (.int .i64 s.mults[k]) := q1J hlt
      refine gg rfl (q0k k rfl rfl rfl hx rfl (gg rfl (q05 rfl (fun f1 => ?_) (fun f1 => ?_))))
      ·rw [q06] at f1
       refine gg rfl (q0g rfl (gg rfl (q04 (gg rfl (q08 rfl rfl rfl trivial ?_)))))
       rw [if_pos (bad (by simp; omega))]
      rw [q07] at f1
      refine gg rfl (q02 rfl (fun f2 => ?_) (fun f2 => ?_))
      ·rw [q06] at f2
       refine gg rfl (q04 (gg rfl (q08 rfl rfl rfl trivial ?_)))
       rw [if_pos (bad (by simp; omega))]
      rw [q07] at f2
      refine gg rfl (q04 (hN (k + 1) ⟨hlt, fun j hj hjk => ?_⟩ (by omega) (q03 rfl trivial (by rw [w1]; rfl))))
      by_cases ej : j = k
      ·subst ej; simp; omega
      exact hm j hj (by omega)
     rw [q07] at e
     obtain rfl : k = s.mults.length := by omega
     rw [if_neg (by rw [q2N fun j hj => hm j hj hj]; decide)]
     exact gg rfl (q04 (gg rfl (q08 rfl rfl rfl trivial rfl)))
end Go.F

namespace Go.F
attribute [local irreducible] IntKind.wrap wpM
def q3W (b : List Piece) (p : Piece) : Int :=
 if q1L p.name = false then 1
 else if p.grain ≠ 1 ∧ p.grain ≠ 2 ∧ p.grain ≠ 4 then 1
 else if (b.any fun o => o.name.toList == p.name.toList) then 7
 else if (q0B p 0).2 ≠ 0 then (q0B p 0).2
 else if (q29 p 0).2 ≠ 0 then (q29 p 0).2
 else if p.widths.length ≠ p.edges.length then 1
 else if p.widths.any q2t then 3 else 0
set_option maxHeartbeats 8000000 in
theorem qkm (b : List Piece) (p : Piece) (hb : b.length ≤ 1000) (h1 : p.corners.length ≤ 1000) (h2 : p.widths.length ≤ 1000) : PU q8x [Go.F.pieces b, p.enc] = some (.int .i64 (q3W b p)) := by
 refine q0h (fn := q5b) rfl (q0c ?_)
 refine gg rfl (q01 rfl rfl (qbA p.name) ?_)
 cases hn : q1L p.name with
 | false =>
   refine gg rfl (q0g rfl (gg rfl (q08 rfl rfl rfl trivial ?_)))
   rw [q3W, if_pos hn]
 | true =>
   have hc1 : ¬ q1L p.name = false := by rw [hn]; decide
   refine gg rfl (q0m rfl (gg rfl (q05 rfl (fun g1 => ?_) (fun g1 => ?_))))
   ·rw [q0z] at g1
    refine gg rfl (q05 rfl (fun g2 => ?_) (fun g2 => ?_))
    ·rw [q0z] at g2
     refine gg rfl (q02 rfl (fun g3 => ?_) (fun g3 => ?_))
     ·rw [q0z] at g3
      refine gg rfl (q08 rfl rfl rfl trivial ?_)
      rw [q3W, if_neg hc1, if_pos ⟨g1, g2, g3⟩]
     rw [q0A] at g3
     have hc2 : ¬ (p.grain ≠ 1 ∧ p.grain ≠ 2 ∧ p.grain ≠ 4) := fun h => h.2.2 g3
     refine gg rfl ?_
     rw [List.length_map]
     refine q0q (S := fun k : Nat => ([.ptr 0 0 0, Go.F.pieces b, q00 b.length, q00 k], [some (.row [p.enc] 7), none, none, none], [0, 0, 0, 0])) (C := fun k => k ≤ b.length ∧ ∀ j (hj : j < b.length), j < k → (b[j].name.toList == p.name.toList) = false) (m := fun k => b.length - k) 0 ⟨Nat.zero_le _, fun j _ h => by omega⟩ (by omega) ?_ ?_
     ·exact q03 rfl ⟨rfl, trivial⟩ rfl
     rintro k ⟨hk, hno⟩ N hN
     refine gg rfl (q02 rfl (fun e => ?_) (fun e => ?_))
     ·rw [q06] at e
      have hlt : k < b.length := by omega
      have w1 := wS (n := k)
      refine gg rfl (q0k k rfl rfl rfl (q1J hlt) rfl (gg rfl (q02 rfl (fun f => ?_) (fun f => ?_))))
      ·refine gg rfl (q04 (gg rfl (q08 rfl rfl rfl trivial ?_)))
       rw [q3W, if_neg hc1, if_neg hc2, if_pos (q3c hlt f)]
      refine gg rfl (q04 (hN (k + 1) ⟨hlt, fun j hj hjk => ?_⟩ (by omega) (q03 rfl ⟨rfl, trivial⟩ (by rw [w1]; rfl))))
      by_cases ej : j = k
      ·subst ej; exact f
      exact hno j hj (by omega)
     rw [q07] at e
     obtain rfl : k = b.length := by omega
     clear hN
     have hc3 : ¬ (b.any fun o => o.name.toList == p.name.toList) = true := by rw [q2N fun j hj => hno j hj hj]; decide
     have hw : q3W b p = if (q0B p 0).2 ≠ 0 then (q0B p 0).2
      else if (q29 p 0).2 ≠ 0 then (q29 p 0).2
      else if p.widths.length ≠ p.edges.length then 1
      else if p.widths.any q2t then 3 else 0 := by rw [q3W, if_neg hc1, if_neg hc2, if_neg hc3]
     rw [hw]
     refine gg rfl (q04 (gg rfl (q01 rfl rfl (q7R p 0 (by omega)) ?_)))
     refine gg rfl (q02 rfl (fun f => ?_) (fun f => ?_))
     ·rw [q0z] at f
      refine gg rfl (q08 rfl rfl rfl trivial ?_)
      rw [if_pos f]
     rw [q0A] at f
     rw [if_neg (by simp [f])]
     refine gg rfl (q01 rfl rfl (qgp p 0 (by omega)) ?_)
     refine gg rfl (q02 rfl (fun f2 => ?_) (fun f2 => ?_))
     ·rw [q0z] at f2
      refine gg rfl (q08 rfl rfl rfl trivial ?_)
      rw [if_pos f2]
     rw [q0A] at f2
     rw [if_neg (by simp [f2])]
     refine gg rfl ?_
     rw [List.length_map, List.length_map]
     refine q02 rfl (fun f3 => ?_) (fun f3 => ?_)
     ·rw [q0z] at f3
      refine gg rfl (q08 rfl rfl rfl trivial ?_)
      rw [if_pos (by omega)]
     rw [q0A] at f3
     rw [if_neg (by omega)]
     refine gg rfl ?_
     rw [List.length_map]
     refine q0q (S := fun k : Nat => ([ints p.widths, q00 p.widths.length, q00 k], [none, none, none], [0, 0, 0])) (C := fun k => k ≤ p.widths.length ∧ ∀ j (hj : j < p.widths.length), j < k → q2t p.widths[j] = false) (m := fun k => p.widths.length - k) 0 ⟨Nat.zero_le _, fun j _ h => by omega⟩ (by omega) ?_ ?_
     ·exact q03 rfl trivial rfl
     rintro k ⟨hk, hm⟩ N hN
     refine gg rfl (q02 rfl (fun e => ?_) (fun e => ?_))
     ·rw [q06] at e
      have hlt : k < p.widths.length := by omega
      have w1 := wS (n := k)
      have bad : q2t p.widths[k] = true → p.widths.any q2t = true := fun h => q3c hlt h
      have hx : (p.widths.map q00)[k]? = some (.int .i64 p.widths[k]) := q1J hlt
      refine gg rfl (q0k k rfl rfl rfl hx rfl (gg rfl (q05 rfl (fun f1 => ?_) (fun f1 => ?_))))
      ·rw [q06] at f1
       refine gg rfl (q0g rfl (gg rfl (q04 (gg rfl (q08 rfl rfl rfl trivial ?_)))))
       rw [if_pos (bad (by simp [q2t]; omega))]
      rw [q07] at f1
      refine gg rfl (q02 rfl (fun f2 => ?_) (fun f2 => ?_))
      ·rw [q06] at f2
       refine gg rfl (q04 (gg rfl (q08 rfl rfl rfl trivial ?_)))
       rw [if_pos (bad (by simp [q2t]; omega))]
      rw [q07] at f2
      refine gg rfl (q04 (hN (k + 1) ⟨hlt, fun j hj hjk => ?_⟩ (by omega) (q03 rfl trivial (by rw [w1]; rfl))))
      by_cases ej : j = k
      ·subst ej; simp [q2t]; omega
      exact hm j hj (by omega)
     rw [q07] at e
     obtain rfl : k = p.widths.length := by omega
     rw [if_neg (by rw [q2N fun j hj => hm j hj hj]; decide)]
     exact gg rfl (q04 (gg rfl (q08 rfl rfl rfl trivial rfl)))
    rw [q0A] at g2
    have hc2 : ¬ (p.grain ≠ 1 ∧ p.grain ≠ 2 ∧ p.grain ≠ 4) := fun h => h.2.1 g2
    refine gg rfl (q0m rfl (gg rfl ?_))
    rw [List.length_map]
    refine q0q (S := fun k : Nat => ([.ptr 0 0 0, Go.F.pieces b, q00 b.length, q00 k], [some (.row [p.enc] 7), none, none, none], [0, 0, 0, 0])) (C := fun k => k ≤ b.length ∧ ∀ j (hj : j < b.length), j < k → (b[j].name.toList == p.name.toList) = false) (m := fun k => b.length - k) 0 ⟨Nat.zero_le _, fun j _ h => by omega⟩ (by omega) ?_ ?_
    ·exact q03 rfl ⟨rfl, trivial⟩ rfl
    rintro k ⟨hk, hno⟩ N hN
    refine gg rfl (q02 rfl (fun e => ?_) (fun e => ?_))
    ·rw [q06] at e
     have hlt : k < b.length := by omega
     have w1 := wS (n := k)
     refine gg rfl (q0k k rfl rfl rfl (q1J hlt) rfl (gg rfl (q02 rfl (fun f => ?_) (fun f => ?_))))
     ·refine gg rfl (q04 (gg rfl (q08 rfl rfl rfl trivial ?_)))
      rw [q3W, if_neg hc1, if_neg hc2, if_pos (q3c hlt f)]
     refine gg rfl (q04 (hN (k + 1) ⟨hlt, fun j hj hjk => ?_⟩ (by omega) (q03 rfl ⟨rfl, trivial⟩ (by rw [w1]; rfl))))
     by_cases ej : j = k
     ·subst ej; exact f
     exact hno j hj (by omega)
    rw [q07] at e
    obtain rfl : k = b.length := by omega
    clear hN
    have hc3 : ¬ (b.any fun o => o.name.toList == p.name.toList) = true := by rw [q2N fun j hj => hno j hj hj]; decide
    have hw : q3W b p = if (q0B p 0).2 ≠ 0 then (q0B p 0).2
     else if (q29 p 0).2 ≠ 0 then (q29 p 0).2
     else if p.widths.length ≠ p.edges.length then 1
     else if p.widths.any q2t then 3 else 0 := by rw [q3W, if_neg hc1, if_neg hc2, if_neg hc3]
    rw [hw]
    refine gg rfl (q04 (gg rfl (q01 rfl rfl (q7R p 0 (by omega)) ?_)))
    refine gg rfl (q02 rfl (fun f => ?_) (fun f => ?_))
    ·rw [q0z] at f
     refine gg rfl (q08 rfl rfl rfl trivial ?_)
     rw [if_pos f]
    rw [q0A] at f
    rw [if_neg (by simp [f])]
    refine gg rfl (q01 rfl rfl (qgp p 0 (by omega)) ?_)
    refine gg rfl (q02 rfl (fun f2 => ?_) (fun f2 => ?_))
    ·rw [q0z] at f2
     refine gg rfl (q08 rfl rfl rfl trivial ?_)
     rw [if_pos f2]
    rw [q0A] at f2
    rw [if_neg (by simp [f2])]
    refine gg rfl ?_
    rw [List.length_map, List.length_map]
    refine q02 rfl (fun f3 => ?_) (fun f3 => ?_)
    ·rw [q0z] at f3
     refine gg rfl (q08 rfl rfl rfl trivial ?_)
     rw [if_pos (by omega)]
    rw [q0A] at f3
    rw [if_neg (by omega)]
    refine gg rfl ?_
    rw [List.length_map]
    refine q0q (S := fun k : Nat => ([ints p.widths, q00 p.widths.length, q00 k], [none, none, none], [0, 0, 0])) (C := fun k => k ≤ p.widths.length ∧ ∀ j (hj : j < p.widths.length), j < k → q2t p.widths[j] = false) (m := fun k => p.widths.length - k) 0 ⟨Nat.zero_le _, fun j _ h => by omega⟩ (by omega) ?_ ?_
    ·exact q03 rfl trivial rfl
    rintro k ⟨hk, hm⟩ N hN
    refine gg rfl (q02 rfl (fun e => ?_) (fun e => ?_))
    ·rw [q06] at e
     have hlt : k < p.widths.length := by omega
     have w1 := wS (n := k)
     have bad : q2t p.widths[k] = true → p.widths.any q2t = true := fun h => q3c hlt h
     have hx : (p.widths.map q00)[k]? = some (.int .i64 p.widths[k]) := q1J hlt
     refine gg rfl (q0k k rfl rfl rfl hx rfl (gg rfl (q05 rfl (fun f1 => ?_) (fun f1 => ?_))))
     ·rw [q06] at f1
      refine gg rfl (q0g rfl (gg rfl (q04 (gg rfl (q08 rfl rfl rfl trivial ?_)))))
      rw [if_pos (bad (by simp [q2t]; omega))]
     rw [q07] at f1
     refine gg rfl (q02 rfl (fun f2 => ?_) (fun f2 => ?_))
     ·rw [q06] at f2
      refine gg rfl (q04 (gg rfl (q08 rfl rfl rfl trivial ?_)))
      rw [if_pos (bad (by simp [q2t]; omega))]
     rw [q07] at f2
     refine gg rfl (q04 (hN (k + 1) ⟨hlt, fun j hj hjk => ?_⟩ (by omega) (q03 rfl trivial (by rw [w1]; rfl))))
     by_cases ej : j = k
     ·subst ej; simp [q2t]; omega
     exact hm j hj (by omega)
    rw [q07] at e
    obtain rfl : k = p.widths.length := by omega
    rw [if_neg (by rw [q2N fun j hj => hm j hj hj]; decide)]
    exact gg rfl (q04 (gg rfl (q08 rfl rfl rfl trivial rfl)))
   rw [q0A] at g1
   have hc2 : ¬ (p.grain ≠ 1 ∧ p.grain ≠ 2 ∧ p.grain ≠ 4) := fun h => h.1 g1
   refine gg rfl (q0j rfl (gg rfl (q0m rfl (gg rfl ?_))))
   rw [List.length_map]
   refine q0q (S := fun k : Nat => ([.ptr 0 0 0, Go.F.pieces b, q00 b.length, q00 k], [some (.row [p.enc] 7), none, none, none], [0, 0, 0, 0])) (C := fun k => k ≤ b.length ∧ ∀ j (hj : j < b.length), j < k → (b[j].name.toList == p.name.toList) = false) (m := fun k => b.length - k) 0 ⟨Nat.zero_le _, fun j _ h => by omega⟩ (by omega) ?_ ?_
   ·exact q03 rfl ⟨rfl, trivial⟩ rfl
   rintro k ⟨hk, hno⟩ N hN
   refine gg rfl (q02 rfl (fun e => ?_) (fun e => ?_))
   ·rw [q06] at e
    have hlt : k < b.length := by omega
    have w1 := wS (n := k)
    refine gg rfl (q0k k rfl rfl rfl (q1J hlt) rfl (gg rfl (q02 rfl (fun f => ?_) (fun f => ?_))))
    ·refine gg rfl (q04 (gg rfl (q08 rfl rfl rfl trivial ?_)))
     rw [q3W, if_neg hc1, if_neg hc2, if_pos (q3c hlt f)]
    refine gg rfl (q04 (hN (k + 1) ⟨hlt, fun j hj hjk => ?_⟩ (by omega) (q03 rfl ⟨rfl, trivial⟩ (by rw [w1]; rfl))))
    by_cases ej : j = k
    ·subst ej; exact f
    exact hno j hj (by omega)
   rw [q07] at e
   obtain rfl : k = b.length := by omega
   clear hN
   have hc3 : ¬ (b.any fun o => o.name.toList == p.name.toList) = true := by rw [q2N fun j hj => hno j hj hj]; decide
   have hw : q3W b p = if (q0B p 0).2 ≠ 0 then (q0B p 0).2
    else if (q29 p 0).2 ≠ 0 then (q29 p 0).2
    else if p.widths.length ≠ p.edges.length then 1
    else if p.widths.any q2t then 3 else 0 := by rw [q3W, if_neg hc1, if_neg hc2, if_neg hc3]
   rw [hw]
   refine gg rfl (q04 (gg rfl (q01 rfl rfl (q7R p 0 (by omega)) ?_)))
   refine gg rfl (q02 rfl (fun f => ?_) (fun f => ?_))
   ·rw [q0z] at f
    refine gg rfl (q08 rfl rfl rfl trivial ?_)
    rw [if_pos f]
   rw [q0A] at f
   rw [if_neg (by simp [f])]
   refine gg rfl (q01 rfl rfl (qgp p 0 (by omega)) ?_)
   refine gg rfl (q02 rfl (fun f2 => ?_) (fun f2 => ?_))
   ·rw [q0z] at f2
    refine gg rfl (q08 rfl rfl rfl trivial ?_)
    rw [if_pos f2]
   rw [q0A] at f2
   rw [if_neg (by simp [f2])]
   refine gg rfl ?_
   rw [List.length_map, List.length_map]
   refine q02 rfl (fun f3 => ?_) (fun f3 => ?_)
   ·rw [q0z] at f3
    refine gg rfl (q08 rfl rfl rfl trivial ?_)
    rw [if_pos (by omega)]
   rw [q0A] at f3
   rw [if_neg (by omega)]
   refine gg rfl ?_
   rw [List.length_map]
   refine q0q (S := fun k : Nat => ([ints p.widths, q00 p.widths.length, q00 k], [none, none, none], [0, 0, 0])) (C := fun k => k ≤ p.widths.length ∧ ∀ j (hj : j < p.widths.length), j < k → q2t p.widths[j] = false) (m := fun k => p.widths.length - k) 0 ⟨Nat.zero_le _, fun j _ h => by omega⟩ (by omega) ?_ ?_
   ·exact q03 rfl trivial rfl
   rintro k ⟨hk, hm⟩ N hN
   refine gg rfl (q02 rfl (fun e => ?_) (fun e => ?_))
   ·rw [q06] at e
    have hlt : k < p.widths.length := by omega
    have w1 := wS (n := k)
    have bad : q2t p.widths[k] = true → p.widths.any q2t = true := fun h => q3c hlt h
    have hx : (p.widths.map q00)[k]? = some (.int .i64 p.widths[k]) := q1J hlt
    refine gg rfl (q0k k rfl rfl rfl hx rfl (gg rfl (q05 rfl (fun f1 => ?_) (fun f1 => ?_))))
    ·rw [q06] at f1
     refine gg rfl (q0g rfl (gg rfl (q04 (gg rfl (q08 rfl rfl rfl trivial ?_)))))
     rw [if_pos (bad (by simp [q2t]; omega))]
    rw [q07] at f1
    refine gg rfl (q02 rfl (fun f2 => ?_) (fun f2 => ?_))
    ·rw [q06] at f2
     refine gg rfl (q04 (gg rfl (q08 rfl rfl rfl trivial ?_)))
     rw [if_pos (bad (by simp [q2t]; omega))]
    rw [q07] at f2
    refine gg rfl (q04 (hN (k + 1) ⟨hlt, fun j hj hjk => ?_⟩ (by omega) (q03 rfl trivial (by rw [w1]; rfl))))
    by_cases ej : j = k
    ·subst ej; simp [q2t]; omega
    exact hm j hj (by omega)
   rw [q07] at e
   obtain rfl : k = p.widths.length := by omega
   rw [if_neg (by rw [q2N fun j hj => hm j hj hj]; decide)]
   exact gg rfl (q04 (gg rfl (q08 rfl rfl rfl trivial rfl)))
def q4Q (s : Sty) (p e : Int) : Bool := decide (0 ≤ p) && (decide (p < s.pieces.length) && (decide (0 ≤ e) && decide (e < (pc s.pieces p.toNat).edges.length)))
theorem qlb (s : Sty) (p e : Int) : PU q8y [s.enc, .int .i64 p, .int .i64 e] = some (.bool (q4Q s p e)) := by
 refine q0h (fn := q84) rfl (q0c ?_)
 refine gg rfl (q05 rfl (fun g1 => ?_) (fun g1 => ?_))
 ·rw [q0D] at g1
  refine gg rfl ?_
  rw [List.length_map]
  refine q05 rfl (fun g2 => ?_) (fun g2 => ?_)
  ·rw [q06] at g2
   refine gg rfl (q05 rfl (fun g3 => ?_) (fun g3 => ?_))
   ·rw [q0D] at g3
    refine gg rfl (q0k p.toNat rfl rfl (by omega) (qeL (by omega)) rfl ?_)
    refine gg rfl (q08 rfl rfl rfl trivial ?_)
    rw [q4Q, decide_eq_true g1, decide_eq_true g2, decide_eq_true g3, q1H, List.length_map]; rfl
   rw [q0E] at g3
   refine gg rfl (q08 rfl rfl rfl trivial ?_)
   rw [q4Q, decide_eq_false (show ¬ 0 ≤ e by omega)]; simp
  rw [q07] at g2
  refine gg rfl (q0j rfl (gg rfl (q08 rfl rfl rfl trivial ?_)))
  rw [q4Q, decide_eq_false (show ¬ p < s.pieces.length by omega)]; simp
 rw [q0E] at g1
 refine gg rfl (q0j rfl (gg rfl (q0j rfl (gg rfl (q08 rfl rfl rfl trivial ?_)))))
 rw [q4Q, decide_eq_false (show ¬ 0 ≤ p by omega)]; rfl
def q2C (n : Nat) (u : Use) : Bool := decide (u.piece < 0) || (decide ((n : Int) ≤ u.piece) || (decide (u.count < 1) || decide (4 < u.count)))
def qe2 (s : Sty) (m : Sew) : Int := if q4Q s m.pa m.ea = false ∨ q4Q s m.pb m.eb = false then 3 else if m.ease < 0 then 1 else 0
def q38 (s : Sty) (i : Nat) : Int := q3W (s.pieces.take i) (pc s.pieces i)
def q7A (s : Sty) (i : Nat) : Int := qe2 s (sw s.seams i)
def q32 (s : Sty) : Int :=
 if q26 s ≠ 0 then q26 s
 else if q0F (q38 s) s.pieces.length ≠ 0 then q0F (q38 s) s.pieces.length
 else if s.uses.any (q2C s.pieces.length) then 3
 else q0F (q7A s) s.seams.length
set_option maxHeartbeats 8000000 in
theorem q1c (s : Sty) (hB : StyB s) : PU q0W [s.enc] = some (.int .i64 (q32 s)) := by
 have b1 := hB.pieces
 have b2 := hB.uses
 have b3 := hB.seams
 refine q0h (fn := q9j) rfl (q0c ?_)
 refine gg rfl (q01 rfl rfl (qkl s hB) (gg rfl (q02 rfl (fun g => ?_) (fun g => ?_))))
 ·rw [q0z] at g
  refine gg rfl (q08 rfl rfl rfl trivial ?_)
  rw [q32, if_pos g]
 have g : q26 s = 0 := q0A.1 g
 have hw : q32 s = if q0F (q38 s) s.pieces.length ≠ 0 then q0F (q38 s) s.pieces.length
  else if s.uses.any (q2C s.pieces.length) then 3
  else q0F (q7A s) s.seams.length := by rw [q32, if_neg (by simp [g])]
 rw [hw]
 refine gg rfl ?_
 rw [List.length_map]
 refine q0q (S := fun k : Nat => ([.ptr 0 0 0, Go.F.pieces s.pieces, q00 s.pieces.length, q00 k], [some (.row [s.enc] 7), none, none, none], [0, 0, 0, 0])) (C := fun k => k ≤ s.pieces.length ∧ q0F (q38 s) k = 0) (m := fun k => s.pieces.length - k) 0 ⟨Nat.zero_le _, rfl⟩ (by omega) ?_ ?_
 ·exact q03 rfl ⟨rfl, trivial⟩ rfl
 rintro k ⟨hk, h0⟩ N hN
 refine gg rfl (q02 rfl (fun e => ?_) (fun e => ?_))
 ·rw [q06] at e
  have hlt : k < s.pieces.length := by omega
  have w1 := wS (n := k)
  have hp := qkm (s.pieces.take k) (pc s.pieces k) (by rw [List.length_take]; omega) (hB.corners _ (qpu hlt)) (hB.widths _ (qpu hlt))
  refine gg rfl (q0k k rfl rfl rfl (qeL hlt) rfl (gg rfl (qdM k rfl (q1X (n := 7) (fun _ => rfl) _) ⟨_, _, rfl, rfl⟩ (by rw [List.length_map]; omega) ?_)))
  rw [← List.map_take]
  refine gg rfl (q01 rfl rfl hp (gg rfl (q02 rfl (fun f => ?_) (fun f => ?_))))
  ·rw [q0z] at f
   refine gg rfl (q04 (gg rfl (q08 rfl rfl rfl trivial ?_)))
   have f' : q38 s k ≠ 0 := f
   have hf := q5C (f := q38 s) h0 f' hlt
   rw [hf, if_pos f']; rfl
  rw [q0A] at f
  exact gg rfl (q04 (hN (k + 1) ⟨hlt, q3L h0 f⟩ (by omega) (q03 rfl ⟨rfl, trivial⟩ (by rw [w1]; rfl))))
 rw [q07] at e
 obtain rfl : k = s.pieces.length := by omega
 clear hN
 rw [if_neg (by simp [h0])]
 refine gg rfl (q04 (gg rfl ?_))
 rw [List.length_map]
 refine q0q (S := fun k : Nat => ([.ptr 0 0 0, Go.F.uses s.uses, q00 s.uses.length, q00 k], [some (.row [s.enc] 7), none, none, none], [0, 0, 0, 0])) (C := fun k => k ≤ s.uses.length ∧ ∀ j (hj : j < s.uses.length), j < k → q2C s.pieces.length s.uses[j] = false) (m := fun k => s.uses.length - k) 0 ⟨Nat.zero_le _, fun j _ h => by omega⟩ (by omega) ?_ ?_
 ·exact q03 rfl ⟨rfl, trivial⟩ rfl
 rintro k ⟨hk, hu⟩ N hN
 refine gg rfl (q02 rfl (fun e => ?_) (fun e => ?_))
 ·rw [q06] at e
  have hlt : k < s.uses.length := by omega
  have w1 := wS (n := k)
  have hx : (s.uses.map Use.enc)[k]? = some s.uses[k].enc := q1J hlt
  have bad : q2C s.pieces.length s.uses[k] = true → s.uses.any (q2C s.pieces.length) = true := fun h => q3c hlt h
  have hnx : q2C s.pieces.length s.uses[k] = false → ∀ j (hj : j < s.uses.length), j < k + 1 → q2C s.pieces.length s.uses[j] = false := by
   intro h j hj hjk
   by_cases ej : j = k
   ·subst ej; exact h
   exact hu j hj (by omega)
  generalize s.uses[k] = u at *
  refine gg rfl (q0k k rfl rfl rfl hx rfl (gg rfl (q05 rfl (fun f1 => ?_) (fun f1 => ?_))))
  ·rw [q06] at f1
   refine gg rfl (q0e rfl (gg rfl (q0e rfl (gg rfl (q0g rfl (gg rfl (q04 (gg rfl (q08 rfl rfl rfl trivial ?_)))))))))
   rw [if_pos (bad (by simp [q2C]; omega))]
  rw [q07] at f1
  refine gg rfl ?_
  rw [List.length_map]
  refine q05 rfl (fun f2 => ?_) (fun f2 => ?_)
  ·rw [q0D] at f2
   refine gg rfl (q0e rfl (gg rfl (q0g rfl (gg rfl (q04 (gg rfl (q08 rfl rfl rfl trivial ?_)))))))
   rw [if_pos (bad (by simp [q2C]; omega))]
  rw [q0E] at f2
  refine gg rfl (q05 rfl (fun f3 => ?_) (fun f3 => ?_))
  ·rw [q06] at f3
   refine gg rfl (q0g rfl (gg rfl (q04 (gg rfl (q08 rfl rfl rfl trivial ?_)))))
   rw [if_pos (bad (by simp [q2C]; omega))]
  rw [q07] at f3
  refine gg rfl (q02 rfl (fun f4 => ?_) (fun f4 => ?_))
  ·rw [q06] at f4
   refine gg rfl (q04 (gg rfl (q08 rfl rfl rfl trivial ?_)))
   rw [if_pos (bad (by simp [q2C]; omega))]
  rw [q07] at f4
  exact gg rfl (q04 (hN (k + 1) ⟨hlt, hnx (by simp [q2C]; omega)⟩ (by omega) (q03 rfl ⟨rfl, trivial⟩ (by rw [w1]; rfl))))
 rw [q07] at e
 obtain rfl : k = s.uses.length := by omega
 clear hN
 rw [if_neg (by rw [q2N fun j hj => hu j hj hj]; decide)]
 refine gg rfl (q04 (gg rfl ?_))
 rw [List.length_map]
 refine q0q (S := fun k : Nat => ([.ptr 0 0 0, sews s.seams, q00 s.seams.length, q00 k], [some (.row [s.enc] 7), none, none, none], [0, 0, 0, 0])) (C := fun k => k ≤ s.seams.length ∧ q0F (q7A s) k = 0) (m := fun k => s.seams.length - k) 0 ⟨Nat.zero_le _, rfl⟩ (by omega) ?_ ?_
 ·exact q03 rfl ⟨rfl, trivial⟩ rfl
 rintro k ⟨hk, h0⟩ N hN
 refine gg rfl (q02 rfl (fun e => ?_) (fun e => ?_))
 ·rw [q06] at e
  have hlt : k < s.seams.length := by omega
  have w1 := wS (n := k)
  have hx := qvv hlt
  have bad : ∀ x, qe2 s (sw s.seams k) = x → x ≠ 0 → q0F (q7A s) s.seams.length = x := by
   intro x h hx0
   have := q5C (f := q7A s) h0 (by show qe2 s (sw s.seams k) ≠ 0; rw [h]; exact hx0) hlt
   rw [this]; exact h
  have good : qe2 s (sw s.seams k) = 0 → q0F (q7A s) (k + 1) = 0 := fun h => q3L h0 h
  generalize sw s.seams k = m at *
  have e1 := qlb s m.pa m.ea
  have e2 := qlb s m.pb m.eb
  refine gg rfl (q0k k rfl rfl rfl hx rfl (gg rfl (q01 rfl rfl e1 ?_)))
  cases ha : q4Q s m.pa m.ea with
  | false =>
    refine gg rfl (q0e rfl (gg rfl (q0g rfl (gg rfl (q04 (gg rfl (q08 rfl rfl rfl trivial ?_)))))))
    rw [bad 3 (by rw [qe2, if_pos (.inl ha)]) (by decide)]
  | true =>
    refine gg rfl (q0j rfl (gg rfl (q01 rfl rfl e2 ?_)))
    cases hb : q4Q s m.pb m.eb with
    | false =>
      refine gg rfl (q0g rfl (gg rfl (q04 (gg rfl (q08 rfl rfl rfl trivial ?_)))))
      rw [bad 3 (by rw [qe2, if_pos (.inr hb)]) (by decide)]
    | true =>
      have hn : ¬ (q4Q s m.pa m.ea = false ∨ q4Q s m.pb m.eb = false) := by rw [ha, hb]; simp
      refine gg rfl (q0m rfl (gg rfl (q02 rfl (fun f => ?_) (fun f => ?_))))
      ·rw [q06] at f
       refine gg rfl (q04 (gg rfl (q08 rfl rfl rfl trivial ?_)))
       rw [bad 1 (by rw [qe2, if_neg hn, if_pos f]) (by decide)]
      rw [q07] at f
      exact gg rfl (q04 (hN (k + 1) ⟨hlt, good (by rw [qe2, if_neg hn, if_neg (by omega)])⟩ (by omega) (q03 rfl ⟨rfl, trivial⟩ (by rw [w1]; rfl))))
 rw [q07] at e
 obtain rfl : k = s.seams.length := by omega
 refine gg rfl (q04 (gg rfl (q08 rfl rfl rfl trivial ?_)))
 rw [h0]
end Go.F

namespace Go.F
attribute [local irreducible] IntKind.wrap wpM
def qgL : Piece := ⟨⟨#[]⟩, [], 0, [], [], [], false⟩
structure StyOk (s : Sty) : Prop where
 mults : s.mults.length = s.sizes.length
 size : 0 < s.sizes.length
 sizes : s.sizes.length ≤ 12
 pieces : s.pieces.length ≤ 12
 uses : s.uses.length ≤ 12
 seams : s.seams.length ≤ 24
 use : ∀ u ∈ s.uses, 0 ≤ u.piece ∧ u.piece < s.pieces.length ∧ 1 ≤ u.count ∧ u.count ≤ 4
 piece : ∀ i, i < s.pieces.length → q38 s i = 0
 mult : ∀ m ∈ s.mults, -100 ≤ m ∧ m ≤ 100
 base : 0 ∈ s.mults
theorem qdC {s : Sty} (h : q32 s = 0) : StyOk s := by
 unfold q32 at h
 split at h
 ·rename_i h1; exact absurd h h1
 rename_i h1
 split at h
 ·rename_i h2; exact absurd h h2
 rename_i h2
 split at h
 ·cases h
 rename_i h3
 have h1 : q26 s = 0 := by simpa using h1
 have h2 : q0F (q38 s) s.pieces.length = 0 := by simpa using h2
 unfold q26 at h1
 split at h1
 ·cases h1
 split at h1
 ·cases h1
 split at h1
 ·cases h1
 split at h1
 ·cases h1
 split at h1
 ·cases h1
 split at h1
 ·cases h1
 split at h1
 ·cases h1
 rename_i g1 g2 g3 g4 g5 g6 g7
 refine ⟨by omega, by omega, by omega, by omega, by omega, by omega, fun u hu => ?_, fun i hi => q1B h2 hi, fun m hm => ?_, ?_⟩
 ·have hb : q2C s.pieces.length u = false := by
   cases hb : q2C s.pieces.length u with
   | false => rfl
   | true => exact absurd (List.any_eq_true.2 ⟨u, hu, hb⟩) h3
  simp [q2C] at hb
  omega
 ·have hb : (decide (m < -100) || decide (100 < m)) = false := by
   cases hb : (decide (m < -100) || decide (100 < m)) with
   | false => rfl
   | true => exact absurd (List.any_eq_true.2 ⟨m, hm, hb⟩) g7
  simp at hb
  omega
 rcases Classical.em (0 ∈ s.mults) with h | h
 ·exact h
 exact absurd (.inr h) g3
def qbe (s : Sty) (size use : Int) : Prop := size < 0 ∨ (s.sizes.length : Int) ≤ size ∨ use < 0 ∨ (s.uses.length : Int) ≤ use
instance (s : Sty) (a b : Int) : Decidable (qbe s a b) := by unfold qbe; exact inferInstance
def q2S (s : Sty) (use : Int) : Piece := pc s.pieces (us s.uses use.toNat).piece.toNat
def q3i (s : Sty) (size use : Int) : List Edge × Piece × Int :=
 if q32 s ≠ 0 then ([], qgL, q32 s)
 else if qbe s size use then ([], qgL, 3)
 else ((q0B (q2S s use) (mu s.mults size.toNat)).1, q2S s use, (q0B (q2S s use) (mu s.mults size.toNat)).2)
set_option maxHeartbeats 4000000 in
theorem qfU (s : Sty) (size use : Int) (hB : StyB s) : PU q60 [s.enc, .int .i64 size, .int .i64 use] = some (.tup [edges (q3i s size use).1, (q3i s size use).2.1.enc, .int .i64 (q3i s size use).2.2]) := by
 refine q0h (fn := q5N) rfl (q0c ?_)
 refine gg rfl (q01 rfl rfl (q1c s hB) (gg rfl (q02 rfl (fun g => ?_) (fun g => ?_))))
 ·rw [q0z] at g
  refine gg rfl (q08 rfl rfl rfl trivial ?_)
  rw [q3i, if_pos g]; rfl
 have g : q32 s = 0 := q0A.1 g
 have hok := qdC g
 have hw : q3i s size use = if qbe s size use then ([], qgL, 3) else ((q0B (q2S s use) (mu s.mults size.toNat)).1, q2S s use, (q0B (q2S s use) (mu s.mults size.toNat)).2) := by rw [q3i, if_neg (by simp [g])]
 rw [hw]
 refine gg rfl (q05 rfl (fun f1 => ?_) (fun f1 => ?_))
 ·rw [q06] at f1
  refine gg rfl (q0e rfl (gg rfl (q0e rfl (gg rfl (q0g rfl (gg rfl (q08 rfl rfl rfl trivial ?_)))))))
  rw [if_pos (.inl f1)]; rfl
 rw [q07] at f1
 refine gg rfl ?_
 rw [List.length_map]
 refine q05 rfl (fun f2 => ?_) (fun f2 => ?_)
 ·rw [q0D] at f2
  refine gg rfl (q0e rfl (gg rfl (q0g rfl (gg rfl (q08 rfl rfl rfl trivial ?_)))))
  rw [if_pos (.inr (.inl f2))]; rfl
 rw [q0E] at f2
 refine gg rfl (q05 rfl (fun f3 => ?_) (fun f3 => ?_))
 ·rw [q06] at f3
  refine gg rfl (q0g rfl (gg rfl (q08 rfl rfl rfl trivial ?_)))
  rw [if_pos (.inr (.inr (.inl f3)))]; rfl
 rw [q07] at f3
 refine gg rfl ?_
 rw [List.length_map]
 refine q02 rfl (fun f4 => ?_) (fun f4 => ?_)
 ·rw [q0D] at f4
  refine gg rfl (q08 rfl rfl rfl trivial ?_)
  rw [if_pos (.inr (.inr (.inr f4)))]; rfl
 rw [q0E] at f4
 have hno : ¬ qbe s size use := by unfold qbe; omega
 rw [if_neg hno]
 have hu : use.toNat < s.uses.length := by omega
 have hup := hok.use (us s.uses use.toNat) (by rw [q9Q hu]; exact List.getElem_mem _)
 have hpl : (us s.uses use.toNat).piece.toNat < s.pieces.length := by omega
 have hml : size.toNat < s.mults.length := by rw [hok.mults]; omega
 have hg := q7R (q2S s use) (mu s.mults size.toNat) (by have := hB.corners _ (qpu hpl); unfold q2S; omega)
 refine gg rfl (q0k use.toNat rfl rfl (by omega) (qde hu) rfl ?_)
 refine gg rfl (q0k (us s.uses use.toNat).piece.toNat rfl rfl (by omega) (qeL hpl) rfl ?_)
 refine gg rfl (q0k size.toNat rfl rfl (by omega) (qpw hml) rfl ?_)
 refine gg rfl (q01 rfl rfl hg (gg rfl (q08 rfl rfl rfl trivial ?_)))
 rfl
def qdL (s : Sty) (size use : Int) : List Spot × Int :=
 if (q3i s size use).2.2 ≠ 0 then ([], (q3i s size use).2.2) else q2F (q3i s size use).1 (q3i s size use).2.1.widths
theorem qtJ (s : Sty) (size use : Int) (hB : StyB s) : PU q48 [s.enc, .int .i64 size, .int .i64 use] = some (qll (qdL s size use)) := by
 have h := qfU s size use hB
 unfold qdL
 generalize q3i s size use = o at *
 refine q0h (fn := qbP) rfl (q0c ?_)
 refine gg rfl (q01 rfl rfl h (gg rfl (q02 rfl (fun g => ?_) (fun g => ?_))))
 ·rw [q0z] at g
  refine gg rfl (q08 rfl rfl rfl trivial ?_)
  rw [if_pos g]; rfl
 rw [q0A] at g
 rw [if_neg (by simp [g])]
 exact gg rfl (q01 rfl rfl (qmE o.1 o.2.1.widths) (gg rfl (q08 rfl rfl rfl trivial rfl)))
def qbB (s : Sty) (size use : Int) : Spot × Int :=
 if (q3i s size use).2.2 ≠ 0 then (⟨0, 0⟩, (q3i s size use).2.2) else (pt (eg (q3i s size use).1 0).line 0, 0)
theorem qtK {s : Sty} {size use : Int} (h : (q3i s size use).2.2 = 0) : q0Q (q3i s size use).1 = 0 ∧ q32 s = 0 ∧ ¬ qbe s size use := by
 unfold q3i at h ⊢
 split at h
 ·rename_i h1; exact absurd h h1
 rename_i h1
 rw [if_neg h1]
 split at h
 ·cases h
 rename_i h2
 rw [if_neg h2]
 exact ⟨(q5D h).2.2.1, by simpa using h1, h2⟩
theorem qlc (s : Sty) (size use : Int) (hB : StyB s) : PU q49 [s.enc, .int .i64 size, .int .i64 use] = some (.tup [(qbB s size use).1.enc, .int .i64 (qbB s size use).2]) := by
 have h := qfU s size use hB
 have hk := qtK (s := s) (size := size) (use := use)
 unfold qbB
 generalize q3i s size use = o at *
 refine q0h (fn := q80) rfl (q0c ?_)
 refine gg rfl (q01 rfl rfl h (gg rfl (q02 rfl (fun g => ?_) (fun g => ?_))))
 ·rw [q0z] at g
  refine gg rfl (q08 rfl rfl rfl trivial ?_)
  rw [if_pos g]; rfl
 rw [q0A] at g
 have hc := (hk g).1
 have h2 := (q1w hc).1
 have hl := (q20 hc (eg o.1 0) (by rw [q8s (by omega)]; exact List.getElem_mem _)).1
 rw [if_neg (by simp [g])]
 refine gg rfl (q0k 0 rfl rfl rfl (q24 (by omega)) rfl ?_)
 refine gg rfl (q0k 0 rfl rfl rfl (q0T (by omega)) rfl ?_)
 exact gg rfl (q08 rfl rfl rfl trivial rfl)
structure Plc where
 garment : Int
 use : Int
 copy : Int
 flip : Bool
 quarter : Int
 x : Int
 y : Int
 deriving DecidableEq
def Plc.enc (p : Plc) : D := .agg [.int .i64 p.garment, .int .i64 p.use, .int .i64 p.copy, .bool p.flip, .int .i64 p.quarter, .int .i64 p.x, .int .i64 p.y]
def qoc (l : List Plc) : D := .lst (l.map Plc.enc)
theorem qdD (p : Plc) : plain 4 p.enc = true := rfl
theorem quO (p : Plc) : dat 4 p.enc = true := rfl
def qbf (u : Use) (i k : Nat) : Plc := ⟨0, i, k, u.pair && decide (k % 2 = 1), 0, 0, 0⟩
def q1y (u : Use) (i n : Nat) : List Plc := (List.range n).map (qbf u i)
def q13 (l : List Use) : Nat → List Plc
 | 0 => []
 | i + 1 => q13 l i ++ q1y (us l i) i (us l i).count.toNat
def q7O (s : Sty) : List Plc := if q32 s ≠ 0 then [] else q13 s.uses s.uses.length
theorem qbg {l : List Use} (h : ∀ u ∈ l, u.count ≤ 4) : ∀ i, i ≤ l.length → (q13 l i).length ≤ 4 * i
 | 0, _ => by simp [q13]
 | i + 1, hi => by
   have h1 := qbg h i (by omega)
   have h2 := h (us l i) (by rw [q9Q (by omega)]; exact List.getElem_mem _)
   rw [q13, List.length_append]
   simp only [q1y, List.length_map, List.length_range]
   omega
theorem tmod2 (k : Nat) : ((k : Int)).tmod 2 = ((k % 2 : Nat) : Int) := by
 rw [Int.tmod_eq_emod_of_nonneg (by omega)]; omega
set_option maxHeartbeats 8000000 in
theorem qld (s : Sty) (hB : StyB s) : PU q5Y [s.enc] = some (qoc (q7O s)) := by
 refine q0h (fn := q81) rfl (q0c ?_)
 refine gg rfl (q01 rfl rfl (q1c s hB) (gg rfl (q02 rfl (fun g => ?_) (fun g => ?_))))
 ·rw [q0z] at g
  refine gg rfl (q08 rfl rfl rfl trivial ?_)
  rw [q7O, if_pos g]; rfl
 have g : q32 s = 0 := q0A.1 g
 have hok := qdC g
 have hlen := qbg (l := s.uses) (fun u hu => (hok.use u hu).2.2.2)
 have hu12 := hok.uses
 rw [q7O, if_neg (by simp [g])]
 refine gg rfl ?_
 rw [List.length_map]
 refine q0q (S := fun k : Nat => ([.ref 0 0 (q13 s.uses k).length, Go.F.uses s.uses, q00 s.uses.length, q00 k], [some (.row ((q13 s.uses k).map Plc.enc) 7), none, none, none], [0, 0, 0, 0])) (C := fun k => k ≤ s.uses.length) (m := fun k => s.uses.length - k) 0 (Nat.zero_le _) (by omega) ?_ ?_
 ·exact q03 rfl ⟨rfl, trivial⟩ rfl
 intro k hk N hN
 refine gg rfl (q02 rfl (fun e => ?_) (fun e => ?_))
 ·rw [q06] at e
  have hlt : k < s.uses.length := by omega
  have w1 := wS (n := k)
  have hx := qde hlt
  have huk := hok.use (us s.uses k) (by rw [q9Q hlt]; exact List.getElem_mem _)
  have hl0 := hlen k hk
  have hstep : q13 s.uses (k + 1) = q13 s.uses k ++ q1y (us s.uses k) k (us s.uses k).count.toNat := rfl
  generalize us s.uses k = u at *
  generalize q13 s.uses k = L at *
  have ec : u.count = ((u.count.toNat : Nat) : Int) := by omega
  refine gg rfl (q0k k rfl rfl rfl hx rfl (gg rfl (q0q (S := fun n : Nat => ([.ref 0 0 (L ++ q1y u k n).length, q00 k, .ptr 2 0 0, Go.F.uses s.uses, q00 s.uses.length, q00 k, .int .i64 u.count, q00 n], [some (.row ((L ++ q1y u k n).map Plc.enc) 7), none, some (.row [u.enc] 3), none, none, none, none, none], [0, 0, 0, 0, 0, 0, 0, 0])) (C := fun n => n ≤ u.count.toNat) (m := fun n => u.count.toNat - n) 0 (Nat.zero_le _) (by omega) ?_ ?_)))
  ·exact q03 rfl ⟨q0b qdD _, rfl, trivial⟩ (by simp [q1y, uses, q00, Use.enc])
  intro n hn N2 hN2
  refine gg rfl (q02 rfl (fun f => ?_) (fun f => ?_))
  ·rw [q06] at f
   have wn := wS (n := n)
   have hst : (L ++ q1y u k (n + 1)).map Plc.enc = (L ++ q1y u k n).map Plc.enc ++ [(qbf u k n).enc] := by
    simp [q1y, List.range_succ]
   refine gg rfl (q05 rfl (fun p1 => ?_) (fun p1 => ?_))
   ·have p1 : u.pair = true := p1
    have hcp : qbf u k n = ⟨0, k, n, decide (n % 2 = 1), 0, 0, 0⟩ := by rw [qbf, p1]; rfl
    have hbq : eqb ((n : Int).tmod 2) 1 = decide (n % 2 = 1) := by
     rw [tmod2, q2i]; apply decide_eq_decide.2; omega
    rw [hcp] at hst
    refine gg rfl (q4R rfl rfl (by decide) ?_)
    refine gg rfl ?_
    rw [hbq]
    refine gg rfl (q1E rfl rfl rfl rfl rfl rfl (by simp [q1y]) (Nat.zero_le _) (by simp [q0U, q1y]; omega) ?_)
    refine gg rfl (q04 (hN2 (n + 1) (by omega) (by omega) (q03 rfl ⟨?_, rfl, trivial⟩ ?_)))
    ·rw [List.all_append, q0b qdD]; rfl
    rw [hst, wn]
    simp [q1y, uses, q00, Use.enc]
    exact ⟨by omega, rfl⟩
   have p1 : u.pair = false := p1
   have hcp : qbf u k n = ⟨0, k, n, false, 0, 0, 0⟩ := by rw [qbf, p1]; rfl
   rw [hcp] at hst
   refine gg rfl (q1E rfl rfl rfl rfl rfl rfl (by simp [q1y]) (Nat.zero_le _) (by simp [q0U, q1y]; omega) ?_)
   refine gg rfl (q04 (hN2 (n + 1) (by omega) (by omega) (q03 rfl ⟨?_, rfl, trivial⟩ ?_)))
   ·rw [List.all_append, q0b qdD]; rfl
   rw [hst, wn]
   simp [q1y, uses, q00, Use.enc]
   exact ⟨by omega, rfl⟩
  rw [q07] at f
  obtain rfl : n = u.count.toNat := by omega
  clear hN2
  refine gg rfl (q04 (gg rfl (q04 (hN (k + 1) hlt (by omega) (q03 rfl ⟨q0b qdD _, trivial⟩ ?_)))))
  rw [hstep, w1]; rfl
 rw [q07] at e
 obtain rfl : k = s.uses.length := by omega
 refine gg rfl (q04 (gg rfl (q08 rfl rfl rfl ⟨q3s (by simp) (q1t quO _), trivial⟩ ?_)))
 rw [q5n (by simp)]; rfl
def q6e (s : Sty) (sizes : List Int) : List Int × Int :=
 if q32 s ≠ 0 then ([], q32 s)
 else if (sizes.any fun z => decide (z < 0) || decide ((s.sizes.length : Int) ≤ z)) then ([], 3)
 else (s.uses.map fun u => u.count * sizes.length, 0)
set_option maxHeartbeats 8000000 in
theorem qod (s : Sty) (sizes : List Int) (hB : StyB s) (hz : sizes.length ≤ 1000) : PU q6T [s.enc, ints sizes] = some (.tup [ints (q6e s sizes).1, .int .i64 (q6e s sizes).2]) := by
 refine q0h (fn := q9k) rfl (q0c ?_)
 refine gg rfl (q01 rfl rfl (q1c s hB) (gg rfl (q02 rfl (fun g => ?_) (fun g => ?_))))
 ·rw [q0z] at g
  refine gg rfl (q08 rfl rfl rfl trivial ?_)
  rw [q6e, if_pos g]; rfl
 have g : q32 s = 0 := q0A.1 g
 have hok := qdC g
 have hu12 := hok.uses
 have hw : q6e s sizes = if (sizes.any fun z => decide (z < 0) || decide ((s.sizes.length : Int) ≤ z)) then (([], 3) : List Int × Int) else (s.uses.map fun u => u.count * (sizes.length : Int), 0) := by rw [q6e, if_neg (by simp [g])]
 rw [hw]
 refine gg rfl ?_
 rw [List.length_map]
 refine q0q (S := fun k : Nat => ([ints sizes, .ptr 1 0 0, ints sizes, q00 sizes.length, q00 k], [none, some (.row [s.enc] 7), none, none, none], [0, 0, 0, 0, 0])) (C := fun k => k ≤ sizes.length ∧ ∀ j (hj : j < sizes.length), j < k → (decide (sizes[j] < 0) || decide ((s.sizes.length : Int) ≤ sizes[j])) = false) (m := fun k => sizes.length - k) 0 ⟨Nat.zero_le _, fun j _ h => by omega⟩ (by omega) ?_ ?_
 ·exact q03 rfl ⟨rfl, trivial⟩ rfl
 rintro k ⟨hk, hm⟩ N hN
 refine gg rfl (q02 rfl (fun e => ?_) (fun e => ?_))
 ·rw [q06] at e
  have hlt : k < sizes.length := by omega
  have w1 := wS (n := k)
  have bad : (decide (sizes[k] < 0) || decide ((s.sizes.length : Int) ≤ sizes[k])) = true → (sizes.any fun z => decide (z < 0) || decide ((s.sizes.length : Int) ≤ z)) = true := fun h => q3c hlt h
  have hx : (sizes.map q00)[k]? = some (.int .i64 sizes[k]) := q1J hlt
  refine gg rfl (q0k k rfl rfl rfl hx rfl (gg rfl (q05 rfl (fun f1 => ?_) (fun f1 => ?_))))
  ·rw [q06] at f1
   refine gg rfl (q0g rfl (gg rfl (q04 (gg rfl (q08 rfl rfl rfl trivial ?_)))))
   rw [if_pos (bad (by simp; omega))]; rfl
  rw [q07] at f1
  refine gg rfl ?_
  rw [List.length_map]
  refine q02 rfl (fun f2 => ?_) (fun f2 => ?_)
  ·rw [q0D] at f2
   refine gg rfl (q04 (gg rfl (q08 rfl rfl rfl trivial ?_)))
   rw [if_pos (bad (by simp; omega))]; rfl
  rw [q0E] at f2
  refine gg rfl (q04 (hN (k + 1) ⟨hlt, fun j hj hjk => ?_⟩ (by omega) (q03 rfl ⟨rfl, trivial⟩ (by rw [w1]; rfl))))
  by_cases ej : j = k
  ·subst ej; simp; omega
  exact hm j hj (by omega)
 rw [q07] at e
 obtain rfl : k = sizes.length := by omega
 clear hN
 rw [if_neg (by rw [q2N fun j hj => hm j hj hj]; decide)]
 refine gg rfl (q04 (gg rfl ?_))
 rw [List.length_map]
 refine q0q (S := fun k : Nat => ([ints sizes, .ref 1 0 k, Go.F.uses s.uses, q00 s.uses.length, q00 k], [none, some (.row (((s.uses.take k).map fun u => u.count * (sizes.length : Int)).map q00) 1), none, none, none], [0, 0, 0, 0, 0])) (C := fun k => k ≤ s.uses.length) (m := fun k => s.uses.length - k) 0 (Nat.zero_le _) (by omega) ?_ ?_
 ·exact q03 rfl ⟨rfl, trivial⟩ rfl
 intro k hk N hN
 refine gg rfl (q02 rfl (fun e => ?_) (fun e => ?_))
 ·rw [q06] at e
  have hlt : k < s.uses.length := by omega
  have w1 := wS (n := k)
  have huk := hok.use (us s.uses k) (by rw [q9Q hlt]; exact List.getElem_mem _)
  have hst : (((s.uses.take (k + 1)).map fun u => u.count * (sizes.length : Int)).map q00) = ((s.uses.take k).map fun u => u.count * (sizes.length : Int)).map q00 ++ [q00 ((us s.uses k).count * sizes.length)] := by
   rw [List.take_succ_eq_append_getElem hlt, List.map_append, List.map_append, q9Q hlt]; rfl
  have hp : (us s.uses k).count * (sizes.length : Int) ≤ 4 * 1000 := Int.mul_le_mul (by omega) (by omega) (by omega) (by omega)
  have hp0 : 0 ≤ (us s.uses k).count * (sizes.length : Int) := Int.mul_nonneg (by omega) (by omega)
  have w2 : IntKind.i64.wrap ((us s.uses k).count * (((sizes.map q00).length : Nat) : Int)) = (us s.uses k).count * (sizes.length : Int) := by rw [List.length_map]; exact wrap64 (by omega) (by omega)
  refine gg rfl (q0k k rfl rfl rfl (qde hlt) rfl (gg rfl ?_))
  rw [w2]
  refine q1E rfl rfl rfl rfl rfl rfl (by simp; omega) (Nat.zero_le _) (by simp [q0U]; omega) ?_
  refine gg rfl (q04 (hN (k + 1) hlt (by omega) (q03 rfl ⟨?_, trivial⟩ ?_)))
  ·rw [List.all_append, q0b q9W]; rfl
  rw [hst, w1]; rfl
 rw [q07] at e
 obtain rfl : k = s.uses.length := by omega
 rw [List.take_length]
 refine gg rfl (q04 (gg rfl (q08 rfl rfl rfl ⟨q3s (by simp) (q1t qln _), trivial⟩ ?_)))
 rw [q5n (by simp)]; rfl
end Go.F

namespace Go.F
mutual
def eqD : D → D → Bool
 | .bool a, .bool b => a == b
 | .int k n, .int k' n' => decide (k = k') && decide (n = n')
 | .str a, .str b => decide (a = b)
 | .lst l, .lst m => eqL l m
 | .agg l, .agg m => eqL l m
 | .tup l, .tup m => eqL l m
 | _, _ => false
def eqL : List D → List D → Bool
 | [], [] => true
 | a :: l, b :: m => eqD a b && eqL l m
 | _, _ => false
end
mutual
theorem qtb : ∀ {a b : D}, eqD a b = true → a = b
 | .bool a, .bool b, h => by simp [eqD] at h; rw [h]
 | .int k n, .int k' n', h => by simp [eqD] at h; rw [h.1, h.2]
 | .str a, .str b, h => by simp [eqD] at h; rw [h]
 | .lst l, .lst m, h => by rw [eqD] at h; rw [qm3 h]
 | .agg l, .agg m, h => by rw [eqD] at h; rw [qm3 h]
 | .tup l, .tup m, h => by rw [eqD] at h; rw [qm3 h]
 | .float .., _, h => by simp [eqD] at h
 | .nilsl, _, h => by simp [eqD] at h
 | .ref .., _, h => by simp [eqD] at h
 | .pl .., _, h => by simp [eqD] at h
 | .ptr .., _, h => by simp [eqD] at h
 | .fn .., _, h => by simp [eqD] at h
 | .mref .., _, h => by simp [eqD] at h
 | .mlst .., _, h => by simp [eqD] at h
 | .opq .., _, h => by simp [eqD] at h
 | .bad, _, h => by simp [eqD] at h
theorem qm3 : ∀ {a b : List D}, eqL a b = true → a = b
 | [], [], _ => rfl
 | a :: l, b :: m, h => by rw [eqL, Bool.and_eq_true] at h; rw [qtb h.1, qm3 h.2]
 | [], _ :: _, h => by simp [eqL] at h
 | _ :: _, [], h => by simp [eqL] at h
end
def eqO : Option D → D → Bool
 | some a, b => eqD a b
 | none, _ => false
theorem eqO_eq {a : Option D} {b : D} (h : eqO a b = true) : a = some b := by
 cases a with
 | none => simp [eqO] at h
 | some a => rw [qtb h]
def qul : Piece := ⟨⟨#[102, 114, 111, 110, 116]⟩,
 [⟨⟨#[101, 97]⟩, [⟨0, 0⟩, ⟨10, 0⟩]⟩, ⟨⟨#[101, 98]⟩, [⟨10, 0⟩, ⟨10, 10⟩]⟩, ⟨⟨#[101, 99]⟩, [⟨10, 10⟩, ⟨0, 10⟩]⟩, ⟨⟨#[101, 100]⟩, [⟨0, 10⟩, ⟨0, 0⟩]⟩],
 2, [], [⟨0, 0⟩, ⟨2, 0⟩, ⟨2, 0⟩, ⟨0, 0⟩], [1, 1, 1, 1], false⟩
def plainS : Sty := ⟨⟨#[115, 104, 105, 114, 116]⟩, [⟨#[83]⟩, ⟨#[77]⟩], [0, 3], [qul], [⟨0, 3, true⟩], [], []⟩
theorem qro : eqO (run prog q6Z q0r 12 qcx []) plainS.enc = true := by
 decide +kernel
theorem qtc : PU qcx [] = some plainS.enc := qoo (eqO_eq qro)
end Go.F

namespace Go.F
attribute [local irreducible] IntKind.wrap wpM
def nI (l : List Int) (i : Nat) : Int := l.getD i 0
theorem qs9 {l : List Int} {i : Nat} (h : i < l.length) : (l.map q00)[i]? = some (.int .i64 (nI l i)) := by simp [nI, h, q00]
theorem qsa {l : List Int} {i : Nat} (h : i < l.length) : nI l i = l[i] := by simp [nI, h]
theorem qhG (p q : List Int) (hp : p.length < 4611686018427387904) : PU q8v [ints p, ints q] = some (.bool (decide (p = q))) := by
 refine q0h (fn := q82) rfl (q0c ?_)
 refine gg rfl (q02 rfl (fun h1 => ?_) (fun h1 => ?_))
 ·refine gg rfl (q08 rfl rfl rfl trivial ?_)
  rw [q0z, List.length_map, List.length_map] at h1
  have : p ≠ q := by rintro rfl; exact h1 rfl
  simp [this]
 rw [q0A, List.length_map, List.length_map] at h1
 refine gg rfl (q0q (S := fun k : Nat => ([ints p, ints q, q00 k], [none, none, none], [0, 0, 0])) (C := fun k => k ≤ p.length ∧ ∀ i, i < k → nI p i = nI q i) (m := fun k => p.length - k) 0 ⟨by omega, fun i hi => by omega⟩ (by omega) ?_ ?_)
 ·exact q03 rfl trivial (by simp [ints, q00])
 intro k ⟨hk, hall⟩ N hN
 refine gg rfl (q02 rfl (fun g1 => ?_) (fun g1 => ?_))
 ·rw [q06, List.length_map] at g1
  have hlt : k < p.length := by omega
  have w1 := wS (n := k)
  refine gg rfl (q0k k rfl rfl rfl (qs9 hlt) rfl (gg rfl (q0k k rfl rfl rfl (qs9 (by omega)) rfl ?_)))
  refine gg rfl (q02 rfl (fun g2 => ?_) (fun g2 => ?_))
  ·rw [q0z] at g2
   refine gg rfl (q04 (gg rfl (q08 rfl rfl rfl trivial ?_)))
   have : p ≠ q := by rintro rfl; exact g2 rfl
   simp [this]
  rw [q0A] at g2
  refine gg rfl (q04 (hN (k + 1) ⟨by omega, fun i hi => ?_⟩ (by omega) (q03 rfl trivial (by simp [ints, q00, w1]))))
  by_cases hik : i < k
  ·exact hall i hik
  obtain rfl : i = k := by omega
  exact g2
 rw [q07, List.length_map] at g1
 refine gg rfl (q04 (gg rfl (q08 rfl rfl rfl trivial ?_)))
 have : p = q := by
  refine List.ext_getElem (by omega) fun i h1 h2 => ?_
  have := hall i (by omega)
  rwa [qsa h1, qsa h2] at this
 simp [this]
theorem qom : q32 plainS = 0 := by decide +kernel
theorem pl_cut : qdL plainS 1 0 = ([⟨-1, -1⟩, ⟨17, -1⟩, ⟨17, 11⟩, ⟨-1, 11⟩], 0) := by decide +kernel
theorem qu0 : qbB plainS 1 0 = (⟨0, 0⟩, 0) := by decide +kernel
theorem qqz : (q7O plainS).map Plc.enc = [(⟨0, 0, 0, false, 0, 0, 0⟩ : Plc).enc, (⟨0, 0, 1, true, 0, 0, 0⟩ : Plc).enc, (⟨0, 0, 2, false, 0, 0, 0⟩ : Plc).enc] := by
 rw [q7O, if_neg (by rw [qom]; decide)]; rfl
theorem qsb : q6e plainS [0, 1, 1] = ([9], 0) := by
 rw [q6e, if_neg (by rw [qom]; decide)]; decide
def qon : Sty := ⟨⟨#[]⟩, [], [], [], [], [], []⟩
theorem qsc : q32 qon = 1 := by decide +kernel
end Go.F

namespace Go.F
theorem qu6 {f : FuncId} {fn : KFn} {args : List D} {Q : D → Prop} (hf : tab f = some fn) (hw : wp TT (shr TT 6) 0 fn.code (enter args) empty qf9 0 (qgt fn fun d h _ _ => ws2 h d Q)) : ∃ r, Q r ∧ PU f args = some r := by
 obtain ⟨F, cd, h1, h2, h3⟩ := tt_ok.tab f fn hf
 obtain ⟨d, h', z', nx', q1, e1⟩ := qcZ tt_ok (qkL tt_ok 6) h2 h3 hw
 obtain ⟨d', h4, h5⟩ := qq0 q1
 refine ⟨d', h5, qlO (e1.up.mono fun M hM => ?_)⟩
 obtain ⟨M', rfl, hM'⟩ := hM
 simp only [EM, env, h1, h2]
 have hM2 : body prog (env prog q6Z q0r M') (q0r f) F cd args empty qf9 0 = some (d, h', z', nx') := hM'
 rw [hM2]
 exact h4
theorem boolI {f : FuncId} {fn : KFn} {args : List D} {R : Prop} (hf : tab f = some fn)
 (hw : wpM TT (shr TT 6) 0 [.code fn.code] .normal (enter args) empty qf9 0 (qgt fn fun d h _ _ => ws2 h d fun d => ∃ b : Bool, d = .bool b ∧ (b = true → R))) : ∃ b : Bool, PU f args = some (.bool b) ∧ (b = true → R) := by
 simp only [wpM] at hw
 obtain ⟨r, ⟨b, rfl, hb⟩, h2⟩ := qu6 hf hw
 exact ⟨b, h2, hb⟩
attribute [local irreducible] IntKind.wrap wpM
section
variable {T : Tab} {sh : Shr} {nx0 : Nat} {t : q0u} {h : q0f} {z : Frz} {nx : Nat}
theorem qbI {fn : KFn} {ex : Ex} {Q : D → Prop} {d d' : D} {rows : List (List D × Nat × Nat)} (hex : (match ex with | .exit _ => false | _ => true) = true) (hd : dres t h fn.res = some d) (hs : dr2 h d = some (rows, d')) (hr : q4B rows) (he : Q d') :
 wpM T sh nx0 [] ex t h z nx (qgt fn fun d h _ _ => ws2 h d Q) := by
 refine q04 ?_
 cases ex with
 | exit i => cases hex
 | normal => exact q6M hd (qdG hs hr he)
 | ret => exact q6M hd (qdG hs hr he)
end
structure PcL (p : Piece) : Prop where
 edges : p.edges.length ≤ 20
 corners : p.corners.length ≤ 20
 widths : p.widths.length ≤ 20
 notches : p.notches.length ≤ 20
 line : ∀ i, i < p.edges.length → (eg p.edges i).line.length ≤ 80 ∧ (eg p.edges i).name.size ≤ 100
theorem qiZ (p : Piece) : p.enc = .agg [.str p.name, .lst (p.edges.map Edge.enc), .int .i64 p.grain, .lst (p.notches.map Ntc.enc), .lst (p.corners.map Spot.enc), .lst (p.widths.map q00), .bool p.match_] := rfl
set_option maxHeartbeats 8000000 in
theorem qlP (p : Piece) : ∃ b : Bool, PU qh2 [p.enc, .int .i64 80] = some (.bool b) ∧ (b = true → PcL p) := by
 refine boolI (fn := qbQ) rfl ?_
 rw [qiZ]
 refine gg rfl (q05 rfl (fun g0 => ?_) (fun g0 => ?_))
 ·exact gg rfl (q0e rfl (gg rfl (q0e rfl (gg rfl (q0g rfl (gg rfl (qbI rfl rfl rfl trivial ⟨false, rfl, fun h => by cases h⟩)))))))
 refine gg rfl (q05 rfl (fun g1 => ?_) (fun g1 => ?_))
 ·exact gg rfl (q0e rfl (gg rfl (q0g rfl (gg rfl (qbI rfl rfl rfl trivial ⟨false, rfl, fun h => by cases h⟩)))))
 refine gg rfl (q05 rfl (fun g2 => ?_) (fun g2 => ?_))
 ·exact gg rfl (q0g rfl (gg rfl (qbI rfl rfl rfl trivial ⟨false, rfl, fun h => by cases h⟩)))
 refine gg rfl (q02 rfl (fun g3 => ?_) (fun g3 => ?_))
 ·exact gg rfl (qbI rfl rfl rfl trivial ⟨false, rfl, fun h => by cases h⟩)
 rw [q07, List.length_map] at g0 g1 g2 g3
 refine gg rfl (q0q (S := fun a : Nat × Nat => ([.int .i64 80, .ptr 1 0 0, q00 a.2, q00 a.1], [none, some (.row [p.enc] 7), none, none], [0, 0, 0, 0])) (C := fun a => a.1 ≤ p.edges.length ∧ a.2 ≤ 80 * a.1 ∧ ∀ j, j < a.1 → (eg p.edges j).line.length ≤ 80 ∧ (eg p.edges j).name.size ≤ 100) (m := fun a => p.edges.length - a.1) (0, 0) ⟨Nat.zero_le _, Nat.zero_le _, fun j h => by simp at h⟩ (by show p.edges.length - 0 < _; omega) ?_ ?_)
 ·exact q03 rfl ⟨rfl, trivial⟩ rfl
 rintro ⟨k, n⟩ ⟨hk, hn, hj⟩ N hN
 simp only at hk hn hj
 simp only [qiZ]
 refine gg rfl ?_
 rw [List.length_map]
 refine q02 rfl (fun e => ?_) (fun e => ?_)
 ·rw [q06] at e
  have hlt : k < p.edges.length := by omega
  have w1 := wS (n := k)
  refine gg rfl (q0k k rfl rfl rfl (q24 hlt) rfl (gg rfl ?_))
  rw [List.length_map]
  refine q05 rfl (fun f1 => ?_) (fun f1 => ?_)
  ·exact gg rfl (q0g rfl (gg rfl (q04 (gg rfl (qbI rfl rfl rfl trivial ⟨false, rfl, fun h => by cases h⟩)))))
  rw [q07] at f1
  refine gg rfl (q0k k rfl rfl rfl (q24 hlt) rfl (gg rfl (q02 rfl (fun f2 => ?_) (fun f2 => ?_))))
  ·exact gg rfl (q04 (gg rfl (qbI rfl rfl rfl trivial ⟨false, rfl, fun h => by cases h⟩)))
  rw [q07] at f2
  have w2 : IntKind.i64.wrap ((n : Int) + ((eg p.edges k).line.length : Nat)) = ((n + (eg p.edges k).line.length : Nat) : Int) := ww
  refine gg rfl (q0k k rfl rfl rfl (q24 hlt) rfl (gg rfl ?_))
  rw [List.length_map]
  refine q04 (hN (k + 1, n + (eg p.edges k).line.length) ⟨hlt, by show _ ≤ 80 * (k + 1); omega, fun j hjk => ?_⟩ (by show p.edges.length - (k + 1) < p.edges.length - k; omega) (q03 rfl ⟨rfl, trivial⟩ (by rw [w1, w2]; rfl)))
  have hjk : j < k + 1 := hjk
  by_cases ej : j = k
  ·subst ej; omega
  exact hj j (by omega)
 rw [q07] at e
 obtain rfl : k = p.edges.length := by omega
 exact gg rfl (q04 (gg rfl (qbI rfl rfl rfl trivial ⟨_, rfl, fun _ => ⟨by omega, by omega, by omega, by omega, hj⟩⟩)))
structure StyL (s : Sty) : Prop where
 name : s.name.size ≤ 100
 sizes : s.sizes.length ≤ 30
 mults : s.mults.length ≤ 30
 uses : s.uses.length ≤ 30
 seams : s.seams.length ≤ 30
 ops : s.ops.length ≤ 30
 pieces : s.pieces.length ≤ 14
 size : ∀ i (h : i < s.sizes.length), s.sizes[i].size ≤ 100
 piece : ∀ i, i < s.pieces.length → PcL (pc s.pieces i)
theorem StyL.B {s : Sty} (h : StyL s) : StyB s where
 sizes := Nat.le_trans h.sizes (by decide)
 size := fun x hx => by
  obtain ⟨i, hi, rfl⟩ := List.mem_iff_getElem.1 hx
  exact Nat.le_trans (h.size i hi) (by decide)
 mults := Nat.le_trans h.mults (by decide)
 pieces := Nat.le_trans h.pieces (by decide)
 uses := Nat.le_trans h.uses (by decide)
 seams := Nat.le_trans h.seams (by decide)
 ops := Nat.le_trans h.ops (by decide)
 corners := fun p hp => by
  obtain ⟨i, hi, rfl⟩ := List.mem_iff_getElem.1 hp
  exact q7z hi ▸ Nat.le_trans (h.piece i hi).corners (by decide)
 widths := fun p hp => by
  obtain ⟨i, hi, rfl⟩ := List.mem_iff_getElem.1 hp
  exact q7z hi ▸ Nat.le_trans (h.piece i hi).widths (by decide)
 notches := fun p hp => by
  obtain ⟨i, hi, rfl⟩ := List.mem_iff_getElem.1 hp
  exact q7z hi ▸ Nat.le_trans (h.piece i hi).notches (by decide)
set_option maxHeartbeats 8000000 in
theorem qaY (s : Sty) : ∃ b : Bool, PU q2O [s.enc] = some (.bool b) ∧ (b = true → StyL s) := by
 refine boolI (fn := qbN) rfl ?_
 rw [qbd]
 refine gg rfl (q05 rfl (fun g0 => ?_) (fun g0 => ?_))
 ·exact gg rfl (q0e rfl (gg rfl (q0e rfl (gg rfl (q0e rfl (gg rfl (q0e rfl (gg rfl (q0e rfl (gg rfl (q0g rfl (gg rfl (qbI rfl rfl rfl trivial ⟨false, rfl, fun h => by cases h⟩)))))))))))))
 refine gg rfl (q05 rfl (fun g1 => ?_) (fun g1 => ?_))
 ·exact gg rfl (q0e rfl (gg rfl (q0e rfl (gg rfl (q0e rfl (gg rfl (q0e rfl (gg rfl (q0g rfl (gg rfl (qbI rfl rfl rfl trivial ⟨false, rfl, fun h => by cases h⟩)))))))))))
 refine gg rfl (q05 rfl (fun g2 => ?_) (fun g2 => ?_))
 ·exact gg rfl (q0e rfl (gg rfl (q0e rfl (gg rfl (q0e rfl (gg rfl (q0g rfl (gg rfl (qbI rfl rfl rfl trivial ⟨false, rfl, fun h => by cases h⟩)))))))))
 refine gg rfl (q05 rfl (fun g3 => ?_) (fun g3 => ?_))
 ·exact gg rfl (q0e rfl (gg rfl (q0e rfl (gg rfl (q0g rfl (gg rfl (qbI rfl rfl rfl trivial ⟨false, rfl, fun h => by cases h⟩)))))))
 refine gg rfl (q05 rfl (fun g4 => ?_) (fun g4 => ?_))
 ·exact gg rfl (q0e rfl (gg rfl (q0g rfl (gg rfl (qbI rfl rfl rfl trivial ⟨false, rfl, fun h => by cases h⟩)))))
 refine gg rfl (q05 rfl (fun g5 => ?_) (fun g5 => ?_))
 ·exact gg rfl (q0g rfl (gg rfl (qbI rfl rfl rfl trivial ⟨false, rfl, fun h => by cases h⟩)))
 refine gg rfl (q02 rfl (fun g6 => ?_) (fun g6 => ?_))
 ·exact gg rfl (qbI rfl rfl rfl trivial ⟨false, rfl, fun h => by cases h⟩)
 rw [q07] at g0 g1 g2 g3 g4 g5 g6
 rw [List.length_map] at g1 g2 g3 g4 g5 g6
 refine gg rfl (q0q (S := fun k : Nat => ([.ptr 0 0 0, q00 k], [some (.row [s.enc] 7), none], [0, 0])) (C := fun k => k ≤ s.sizes.length ∧ ∀ j (h : j < s.sizes.length), j < k → s.sizes[j].size ≤ 100) (m := fun k => s.sizes.length - k) 0 ⟨Nat.zero_le _, fun j _ h => by omega⟩ (by omega) ?_ ?_)
 ·exact q03 rfl ⟨rfl, trivial⟩ rfl
 rintro k ⟨hk, hj⟩ N hN
 simp only [qbd]
 refine gg rfl ?_
 rw [List.length_map]
 refine q02 rfl (fun e => ?_) (fun e => ?_)
 ·rw [q06] at e
  have hlt : k < s.sizes.length := by omega
  have w1 := wS (n := k)
  have hx : (s.sizes.map D.str)[k]? = some (.str s.sizes[k]) := q1J hlt
  refine gg rfl (q0k k rfl rfl rfl hx rfl (gg rfl (q02 rfl (fun f1 => ?_) (fun f1 => ?_))))
  ·exact gg rfl (q04 (gg rfl (qbI rfl rfl rfl trivial ⟨false, rfl, fun h => by cases h⟩)))
  rw [q07] at f1
  refine gg rfl (q04 (hN (k + 1) ⟨hlt, fun j hj2 hjk => ?_⟩ (by omega) (q03 rfl ⟨rfl, trivial⟩ (by rw [w1]; rfl))))
  by_cases ej : j = k
  ·subst ej; omega
  exact hj j hj2 (by omega)
 rw [q07] at e
 obtain rfl : k = s.sizes.length := by omega
 clear hN
 refine gg rfl (q04 (gg rfl (q0q (S := fun k : Nat => ([.ptr 0 0 0, q00 k], [some (.row [s.enc] 7), none], [0, 0])) (C := fun k => k ≤ s.pieces.length ∧ ∀ j, j < k → PcL (pc s.pieces j)) (m := fun k => s.pieces.length - k) 0 ⟨Nat.zero_le _, fun j h => by omega⟩ (by omega) ?_ ?_)))
 ·exact q03 rfl ⟨rfl, trivial⟩ rfl
 rintro k ⟨hk, hp⟩ N hN
 simp only [qbd]
 refine gg rfl ?_
 rw [List.length_map]
 refine q02 rfl (fun e => ?_) (fun e => ?_)
 ·rw [q06] at e
  have hlt : k < s.pieces.length := by omega
  have w1 := wS (n := k)
  obtain ⟨b, hb, hbs⟩ := qlP (pc s.pieces k)
  refine gg rfl (q0k k rfl rfl rfl (qeL hlt) rfl (gg rfl (q05 rfl (fun f1 => ?_) (fun f1 => ?_))))
  ·exact gg rfl (q0g rfl (gg rfl (q04 (gg rfl (qbI rfl rfl rfl trivial ⟨false, rfl, fun h => by cases h⟩)))))
  refine gg rfl (q0k k rfl rfl rfl (qeL hlt) rfl (gg rfl (q01 rfl rfl hb (gg rfl ?_))))
  cases b with
  | false =>
    exact q0g rfl (gg rfl (q04 (gg rfl (qbI rfl rfl rfl trivial ⟨false, rfl, fun h => by cases h⟩))))
  | true =>
    refine q0m rfl (gg rfl (q04 (hN (k + 1) ⟨hlt, fun j hjk => ?_⟩ (by omega) (q03 rfl ⟨rfl, trivial⟩ (by rw [w1]; rfl)))))
    by_cases ej : j = k
    ·subst ej; exact hbs rfl
    exact hp j (by omega)
 rw [q07] at e
 obtain rfl : k = s.pieces.length := by omega
 exact gg rfl (q04 (gg rfl (qbI rfl rfl rfl trivial ⟨_, rfl, fun _ => ⟨by omega, by omega, by omega, by omega, by omega, by omega, by omega, fun i hi => hj i hi hi, hp⟩⟩)))
end Go.F

namespace Go.F
attribute [local irreducible] IntKind.wrap wpM
theorem plB : StyB plainS := ⟨by decide, by decide, by decide, by decide, by decide, by decide, by decide, by decide, by decide, by decide⟩
theorem emB : StyB qon := ⟨by decide, by decide, by decide, by decide, by decide, by decide, by decide, by decide, by decide, by decide⟩
set_option maxRecDepth 100000 in
set_option maxHeartbeats 8000000 in
theorem q22 : PU q0X [] = some (.bool true) := by
 have s1 := qtJ plainS 1 0 plB
 have s2 := qlc plainS 1 0 plB
 have s3 := qld plainS plB
 have s4 := qod plainS [0, 1, 1] plB (by decide)
 have s5 := q1c plainS plB
 have s6 := q1c qon emB
 rw [pl_cut] at s1
 rw [qu0] at s2
 rw [qoc, qqz] at s3
 rw [qsb] at s4
 rw [qom] at s5
 rw [qsc] at s6
 have hn : ∀ {x : Int} {P : Prop}, nqb x x = true → P := fun h => absurd rfl (q0z.1 h)
 have s7 := qhv [⟨-1, -1⟩, ⟨17, -1⟩, ⟨17, 11⟩, ⟨-1, 11⟩] [⟨-1, -1⟩, ⟨17, -1⟩, ⟨17, 11⟩, ⟨-1, 11⟩] (by decide)
 have s8 := qhG [9] [9] (by decide)
 rw [decide_eq_true rfl] at s7 s8
 have e0 : eqb 0 0 = true := q12.2 rfl
 have e1 : eqb 1 1 = true := q12.2 rfl
 refine q0h (fn := qbO) rfl (q0c ?_)
 refine gg rfl (q01 rfl rfl qtc (gg rfl (q01 rfl rfl s1 (gg rfl (q01 rfl rfl s2 (gg rfl (q01 rfl rfl s3 (gg rfl (q2o rfl rfl ⟨⟨by decide, rfl⟩, trivial⟩ s4 fun z => (gg rfl (q05 rfl hn (fun _ => ?_))))))))))))
 refine gg rfl (q05 rfl hn (fun _ => ?_))
 refine gg rfl (q05 rfl hn (fun _ => ?_))
 refine gg rfl (q05 rfl hn (fun _ => ?_))
 refine gg rfl (q01 rfl rfl s5 (gg rfl (q05 rfl hn (fun _ => ?_))))
 refine gg rfl (q01 rfl rfl s6 (gg rfl (q02 rfl hn (fun _ => ?_))))
 refine gg rfl (q2o rfl rfl ⟨⟨by decide, rfl⟩, trivial⟩ s7 fun z => (gg rfl (q0e rfl (gg rfl (q05 rfl (fun _ => ?_) (fun h => by simp [e0] at h))))))
 refine gg rfl (q0k 1 rfl rfl rfl rfl rfl (gg rfl (q05 rfl (fun _ => ?_) (fun h => by simp [e0, e1] at h))))
 exact gg rfl (q2o rfl rfl ⟨⟨by decide, rfl⟩, trivial⟩ s8 fun z => (gg rfl (q08 rfl rfl rfl trivial rfl)))
end Go.F

namespace Go.F
theorem q5x {s : Sty} (h : q32 s = 0) : q26 s = 0 ∧ q0F (q38 s) s.pieces.length = 0 ∧ s.uses.any (q2C s.pieces.length) = false ∧ q0F (q7A s) s.seams.length = 0 := by
 unfold q32 at h
 split at h
 ·rename_i h1; exact absurd h h1
 rename_i h1
 split at h
 ·rename_i h2; exact absurd h h2
 rename_i h2
 split at h
 ·cases h
 rename_i h3
 exact ⟨by simpa using h1, by simpa using h2, by simpa using h3, h⟩
theorem qi7 {s : Sty} (h1 : q26 s = 0) (h2 : q0F (q38 s) s.pieces.length = 0) : q32 s = if s.uses.any (q2C s.pieces.length) then 3 else q0F (q7A s) s.seams.length := by
 unfold q32
 rw [if_neg (by simp [h1]), if_neg (by simp [h2])]
structure WholeOk (s : Sty) : Prop where
 name : q1L s.name = true
 size : s.sizes.length ≠ 0
 sizeS : ∀ x ∈ s.sizes, sizeS x = true
 mults : s.mults.length = s.sizes.length
 base : 0 ∈ s.mults
 once : q4o s.sizes = false
 sizes : s.sizes.length ≤ 12
 pieces : s.pieces.length ≤ 12
 uses : s.uses.length ≤ 12
 seams : s.seams.length ≤ 24
 ops : s.ops.length ≤ 16
 mult : ∀ m ∈ s.mults, -100 ≤ m ∧ m ≤ 100
theorem q7V {s : Sty} (h : q26 s = 0) : WholeOk s := by
 unfold q26 at h
 split at h
 ·cases h
 rename_i h1
 split at h
 ·cases h
 rename_i h2
 split at h
 ·cases h
 rename_i h3
 split at h
 ·cases h
 rename_i h4
 split at h
 ·cases h
 rename_i h5
 split at h
 ·cases h
 rename_i h6
 split at h
 ·cases h
 rename_i h7
 refine ⟨?_, fun e => h1 (.inr e), fun x hx => ?_, ?_, ?_, by simpa using h4, by omega, by omega, by omega, by omega, by omega, fun m hm => ?_⟩
 ·cases hn : q1L s.name with
  | true => rfl
  | false => exact absurd (.inl hn) h1
 ·have h2 : s.sizes.any (fun x => !Go.F.sizeS x) = false := by simpa using h2
  have := List.any_eq_false.1 h2 x hx
  simpa using this
 ·by_cases e : s.mults.length = s.sizes.length
  ·exact e
  exact absurd (.inl e) h3
 ·by_cases e : 0 ∈ s.mults
  ·exact e
  exact absurd (.inr e) h3
 have h7 : s.mults.any (fun m => decide (m < -100) || decide (100 < m)) = false := by simpa using h7
 have := List.any_eq_false.1 h7 m hm
 simp at this
 omega
theorem q9g {s : Sty} (h : WholeOk s) : q26 s = 0 := by
 unfold q26
 rw [if_neg (by simp [h.name, h.size]), if_neg (by
  rw [List.any_eq_true]; rintro ⟨x, hx, e⟩; rw [h.sizeS x hx] at e; cases e), if_neg (by simp [h.mults, h.base]), if_neg (by simp [h.once]),
  if_neg (by have := h.sizes; have := h.pieces; have := h.uses; omega), if_neg (by have := h.seams; have := h.ops; omega), if_neg]
 rw [List.any_eq_true]
 rintro ⟨m, hm, e⟩
 have := h.mult m hm
 simp at e
 omega
end Go.F

namespace Go.F
attribute [local irreducible] IntKind.wrap wpM
theorem qhz (l : List Edge) (ws : List Int) : (q2F l ws).1.length ≤ 40 := by
 unfold q2F
 split
 ·unfold qan
  split
  ·simp
  split
  ·rename_i hq
   split
   ·exact (q2v hq).2.1
   simp
  simp
 simp
theorem qtx (s : Sty) (a b : Int) : (qdL s a b).1.length ≤ 40 := by
 unfold qdL
 split
 ·simp
 exact qhz _ _
theorem q7a {s : Sty} {a b : Int} (h : q32 s = 0) (hO : qbe s a b) : (qdL s a b).2 = 3 ∧ (qbB s a b).2 = 3 := by
 have ho : q3i s a b = ([], qgL, 3) := by unfold q3i; rw [if_neg (by simp [h]), if_pos hO]
 unfold qdL qbB
 rw [ho]
 exact ⟨rfl, rfl⟩
set_option maxRecDepth 100000 in
set_option maxHeartbeats 8000000 in
theorem qtX (s : Sty) (size use : Int) : PU qfi [s.enc, .int .i64 size, .int .i64 use] = some (.bool true) := by
 obtain ⟨b, hb, hbs⟩ := qaY s
 have he : ∀ {x : Int} {P : Prop}, eqb x x = false → P := fun h => absurd rfl (q1a.1 h)
 have hn : ∀ {x : Int} {P : Prop}, nqb x x = true → P := fun h => absurd rfl (q0z.1 h)
 refine q0h (fn := q5L) rfl (q0c ?_)
 refine gg rfl (q01 rfl rfl hb ?_)
 cases b with
 | false =>
   exact gg rfl (q0e rfl (gg rfl (q0g rfl (gg rfl (q01 rfl rfl q22 (gg rfl (q08 rfl rfl rfl trivial rfl)))))))
 | true =>
   have hL := hbs rfl
   have hB := hL.B
   have s1 := q1c s hB
   have s2 := qtJ s size use hB
   have s3 := qlc s size use hB
   have hcl := qtx s size use
   refine gg rfl (q0j rfl (gg rfl (q01 rfl rfl s1 (gg rfl (q02 rfl (fun g => ?_) (fun g => ?_))))))
   ·exact gg rfl (q01 rfl rfl q22 (gg rfl (q08 rfl rfl rfl trivial rfl)))
   have g : q32 s = 0 := q0A.1 g
   have hok := qdC g
   refine gg rfl (q01 rfl rfl s2 (gg rfl (q01 rfl rfl s3 (gg rfl (q05 rfl (fun f1 => ?_) (fun f1 => ?_))))))
   ·rw [q06] at f1
    have hO : qbe s size use := .inl f1
    have hc := (q7a g hO).1
    have ha := (q7a g hO).2
    refine gg rfl (q0e rfl (gg rfl (q0e rfl (gg rfl (q0e rfl (gg rfl (q0e rfl (gg rfl (q0e rfl (gg rfl (q0g rfl (gg rfl (q05 rfl (fun _ => ?_) (fun h => absurd hc (q1a.1 h)))))))))))))))
    refine gg rfl (q05 rfl (fun _ => ?_) (fun h => absurd ha (q1a.1 h)))
    exact gg rfl (q01 rfl rfl q22 (gg rfl (q08 rfl rfl rfl trivial rfl)))
   rw [q07] at f1
   refine gg rfl ?_
   rw [List.length_map]
   refine q05 rfl (fun f2 => ?_) (fun f2 => ?_)
   ·rw [q0D] at f2
    have hO : qbe s size use := .inr (.inl f2)
    have hc := (q7a g hO).1
    have ha := (q7a g hO).2
    refine gg rfl (q0e rfl (gg rfl (q0e rfl (gg rfl (q0e rfl (gg rfl (q0e rfl (gg rfl (q0g rfl (gg rfl (q05 rfl (fun _ => ?_) (fun h => absurd hc (q1a.1 h)))))))))))))
    refine gg rfl (q05 rfl (fun _ => ?_) (fun h => absurd ha (q1a.1 h)))
    exact gg rfl (q01 rfl rfl q22 (gg rfl (q08 rfl rfl rfl trivial rfl)))
   rw [q0E] at f2
   refine gg rfl (q05 rfl (fun f3 => ?_) (fun f3 => ?_))
   ·rw [q06] at f3
    have hO : qbe s size use := .inr (.inr (.inl f3))
    have hc := (q7a g hO).1
    have ha := (q7a g hO).2
    refine gg rfl (q0e rfl (gg rfl (q0e rfl (gg rfl (q0e rfl (gg rfl (q0g rfl (gg rfl (q05 rfl (fun _ => ?_) (fun h => absurd hc (q1a.1 h)))))))))))
    refine gg rfl (q05 rfl (fun _ => ?_) (fun h => absurd ha (q1a.1 h)))
    exact gg rfl (q01 rfl rfl q22 (gg rfl (q08 rfl rfl rfl trivial rfl)))
   rw [q07] at f3
   refine gg rfl ?_
   rw [List.length_map]
   refine q05 rfl (fun f4 => ?_) (fun f4 => ?_)
   ·rw [q0D] at f4
    have hO : qbe s size use := .inr (.inr (.inr f4))
    have hc := (q7a g hO).1
    have ha := (q7a g hO).2
    refine gg rfl (q0e rfl (gg rfl (q0e rfl (gg rfl (q0g rfl (gg rfl (q05 rfl (fun _ => ?_) (fun h => absurd hc (q1a.1 h)))))))))
    refine gg rfl (q05 rfl (fun _ => ?_) (fun h => absurd ha (q1a.1 h)))
    exact gg rfl (q01 rfl rfl q22 (gg rfl (q08 rfl rfl rfl trivial rfl)))
   rw [q0E] at f4
   have hO : ¬ qbe s size use := by unfold qbe; omega
   refine gg rfl ?_
   rw [List.length_map]
   refine q05 rfl (fun f5 => ?_) (fun f5 => ?_)
   ·rw [q0D] at f5; have := hok.mults; omega
   obtain ⟨un, rfl⟩ := Int.eq_ofNat_of_zero_le f3
   obtain ⟨zn, rfl⟩ := Int.eq_ofNat_of_zero_le f1
   have hun : un < s.uses.length := by omega
   have hzn : zn < s.mults.length := by have := hok.mults; omega
   have huse := hok.use (us s.uses un) (by rw [q9Q hun]; exact List.getElem_mem _)
   have hout : q3i s zn un = ((q0B (q2S s un) (mu s.mults zn)).1, q2S s un, (q0B (q2S s un) (mu s.mults zn)).2) := by
    unfold q3i; rw [if_neg (by simp [g]), if_neg hO]; rfl
   have hpo : q2S s un = pc s.pieces (us s.uses un).piece.toNat := rfl
   have hpl : (us s.uses un).piece.toNat < s.pieces.length := by omega
   have hpi : (us s.uses un).piece = (((us s.uses un).piece.toNat : Nat) : Int) := by omega
   refine gg rfl (q0k un rfl rfl rfl (qde hun) rfl (gg rfl (q05 rfl (fun f6 => ?_) (fun f6 => ?_))))
   ·rw [q06] at f6; omega
   refine gg rfl (q0k un rfl rfl rfl (qde hun) rfl (gg rfl ?_))
   rw [List.length_map]
   refine q02 rfl (fun f7 => ?_) (fun f7 => ?_)
   ·rw [q0D] at f7; omega
   refine gg rfl (q0k un rfl rfl rfl (qde hun) rfl (gg rfl ?_))
   generalize hq : (us s.uses un).piece = q at *
   obtain ⟨pn, rfl⟩ := Int.eq_ofNat_of_zero_le huse.1
   refine q0k pn rfl rfl rfl (qeL hpl) rfl (gg rfl (q0k zn rfl rfl rfl (qpw hzn) rfl (gg rfl ?_)))
   have hgr := q7R (pc s.pieces pn) (mu s.mults zn) (Nat.le_trans (hL.piece pn hpl).corners (by decide))
   refine q01 rfl rfl hgr (gg rfl ?_)
   have hpo' : q2S s un = pc s.pieces pn := by rw [hpo]; rfl
   rw [hpo'] at hout
   refine q02 rfl (fun f8 => ?_) (fun f8 => ?_)
   ·rw [q0z] at f8
    have hc : qdL s zn un = ([], (q0B (pc s.pieces pn) (mu s.mults zn)).2) := by unfold qdL; rw [hout]; exact if_pos f8
    have ha : qbB s zn un = (⟨0, 0⟩, (q0B (pc s.pieces pn) (mu s.mults zn)).2) := by unfold qbB; rw [hout]; exact if_pos f8
    rw [hc, ha]
    refine gg rfl (q05 rfl (fun _ => ?_) he)
    refine gg rfl (q05 rfl (fun _ => ?_) he)
    refine gg rfl (q05 rfl (fun _ => ?_) he)
    exact gg rfl (q01 rfl rfl q22 (gg rfl (q08 rfl rfl rfl trivial rfl)))
   have f8 : (q0B (pc s.pieces pn) (mu s.mults zn)).2 = 0 := q0A.1 f8
   have hc : qdL s zn un = q2F (q0B (pc s.pieces pn) (mu s.mults zn)).1 (pc s.pieces pn).widths := by unfold qdL; rw [hout]; exact if_neg (by simp [f8])
   have ha : qbB s zn un = (pt (eg (q0B (pc s.pieces pn) (mu s.mults zn)).1 0).line 0, 0) := by unfold qbB; rw [hout]; exact if_neg (by simp [f8])
   have hck := (q5D f8).2.2.1
   rw [hc, ha]
   generalize (q0B (pc s.pieces pn) (mu s.mults zn)).1 = l at *
   have hl2 := (q1w hck).1
   have hln := q20 hck (eg l 0) (by rw [q8s (by omega)]; exact List.getElem_mem _)
   have hal := qmE l (pc s.pieces pn).widths
   have hsm := qhv (q2F l (pc s.pieces pn).widths).1 (q2F l (pc s.pieces pn).widths).1 (by have := qhz l (pc s.pieces pn).widths; omega)
   rw [decide_eq_true rfl] at hsm
   refine gg rfl (q01 rfl rfl hal (gg rfl ?_))
   rw [List.length_map]
   refine q05 rfl (fun f9 => ?_) (fun f9 => ?_)
   ·rw [q12] at f9; omega
   refine gg rfl (q0k 0 rfl rfl rfl (q24 (by omega)) rfl ?_)
   refine gg rfl ?_
   rw [List.length_map]
   refine q02 rfl (fun f9 => ?_) (fun f9 => ?_)
   ·rw [q12] at f9; omega
   refine gg rfl (q05 rfl (fun _ => ?_) he)
   refine gg rfl (q01 rfl rfl hsm (gg rfl (q0e rfl (gg rfl (q05 rfl (fun _ => ?_) he)))))
   refine gg rfl (q0k 0 rfl rfl rfl (q24 (by omega)) rfl ?_)
   refine gg rfl (q0k 0 rfl rfl rfl (q0T (by omega)) rfl ?_)
   refine gg rfl (q05 rfl (fun _ => ?_) (fun h => by simp [q12.2 rfl] at h))
   exact gg rfl (q01 rfl rfl q22 (gg rfl (q08 rfl rfl rfl trivial rfl)))
end Go.F

namespace Go.F
theorem qo1 (l : List ByteArray) (i k : Nat) : sz (l.eraseIdx i) k = sz l (if k < i then k else k + 1) := by
 unfold sz
 rw [List.getD_eq_getElem?_getD, List.getD_eq_getElem?_getD, List.getElem?_eraseIdx]
 split <;> rfl
theorem qtA (l : List Int) (i k : Nat) : mu (l.eraseIdx i) k = mu l (if k < i then k else k + 1) := by
 unfold mu
 rw [List.getD_eq_getElem?_getD, List.getD_eq_getElem?_getD, List.getElem?_eraseIdx]
 split <;> rfl
theorem qpl (l : List ByteArray) : q4o l = true ↔ ∃ i j, j < i ∧ i < l.length ∧ (sz l j).toList = (sz l i).toList := by
 unfold q4o
 rw [List.any_eq_true]
 constructor
 ·rintro ⟨i, hi, h⟩
  rw [List.any_eq_true] at h
  obtain ⟨x, hx, e⟩ := h
  rw [List.mem_range] at hi
  obtain ⟨j, hj, rfl⟩ := List.getElem_of_mem hx
  have hj2 : j < i := by rw [List.length_take] at hj; omega
  refine ⟨i, j, hj2, hi, ?_⟩
  rw [qjK (by omega)]
  simpa using e
 rintro ⟨i, j, hj, hi, e⟩
 refine ⟨i, List.mem_range.2 hi, ?_⟩
 rw [List.any_eq_true]
 refine ⟨sz l j, ?_, by simp [e]⟩
 rw [qjK (by omega)]
 have h1 : (l.take i)[j]'(by rw [List.length_take]; omega) = l[j] := by simp
 rw [← h1]
 exact List.getElem_mem _
theorem qmr {l : List ByteArray} {i : Nat} (h : q4o l = false) (hi : i < l.length) : q4o (l.eraseIdx i) = false := by
 rw [← Bool.not_eq_true, qpl] at *
 rintro ⟨a, b, hba, ha, e⟩
 rw [qo1, qo1] at e
 rw [List.length_eraseIdx_of_lt hi] at ha
 refine h ⟨if a < i then a else a + 1, if b < i then b else b + 1, ?_, ?_, e⟩
 ·split <;> split <;> omega
 split <;> omega
def qak (s : Sty) (i : Nat) : Sty := { s with sizes := s.sizes.eraseIdx i, mults := s.mults.eraseIdx i }
theorem qvM {s : Sty} (h : q32 s = 0) {i : Nat} (hi : i < s.sizes.length) (h2 : 2 ≤ s.sizes.length) (hb : 0 ∉ s.mults.eraseIdx i) : q32 (qak s i) = 1 := by
 have hw := q7V (q5x h).1
 have hl : (s.sizes.eraseIdx i).length = s.sizes.length - 1 := List.length_eraseIdx_of_lt hi
 have hne : q26 (qak s i) = 1 := by
  unfold q26 qak
  rw [if_neg (by simp only [hw.name, hl]; intro h; rcases h with h | h; cases h; omega), if_neg (by
   rw [List.any_eq_true]
   rintro ⟨x, hx, e⟩
   rw [hw.sizeS x (List.mem_of_mem_eraseIdx hx)] at e; cases e), if_pos (.inr hb)]
 unfold q32
 rw [if_pos (by rw [hne]; decide), hne]
theorem quF {s : Sty} (h : q32 s = 0) {i : Nat} (hi : i < s.sizes.length) (h2 : 2 ≤ s.sizes.length) (hb : 0 ∈ s.mults.eraseIdx i) : q32 (qak s i) = 0 := by
 have hp := q5x h
 have hw := q7V hp.1
 have hl : (s.sizes.eraseIdx i).length = s.sizes.length - 1 := List.length_eraseIdx_of_lt hi
 have hm : (s.mults.eraseIdx i).length = s.mults.length - 1 := List.length_eraseIdx_of_lt (by rw [hw.mults]; exact hi)
 have h1 : q26 (qak s i) = 0 := q9g ⟨hw.name, by show (s.sizes.eraseIdx i).length ≠ 0; omega, fun x hx => hw.sizeS x (List.mem_of_mem_eraseIdx hx), by show (s.mults.eraseIdx i).length = (s.sizes.eraseIdx i).length; have := hw.mults; omega, hb, qmr hw.once hi,
  by show (s.sizes.eraseIdx i).length ≤ 12; have := hw.sizes; omega, hw.pieces, hw.uses, hw.seams, hw.ops, fun m hm => hw.mult m (List.mem_of_mem_eraseIdx hm)⟩
 rw [qi7 h1 hp.2.1]
 rw [if_neg (by show ¬ (s.uses.any (q2C s.pieces.length) = true); rw [hp.2.2.1]; decide)]
 exact hp.2.2.2
theorem qvN {s : Sty} (h : q32 s = 0) {i k : Nat} (hi : i < s.sizes.length) (h2 : 2 ≤ s.sizes.length) (hb : 0 ∈ s.mults.eraseIdx i) (hk : k < s.sizes.length - 1) (u : Int) : qdL (qak s i) k u = qdL s (if k < i then k else k + 1 : Nat) u := by
 have hl := quF h hi h2 hb
 have hl2 : (qak s i).sizes.length = s.sizes.length - 1 := List.length_eraseIdx_of_lt hi
 have ho : q3i (qak s i) k u = q3i s (if k < i then k else k + 1 : Nat) u := by
  unfold q3i
  have hl' : ¬ q32 (qak s i) ≠ 0 := fun e => e hl
  have h' : ¬ q32 s ≠ 0 := fun e => e h
  rw [if_neg hl', if_neg h']
  have hO : qbe (qak s i) k u ↔ qbe s (if k < i then k else k + 1 : Nat) u := by
   unfold qbe
   rw [hl2]
   have hu : (qak s i).uses = s.uses := rfl
   rw [hu]
   split <;> omega
  have hmu : mu (qak s i).mults ((k : Int).toNat) = mu s.mults ((if k < i then k else k + 1 : Nat) : Int).toNat := by
   rw [Int.toNat_natCast, Int.toNat_natCast]
   exact qtA _ _ _
  have hpo : q2S (qak s i) u = q2S s u := rfl
  by_cases hout : qbe s (if k < i then k else k + 1 : Nat) u
  ·rw [if_pos hout, if_pos (hO.2 hout)]
  rw [if_neg hout, if_neg (fun h => hout (hO.1 h)), hmu, hpo]
 unfold qdL
 rw [ho]
end Go.F

namespace Go.F
attribute [local irreducible] IntKind.wrap wpM
theorem qvL {hp : q0f} {es : List D} {n : Nat} (hd : es.all (dat 4) = true) (hn : 4 ≤ n) : es.mapM (q10 hp n) = some es := by
 induction es with
 | nil => rfl
 | cons x es ih =>
   simp only [List.all_cons, Bool.and_eq_true] at hd
   simp [List.mapM_cons, qog 4 n x hd.1 hn, ih hd.2]
theorem qvK {h : q0f} {id len sz n : Nat} {es : List D} (hh : h id = some (.row es sz)) (hl : len = es.length) (hd : es.all (dat 4) = true) (hn : 4 ≤ n) : q10 h (n + 1) (.ref id 0 len) = some (.lst es) := by
 subst hl
 simp only [q10, hh]
 rw [if_pos (by omega), List.drop_zero, List.take_length, qvL hd hn]; rfl
theorem qvJ {h : q0f} {id len sz n : Nat} {es : List D} (hh : h id = some (.row es sz)) (hd : es.all (dat 4) = true) : q0O h (n + 1) (.ref id 0 len) = [id] := by
 simp only [q0O, hh]
 rw [qdh]
 rw [List.all_eq_true] at hd ⊢
 intro x hx
 exact hd x (List.mem_of_mem_drop (List.mem_of_mem_take hx))
theorem qvP {h : q0f} {A B a b x y : Nat} {nm : ByteArray} {S M P U W O : List D} (hA : h A = some (.row S x)) (hB : h B = some (.row M y)) (ha : a = S.length) (hb : b = M.length) (hS : S.all (dat 4) = true) (hM : M.all (dat 4) = true) :
 Obl.ok (.s h [.agg [.str nm, .ref A 0 a, .ref B 0 b, .lst P, .lst U, .lst W, .lst O]] [.agg [.str nm, .lst S, .lst M, .lst P, .lst U, .lst W, .lst O]] [A, B]) := by
 refine ⟨rfl, ?_, ?_, rfl⟩
 ·have e : ∀ d : List D, q10 h 7 (.lst d) = some (.lst d) := fun _ => rfl
  have e2 : q10 h 7 (.str nm) = some (.str nm) := rfl
  show ([_] : List D).mapM (q10 h 8) = _
  rw [List.mapM_cons, List.mapM_nil]
  have e3 : q10 h 8 (.agg [.str nm, .ref A 0 a, .ref B 0 b, .lst P, .lst U, .lst W, .lst O]) = (([.str nm, .ref A 0 a, .ref B 0 b, .lst P, .lst U, .lst W, .lst O] : List D).mapM (q10 h 7)).map .agg := rfl
  rw [e3]
  simp only [List.mapM_cons, List.mapM_nil, e, e2, qvK hA ha hS (show 4 ≤ 6 by decide), qvK hB hb hM (show 4 ≤ 6 by decide)]
  rfl
 show List.flatMap (q0O h 12) [_] = _
 have e3 : q0O h 12 (.agg [.str nm, .ref A 0 a, .ref B 0 b, .lst P, .lst U, .lst W, .lst O]) = ([.str nm, .ref A 0 a, .ref B 0 b, .lst P, .lst U, .lst W, .lst O] : List D).flatMap (q0O h 11) := rfl
 rw [List.flatMap_cons, List.flatMap_nil, e3]
 simp only [List.flatMap_cons, List.flatMap_nil, qvJ hA hS (n := 10), qvJ hB hM (n := 10)]
 rfl
set_option maxRecDepth 100000 in
set_option maxHeartbeats 8000000 in
theorem qvQ (s : Sty) (at_ : Nat) (use : Int) (ha : at_ < 256) : PU qqM [s.enc, .int .u8 at_, .int .i64 use] = some (.bool true) := by
 obtain ⟨b, hb, hbs⟩ := qaY s
 have he : ∀ {x : Int} {P : Prop}, eqb x x = false → P := fun h => absurd rfl (q1a.1 h)
 have hn : ∀ {x : Int} {P : Prop}, nqb x x = true → P := fun h => absurd rfl (q0z.1 h)
 refine q0h (fn := q9X) rfl (q0c ?_)
 refine gg rfl (q01 rfl rfl hb ?_)
 cases b with
 | false =>
   exact gg rfl (q0e rfl (gg rfl (q0e rfl (gg rfl (q0e rfl (gg rfl (q0g rfl (gg rfl (q01 rfl rfl q22 (gg rfl (q08 rfl rfl rfl trivial rfl)))))))))))
 | true =>
   have hL := hbs rfl
   have hB := hL.B
   have s1 := q1c s hB
   refine gg rfl (q0j rfl (gg rfl (q01 rfl rfl s1 (gg rfl (q05 rfl (fun g => ?_) (fun g => ?_))))))
   ·exact gg rfl (q0e rfl (gg rfl (q0g rfl (gg rfl (q01 rfl rfl q22 (gg rfl (q08 rfl rfl rfl trivial rfl)))))))
   have g : q32 s = 0 := q0A.1 g
   have hok := qdC g
   refine gg rfl ?_
   rw [List.length_map]
   refine q05 rfl (fun f1 => ?_) (fun f1 => ?_)
   ·exact gg rfl (q0g rfl (gg rfl (q01 rfl rfl q22 (gg rfl (q08 rfl rfl rfl trivial rfl)))))
   rw [q07] at f1
   refine gg rfl ?_
   rw [List.length_map, List.length_map]
   refine q02 rfl (fun f2 => ?_) (fun f2 => ?_)
   ·exact gg rfl (q01 rfl rfl q22 (gg rfl (q08 rfl rfl rfl trivial rfl)))
   have h2 : 2 ≤ s.sizes.length := by omega
   have hm := hok.mults
   have hs12 := hok.sizes
   have hi : at_ % s.sizes.length < s.sizes.length := Nat.mod_lt _ (by omega)
   have w0 : IntKind.i64.wrap (at_ : Int) = at_ := ww
   have hrem : ((at_ : Int)).tmod (s.sizes.length : Nat) = ((at_ % s.sizes.length : Nat) : Int) := by rw [Int.tmod_eq_emod_of_nonneg (by omega)]; omega
   refine gg rfl ?_
   rw [w0, List.length_map]
   refine q4R rfl rfl (by omega) ?_
   rw [hrem]
   generalize at_ % s.sizes.length = i at *
   have w1 := wS (n := i)
   have hd1 : ((s.sizes.map D.str).drop (i + 1)).take (s.sizes.length - (i + 1)) = (s.sizes.drop (i + 1)).map D.str := by rw [List.take_of_length_le (by simp), List.map_drop]
   have hd2 : ((s.mults.map q00).drop (i + 1)).take (s.mults.length - (i + 1)) = (s.mults.drop (i + 1)).map q00 := by rw [List.take_of_length_le (by simp), List.map_drop]
   have hE1 : ([] ++ (s.sizes.take i).map D.str) ++ (s.sizes.drop (i + 1)).map D.str = (s.sizes.eraseIdx i).map D.str := by rw [List.nil_append, ← List.map_append, List.eraseIdx_eq_take_drop_succ]
   have hE2 : ([] ++ (s.mults.take i).map q00) ++ (s.mults.drop (i + 1)).map q00 = (s.mults.eraseIdx i).map q00 := by rw [List.nil_append, ← List.map_append, List.eraseIdx_eq_take_drop_succ]
   refine gg rfl (qdM i rfl (q1X (n := 1) (fun _ => rfl) _) ⟨_, _, rfl, rfl⟩ (by rw [List.length_map]; omega) ?_)
   rw [← List.map_take]
   refine gg rfl (qjO rfl rfl rfl (q1X (n := 1) (fun _ => rfl) _) rfl (Nat.zero_le _) (by simp [q0U]; omega) ?_)
   refine gg rfl ?_
   rw [w1]
   refine atSl (i + 1) s.sizes.length rfl (q1X (n := 1) (fun _ => rfl) _) ⟨_, _, rfl, rfl⟩ (List.length_map _).symm ⟨by omega, by simp⟩ ?_
   rw [hd1]
   refine gg rfl (qjO rfl rfl rfl (q1X (n := 1) (fun _ => rfl) _) (by simp) (Nat.zero_le _) (by simp [q0U]; omega) ?_)
   rw [hE1]
   refine gg rfl (qdM i rfl (q1X (n := 1) (fun _ => rfl) _) ⟨_, _, rfl, rfl⟩ (by rw [List.length_map]; omega) ?_)
   rw [← List.map_take]
   refine gg rfl (qjO rfl rfl rfl (q1X (n := 1) (fun _ => rfl) _) rfl (Nat.zero_le _) (by simp [q0U]; omega) ?_)
   refine gg rfl ?_
   rw [w1]
   refine atSl (i + 1) s.mults.length rfl (q1X (n := 1) (fun _ => rfl) _) ⟨_, _, rfl, rfl⟩ (List.length_map _).symm ⟨by omega, by simp⟩ ?_
   rw [hd2]
   refine gg rfl (qjO rfl rfl rfl (q1X (n := 1) (fun _ => rfl) _) (by simp) (Nat.zero_le _) (by simp [q0U]; omega) ?_)
   rw [hE2]
   have hle : (s.sizes.eraseIdx i).length = s.sizes.length - 1 := List.length_eraseIdx_of_lt hi
   have hlm : (s.mults.eraseIdx i).length = s.mults.length - 1 := List.length_eraseIdx_of_lt (by omega)
   have hlS : (qak s i).sizes.length = s.sizes.length - 1 := hle
   have hlM : (qak s i).mults.length = s.mults.length - 1 := hlm
   have hLE : (qak s i).enc = .agg [.str s.name, .lst ((s.sizes.eraseIdx i).map .str), .lst ((s.mults.eraseIdx i).map q00), .lst (s.pieces.map Piece.enc), .lst (s.uses.map Use.enc), .lst (s.seams.map Sew.enc), .lst (s.ops.map Opn.enc)] := rfl
   have hLB : StyB (qak s i) := ⟨by show (s.sizes.eraseIdx i).length ≤ 1000; omega, fun x hx => hB.size x (List.mem_of_mem_eraseIdx hx), by show (s.mults.eraseIdx i).length ≤ 1000; omega, hB.pieces, hB.uses, hB.seams, hB.ops, hB.corners, hB.widths, hB.notches⟩
   have c1 := q1c (qak s i) hLB
   refine gg rfl (q0q (S := fun k : Nat => ([.int .i64 use, .ptr 1 0 0, q00 i, .ptr 3 0 0, .bool (decide (0 ∈ (s.mults.eraseIdx i).take k)), q00 k], [none, some (.row [s.enc] 7), none, some (.row [(qak s i).enc] 7), none, none], [0, 0, 0, 0, 0, 0])) (C := fun k => k ≤ (s.mults.eraseIdx i).length) (m := fun k => (s.mults.eraseIdx i).length - k) 0 (Nat.zero_le _) (by omega) ?_ ?_)
   ·refine quS [none, some ([(qak s i).enc], [60, 74])] rfl ⟨rfl, qvP rfl rfl (by simp; omega) (by simp; omega) ?_ ?_, trivial⟩ (by simp [q00, qbd])
    ·exact q1t (fun _ => rfl) _
    exact q1t qln _
   intro k hk N hN
   refine gg rfl ?_
   rw [List.length_map]
   refine q02 rfl (fun e => ?_) (fun e => ?_)
   ·rw [q06] at e
    have hlt : k < (s.mults.eraseIdx i).length := by omega
    have w1 := wS (n := k)
    have hst : (0 ∈ (s.mults.eraseIdx i).take (k + 1)) ↔ (0 ∈ (s.mults.eraseIdx i).take k ∨ mu (s.mults.eraseIdx i) k = 0) := by
     rw [List.take_succ_eq_append_getElem hlt, List.mem_append, List.mem_singleton, qvO hlt]
     exact ⟨fun h => h.imp id Eq.symm, fun h => h.imp id Eq.symm⟩
    cases hb : decide (0 ∈ (s.mults.eraseIdx i).take k) with
    | true =>
      have hb := of_decide_eq_true hb
      refine gg rfl (q0e rfl (gg rfl (q04 (hN (k + 1) hlt (by omega) (q03 rfl ⟨rfl, rfl, trivial⟩ ?_)))))
      rw [w1, decide_eq_true (hst.2 (.inl hb))]; rfl
    | false =>
      have hb := of_decide_eq_false hb
      refine gg rfl (q0j rfl (gg rfl (q0k k rfl rfl rfl (qpw hlt) rfl (gg rfl (q04 (hN (k + 1) hlt (by omega) (q03 rfl ⟨rfl, rfl, trivial⟩ ?_)))))))
      have e2 : decide (0 ∈ (s.mults.eraseIdx i).take (k + 1)) = eqb (mu (s.mults.eraseIdx i) k) 0 := by
       rw [q2i]
       exact decide_eq_decide.2 ⟨fun h => (hst.1 h).resolve_left hb, fun h => hst.2 (.inr h)⟩
      rw [w1, e2]; rfl
   rw [q07] at e
   obtain rfl : k = (s.mults.eraseIdx i).length := by omega
   clear hN
   rw [List.take_length]
   refine gg rfl (q04 (gg rfl ?_))
   cases hz : decide (0 ∈ s.mults.eraseIdx i) with
   | false =>
     have hz := of_decide_eq_false hz
     rw [qvM g hi h2 hz] at c1
     refine gg rfl (q0g rfl (gg rfl (q01 rfl rfl c1 (gg rfl (q05 rfl (fun _ => ?_) he)))))
     exact gg rfl (q01 rfl rfl q22 (gg rfl (q08 rfl rfl rfl trivial rfl)))
   | true =>
     have hz := of_decide_eq_true hz
     rw [quF g hi h2 hz] at c1
     refine gg rfl (q0m rfl (gg rfl (q01 rfl rfl c1 (gg rfl (q02 rfl hn (fun _ => ?_))))))
     refine gg rfl (q0q (S := fun k : Nat => ([.int .i64 use, .ptr 1 0 0, q00 i, .ptr 3 0 0, q00 k], [none, some (.row [s.enc] 7), none, some (.row [(qak s i).enc] 7), none], [0, 0, 0, 0, 0])) (C := fun k => k ≤ s.sizes.length - 1) (m := fun k => s.sizes.length - 1 - k) 0 (Nat.zero_le _) (by omega) ?_ ?_)
     ·exact q03 rfl ⟨rfl, rfl, trivial⟩ rfl
     intro k hk N hN
     refine gg rfl ?_
     rw [List.length_map, hlS]
     refine q02 rfl (fun e => ?_) (fun e => ?_)
     ·rw [q06] at e
      have hlt : k < s.sizes.length - 1 := by omega
      have w1 := wS (n := k)
      have hc := qvN g hi h2 hz hlt use
      have k1 := qtJ (qak s i) k use hLB
      have hcl := qtx (qak s i) k use
      have hsm := qhv (qdL (qak s i) k use).1 (qdL (qak s i) k use).1 (by omega)
      rw [decide_eq_true rfl] at hsm
      refine gg rfl (q02 rfl (fun f => ?_) (fun f => ?_))
      ·rw [q0D] at f
       rw [if_neg (by omega)] at hc
       have k2 := qtJ s ((k + 1 : Nat) : Int) use hB
       rw [← hc] at k2
       refine gg rfl ?_
       rw [w1]
       refine gg rfl (q01 rfl rfl k1 (gg rfl (q01 rfl rfl k2 (gg rfl (q05 rfl hn (fun _ => ?_))))))
       exact gg rfl (q01 rfl rfl hsm (gg rfl (q0m rfl (gg rfl (q04 (hN (k + 1) hlt (by omega) (q03 rfl ⟨rfl, rfl, trivial⟩ (by rw [w1]; rfl))))))))
      rw [q0E] at f
      rw [if_pos (by omega)] at hc
      have k2 := qtJ s (k : Int) use hB
      rw [← hc] at k2
      refine gg rfl (q01 rfl rfl k1 (gg rfl (q01 rfl rfl k2 (gg rfl (q05 rfl hn (fun _ => ?_))))))
      exact gg rfl (q01 rfl rfl hsm (gg rfl (q0m rfl (gg rfl (q04 (hN (k + 1) hlt (by omega) (q03 rfl ⟨rfl, rfl, trivial⟩ (by rw [w1]; rfl))))))))
     rw [q07] at e
     clear hN
     exact gg rfl (q04 (gg rfl (q01 rfl rfl q22 (gg rfl (q08 rfl rfl rfl trivial rfl)))))
end Go.F

namespace Go.F
def qby (p : Piece) : Piece := { p with widths := List.replicate p.edges.length 0 }
def q3h (s : Sty) (k : Nat) : Sty := { s with pieces := s.pieces.set k (qby (pc s.pieces k)) }
theorem qdb (p : Piece) (m : Int) : q0B (qby p) m = q0B p m := rfl
theorem qnV (p : Piece) (g : List Edge) (n : Ntc) : q3T (qby p) g n = q3T p g n := rfl
theorem qhx (p : Piece) (g : List Edge) : ∀ l, q5X (qby p) g l = q5X p g l
 | [] => rfl
 | n :: l => by rw [q5X, q5X, qhx p g l, qnV]
theorem qnW (p : Piece) (m : Int) : q29 (qby p) m = q29 p m := by
 unfold q29
 rw [qdb, qhx]
 rfl
theorem qpj (c : List Spot) (i : Nat) : q7D c 0 i = ⟨0, 0⟩ := by simp [q7D]
theorem qrE {l : List Spot} (h : 2 ≤ l.length) : qlz l ⟨0, 0⟩ ⟨0, 0⟩ = l := by
 apply List.ext_getElem
 ·simp [qlz]
 intro k h1 h2
 have e : ∀ v : Int, movC l.length k v 0 0 = v := by
  intro v
  unfold movC
  rw [Int.mul_zero, Int.mul_zero, Int.zero_add, qgP (by omega), Int.add_zero]
 simp only [qlz, qdJ, List.getElem_map, List.getElem_range, e]
 rw [q11 h2]
theorem qnX {p : Piece} (h : q0Q p.edges = 0) : q3t p 0 = p.edges := by
 apply List.ext_getElem
 ·simp [q3t]
 intro k h1 h2
 simp only [q3t, q7t, List.getElem_map, List.getElem_range, qpj]
 have hl := (q20 h (eg p.edges k) (by rw [q8s h2]; exact List.getElem_mem _)).1
 rw [qrE hl, q8s h2]
theorem qnY {p : Piece} (h : (q0B p 0).2 = 0) : q0B p 0 = (p.edges, 0) := by
 have h1 := q5D h
 unfold q0B at h ⊢
 split at h
 ·cases h
 rename_i g1
 rw [if_neg g1]
 split at h
 ·cases h
 rename_i g2
 rw [if_neg g2]
 split at h
 ·cases h
 rename_i g3
 rw [if_neg g3, if_neg (by simp [h1.2.1]), qnX h1.2.1, if_neg (by simp [h1.2.1])]
structure PcOk (b : List Piece) (p : Piece) : Prop where
 name : q1L p.name = true
 grain : ¬ (p.grain ≠ 1 ∧ p.grain ≠ 2 ∧ p.grain ≠ 4)
 once : (b.any fun o => o.name.toList == p.name.toList) = false
 grad : (q0B p 0).2 = 0
 plac : (q29 p 0).2 = 0
 wlen : p.widths.length = p.edges.length
 wid : ¬ (p.widths.any q2t) = true
theorem ql5 {b : List Piece} {p : Piece} (h : q3W b p = 0) : PcOk b p := by
 unfold q3W at h
 split at h
 ·cases h
 rename_i g1
 split at h
 ·cases h
 rename_i g2
 split at h
 ·cases h
 rename_i g3
 split at h
 ·rename_i g; exact absurd h g
 rename_i g4
 split at h
 ·rename_i g; exact absurd h g
 rename_i g5
 split at h
 ·cases h
 rename_i g6
 split at h
 ·cases h
 rename_i g7
 exact ⟨by simpa using g1, g2, by simpa using g3, by simpa using g4, by simpa using g5, by simpa using g6, g7⟩
theorem qhy {b : List Piece} {p : Piece} (h : PcOk b p) : q3W b p = 0 := by
 unfold q3W
 rw [if_neg (by simp [h.name]), if_neg h.grain, if_neg (by simp [h.once]), if_neg (by simp [h.grad]), if_neg (by simp [h.plac]), if_neg (by simp [h.wlen]), if_neg h.wid]
theorem qnZ (b : List Piece) (x : List UInt8) : (b.any fun o => o.name.toList == x) = ((b.map Piece.name).any fun n => n.toList == x) := by
 rw [List.any_map]; rfl
theorem qrF (l : List Piece) (k : Nat) : (l.set k (qby (pc l k))).map Piece.name = l.map Piece.name := by
 apply List.ext_getElem
 ·simp
 intro i h1 h2
 simp only [List.getElem_map]
 rw [List.getElem_set]
 split
 ·rename_i e; subst e
  rw [List.length_map] at h2
  show (pc l k).name = _
  rw [q7z h2]
 rfl
theorem qo0 {s : Sty} {k i : Nat} (hk : k < s.pieces.length) (hi : i < s.pieces.length) (h : q38 s i = 0) : q38 (q3h s k) i = 0 := by
 unfold q38 at h ⊢
 have hp := ql5 h
 have hl : (q3h s k).pieces.length = s.pieces.length := by simp [q3h]
 have hon : ∀ x : List UInt8, (((q3h s k).pieces.take i).any fun o => o.name.toList == x) = ((s.pieces.take i).any fun o => o.name.toList == x) := by
  intro x
  rw [qnZ, qnZ, List.map_take, List.map_take]
  show ((((s.pieces.set k (qby (pc s.pieces k))).map Piece.name).take i).any _) = _
  rw [qrF]
 by_cases e : i = k
 ·subst e
  have hq : pc (q3h s i).pieces i = qby (pc s.pieces i) := by
   rw [q7z (by rw [hl]; exact hi)]
   simp [q3h]
  rw [hq]
  refine qhy ⟨hp.name, hp.grain, ?_, by rw [qdb]; exact hp.grad, by rw [qnW]; exact hp.plac, by simp [qby], ?_⟩
  ·rw [hon]; exact hp.once
  rw [List.any_eq_true]
  rintro ⟨w, hw, e⟩
  have hw : w ∈ List.replicate (pc s.pieces i).edges.length (0 : Int) := hw
  rw [List.mem_replicate] at hw
  rw [hw.2] at e
  revert e; decide
 have hq : pc (q3h s k).pieces i = pc s.pieces i := by
  rw [q7z (by rw [hl]; exact hi), q7z hi]
  simp only [q3h]
  rw [List.getElem_set_ne (fun h => e h.symm)]
 rw [hq]
 exact qhy ⟨hp.name, hp.grain, by rw [hon]; exact hp.once, hp.grad, hp.plac, hp.wlen, hp.wid⟩
theorem q9O {f : Nat → Int} : ∀ {n : Nat}, (∀ i, i < n → f i = 0) → q0F f n = 0
 | 0, _ => rfl
 | n + 1, h => by rw [q0F, if_pos (q9O fun i hi => h i (by omega)), h n (by omega)]
theorem qpk (s : Sty) (k i : Nat) : (pc (q3h s k).pieces i).edges = (pc s.pieces i).edges := by
 by_cases hi : i < s.pieces.length
 ·rw [q7z (by simpa [q3h] using hi), q7z hi]
  simp only [q3h]
  rw [List.getElem_set]
  split
  ·rename_i e; subst e; rw [q7z hi]; rfl
  rfl
 have h1 : pc (q3h s k).pieces i = qgL := by
  unfold pc
  rw [List.getD_eq_getElem?_getD, List.getElem?_eq_none (by simpa [q3h] using hi)]; rfl
 have h2 : pc s.pieces i = qgL := by
  unfold pc
  rw [List.getD_eq_getElem?_getD, List.getElem?_eq_none (by omega)]; rfl
 rw [h1, h2]
theorem quA {s : Sty} (h : q32 s = 0) {k : Nat} (hk : k < s.pieces.length) : q32 (q3h s k) = 0 := by
 have hp := q5x h
 have hw := q7V hp.1
 have hl : (q3h s k).pieces.length = s.pieces.length := by simp [q3h]
 have h1 : q26 (q3h s k) = 0 := q9g ⟨hw.name, hw.size, hw.sizeS, hw.mults, hw.base, hw.once, hw.sizes, by rw [hl]; exact hw.pieces, hw.uses, hw.seams, hw.ops, hw.mult⟩
 rw [qi7 h1 (by rw [hl]; exact q9O fun i hi => qo0 hk hi (q1B hp.2.1 hi))]
 rw [if_neg (by rw [hl]; show ¬ (s.uses.any (q2C s.pieces.length) = true); rw [hp.2.2.1]; decide)]
 show q0F (q7A (q3h s k)) s.seams.length = 0
 refine q9O fun i hi => ?_
 have h2 := q1B hp.2.2.2 hi
 unfold q7A qe2 at h2 ⊢
 have he : ∀ p e, q4Q (q3h s k) p e = q4Q s p e := by
  intro p e
  unfold q4Q
  rw [hl, qpk]
 rw [he, he]
 exact h2
theorem qvX {s : Sty} (h : q32 s = 0) {k : Nat} (hk : k < s.pieces.length) {z u : Int} (hO : ¬ qbe s z u) (hm : mu s.mults z.toNat = 0) (hu : (us s.uses u.toNat).piece.toNat = k) :
 qdL (q3h s k) z u = (q0s (pc s.pieces k).edges, 0) ∧ qbB (q3h s k) z u = (pt (q0s (pc s.pieces k).edges) 0, 0) ∧ 2 ≤ (q0s (pc s.pieces k).edges).length ∧ q0Q (pc s.pieces k).edges = 0 := by
 have hp := q5x h
 have hpk := ql5 (q1B hp.2.1 hk)
 have hb := quA h hk
 have hg := qnY hpk.grad
 have hl := q5D hpk.grad
 have hpo : q2S (q3h s k) u = qby (pc s.pieces k) := by
  unfold q2S
  show pc (q3h s k).pieces (us s.uses u.toNat).piece.toNat = _
  rw [hu, q7z (by simpa [q3h] using hk)]
  simp [q3h]
 have ho : q3i (q3h s k) z u = ((pc s.pieces k).edges, qby (pc s.pieces k), 0) := by
  unfold q3i
  rw [if_neg (by simp [hb]), if_neg (by exact hO), hpo]
  have e : q0B (qby (pc s.pieces k)) (mu (q3h s k).mults z.toNat) = ((pc s.pieces k).edges, 0) := by
   show q0B _ (mu s.mults z.toNat) = _
   rw [hm, qdb, hg]
  rw [e]
 have hz := qpK (pc s.pieces k).edges
 rw [if_pos hl.2.1] at hz
 have h2 := (q1w hl.2.1).1
 have hv : 2 ≤ (q0s (pc s.pieces k).edges).length ∧ pt (eg (pc s.pieces k).edges 0).line 0 = pt (q0s (pc s.pieces k).edges) 0 := by
  have hln := (q20 hl.2.1 (eg (pc s.pieces k).edges 0) (by rw [q8s (by omega)]; exact List.getElem_mem _)).1
  have hln1 := (q20 hl.2.1 (eg (pc s.pieces k).edges 1) (by rw [q8s (by omega)]; exact List.getElem_mem _)).1
  generalize (pc s.pieces k).edges = E at *
  match E, h2 with
  | a :: b :: r, _ =>
    have e0 : eg (a :: b :: r) 0 = a := rfl
    have e1 : eg (a :: b :: r) 1 = b := rfl
    rw [e0] at hln
    rw [e1] at hln1
    rw [e0]
    constructor
    ·simp [q0s]; omega
    unfold q0s
    rw [List.flatMap_cons]
    match ha : a.line, hln with
    | x :: y :: l, _ => rfl
 refine ⟨?_, ?_, hv.1, hl.2.1⟩
 ·unfold qdL
  rw [ho]
  exact hz
 unfold qbB
 rw [ho]
 show (pt (eg (pc s.pieces k).edges 0).line 0, (0 : Int)) = _
 rw [hv.2]
end Go.F

namespace Go.F
attribute [local irreducible] IntKind.wrap wpM
theorem qvW {l : List Edge} (h : q0Q l = 0) : (q0s l).length ≤ 40 := (q2v (q1w h).2.2.2.2).2.1
theorem qvR {h : q0f} {es : List D} {k : Nat} {e e' : D} (hk : k < es.length) (hd : es.all (dat 4) = true) (he : q10 h 8 e = some e') : (es.set k e).mapM (q10 h 8) = some (es.set k e') := by
 induction es generalizing k with
 | nil => simp at hk
 | cons x es ih =>
   simp only [List.all_cons, Bool.and_eq_true] at hd
   cases k with
   | zero => simp [List.mapM_cons, he, qdF hd.2]
   | succ k => simp [List.mapM_cons, qog 4 8 x hd.1 (by omega), ih (by simpa using hk) hd.2]
theorem qvU {h : q0f} {A a x : Nat} {nm : ByteArray} {g : Int} {m : Bool} {E N C W : List D} (hA : h A = some (.row W x)) (ha : a = W.length) (hW : W.all (dat 4) = true) :
 q10 h 8 (.agg [.str nm, .lst E, .int .i64 g, .lst N, .lst C, .ref A 0 a, .bool m]) = some (.agg [.str nm, .lst E, .int .i64 g, .lst N, .lst C, .lst W, .bool m]) := by
 have e : ∀ d : List D, q10 h 7 (.lst d) = some (.lst d) := fun _ => rfl
 have e2 : q10 h 7 (.str nm) = some (.str nm) := rfl
 have e3 : q10 h 7 (.int .i64 g) = some (.int .i64 g) := rfl
 have e4 : q10 h 7 (.bool m) = some (.bool m) := rfl
 have e5 : q10 h 8 (.agg [.str nm, .lst E, .int .i64 g, .lst N, .lst C, .ref A 0 a, .bool m]) = (([.str nm, .lst E, .int .i64 g, .lst N, .lst C, .ref A 0 a, .bool m] : List D).mapM (q10 h 7)).map .agg := rfl
 rw [e5]
 simp only [List.mapM_cons, List.mapM_nil, e, e2, e3, e4, qvK hA ha hW (show 4 ≤ 6 by decide)]
 rfl
set_option maxRecDepth 100000 in
set_option maxHeartbeats 8000000 in
theorem qvY (s : Sty) (size use : Int) : PU qs4 [s.enc, .int .i64 size, .int .i64 use] = some (.bool true) := by
 obtain ⟨b, hb, hbs⟩ := qaY s
 have he : ∀ {x : Int} {P : Prop}, eqb x x = false → P := fun h => absurd rfl (q1a.1 h)
 refine q0h (fn := qbj) rfl (q0c ?_)
 refine gg rfl (q01 rfl rfl hb ?_)
 cases b with
 | false =>
   refine gg rfl (q0e rfl (gg rfl (q0e rfl (gg rfl (q0e rfl (gg rfl (q0e rfl (gg rfl (q0e rfl (gg rfl (q0g rfl (gg rfl (q01 rfl rfl q22 ?_)))))))))))))
   exact gg rfl (q08 rfl rfl rfl trivial rfl)
 | true =>
   have hL := hbs rfl
   have hB := hL.B
   have s1 := q1c s hB
   refine gg rfl (q0j rfl (gg rfl (q01 rfl rfl s1 (gg rfl (q05 rfl (fun g => ?_) (fun g => ?_))))))
   ·exact gg rfl (q0e rfl (gg rfl (q0e rfl (gg rfl (q0e rfl (gg rfl (q0g rfl (gg rfl (q01 rfl rfl q22 (gg rfl (q08 rfl rfl rfl trivial rfl)))))))))))
   have g : q32 s = 0 := q0A.1 g
   have hok := qdC g
   refine gg rfl (q05 rfl (fun f1 => ?_) (fun f1 => ?_))
   ·exact gg rfl (q0e rfl (gg rfl (q0e rfl (gg rfl (q0g rfl (gg rfl (q01 rfl rfl q22 (gg rfl (q08 rfl rfl rfl trivial rfl)))))))))
   rw [q07] at f1
   refine gg rfl ?_
   rw [List.length_map]
   refine q05 rfl (fun f2 => ?_) (fun f2 => ?_)
   ·exact gg rfl (q0e rfl (gg rfl (q0g rfl (gg rfl (q01 rfl rfl q22 (gg rfl (q08 rfl rfl rfl trivial rfl)))))))
   rw [q0E] at f2
   refine gg rfl (q05 rfl (fun f3 => ?_) (fun f3 => ?_))
   ·exact gg rfl (q0g rfl (gg rfl (q01 rfl rfl q22 (gg rfl (q08 rfl rfl rfl trivial rfl)))))
   rw [q07] at f3
   refine gg rfl ?_
   rw [List.length_map]
   refine q02 rfl (fun f4 => ?_) (fun f4 => ?_)
   ·exact gg rfl (q01 rfl rfl q22 (gg rfl (q08 rfl rfl rfl trivial rfl)))
   rw [q0E] at f4
   have hO : ¬ qbe s size use := by have := hok.mults; unfold qbe; omega
   obtain ⟨un, rfl⟩ := Int.eq_ofNat_of_zero_le f3
   obtain ⟨zn, rfl⟩ := Int.eq_ofNat_of_zero_le f1
   have hun : un < s.uses.length := by omega
   have hzn : zn < s.mults.length := by omega
   have huse := hok.use (us s.uses un) (by rw [q9Q hun]; exact List.getElem_mem _)
   have hpl : (us s.uses un).piece.toNat < s.pieces.length := by omega
   have hu2 := qde hun
   have hm2 := qpw hzn
   have hcut := fun hm => qvX (k := (us s.uses un).piece.toNat) g hpl hO hm rfl
   have hmz : mu s.mults (zn : Int).toNat = mu s.mults zn := rfl
   rw [hmz] at hcut
   generalize mu s.mults zn = mz at *
   have hk0 : (us s.uses un).piece = (((us s.uses un).piece.toNat : Nat) : Int) := by omega
   generalize us s.uses un = u0 at *
   generalize hkn : u0.piece.toNat = k at *
   have hpk := ql5 (q1B (q5x g).2.1 hpl)
   have hlen := q5D hpk.grad
   have hp12 := hok.pieces
   refine gg rfl (q0k un rfl rfl rfl hu2 rfl (gg rfl (q0k zn rfl rfl rfl hm2 rfl (gg rfl (q05 rfl (fun f5 => ?_) (fun f5 => ?_))))))
   ·exact gg rfl (q0e rfl (gg rfl (q0e rfl (gg rfl (q0g rfl (gg rfl (q01 rfl rfl q22 (gg rfl (q08 rfl rfl rfl trivial rfl)))))))))
   have f5 : mz = 0 := q0A.1 f5
   obtain ⟨hc1, hc2, hv2, hck⟩ := hcut f5
   have hE2 := (q1w hck).1
   have hE16 := (q1w hck).2.1
   have hv40 := qvW hck
   refine gg rfl (q05 rfl (fun f6 => ?_) (fun f6 => ?_))
   ·rw [q06] at f6; omega
   refine gg rfl ?_
   rw [List.length_map]
   refine q05 rfl (fun f7 => ?_) (fun f7 => ?_)
   ·rw [q0D] at f7; omega
   refine gg rfl (q0k k rfl rfl hk0 (qeL hpl) rfl (gg rfl ?_))
   rw [List.length_map]
   refine q02 rfl (fun f8 => ?_) (fun f8 => ?_)
   ·rw [q12] at f8; omega
   refine gg rfl (q0k k rfl rfl hk0 (qeL hpl) rfl (gg rfl (q0q (S := fun j : Nat => ([.int .i64 zn, .int .i64 un, .ptr 2 0 0, .int .i64 u0.piece, .ptr 4 0 0, .ref 5 0 (q0s ((pc s.pieces k).edges.take j)).length, q00 j], [none, none, some (.row [s.enc] 7), none, some (.row [(pc s.pieces k).enc] 7), some (.row ((q0s ((pc s.pieces k).edges.take j)).map Spot.enc) 2), none], [0, 0, 0, 0, 0, 0, 0])) (C := fun j => j ≤ (pc s.pieces k).edges.length) (m := fun j => (pc s.pieces k).edges.length - j) 0 (Nat.zero_le _) (by omega) ?_ ?_)))
   ·exact q03 rfl ⟨rfl, rfl, rfl, trivial⟩ rfl
   intro j hj N hN
   refine gg rfl ?_
   rw [List.length_map]
   refine q02 rfl (fun e => ?_) (fun e => ?_)
   ·rw [q06] at e
    have hlt : j < (pc s.pieces k).edges.length := by omega
    have w1 := wS (n := j)
    have hln := q20 hck (eg (pc s.pieces k).edges j) (by rw [q8s hlt]; exact List.getElem_mem _)
    have hvj := qew hlt
    have hvl := qcv (l := (pc s.pieces k).edges) (j + 1)
    rw [← q8s hlt] at hvj
    rw [hvj, List.length_append] at hvl
    have hxe := q24 hlt
    generalize eg (pc s.pieces k).edges j = x at *
    have hx : ((pc s.pieces k).edges.map Edge.enc)[j]? = some x.enc := hxe
    refine gg rfl (q0k j rfl rfl rfl hx rfl (gg rfl ?_))
    rw [List.length_map]
    refine q02 rfl (fun f => ?_) (fun f => ?_)
    ·have w2 : IntKind.i64.wrap ((x.line.length : Int) - 1) = ((x.line.length - 1 : Nat) : Int) := by rw [wrap64 (by omega) (by omega)]; omega
     have hdl : x.line.take (x.line.length - 1) = x.line.dropLast := by rw [List.dropLast_eq_take]
     refine gg rfl (q0k j rfl rfl rfl hx rfl (gg rfl ?_))
     rw [w2]
     refine qdM (x.line.length - 1) rfl (q1X (n := 2) (fun _ => rfl) _) ⟨_, _, rfl, rfl⟩ (by rw [List.length_map]; omega) ?_
     rw [← List.map_take, hdl]
     refine gg rfl (qjO rfl rfl rfl (q1X (n := 2) (fun _ => rfl) _) (by simp) (Nat.zero_le _) (by simp [q0U] at *; omega) ?_)
     rw [← List.map_append, ← hvj]
     refine gg rfl (q04 (hN (j + 1) hlt (by omega) (q03 rfl ⟨rfl, rfl, q0b q0S _, trivial⟩ ?_)))
     rw [w1, hvj]
     simp [q00]
    rw [q07] at f; omega
   rw [q07] at e
   obtain rfl : j = (pc s.pieces k).edges.length := by omega
   clear hN
   rw [List.take_length]
   refine gg rfl (q04 (gg rfl ?_))
   rw [List.length_map]
   refine q4H (pc s.pieces k).edges.length rfl rfl rfl (by simp [q0U]; omega) ?_
   refine gg rfl (qjO rfl rfl rfl (q1X (n := 7) (fun _ => rfl) _) rfl (Nat.zero_le _) (by simp [q0U]; omega) ?_)
   refine gg rfl (q0J k rfl rfl rfl rfl hk0 (by simp; omega) ?_)
   refine gg rfl ?_
   have hk00 : 0 + k = k := Nat.zero_add k
   rw [hk00, List.nil_append]
   refine qof (e := (pc s.pieces k).enc) rfl rfl rfl (Nat.zero_le _) (qeL hpl) rfl ?_
   have hset : (q3h s k).pieces.map Piece.enc = (s.pieces.map Piece.enc).set k (qby (pc s.pieces k)).enc := by unfold q3h; rw [List.map_set]
   have hbe : (q3h s k).enc = .agg [.str s.name, .lst (s.sizes.map .str), .lst (s.mults.map q00), .lst ((s.pieces.map Piece.enc).set k (qby (pc s.pieces k)).enc), .lst (s.uses.map Use.enc), .lst (s.seams.map Sew.enc), .lst (s.ops.map Opn.enc)] := by rw [← hset]; rfl
   have hBB : StyB (q3h s k) := ⟨hB.sizes, hB.size, hB.mults, by simp [q3h]; exact hB.pieces, hB.uses, hB.seams, hB.ops, fun p hp => ?_, fun p hp => ?_, fun p hp => ?_⟩
   rotate_left
   ·rcases List.mem_or_eq_of_mem_set hp with h | h
    ·exact hB.corners p h
    subst h; exact hB.corners (pc s.pieces k) (qpu hpl)
   ·rcases List.mem_or_eq_of_mem_set hp with h | h
    ·exact hB.widths p h
    subst h; simp [qby]; omega
   ·rcases List.mem_or_eq_of_mem_set hp with h | h
    ·exact hB.notches p h
    subst h; exact hB.notches (pc s.pieces k) (qpu hpl)
   have k1 := qtJ (q3h s k) zn un hBB
   have k2 := qlc (q3h s k) zn un hBB
   rw [hc1] at k1
   rw [hc2] at k2
   have hsm := qhv (q0s (pc s.pieces k).edges) (q0s (pc s.pieces k).edges) (by omega)
   rw [decide_eq_true rfl] at hsm
   have hrep : List.replicate (pc s.pieces k).edges.length (D.int .i64 0) = (qby (pc s.pieces k)).widths.map q00 := by simp [qby, q00]
   have hpe : (qby (pc s.pieces k)).enc = .agg [.str (pc s.pieces k).name, .lst ((pc s.pieces k).edges.map Edge.enc), .int .i64 (pc s.pieces k).grain, .lst ((pc s.pieces k).notches.map Ntc.enc), .lst ((pc s.pieces k).corners.map Spot.enc), .lst (List.replicate (pc s.pieces k).edges.length (D.int .i64 0)), .bool (pc s.pieces k).match_] := by rw [hrep]; rfl
   rw [hpe] at hbe
   have hdr : (List.replicate (pc s.pieces k).edges.length (D.int .i64 0)).all (dat 4) = true := by rw [hrep]; exact q1t qln _
   have htk : ∀ e, ((s.pieces.map Piece.enc).set k e).take (0 + (s.pieces.map Piece.enc).length) = (s.pieces.map Piece.enc).set k e := fun e => List.take_of_length_le (by rw [List.length_set]; omega)
   refine gg rfl (qvV [(q3h s k).enc, .int .i64 zn, .int .i64 un] rfl (fun c hc => ?_) k1 fun z => ?_)
   ·rw [hbe] at hc
    show qvT _ ((s.pieces.map Piece.enc).set k (.agg [.str (pc s.pieces k).name, .lst ((pc s.pieces k).edges.map Edge.enc), .int .i64 (pc s.pieces k).grain, .lst ((pc s.pieces k).notches.map Ntc.enc), .lst ((pc s.pieces k).corners.map Spot.enc), .ref (0 + 123 + 3) 0 (pc s.pieces k).edges.length, .bool (pc s.pieces k).match_])) 0 (0 + (s.pieces.map Piece.enc).length) _
    unfold qvT
    refine ⟨_, by simp, ?_, hc⟩
    rw [List.drop_zero, htk]
    refine qvR (by simpa using hpl) (q1t qvS _) ?_
    exact qvU rfl (by simp) hdr
   refine gg rfl (qvV [(q3h s k).enc, .int .i64 zn, .int .i64 un] rfl (fun c hc => ?_) k2 fun z => ?_)
   ·rw [hbe] at hc
    show qvT _ ((s.pieces.map Piece.enc).set k (.agg [.str (pc s.pieces k).name, .lst ((pc s.pieces k).edges.map Edge.enc), .int .i64 (pc s.pieces k).grain, .lst ((pc s.pieces k).notches.map Ntc.enc), .lst ((pc s.pieces k).corners.map Spot.enc), .ref (0 + 123 + 3) 0 (pc s.pieces k).edges.length, .bool (pc s.pieces k).match_])) 0 (0 + (s.pieces.map Piece.enc).length) _
    unfold qvT
    refine ⟨_, by simp, ?_, hc⟩
    rw [List.drop_zero, htk]
    refine qvR (by simpa using hpl) (q1t qvS _) ?_
    exact qvU rfl (by simp) hdr
   refine gg rfl (q05 rfl (fun _ => ?_) he)
   refine gg rfl (q05 rfl (fun _ => ?_) he)
   refine gg rfl (q05 rfl (fun _ => ?_) (fun e9 => ?_))
   rotate_left
   ·rw [q07] at e9; omega
   refine gg rfl (q2o rfl rfl ⟨q3s (by simp) (q1t q3E _), trivial⟩ (by rw [q5n (by simp)]; exact hsm) fun z => ?_)
   refine gg rfl (q0e rfl (gg rfl (q0J 0 rfl rfl rfl rfl rfl (by omega) ?_)))
   refine gg rfl (qqt rfl rfl (q0T (by omega)) rfl ?_)
   refine gg rfl (q05 rfl (fun _ => ?_) (fun h => by simp [q12.2 rfl] at h))
   exact gg rfl (q01 rfl rfl q22 (gg rfl (q08 rfl rfl rfl trivial rfl)))
end Go.F
