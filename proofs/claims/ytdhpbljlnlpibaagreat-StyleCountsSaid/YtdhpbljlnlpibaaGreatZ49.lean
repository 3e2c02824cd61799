/- Parts of the proof, part 49: All4~, All5~, All6~, Nz1~, Nz2~, Nz8~, Nz9~, St3~, St5~, Pl1, Alv, Lgt, Alv2, SLay, SCnt. -/
import Derived.Test.YtdhpbljlnlpibaaGreatZ44
import Derived.Test.YtdhpbljlnlpibaaGreatZ47
import Derived.Test.YtdhpbljlnlpibaaGreatZ45
set_option linter.all false
namespace Go.F
attribute [local irreducible] IntKind.wrap wpM
section
variable {T : Tab} {sh : Shr} {nx0 : Nat} {s : List Fr} {t : q0u} {h : q0f} {z : Frz} {nx : Nat} {q : Ex → q0u → q0f → Frz → Nat → Prop}
variable {base i : Nat} {res : List Nat} {g : Gd} {rest : List KOper}
end
def q7Z (a b : Spot) (w : Int) : Spot := ⟨q1q (w * (b.y - a.y)) (isq (sqd a b)), q1q (-w * (b.x - a.x)) (isq (sqd a b))⟩
def q3n (p : List Spot) (each : List Int) (sign : Int) (i : Nat) : Spot := q7Z (pt p i) (pt p ((i + 1) % p.length)) (sign * wd each i)
def q4S (p : List Spot) (each : List Int) (sign : Int) : List Spot := (List.range p.length).map (q3n p each sign)
def q14 (l : List Edge) (ws : List Int) : List Spot × Int :=
 if q0Q l = 0 then
  if ws.length = l.length then
   if ws.any q2t then ([], 3) else (q4S (q0s l) (q1G l ws l.length) (sgn (q1s (q0s l))), 0)
  else ([], 1)
 else ([], q0Q l)
def qll (r : List Spot × Int) : D := .tup [q0o r.1, .int .i64 r.2]
theorem qok (a b : Spot) [OkS a] [OkS b] : sqd a b < 2 ^ 50 := by
 have e := qam a b
 have hb : Bd ((b.x - a.x) * (b.x - a.x) + (b.y - a.y) * (b.y - a.y)) _ := inferInstance
 have := hb.le
 omega
theorem qs6 {x : Int} (h : x ≠ 0) : 0 < x * x := by
 rcases Int.lt_or_gt_of_ne h with h | h
 ·have := Int.mul_pos (show 0 < -x by omega) (show 0 < -x by omega)
  rwa [Int.neg_mul_neg] at this
 ·exact Int.mul_pos h h
theorem qdk {a b : Spot} (h : a ≠ b) : 0 < sqd a b := by
 have e := qam a b
 have h1 := q6I (b.x - a.x)
 have h2 := q6I (b.y - a.y)
 by_cases hx : b.x - a.x = 0
 ·have hy : b.y - a.y ≠ 0 := fun hy => h (by cases a; cases b; simp at hx hy ⊢; omega)
  have := qs6 hy
  omega
 ·have := qs6 hx
  omega
theorem qeQ {n : Nat} (h : n < 2 ^ 54) (h0 : 0 < n) : 0 < isq n := by
 obtain ⟨_, h2⟩ := qeO h
 by_cases hc : isq n = 0
 ·rw [hc] at h2; omega
 ·omega
theorem qs7 {n : Nat} (h : n < 2 ^ 50) : isq n < 33554432 := by
 obtain ⟨h1, _⟩ := qeO (n := n) (by omega)
 exact qeP (by omega)
theorem qg1 {p : List Spot} (hs : q3X p) (h2 : 2 ≤ p.length) {i : Nat} (hi : i < p.length) : pt p i ≠ pt p ((i + 1) % p.length) := by
 intro he
 by_cases hl : i + 1 < p.length
 ·rw [Nat.mod_eq_of_lt hl] at he
  refine hs.1 (i + 1) hl ?_
  rw [← he, q11 hi]
  exact List.mem_iff_getElem.2 ⟨i, by simp; omega, by simp⟩
 ·have : i + 1 = p.length := by omega
  rw [this, Nat.mod_self] at he
  refine hs.1 i hi ?_
  rw [he, q11 (by omega)]
  exact List.mem_iff_getElem.2 ⟨0, by simp; omega, by simp⟩
theorem qmD (l : List Edge) (ws : List Int) : ∀ k, k ≤ ws.length → ∀ x ∈ q1G l ws k, x ∈ ws := by
 intro k
 induction k with
 | zero => intro _ x hx; simp [q1G] at hx
 | succ k ih =>
   intro hk x hx
   rw [q1G, List.mem_append] at hx
   rcases hx with hx | hx
   ·exact ih (by omega) x hx
   ·rw [(List.mem_replicate.1 hx).2]
    have : wd ws k = ws[k] := by simp [wd, show k < ws.length by omega]
    rw [this]; exact List.getElem_mem _
theorem qeR {w : Int} (h : q2t w = false) : 0 ≤ w ∧ w ≤ 500 := by simp [q2t] at h; omega
set_option maxHeartbeats 4000000 in
theorem qqw (l : List Edge) (ws : List Int) :
 PU q8z [edges l, ints ws] = some (qll (q14 l ws)) := by
 have hpoly := q8t l
 refine q0h (fn := q5c) rfl (q0c ?_)
 refine go 800 rfl ?_
 by_cases hc : ¬ q0Q l = 0
 ·rw [qcw, if_neg hc] at hpoly
  refine q01 rfl rfl hpoly ?_
  refine go 800 rfl ?_
  refine q02 rfl (fun g => ?_) (fun g => ?_)
  ·refine go 800 rfl ?_
   refine q08 rfl rfl rfl trivial ?_
   rw [q14, if_neg hc]; rfl
  ·rw [q0A] at g; exact absurd g hc
 have hc : q0Q l = 0 := Classical.byContradiction hc
 rw [qcw, if_pos hc] at hpoly
 rw [q14, if_pos hc]
 obtain ⟨h2, h16, _, _, hchk⟩ := q1w hc
 obtain ⟨v3, v40, vok, vin, vs⟩ := q2v hchk
 have hl1 : ∀ e ∈ l, 1 ≤ e.line.length ∧ e.line.length ≤ 100000 := fun e he => by have := q20 hc e he; omega
 refine q01 rfl rfl hpoly ?_
 refine go 800 rfl ?_
 refine q02 rfl (fun g => ?_) (fun g => ?_)
 ·rw [q0z] at g; exact absurd rfl g
 refine go 800 rfl ?_
 rw [List.length_map, List.length_map]
 refine q02 rfl (fun g => ?_) (fun g => ?_)
 ·rw [q0z] at g
  refine go 800 rfl ?_
  refine q08 rfl rfl rfl trivial ?_
  rw [if_neg (by omega)]; rfl
 rw [q0A] at g
 have hwl : ws.length = l.length := by omega
 rw [if_pos hwl]
 refine go 800 rfl ?_
 refine q0q (S := fun k : Nat => ([edges l, ints ws, q0o (q0s l), ints ws, q00 ws.length, q00 k], [none, none, none, none, none, none], [0, 0, 0, 0, 0, 0])) (C := fun k => k ≤ ws.length ∧ ∀ i (hi : i < ws.length), i < k → q2t ws[i] = false) (m := fun k => ws.length - k) 0 ⟨Nat.zero_le _, fun i hi h => by omega⟩ (by omega) ?_ ?_
 ·exact q03 rfl trivial (by simp [edges, ints, q0o, q00])
 intro k ⟨hk, hall⟩ N hN
 refine go 800 rfl ?_
 refine q02 rfl (fun g1 => ?_) (fun g1 => ?_)
 ·rw [q06] at g1
  have hlt : k < ws.length := by omega
  have w1 : IntKind.i64.wrap ((k : Int) + 1) = ((k + 1 : Nat) : Int) := wrap64 (by omega) (by omega)
  have yes : q2t ws[k] = false → ∀ {t : q0u} {h : q0f} {z : Frz} {nx : Nat}, (q0Z 0 [(0, 0), (1, 0), (6, 0), (33, 0), (34, 0), (35, 0)] t h z nx fun _ _ kp => kp = ([edges l, ints ws, q0o (q0s l), ints ws, q00 ws.length, q00 ((k + 1 : Nat) : Int)], [none, none, none, none, none, none], [0, 0, 0, 0, 0, 0])) → N t h z nx := by
   intro hb t h z nx hst
   refine hN (k + 1) ⟨by omega, fun i hi hik => ?_⟩ (by omega) hst
   by_cases hik' : i < k
   ·exact hall i hi hik'
   ·obtain rfl : i = k := by omega
    exact hb
  have no : q2t ws[k] = true → ws.any q2t = true := fun hb => List.any_eq_true.2 ⟨_, List.getElem_mem hlt, hb⟩
  clear hN
  refine go 800 rfl ?_
  refine q0k k rfl rfl rfl (q1J hlt) rfl ?_
  refine go 800 rfl ?_
  refine q05 rfl (fun e1 => ?_) (fun e1 => ?_)
  ·rw [q06] at e1
   refine go 800 rfl ?_
   refine q0g rfl ?_
   refine go 800 rfl ?_
   refine q04 ?_
   refine go 800 rfl ?_
   refine q08 rfl rfl rfl trivial ?_
   rw [if_pos (no (by simp [q2t, e1]))]; rfl
  ·rw [q07] at e1
   refine go 800 rfl ?_
   refine q02 rfl (fun e2 => ?_) (fun e2 => ?_)
   ·rw [q06] at e2
    refine go 800 rfl ?_
    refine q04 ?_
    refine go 800 rfl ?_
    refine q08 rfl rfl rfl trivial ?_
    rw [if_pos (no (by simp [q2t, e2]))]; rfl
   ·rw [q07] at e2
    refine go 800 rfl ?_
    refine q04 ?_
    exact yes (by simp [q2t]; omega) (q03 rfl trivial (by simp [edges, ints, q0o, q00, w1]))
 rw [q07] at g1
 clear hN
 have hgood : ws.any q2t = false := by
  rw [List.any_eq_false]
  intro x hx
  obtain ⟨i, hi, rfl⟩ := List.getElem_of_mem hx
  rw [hall i hi (by omega)]; decide
 rw [if_neg (by rw [hgood]; decide)]
 have hgood' : ∀ x ∈ ws, 0 ≤ x ∧ x ≤ 500 := fun x hx => qeR (by
  cases hb : q2t x with
  | false => rfl
  | true => rw [List.any_eq_true.2 ⟨x, hx, hb⟩] at hgood; cases hgood)
 have hseg := qbJ l ws l.length (Nat.le_refl _)
 rw [List.take_length] at hseg
 refine go 800 rfl ?_
 refine q04 ?_
 refine go 800 rfl ?_
 refine q01 rfl rfl (q41 (q0s l)) ?_
 refine go 800 rfl ?_
 refine q01 rfl rfl (q9U l ws (by omega) hl1 (by omega) (by omega)) ?_
 refine go 800 rfl ?_
 have heb : ∀ i, 0 ≤ wd (q1G l ws l.length) i ∧ wd (q1G l ws l.length) i ≤ 500 := by
  intro i
  by_cases hi : i < (q1G l ws l.length).length
  ·have : wd (q1G l ws l.length) i = (q1G l ws l.length)[i] := by simp [wd, hi]
   rw [this]; exact hgood' _ (qmD l ws l.length (by omega) _ (List.getElem_mem _))
  ·have : wd (q1G l ws l.length) i = 0 := by simp [wd, List.getElem?_eq_none (Nat.le_of_not_lt hi)]
   rw [this]; decide
 generalize hv : q0s l = v at *
 generalize q1G l ws l.length = each at *
 have hsb : -1 ≤ sgn (q1s v) ∧ sgn (q1s v) ≤ 1 := by have := (qoA (q1s v)).le; omega
 generalize sgn (q1s v) = sg at *
 rw [List.length_map]
 refine q4H v.length rfl rfl rfl (by simp [q0U]; omega) ?_
 have ez : List.replicate v.length (D.agg [D.int IntKind.i64 0, D.int IntKind.i64 0]) = (q5I ⟨0, 0⟩ v.length (q3n v each sg) 0).map Spot.enc := by
  rw [qg0]; simp [Spot.enc]
 rw [ez]
 refine go 800 rfl ?_
 refine q0q (S := fun k : Nat => ([q0o v, .int .i64 sg, ints each, .ref 3 0 v.length, q0o v, q00 v.length, q00 k], [none, none, none, some (.row ((q5I ⟨0, 0⟩ v.length (q3n v each sg) k).map Spot.enc) 2), none, none, none], [0, 0, 0, 0, 0, 0, 0])) (C := fun k => k ≤ v.length) (m := fun k => v.length - k) 0 (Nat.zero_le _) (by omega) ?_ ?_
 ·exact q03 rfl ⟨q0b q0S _, trivial⟩ (by simp [q0o, ints, q00])
 intro k hk N hN
 refine go 800 rfl ?_
 refine q02 rfl (fun g2 => ?_) (fun g2 => ?_)
 ·rw [q06] at g2
  have hlt : k < v.length := by omega
  have w1 : IntKind.i64.wrap ((k : Int) + 1) = ((k + 1 : Nat) : Int) := wrap64 (by omega) (by omega)
  have hne := qg1 vs (by omega) hlt
  have heb := heb k
  have hsq := qok (pt v k) (pt v ((k + 1) % v.length))
  have hsp := qdk hne
  have hir := qeQ (n := sqd (pt v k) (pt v ((k + 1) % v.length))) (by omega) hsp
  have hil := qs7 hsq
  have hse := qam (pt v k) (pt v ((k + 1) % v.length))
  have hset := qig ⟨0, 0⟩ (q3n v each sg) hlt
  have hsh : q3n v each sg k = ⟨q1q (sg * wd each k * ((pt v ((k + 1) % v.length)).y - (pt v k).y)) (isq (sqd (pt v k) (pt v ((k + 1) % v.length)))), q1q (-(sg * wd each k) * ((pt v ((k + 1) % v.length)).x - (pt v k).x)) (isq (sqd (pt v k) (pt v ((k + 1) % v.length))))⟩ := rfl
  have bx : Bd ((pt v ((k + 1) % v.length)).x - (pt v k).x) 8388608 := inferInstance
  have by' : Bd ((pt v ((k + 1) % v.length)).y - (pt v k).y) 8388608 := inferInstance
  have c1 : IntKind.i64.wrap ((pt v ((k + 1) % v.length)).x - (pt v k).x) = (pt v ((k + 1) % v.length)).x - (pt v k).x := q0K (by decide)
  have c2 : IntKind.i64.wrap ((pt v ((k + 1) % v.length)).y - (pt v k).y) = (pt v ((k + 1) % v.length)).y - (pt v k).y := q0K (by decide)
  have bw : Bd (wd each k) 500 := ⟨by omega⟩
  have bs : Bd sg 1 := ⟨by omega⟩
  have c3 : IntKind.i64.wrap (sg * wd each k) = sg * wd each k := q0K (by decide)
  generalize hdx : (pt v ((k + 1) % v.length)).x - (pt v k).x = dx at *
  generalize hdy : (pt v ((k + 1) % v.length)).y - (pt v k).y = dy at *
  generalize hw' : sg * wd each k = w at *
  have bw' : Bd w 500 := by rw [← hw']; exact ⟨Nat.le_trans (qmF (a := bs) (b := bw)).le (by decide)⟩
  have c4 : IntKind.i64.wrap (dx * dx) = dx * dx := q0K (by decide)
  have c5 : IntKind.i64.wrap (dy * dy) = dy * dy := q0K (by decide)
  have c6 : IntKind.i64.wrap (dx * dx + dy * dy) = ((sqd (pt v k) (pt v ((k + 1) % v.length)) : Nat) : Int) := by rw [hse]; exact q0K (by decide)
  have c7 : IntKind.i64.wrap (w * dy) = w * dy := q0K (by decide)
  have c8 : IntKind.i64.wrap (0 - w) = -w := by rw [wrap64 (by have := bw'.le; omega) (by have := bw'.le; omega)]; omega
  have c9 : IntKind.i64.wrap (-w * dx) = -w * dx := q0K (by decide)
  have b7 : Bd (w * dy) _ := qmF
  have b9 : Bd (-w * dx) _ := qmF
  have l7 := b7.le
  have l9 := b9.le
  refine go 800 rfl ?_
  refine q0k k rfl rfl rfl (q0T hlt) rfl ?_
  refine go 800 rfl ?_
  refine q4R rfl rfl (by rw [List.length_map]; omega) ?_
  refine go 800 rfl ?_
  refine q0k ((k + 1) % v.length) rfl rfl (by rw [w1, List.length_map, q1K]) (q0T (Nat.mod_lt _ (by omega))) rfl ?_
  refine go 800 rfl ?_
  refine q0k k rfl rfl rfl (qie (by omega)) rfl ?_
  refine go 800 rfl ?_
  rw [hdx, hdy, c1, c2, hw', c3, c4, c5, c6]
  refine q01 rfl rfl (qtZ _ hsq) ?_
  refine go 800 rfl ?_
  rw [c7]
  refine q01 rfl rfl (qid (w * dy) _ (by omega) (by omega) (by omega) (by omega)) ?_
  refine go 800 rfl ?_
  rw [c8, c9]
  refine q01 rfl rfl (qid (-w * dx) _ (by omega) (by omega) (by omega) (by omega)) ?_
  refine go 800 rfl ?_
  refine q0J k rfl rfl rfl rfl rfl hlt ?_
  refine go 800 rfl ?_
  refine qih (enc := Spot.enc) (q5I ⟨0, 0⟩ v.length (q3n v each sg) k) k (q3n v each sg k) rfl (by rw [hsh]; rfl) (Nat.zero_add _) rfl (fun _ => rfl) rfl (Nat.zero_le _) (by rw [qbK]; exact hlt) ?_
  rw [hset]
  refine go 800 rfl ?_
  refine q04 ?_
  exact hN (k + 1) hlt (by omega) (q03 rfl ⟨q0b q0S _, trivial⟩ (by simp [q0o, ints, q00, w1]))
 rw [q07] at g2
 obtain rfl : k = v.length := by omega
 refine go 800 rfl ?_
 refine q04 ?_
 refine go 800 rfl ?_
 refine q08 rfl rfl rfl ⟨q3s (by simp [qbK]) (q1t q3E _), trivial⟩ ?_
 rw [q5n (by simp [qbK]), qdj]; rfl
end Go.F

namespace Go.F
attribute [local irreducible] IntKind.wrap wpM
theorem qbL (s : Spot) [h : MidS s] : PU q2b [s.enc] = some (qgC (qp s)) := by
 have h1 := h.bx
 have h2 := h.byy
 refine q0h (fn := q5Q) rfl (q0c ?_)
 refine go 800 rfl ?_
 refine q01 rfl rfl (qnD s.x s.y (by omega) (by omega) (by omega) (by omega)) ?_
 refine go 800 rfl ?_
 exact q08 rfl rfl rfl trivial rfl
theorem qol (a b : Spot) [MidS a] [MidS b] : PU q4Z [a.enc, b.enc] = some (q27 a b).enc := by
 have w1 : IntKind.i64.wrap (a.x + b.x) = a.x + b.x := q0K (by decide)
 have w2 : IntKind.i64.wrap (a.y + b.y) = a.y + b.y := q0K (by decide)
 refine q0h (fn := q7e) rfl (q0c ?_)
 refine go 800 rfl ?_
 refine q08 rfl rfl rfl trivial ?_
 rw [w1, w2]; rfl
theorem q4E (s : Spot) (m : Int) (h0 : 0 ≤ m) (h1 : m ≤ 1099511627776) : PU q5p [s.enc, .int .i64 m] = some (.bool (q0v s m)) := by
 have w : IntKind.i64.wrap (0 - m) = -m := by rw [wrap64 (by omega) (by omega)]; omega
 refine q0h (fn := q5e) rfl (q0c ?_)
 refine go 800 rfl ?_
 rw [w]
 repeat' (first
  | (refine goP 800 rfl rfl ?_)
  | (show wpM _ _ _ (Fr.ops _ _ (KOper.mk _ _ (some _) _ _ :: _) :: _) Ex.normal _ _ _ _ _; first | refine q0e rfl ?_ | refine q0j rfl ?_ | refine q05 rfl (fun _ => ?_) (fun _ => ?_))
  | (show wpM _ _ _ (Fr.code (K.cond _ _ _) :: _) Ex.normal _ _ _ _ _; first | refine q0g rfl ?_ | refine q0m rfl ?_ | refine q02 rfl (fun _ => ?_) (fun _ => ?_))
  | (show wpM _ _ _ (Fr.ops _ _ (KOper.mk _ _ none _ (KOp.pick _ _ _) :: _) :: _) Ex.normal _ _ _ _ _; refine q0G rfl (fun _ => ?_) (fun _ => ?_))
  | (show wpM _ _ _ [] _ _ _ _ _ _; refine q08 rfl rfl rfl trivial ?_))
 all_goals simp only [w] at *
 all_goals ((try simp only [q1H, q1I, q2i, q3Q, decide_eq_true_eq, decide_eq_false_iff_not, Bool.not_eq_true, Bool.not_eq_false, Int.not_lt, Int.not_le] at *); first | (simp_all [q0v]; done) | (simp_all [q0v]; omega) | (rw [D.bool.injEq, Bool.eq_iff_iff]; simp [q0v]; omega) | (rw [D.bool.injEq, Bool.eq_iff_iff]; simp_all [q0v]; omega) | (simp [q0v]; split <;> (try split) <;> omega))
def q35 (v : Spot) (a b : Seg) : List Spot :=
 match q8L (qp a.fr) (qp a.to) (qp b.fr) (qp b.to) with
 | none => [a.to, b.fr]
 | some m =>
   if (q4k (q1d m (qp v))).2 = 0 ∧ q0v (q4k (q1d m (qp v))).1 (4 * max a.w b.w + 4) = true then [q27 v (q4k (q1d m (qp v))).1] else [a.to, b.fr]
theorem qs8 (p : QP) : MidS (q4k p).1 := by
 unfold q4k
 split
 ·rename_i h
  rw [Bool.and_eq_true, q4l, q4l] at h
  exact ⟨by simp only; omega, by simp only; omega⟩
 ·exact ⟨by simp, by simp⟩
theorem q5J {l : List Spot} {n : Nat} (hn : n = l.length) : 0 + n ≤ (l.map Spot.enc).length ∧ (((l.map Spot.enc).drop 0).take n).all (dat 4) = true := by
 subst hn
 refine ⟨by simp, ?_⟩
 rw [List.drop_zero, List.take_of_length_le (by simp)]
 exact q1t q3E _
set_option maxHeartbeats 1000000 in
theorem qqx (v : Spot) (a b : Seg) [hv : MidS v] [ha : SegOk a] [hb : SegOk b] : PU q8A [v.enc, a.enc, b.enc] = some (q0o (q35 v a b)) := by
 have hm := qka (RP.of (qp a.fr)) (RP.of (qp a.to)) (RP.of (qp b.fr)) (RP.of (qp b.to)) (by decide)
 rw [RP.of_v, RP.of_v, RP.of_v, RP.of_v] at hm
 have a0 := ha.w0
 have a1 := ha.w1
 have b0 := hb.w0
 have b1 := hb.w1
 refine q0h (fn := q5d) rfl (q0c ?_)
 refine go 800 rfl ?_
 refine q01 rfl rfl (qbL a.fr) ?_
 refine go 800 rfl ?_
 refine q01 rfl rfl (qbL a.to) ?_
 refine go 800 rfl ?_
 refine q01 rfl rfl (qbL b.fr) ?_
 refine go 800 rfl ?_
 refine q01 rfl rfl (qbL b.to) ?_
 refine go 800 rfl ?_
 cases hq : q8L (qp a.fr) (qp a.to) (qp b.fr) (qp b.to) with
 | none =>
   rw [hq] at hm
   refine q01 rfl rfl hm ?_
   refine go 800 rfl ?_
   refine q02 rfl (fun g => ?_) (fun g => ?_)
   ·rw [q12] at g; cases g
   refine go 800 rfl ?_
   refine q08 rfl rfl rfl ⟨q5J (l := [a.to, b.fr]) rfl, trivial⟩ ?_
   rw [q35, hq]; rfl
 | some m =>
   rw [hq] at hm
   have hqm : QPB m 50 := by
    unfold q8L at hq
    split at hq
    ·cases hq
    ·cases hq; exact inferInstance
   have hsub := q6b (RP.of m) (RP.of (qp v)) (by decide) (by decide)
   rw [RP.of_v, RP.of_v] at hsub
   have hgr := qup (RP.of (q1d m (qp v))) (by decide)
   rw [RP.of_v] at hgr
   have hgm := qs8 (q1d m (qp v))
   have hc : q35 v a b = if (q4k (q1d m (qp v))).2 = 0 ∧ q0v (q4k (q1d m (qp v))).1 (4 * max a.w b.w + 4) = true then [q27 v (q4k (q1d m (qp v))).1] else [a.to, b.fr] := by
    rw [q35, hq]
   rw [hc]
   generalize q4k (q1d m (qp v)) = gd at *
   have w1 : IntKind.i64.wrap (4 * max a.w b.w) = 4 * max a.w b.w := wrap64 (by omega) (by omega)
   have w2 : IntKind.i64.wrap (4 * max a.w b.w + 4) = 4 * max a.w b.w + 4 := wrap64 (by omega) (by omega)
   refine q01 rfl rfl hm ?_
   refine go 800 rfl ?_
   refine q02 rfl (fun _ => ?_) (fun g => absurd rfl (q1a.1 g))
   refine go 800 rfl ?_
   refine q01 rfl rfl (qbL v) ?_
   refine go 800 rfl ?_
   refine q01 rfl rfl hsub ?_
   refine go 800 rfl ?_
   refine q01 rfl rfl hgr ?_
   refine go 800 rfl ?_
   refine q05 rfl (fun g1 => ?_) (fun g1 => ?_)
   ·rw [q12] at g1
    refine go 800 rfl ?_
    rw [w1, w2]
    refine q01 rfl rfl (q4E gd.1 (4 * max a.w b.w + 4) (by omega) (by omega)) ?_
    refine go 800 rfl ?_
    refine q02 rfl (fun g2 => ?_) (fun g2 => ?_)
    ·refine go 800 rfl ?_
     refine q01 rfl rfl (qol v gd.1) ?_
     refine go 800 rfl ?_
     refine q08 rfl rfl rfl ⟨q5J (l := [q27 v gd.1]) rfl, trivial⟩ ?_
     rw [if_pos ⟨g1, g2⟩]; rfl
    ·refine go 800 rfl ?_
     refine q08 rfl rfl rfl ⟨q5J (l := [a.to, b.fr]) rfl, trivial⟩ ?_
     rw [if_neg (fun h => by rw [h.2] at g2; cases g2)]; rfl
   ·rw [q1a] at g1
    refine go 800 rfl ?_
    refine q0m rfl ?_
    refine go 800 rfl ?_
    refine q08 rfl rfl rfl ⟨q5J (l := [a.to, b.fr]) rfl, trivial⟩ ?_
    rw [if_neg (fun h => g1 h.1)]; rfl
end Go.F

namespace Go.F
attribute [local irreducible] IntKind.wrap wpM
section
variable {T : Tab} {sh : Shr} {nx0 : Nat} {s : List Fr} {t : q0u} {h : q0f} {z : Frz} {nx : Nat} {q : Ex → q0u → q0f → Frz → Nat → Prop}
variable {base i : Nat} {res : List Nat} {g : Gd} {rest : List KOper}
theorem q6O {α : Type} {enc : α → D} {hint ag : Bool} {n : Nat} {a : X} {dst : Nat} {id k' esz : Nat} (L : List α) (k : Nat) (d : α) (ha : a.ev t = .ptr id k' 0) (hkk : k' = k) (hp : ∀ w : α, ql4 ag n (enc w) 0 = some (enc w)) (hr : g.h base h id = some (.row (L.map enc) esz)) (hd : L[k]? = some d)
 (hk : wpM T sh nx0 (.ops base res rest :: s) .normal (upd t dst (enc d)) h z nx q) :
 wpM T sh nx0 (.ops base res (⟨i, some dst, none, g, .load hint ag n a⟩ :: rest) :: s) .normal t h z nx q := by
 subst hkk
 exact qqt ha hr (e := enc d) (by rw [List.getElem?_map, hd]; rfl) (hp d) hk
end
def q3j (v sh : List Spot) (each : List Int) (i : Nat) : Seg := ⟨q27 (pt v i) (pt sh i), q27 (pt v ((i + 1) % v.length)) (pt sh i), wd each i⟩
def q3D (v sh : List Spot) (each : List Int) (i : Nat) : List Spot := q35 (pt v i) (q3j v sh each ((i + v.length - 1) % v.length)) (q3j v sh each i)
def q0R (v sh : List Spot) (each : List Int) : Nat → List Spot
 | 0 => []
 | k + 1 => q0R v sh each k ++ q3D v sh each k
def q7B (l : List Spot) : Spot := pt l (l.length - 1)
def q1k (out : List Spot) (p : Spot) : List Spot := if out.length = 0 ∨ q7B out ≠ p then out ++ [p] else out
def q2x (l : List Spot) : List Spot := l.foldl q1k []
def q42 (R : List Spot) : Nat → Nat
 | 0 => 0
 | j + 1 => if 1 ≤ j ∧ pt R j = pt R 0 then q42 R j else j + 1
def q9V (v sh : List Spot) (each : List Int) : List Spot := (q2x (q0R v sh each v.length)).take (q42 (q2x (q0R v sh each v.length)) (q2x (q0R v sh each v.length)).length)
def qan (v q : List Spot) : List Spot × Int :=
 if q.any (fun s => !q0v s 1048576) then ([], 3)
 else if q2y q = 0 then if sgn (q1s q) = sgn (q1s v) then (q, 0) else ([], 11)
 else ([], q2y q)
def q2F (l : List Edge) (ws : List Int) : List Spot × Int :=
 if (q14 l ws).2 = 0 then qan (q0s l) (q9V (q0s l) (q14 l ws).1 (q1G l ws l.length)) else ([], (q14 l ws).2)
theorem q5y (s : Seg) : plain 4 s.enc = true := rfl
theorem q8W (v : Spot) (a b : Seg) : (q35 v a b).length ≤ 2 := by
 unfold q35
 split
 ·simp
 ·split <;> simp
theorem qjS (v sh : List Spot) (each : List Int) (k : Nat) : (q0R v sh each k).length ≤ 2 * k := by
 induction k with
 | zero => simp [q0R]
 | succ k ih =>
   have := q8W (pt v k) (q3j v sh each ((k + v.length - 1) % v.length)) (q3j v sh each k)
   rw [q0R, List.length_append, q3D]; omega
theorem qqy (out : List Spot) (p : Spot) : (q1k out p).length ≤ out.length + 1 := by
 unfold q1k; split <;> simp
theorem qdl (l : List Spot) : ∀ out : List Spot, (l.foldl q1k out).length ≤ out.length + l.length := by
 induction l with
 | nil => intro out; simp
 | cons p l ih => intro out; have := ih (q1k out p); have := qqy out p; simp only [List.foldl_cons, List.length_cons]; omega
theorem qii {l : List Edge} {ws : List Int} (h : (q14 l ws).2 = 0) : q0Q l = 0 ∧ ws.length = l.length ∧ (∀ x ∈ ws, 0 ≤ x ∧ x ≤ 500) ∧ (q14 l ws).1 = q4S (q0s l) (q1G l ws l.length) (sgn (q1s (q0s l))) := by
 unfold q14 at h ⊢
 split at h
 ·rename_i h1
  split at h
  ·rename_i h2
   split at h
   ·cases h
   ·rename_i h3
    refine ⟨h1, h2, fun x hx => qeR ?_, by rw [if_pos h1, if_pos h2, if_neg h3]⟩
    cases hb : q2t x with
    | false => rfl
    | true => exact absurd (List.any_eq_true.2 ⟨x, hx, hb⟩) h3
  ·cases h
 ·rename_i h1; exact absurd h h1
theorem qpL {l : List Edge} {ws : List Int} (hl : l.length ≤ ws.length) (hg : ∀ x ∈ ws, 0 ≤ x ∧ x ≤ 500) (i : Nat) : 0 ≤ wd (q1G l ws l.length) i ∧ wd (q1G l ws l.length) i ≤ 500 := by
 by_cases hi : i < (q1G l ws l.length).length
 ·have : wd (q1G l ws l.length) i = (q1G l ws l.length)[i] := by simp [wd, hi]
  rw [this]; exact hg _ (qmD l ws l.length hl _ (List.getElem_mem _))
 ·have : wd (q1G l ws l.length) i = 0 := by simp [wd, List.getElem?_eq_none (Nat.le_of_not_lt hi)]
  rw [this]; decide
theorem qe3 {v : List Spot} [OkP v] {each : List Int} {sg : Int} (hs : -1 ≤ sg ∧ sg ≤ 1) (hw : ∀ i, 0 ≤ wd each i ∧ wd each i ≤ 500) (hsim : q3X v) (h2 : 2 ≤ v.length) {i : Nat} (hi : i < v.length) :
 (q3n v each sg i).x.natAbs ≤ 4294967296 ∧ (q3n v each sg i).y.natAbs ≤ 4294967296 := by
 have hne := qg1 hsim h2 hi
 have hsq := qok (pt v i) (pt v ((i + 1) % v.length))
 have hir := qeQ (n := sqd (pt v i) (pt v ((i + 1) % v.length))) (by omega) (qdk hne)
 have hw := hw i
 have bw : Bd (wd each i) 500 := ⟨by omega⟩
 have bs : Bd sg 1 := ⟨by omega⟩
 have b1 : Bd (sg * wd each i * ((pt v ((i + 1) % v.length)).y - (pt v i).y)) _ := inferInstance
 have b2 : Bd (-(sg * wd each i) * ((pt v ((i + 1) % v.length)).x - (pt v i).x)) _ := inferInstance
 have l1 := b1.le
 have l2 := b2.le
 have r1 := q8V (b := (isq (sqd (pt v i) (pt v ((i + 1) % v.length))) : Int)) (m := 4294967296) (by omega) (show -((4294967296 : Nat) : Int) ≤ sg * wd each i * ((pt v ((i + 1) % v.length)).y - (pt v i).y) by omega) (by omega)
 have r2 := q8V (b := (isq (sqd (pt v i) (pt v ((i + 1) % v.length))) : Int)) (m := 4294967296) (by omega) (show -((4294967296 : Nat) : Int) ≤ -(sg * wd each i) * ((pt v ((i + 1) % v.length)).x - (pt v i).x) by omega) (by omega)
 exact ⟨by show (q1q _ _).natAbs ≤ _; omega, by show (q1q _ _).natAbs ≤ _; omega⟩
theorem qlm {f : Nat → Spot} {n i : Nat} (h : i < n) : pt ((List.range n).map f) i = f i := by
 rw [q11 (by simpa using h)]; simp
theorem qij {c : List Spot} {j : Nat} (h : j < c.length) (out : List Spot) : (c.take (j + 1)).foldl q1k out = q1k ((c.take j).foldl q1k out) (pt c j) := by
 rw [List.take_succ_eq_append_getElem h, List.foldl_append, q11 h]; rfl
set_option maxHeartbeats 8000000 in
theorem qmE (l : List Edge) (ws : List Int) :
 PU q5Z [edges l, ints ws] = some (qll (q2F l ws)) := by
 have hpoly := q8t l
 refine q0h (fn := q5M) rfl (q0c ?_)
 refine go 800 rfl ?_
 refine q01 rfl rfl (qqw l ws) ?_
 refine go 800 rfl ?_
 refine q02 rfl (fun g => ?_) (fun g => ?_)
 ·rw [q0z] at g
  refine go 800 rfl ?_
  refine q08 rfl rfl rfl trivial ?_
  rw [q2F, if_neg g]; rfl
 rw [q0A] at g
 rw [q2F, if_pos g]
 obtain ⟨hc, hwl, hgood, hs1⟩ := qii g
 obtain ⟨h2, h16, _, _, hchk⟩ := q1w hc
 obtain ⟨v3, v40, vok, vin, vs⟩ := q2v hchk
 have hl1 : ∀ e ∈ l, 1 ≤ e.line.length ∧ e.line.length ≤ 100000 := fun e he => by have := q20 hc e he; omega
 rw [qcw, if_pos hc] at hpoly
 have hseg := qbJ l ws l.length (Nat.le_refl _)
 rw [List.take_length] at hseg
 have heb := qpL (l := l) (by omega) hgood
 have hsw := q9U l ws (by omega) hl1 (by omega) (by omega)
 have hsb : -1 ≤ sgn (q1s (q0s l)) ∧ sgn (q1s (q0s l)) ≤ 1 := by have := (qoA (q1s (q0s l))).le; omega
 have hsl : (q14 l ws).1.length = (q0s l).length := by rw [hs1]; simp [q4S]
 have hsb' : ∀ i, i < (q0s l).length → (pt (q14 l ws).1 i).x.natAbs ≤ 4294967296 ∧ (pt (q14 l ws).1 i).y.natAbs ≤ 4294967296 := by
  intro i hi
  rw [hs1, q4S, qlm hi]
  exact qe3 hsb heb vs (by omega) hi
 have hsm : ∀ i, i < (q0s l).length → MidS (pt (q14 l ws).1 i) := by
  intro i hi
  rw [hs1, q4S, qlm hi]
  have := qe3 hsb heb vs (by omega) hi
  exact ⟨by omega, by omega⟩
 generalize (q14 l ws).1 = sh at *
 generalize (q14 l ws).2 = e0 at *
 subst g
 refine go 800 rfl ?_
 refine q01 rfl rfl hpoly ?_
 refine go 800 rfl ?_
 refine q02 rfl (fun g => absurd rfl (q0z.1 g)) (fun _ => ?_)
 refine go 800 rfl ?_
 refine q01 rfl rfl hsw ?_
 refine go 800 rfl ?_
 generalize q1G l ws l.length = each at *
 generalize q0s l = v at *
 have hok : ∀ i, i < v.length → SegOk (q3j v sh each i) := by
  intro i hi
  have hb := hsb' i hi
  have x1 := (qqI (p := v) (i := i)).bx
  have x2 := (qqI (p := v) (i := i)).byy
  have x3 := (qqI (p := v) (i := (i + 1) % v.length)).bx
  have x4 := (qqI (p := v) (i := (i + 1) % v.length)).byy
  refine ⟨⟨?_, ?_⟩, ⟨?_, ?_⟩, (heb i).1, (heb i).2⟩ <;> simp only [q3j, q27] <;> omega
 rw [List.length_map]
 refine q4H v.length rfl rfl rfl (by simp [q0U]; omega) ?_
 have ez : List.replicate v.length (D.agg [D.int IntKind.i64 0, D.int IntKind.i64 0, D.int IntKind.i64 0, D.int IntKind.i64 0, D.int IntKind.i64 0]) = (q5I ⟨⟨0, 0⟩, ⟨0, 0⟩, 0⟩ v.length (q3j v sh each) 0).map Seg.enc := by
  rw [qg0]; simp [Seg.enc]
 rw [ez]
 refine go 800 rfl ?_
 refine q0q (S := fun k : Nat => ([q0o v, ints each, q00 v.length, .ref 3 0 v.length, q0o sh, q00 v.length, q00 k], [none, none, none, some (.row ((q5I ⟨⟨0, 0⟩, ⟨0, 0⟩, 0⟩ v.length (q3j v sh each) k).map Seg.enc) 5), none, none, none], [0, 0, 0, 0, 0, 0, 0])) (C := fun k => k ≤ v.length) (m := fun k => v.length - k) 0 (Nat.zero_le _) (by omega) ?_ ?_
 ·exact q03 rfl ⟨q0b q5y _, trivial⟩ (by simp [q0o, ints, q00, hsl])
 intro k hk N hN
 refine go 800 rfl ?_
 refine q02 rfl (fun g2 => ?_) (fun g2 => ?_)
 ·rw [q06] at g2
  have hlt : k < v.length := by omega
  have w1 : IntKind.i64.wrap ((k : Int) + 1) = ((k + 1 : Nat) : Int) := wrap64 (by omega) (by omega)
  have hset := qig ⟨⟨0, 0⟩, ⟨0, 0⟩, 0⟩ (q3j v sh each) hlt
  have hms := hsm k hlt
  refine go 800 rfl ?_
  refine q0k k rfl rfl rfl (q0T (by omega)) rfl ?_
  refine go 800 rfl ?_
  refine q0k k rfl rfl rfl (q0T hlt) rfl ?_
  refine go 800 rfl ?_
  refine q01 rfl rfl (qol (pt v k) (pt sh k)) ?_
  refine go 800 rfl ?_
  refine q4R rfl rfl (by omega) ?_
  refine go 800 rfl ?_
  refine q0k ((k + 1) % v.length) rfl rfl (by rw [w1, q1K]) (q0T (Nat.mod_lt _ (by omega))) rfl ?_
  refine go 800 rfl ?_
  refine q01 rfl rfl (qol (pt v ((k + 1) % v.length)) (pt sh k)) ?_
  refine go 800 rfl ?_
  refine q0k k rfl rfl rfl (qie (by omega)) rfl ?_
  refine go 800 rfl ?_
  refine q0J k rfl rfl rfl rfl rfl hlt ?_
  refine go 800 rfl ?_
  refine qih (enc := Seg.enc) (q5I ⟨⟨0, 0⟩, ⟨0, 0⟩, 0⟩ v.length (q3j v sh each) k) k (q3j v sh each k) rfl rfl (Nat.zero_add _) rfl (fun _ => rfl) rfl (Nat.zero_le _) (by rw [qbK]; exact hlt) ?_
  rw [hset]
  refine go 800 rfl ?_
  refine q04 ?_
  exact hN (k + 1) hlt (by omega) (q03 rfl ⟨q0b q5y _, trivial⟩ (by simp [q0o, ints, q00, w1]))
 rw [q07] at g2
 obtain rfl : k = v.length := by omega
 clear hN
 refine go 800 rfl ?_
 refine q04 ?_
 refine go 800 rfl ?_
 rw [qdj]
 have hsgs : ∀ i, i < v.length → ((List.range v.length).map (q3j v sh each))[i]? = some (q3j v sh each i) := by
  intro i hi; simp [hi]
 have hseglen : ((List.range v.length).map (q3j v sh each)).length = v.length := by simp
 generalize hsg : (List.range v.length).map (q3j v sh each) = segs at *
 have hPlen : ∀ k, ((q0R v sh each k).foldl q1k []).length ≤ 2 * k := fun k => by
  have := qdl (q0R v sh each k) []
  have := qjS v sh each k
  simp at *; omega
 refine q0q (S := fun k : Nat => ([q0o v, q00 v.length, .ref 2 0 v.length, .ref 3 0 ((q0R v sh each k).foldl q1k []).length, q0o v, q00 v.length, q00 k], [none, none, some (.row (segs.map Seg.enc) 5), some (.row (((q0R v sh each k).foldl q1k []).map Spot.enc) 2), none, none, none], [0, 0, 0, 0, 0, 0, 0])) (C := fun k => k ≤ v.length) (m := fun k => v.length - k) 0 (Nat.zero_le _) (by omega) ?_ ?_
 ·exact q03 rfl ⟨q0b q5y _, rfl, trivial⟩ (by simp [q0o, q00, q0R])
 intro k hk N hN
 refine go 800 rfl ?_
 refine q02 rfl (fun g3 => ?_) (fun g3 => ?_)
 ·rw [q06] at g3
  have hlt : k < v.length := by omega
  have w1 : IntKind.i64.wrap ((k : Int) + 1) = ((k + 1 : Nat) : Int) := wrap64 (by omega) (by omega)
  have w2 : IntKind.i64.wrap (IntKind.i64.wrap ((k : Int) + v.length) - 1) = ((k + v.length - 1 : Nat) : Int) := by rw [wrap64 (x := (k : Int) + v.length) (by omega) (by omega), wrap64 (by omega) (by omega)]; omega
  have hm : (k + v.length - 1) % v.length < v.length := Nat.mod_lt _ (by omega)
  have ok1 := hok _ hm
  have ok2 := hok k hlt
  have hk1 := hPlen (k + 1)
  refine go 800 rfl ?_
  refine q0k k rfl rfl rfl (q0T hlt) rfl ?_
  refine go 800 rfl ?_
  refine q4R rfl rfl (by omega) ?_
  refine go 800 rfl ?_
  refine q0J ((k + v.length - 1) % v.length) rfl rfl rfl rfl (by rw [w2, q1K]) hm ?_
  refine go 800 rfl ?_
  refine q6O (enc := Seg.enc) segs ((k + v.length - 1) % v.length) (q3j v sh each ((k + v.length - 1) % v.length)) rfl (Nat.zero_add _) (fun _ => rfl) rfl (hsgs _ hm) ?_
  refine go 800 rfl ?_
  refine q0J k rfl rfl rfl rfl rfl hlt ?_
  refine go 800 rfl ?_
  refine q6O (enc := Seg.enc) segs k (q3j v sh each k) rfl (Nat.zero_add _) (fun _ => rfl) rfl (hsgs _ hlt) ?_
  refine go 800 rfl ?_
  refine q01 rfl rfl (qqx (pt v k) (q3j v sh each ((k + v.length - 1) % v.length)) (q3j v sh each k)) ?_
  refine go 800 rfl ?_
  have hcl : (q3D v sh each k).length ≤ 2 := q8W _ _ _
  have hct : q0R v sh each (k + 1) = q0R v sh each k ++ q3D v sh each k := rfl
  have hPk := hPlen k
  change wpM _ _ _ _ _ (upd _ 100 _) _ _ _ _
  have hcd : q35 (pt v k) (q3j v sh each ((k + v.length - 1) % v.length)) (q3j v sh each k) = q3D v sh each k := rfl
  rw [hcd]
  generalize q3D v sh each k = c at *
  generalize hP : (q0R v sh each k).foldl q1k [] = P at *
  have hfl : ∀ j, ((c.take j).foldl q1k P).length ≤ P.length + 2 := fun j => by
   have := qdl (c.take j) P
   simp at *; omega
  refine q0q (S := fun j : Nat => ([q0o v, q00 v.length, .ref 2 0 v.length, .ref 3 0 ((c.take j).foldl q1k P).length, q0o v, q00 v.length, q00 k, q0o c, q00 c.length, q00 j], [none, none, some (.row (segs.map Seg.enc) 5), some (.row (((c.take j).foldl q1k P).map Spot.enc) 2), none, none, none, none, none, none], [0, 0, 0, 0, 0, 0, 0, 0, 0, 0])) (C := fun j => j ≤ c.length) (m := fun j => c.length - j) 0 (Nat.zero_le _) (by omega) ?_ ?_
  ·exact q03 rfl ⟨q0b q5y _, q0b q0S _, trivial⟩ (by simp [q0o, q00])
  intro j hj N2 hN2
  refine go 800 rfl ?_
  refine q02 rfl (fun g4 => ?_) (fun g4 => ?_)
  ·rw [q06] at g4
   have hjl : j < c.length := by omega
   have wj : IntKind.i64.wrap ((j : Int) + 1) = ((j + 1 : Nat) : Int) := wrap64 (by omega) (by omega)
   have hstep := qij hjl P
   have hfj := hfl j
   generalize hO : (c.take j).foldl q1k P = O at *
   have next : ∀ {t : q0u} {h : q0f} {z : Frz} {nx : Nat}, (q0Z 0 [(8, 0), (10, 0), (11, 0), (14, 2), (77, 0), (78, 0), (79, 0), (98, 0), (99, 0), (100, 0)] t h z nx fun _ _ kp => kp = ([q0o v, q00 v.length, .ref 2 0 v.length, .ref 3 0 (q1k O (pt c j)).length, q0o v, q00 v.length, q00 k, q0o c, q00 c.length, q00 ((j + 1 : Nat) : Int)], [none, none, some (.row (segs.map Seg.enc) 5), some (.row ((q1k O (pt c j)).map Spot.enc) 2), none, none, none, none, none, none], [0, 0, 0, 0, 0, 0, 0, 0, 0, 0])) → N2 t h z nx := by
    intro t h z nx hst
    refine hN2 (j + 1) hjl (by omega) ?_
    rw [hstep]; exact hst
   clear hN2
   have wl : O.length ≠ 0 → IntKind.i64.wrap ((O.length : Int) - 1) = ((O.length - 1 : Nat) : Int) := fun h => by rw [wrap64 (by omega) (by omega)]; omega
   refine go 800 rfl ?_
   refine q0k j rfl rfl rfl (q0T hjl) rfl ?_
   refine go 800 rfl ?_
   refine q05 rfl (fun e1 => ?_) (fun e1 => ?_)
   ·rw [q12] at e1
    have hO0 : O.length = 0 := by omega
    have hpush : q1k O (pt c j) = O ++ [pt c j] := by rw [q1k, if_pos (.inl hO0)]
    refine go 800 rfl ?_
    refine q0g rfl ?_
    refine go 800 rfl ?_
    refine q1E rfl rfl rfl rfl rfl rfl (by simp) (Nat.zero_le _) (by simp [q0U]; omega) ?_
    refine go 800 rfl ?_
    refine q04 ?_
    refine next (q03 rfl ⟨q0b q5y _, ?_, trivial⟩ ?_)
    ·rw [List.all_append, q0b q0S]; rfl
    ·rw [hpush]; simp [q0o, q00, wj, Spot.enc]
   ·rw [q1a] at e1
    have hO0 : O.length ≠ 0 := by omega
    have hlast : O[O.length - 1]? = some (q7B O) := by rw [q7B, q11 (by omega)]; exact List.getElem?_eq_getElem (by omega)
    refine go 800 rfl ?_
    refine q0J (O.length - 1) rfl rfl rfl rfl (wl hO0) (by omega) ?_
    refine go 800 rfl ?_
    refine q6O (enc := Spot.enc) O (O.length - 1) (q7B O) rfl (Nat.zero_add _) (fun _ => rfl) rfl hlast ?_
    refine go 800 rfl ?_
    refine q02 rfl (fun e2 => ?_) (fun e2 => ?_)
    ·rw [q1o] at e2
     have hne : q7B O ≠ pt c j := by simpa using e2
     have hpush : q1k O (pt c j) = O ++ [pt c j] := by rw [q1k, if_pos (.inr hne)]
     refine go 800 rfl ?_
     refine q1E rfl rfl rfl rfl rfl rfl (by simp) (Nat.zero_le _) (by simp [q0U]; omega) ?_
     refine go 800 rfl ?_
     refine q04 ?_
     refine next (q03 rfl ⟨q0b q5y _, ?_, trivial⟩ ?_)
     ·rw [List.all_append, q0b q0S]; rfl
     ·rw [hpush]; simp [q0o, q00, wj, Spot.enc]
    ·rw [q1o] at e2
     have heq : q7B O = pt c j := by simpa using e2
     have hpush : q1k O (pt c j) = O := by rw [q1k, if_neg (by intro h; rcases h with h | h; exact hO0 h; exact h heq)]
     refine go 800 rfl ?_
     refine q04 ?_
     exact next (q03 rfl ⟨q0b q5y _, q0b q0S _, trivial⟩ (by rw [hpush]; simp [q0o, q00, wj]))
  rw [q07] at g4
  obtain rfl : j = c.length := by omega
  clear hN2
  refine go 800 rfl ?_
  refine q04 ?_
  refine go 800 rfl ?_
  refine q04 ?_
  refine hN (k + 1) hlt (by omega) (q03 rfl ⟨q0b q5y _, q0b q0S _, trivial⟩ ?_)
  simp [q0o, q00, w1, hct, hP]
 rw [q07] at g3
 obtain rfl : k = v.length := by omega
 clear hN
 have hR2 := hPlen v.length
 have hq : q9V v sh each = (q2x (q0R v sh each v.length)).take (q42 (q2x (q0R v sh each v.length)) (q2x (q0R v sh each v.length)).length) := rfl
 rw [hq]
 change ((q2x (q0R v sh each v.length))).length ≤ _ at hR2
 refine go 800 rfl ?_
 refine q04 ?_
 refine go 800 rfl ?_
 have hon : (q0R v sh each v.length).foldl q1k [] = q2x (q0R v sh each v.length) := rfl
 rw [hon]
 clear hq hPlen hon
 generalize q2x (q0R v sh each v.length) = R at *
 refine q0q (S := fun j : Nat => ([q0o v, .ref 1 0 j], [none, some (.row (R.map Spot.enc) 2)], [0, 0])) (C := fun j => j ≤ R.length ∧ q42 R j = q42 R R.length) (m := fun j => j) R.length ⟨Nat.le_refl _, rfl⟩ (by omega) ?_ ?_
 ·exact q03 rfl ⟨q0b q0S _, trivial⟩ (by simp [q0o])
 rintro j ⟨hj, htr⟩ N hN
 have wl : j ≠ 0 → IntKind.i64.wrap ((j : Int) - 1) = ((j - 1 : Nat) : Int) := fun h => by rw [wrap64 (by omega) (by omega)]; omega
 have hstop : ¬ (2 ≤ j ∧ pt R (j - 1) = pt R 0) → q42 R R.length = j := by
  intro h
  rw [← htr]
  cases j with
  | zero => rfl
  | succ j => rw [q42, if_neg (fun h' => h ⟨by omega, by simpa using h'.2⟩)]
 refine go 800 rfl ?_
 refine q05 rfl (fun e1 => ?_) (fun e1 => ?_)
 ·rw [q0D] at e1
  have hj2 : 2 ≤ j := by omega
  refine go 800 rfl ?_
  refine q0J (j - 1) rfl rfl rfl rfl (wl (by omega)) (by omega) ?_
  refine go 800 rfl ?_
  refine q6O (enc := Spot.enc) R (j - 1) (pt R (j - 1)) rfl (Nat.zero_add _) (fun _ => rfl) rfl (by rw [q11 (by omega)]; exact List.getElem?_eq_getElem (by omega)) ?_
  refine go 800 rfl ?_
  refine q0J 0 rfl rfl rfl rfl rfl (by omega) ?_
  refine go 800 rfl ?_
  refine q6O (enc := Spot.enc) R 0 (pt R 0) rfl rfl (fun _ => rfl) rfl (by rw [q11 (by omega)]; exact List.getElem?_eq_getElem (by omega)) ?_
  refine go 800 rfl ?_
  refine q02 rfl (fun e2 => ?_) (fun e2 => ?_)
  ·rw [q1o] at e2
   have heq : pt R (j - 1) = pt R 0 := by simpa using e2
   refine go 800 rfl ?_
   refine qmC (j - 1) rfl rfl rfl ⟨_, _, rfl, wl (by omega)⟩ (by omega) ?_
   refine go 800 rfl ?_
   refine q04 ?_
   refine hN (j - 1) ⟨by omega, ?_⟩ (by omega) (q03 rfl ⟨q0b q0S _, trivial⟩ (by simp [q0o]))
   rw [← htr]
   obtain ⟨i, rfl⟩ : ∃ i, j = i + 1 := ⟨j - 1, by omega⟩
   rw [q42, if_pos ⟨by omega, by simpa using heq⟩]; rfl
  ·rw [q1o] at e2
   have hne : ¬ (2 ≤ j ∧ pt R (j - 1) = pt R 0) := fun h => by rw [h.2] at e2; simp at e2
   rw [hstop hne]
   clear hN
   refine go 800 rfl ?_
   refine q04 ?_
   refine go 800 rfl ?_
   have hrow : D.lst ((R.map Spot.enc).take j) = q0o (R.take j) := by rw [q0o, List.map_take]
   have hdat : 0 + j ≤ (R.map Spot.enc).length ∧ (((R.map Spot.enc).drop 0).take j).all (dat 4) = true := by
    refine ⟨by simp; omega, ?_⟩
    rw [List.drop_zero, ← List.map_take]; exact q1t q3E _
   have hql : (R.take j).length = j := by simp; omega
   refine q0q (S := fun k : Nat => ([q0o v, .ref 1 0 j, .ref 1 0 j, q00 j, q00 k], [none, some (.row (R.map Spot.enc) 2), none, none, none], [0, 0, 0, 0, 0])) (C := fun k => k ≤ j ∧ ∀ i, i < k → q0v (pt R i) 1048576 = true) (m := fun k => j - k) 0 ⟨Nat.zero_le _, fun i hi => by omega⟩ (by omega) ?_ ?_
   ·exact q03 rfl ⟨q0b q0S _, q0b q0S _, trivial⟩ (by simp [q0o, q00])
   rintro k ⟨hk, hin⟩ N hN
   refine go 800 rfl ?_
   refine q02 rfl (fun f1 => ?_) (fun f1 => ?_)
   ·rw [q06] at f1
    have hlt : k < j := by omega
    have w1 : IntKind.i64.wrap ((k : Int) + 1) = ((k + 1 : Nat) : Int) := wrap64 (by omega) (by omega)
    refine go 800 rfl ?_
    refine q0J k rfl rfl rfl rfl rfl hlt ?_
    refine go 800 rfl ?_
    refine q6O (enc := Spot.enc) R k (pt R k) rfl (Nat.zero_add _) (fun _ => rfl) rfl (by rw [q11 (by omega)]; exact List.getElem?_eq_getElem (by omega)) ?_
    refine go 800 rfl ?_
    refine q01 rfl rfl (q4E (pt R k) 1048576 (by decide) (by decide)) ?_
    refine go 800 rfl ?_
    refine q02 rfl (fun f2 => ?_) (fun f2 => ?_)
    ·refine go 800 rfl ?_
     refine q04 ?_
     refine go 800 rfl ?_
     refine q08 rfl rfl rfl trivial ?_
     have : (R.take j).any (fun s => !q0v s 1048576) = true := by
      refine List.any_eq_true.2 ⟨pt R k, ?_, f2⟩
      rw [q11 (by omega)]
      exact List.mem_iff_getElem.2 ⟨k, by omega, by simp⟩
     rw [qan, if_pos this]; rfl
    ·refine go 800 rfl ?_
     refine q04 ?_
     refine hN (k + 1) ⟨hlt, fun i hi => ?_⟩ (by omega) (q03 rfl ⟨q0b q0S _, q0b q0S _, trivial⟩ (by simp [q0o, q00, w1]))
     by_cases hik : i < k
     ·exact hin i hik
     ·obtain rfl : i = k := by omega
      simpa using f2
   rw [q07] at f1
   clear hN
   have hany : (R.take j).any (fun s => !q0v s 1048576) = false := by
    rw [List.any_eq_false]
    intro s hs
    obtain ⟨i, hi, rfl⟩ := List.getElem_of_mem hs
    have := hin i (by omega)
    rw [q11 (by omega)] at this
    simp [this]
   rw [qan, if_neg (by rw [hany]; decide)]
   refine go 800 rfl ?_
   refine q04 ?_
   refine go 800 rfl ?_
   refine q58 rfl rfl ⟨hdat, trivial⟩ (by rw [hrow]; exact q4r (R.take j)) rfl ?_
   refine go 800 rfl ?_
   refine q02 rfl (fun f3 => ?_) (fun f3 => ?_)
   ·rw [q0z] at f3
    refine go 800 rfl ?_
    refine q08 rfl rfl rfl trivial ?_
    rw [if_neg f3]; rfl
   rw [q0A] at f3
   rw [if_pos f3]
   refine go 800 rfl ?_
   refine q58 rfl rfl ⟨hdat, trivial⟩ (by rw [hrow]; exact q41 (R.take j)) rfl ?_
   refine go 800 rfl ?_
   refine q01 rfl rfl (q41 v) ?_
   refine go 800 rfl ?_
   refine q02 rfl (fun f4 => ?_) (fun f4 => ?_)
   ·rw [q0z] at f4
    refine go 800 rfl ?_
    refine q08 rfl rfl rfl trivial ?_
    rw [if_neg f4]; rfl
   rw [q0A] at f4
   rw [if_pos f4]
   refine go 800 rfl ?_
   refine q08 rfl rfl rfl ⟨hdat, trivial⟩ ?_
   rw [hrow]; rfl
 ·rw [q0E] at e1
  have hne : ¬ (2 ≤ j ∧ pt R (j - 1) = pt R 0) := fun h => by omega
  rw [hstop hne]
  clear hN
  refine go 800 rfl ?_
  refine q0m rfl ?_
  refine go 800 rfl ?_
  refine q04 ?_
  refine go 800 rfl ?_
  have hrow : D.lst ((R.map Spot.enc).take j) = q0o (R.take j) := by rw [q0o, List.map_take]
  have hdat : 0 + j ≤ (R.map Spot.enc).length ∧ (((R.map Spot.enc).drop 0).take j).all (dat 4) = true := by
   refine ⟨by simp; omega, ?_⟩
   rw [List.drop_zero, ← List.map_take]; exact q1t q3E _
  have hql : (R.take j).length = j := by simp; omega
  refine q0q (S := fun k : Nat => ([q0o v, .ref 1 0 j, .ref 1 0 j, q00 j, q00 k], [none, some (.row (R.map Spot.enc) 2), none, none, none], [0, 0, 0, 0, 0])) (C := fun k => k ≤ j ∧ ∀ i, i < k → q0v (pt R i) 1048576 = true) (m := fun k => j - k) 0 ⟨Nat.zero_le _, fun i hi => by omega⟩ (by omega) ?_ ?_
  ·exact q03 rfl ⟨q0b q0S _, q0b q0S _, trivial⟩ (by simp [q0o, q00])
  rintro k ⟨hk, hin⟩ N hN
  refine go 800 rfl ?_
  refine q02 rfl (fun f1 => ?_) (fun f1 => ?_)
  ·rw [q06] at f1
   have hlt : k < j := by omega
   have w1 : IntKind.i64.wrap ((k : Int) + 1) = ((k + 1 : Nat) : Int) := wrap64 (by omega) (by omega)
   refine go 800 rfl ?_
   refine q0J k rfl rfl rfl rfl rfl hlt ?_
   refine go 800 rfl ?_
   refine q6O (enc := Spot.enc) R k (pt R k) rfl (Nat.zero_add _) (fun _ => rfl) rfl (by rw [q11 (by omega)]; exact List.getElem?_eq_getElem (by omega)) ?_
   refine go 800 rfl ?_
   refine q01 rfl rfl (q4E (pt R k) 1048576 (by decide) (by decide)) ?_
   refine go 800 rfl ?_
   refine q02 rfl (fun f2 => ?_) (fun f2 => ?_)
   ·refine go 800 rfl ?_
    refine q04 ?_
    refine go 800 rfl ?_
    refine q08 rfl rfl rfl trivial ?_
    have : (R.take j).any (fun s => !q0v s 1048576) = true := by
     refine List.any_eq_true.2 ⟨pt R k, ?_, f2⟩
     rw [q11 (by omega)]
     exact List.mem_iff_getElem.2 ⟨k, by omega, by simp⟩
    rw [qan, if_pos this]; rfl
   ·refine go 800 rfl ?_
    refine q04 ?_
    refine hN (k + 1) ⟨hlt, fun i hi => ?_⟩ (by omega) (q03 rfl ⟨q0b q0S _, q0b q0S _, trivial⟩ (by simp [q0o, q00, w1]))
    by_cases hik : i < k
    ·exact hin i hik
    ·obtain rfl : i = k := by omega
     simpa using f2
  rw [q07] at f1
  clear hN
  have hany : (R.take j).any (fun s => !q0v s 1048576) = false := by
   rw [List.any_eq_false]
   intro s hs
   obtain ⟨i, hi, rfl⟩ := List.getElem_of_mem hs
   have := hin i (by omega)
   rw [q11 (by omega)] at this
   simp [this]
  rw [qan, if_neg (by rw [hany]; decide)]
  refine go 800 rfl ?_
  refine q04 ?_
  refine go 800 rfl ?_
  refine q58 rfl rfl ⟨hdat, trivial⟩ (by rw [hrow]; exact q4r (R.take j)) rfl ?_
  refine go 800 rfl ?_
  refine q02 rfl (fun f3 => ?_) (fun f3 => ?_)
  ·rw [q0z] at f3
   refine go 800 rfl ?_
   refine q08 rfl rfl rfl trivial ?_
   rw [if_neg f3]; rfl
  rw [q0A] at f3
  rw [if_pos f3]
  refine go 800 rfl ?_
  refine q58 rfl rfl ⟨hdat, trivial⟩ (by rw [hrow]; exact q41 (R.take j)) rfl ?_
  refine go 800 rfl ?_
  refine q01 rfl rfl (q41 v) ?_
  refine go 800 rfl ?_
  refine q02 rfl (fun f4 => ?_) (fun f4 => ?_)
  ·rw [q0z] at f4
   refine go 800 rfl ?_
   refine q08 rfl rfl rfl trivial ?_
   rw [if_neg f4]; rfl
  rw [q0A] at f4
  rw [if_pos f4]
  refine go 800 rfl ?_
  refine q08 rfl rfl rfl ⟨hdat, trivial⟩ ?_
  rw [hrow]; rfl
end Go.F

namespace Go.F
def q9J (a b c : QP) : Rat := (b.x - a.x) * (c.y - a.y) - (b.y - a.y) * (c.x - a.x)
theorem qaZ (a b c : Spot) : q9J (qp a) (qp b) (qp c) = ((q1b a b c : Int) : Rat) := by
 unfold q9J q1b qp
 simp only [Rat.intCast_sub, Rat.intCast_mul]
theorem qr4 (a b c d : QP) (t : Rat) : q9J a b (onP c d t) = (1 - t) * q9J a b c + t * q9J a b d := by
 unfold q9J onP qeG q4j q1d
 simp only
 grind
theorem qhk (a b : QP) (s : Rat) : q9J a b (onP a b s) = 0 := by
 unfold q9J onP qeG q4j q1d
 simp only
 grind
theorem qu8 {a b s : Rat} (h0 : 0 ≤ s) (h1 : s ≤ 1) : min a b ≤ a + (b - a) * s ∧ a + (b - a) * s ≤ max a b := by
 rw [Rat.min_def, Rat.max_def]
 by_cases h : a ≤ b
 ·rw [if_pos h, if_pos h]
  have p1 := Rat.mul_nonneg (show 0 ≤ b - a by grind) h0
  have p2 := Rat.mul_nonneg (show 0 ≤ b - a by grind) (show 0 ≤ 1 - s by grind)
  constructor <;> grind
 ·rw [if_neg h, if_neg h]
  have p1 := Rat.mul_nonneg (show 0 ≤ a - b by grind) h0
  have p2 := Rat.mul_nonneg (show 0 ≤ a - b by grind) (show 0 ≤ 1 - s by grind)
  constructor <;> grind
theorem qhl {a b q : Int} {s : Rat} (h0 : 0 ≤ s) (h1 : s ≤ 1) (he : (q : Rat) = a + ((b : Rat) - a) * s) : min a b ≤ q ∧ q ≤ max a b := by
 have h := qu8 (a := (a : Rat)) (b := (b : Rat)) h0 h1
 rw [← he, Rat.min_def, Rat.max_def] at h
 by_cases hab : a ≤ b
 ·have : (a : Rat) ≤ (b : Rat) := Rat.intCast_le_intCast.2 hab
  rw [if_pos this, if_pos this, Rat.intCast_le_intCast, Rat.intCast_le_intCast] at h
  omega
 ·have : ¬ (a : Rat) ≤ (b : Rat) := fun hh => hab (Rat.intCast_le_intCast.1 hh)
  rw [if_neg this, if_neg this, Rat.intCast_le_intCast, Rat.intCast_le_intCast] at h
  omega
theorem qfA {a b q : Spot} {s : Rat} (h0 : 0 ≤ s) (h1 : s ≤ 1) (he : qp q = onP (qp a) (qp b) s) : onS a b q = true := by
 have hc : q1b a b q = 0 := by
  have : ((q1b a b q : Int) : Rat) = 0 := by rw [← qaZ, he, qhk]
  exact Rat.intCast_eq_zero_iff.1 this
 have hx : (q.x : Rat) = a.x + ((b.x : Rat) - a.x) * s := congrArg QP.x he
 have hy : (q.y : Rat) = a.y + ((b.y : Rat) - a.y) * s := congrArg QP.y he
 have bx := qhl h0 h1 hx
 have by' := qhl h0 h1 hy
 unfold onS
 simp [hc, bx, by']
theorem qj6 {a b c : Spot} (hab : a ≠ b) (hc : q1b a b c = 0) : ∃ s : Rat, qp c = onP (qp a) (qp b) s := by
 have hq : q9J (qp a) (qp b) (qp c) = 0 := by rw [qaZ, hc]; rfl
 unfold q9J at hq
 by_cases hx : b.x = a.x
 ·have hy : b.y ≠ a.y := fun h => hab (by cases a; cases b; simp at hx h ⊢; omega)
  have hy' : (qp b).y - (qp a).y ≠ 0 := by
   show (b.y : Rat) - (a.y : Rat) ≠ 0
   rw [← Rat.intCast_sub]; intro h; rw [Rat.intCast_eq_zero_iff] at h; omega
  have hx' : (qp b).x = (qp a).x := by show (b.x : Rat) = (a.x : Rat); rw [hx]
  refine ⟨((qp c).y - (qp a).y) / ((qp b).y - (qp a).y), ?_⟩
  have ht := Rat.div_mul_cancel (a := (qp c).y - (qp a).y) hy'
  generalize ((qp c).y - (qp a).y) / ((qp b).y - (qp a).y) = t at ht
  have h1 : ((qp b).y - (qp a).y) * ((qp c).x - (qp a).x) = 0 := by grind
  have h2 : (qp c).x = (qp a).x := by
   rcases Rat.mul_eq_zero.1 h1 with h | h
   ·exact absurd h hy'
   ·grind
  unfold onP qeG q4j q1d
  cases hcc : qp c with
  | mk cx cy =>
    rw [hcc] at h2 ht
    simp only [QP.mk.injEq] at h2 ht ⊢
    constructor <;> grind
 ·have hx' : (qp b).x - (qp a).x ≠ 0 := by
   show (b.x : Rat) - (a.x : Rat) ≠ 0
   rw [← Rat.intCast_sub]; intro h; rw [Rat.intCast_eq_zero_iff] at h; omega
  refine ⟨((qp c).x - (qp a).x) / ((qp b).x - (qp a).x), ?_⟩
  have ht := Rat.div_mul_cancel (a := (qp c).x - (qp a).x) hx'
  generalize ((qp c).x - (qp a).x) / ((qp b).x - (qp a).x) = t at ht
  have h1 : ((qp b).x - (qp a).x) * ((qp c).y - (qp a).y - ((qp b).y - (qp a).y) * t) = 0 := by grind
  have h2 : (qp c).y - (qp a).y - ((qp b).y - (qp a).y) * t = 0 := by
   rcases Rat.mul_eq_zero.1 h1 with h | h
   ·exact absurd h hx'
   ·exact h
  unfold onP qeG q4j q1d
  cases hcc : qp c with
  | mk cx cy =>
    rw [hcc] at h2 ht
    simp only [QP.mk.injEq] at h2 ht ⊢
    constructor <;> grind
end Go.F

namespace Go.F
theorem qlS {a b : Spot} (hab : a ≠ b) {s t : Rat} (h : onP (qp a) (qp b) s = onP (qp a) (qp b) t) : s = t := by
 have hx : (qp a).x + ((qp b).x - (qp a).x) * s = (qp a).x + ((qp b).x - (qp a).x) * t := congrArg QP.x h
 have hy : (qp a).y + ((qp b).y - (qp a).y) * s = (qp a).y + ((qp b).y - (qp a).y) * t := congrArg QP.y h
 by_cases h1 : b.x = a.x
 ·have h2 : b.y ≠ a.y := fun h => hab (by cases a; cases b; simp at h1 h ⊢; omega)
  have hy' : (qp b).y - (qp a).y ≠ 0 := by
   show (b.y : Rat) - (a.y : Rat) ≠ 0
   rw [← Rat.intCast_sub]; intro h; rw [Rat.intCast_eq_zero_iff] at h; omega
  have : ((qp b).y - (qp a).y) * (s - t) = 0 := by grind
  rcases Rat.mul_eq_zero.1 this with h | h
  ·exact absurd h hy'
  ·grind
 ·have hx' : (qp b).x - (qp a).x ≠ 0 := by
   show (b.x : Rat) - (a.x : Rat) ≠ 0
   rw [← Rat.intCast_sub]; intro h; rw [Rat.intCast_eq_zero_iff] at h; omega
  have : ((qp b).x - (qp a).x) * (s - t) = 0 := by grind
  rcases Rat.mul_eq_zero.1 this with h | h
  ·exact absurd h hx'
  ·grind
theorem on_on (a b : QP) (s1 s2 t : Rat) : onP (onP a b s1) (onP a b s2) t = onP a b (s1 + (s2 - s1) * t) := by
 unfold onP qeG q4j q1d; simp only [QP.mk.injEq]; constructor <;> grind
theorem qlT (a b : QP) : onP a b 0 = a := by
 cases a; unfold onP qeG q4j q1d; simp only [QP.mk.injEq]; constructor <;> grind
theorem qsX (a b : QP) : onP a b 1 = b := by
 cases b; unfold onP qeG q4j q1d; simp only [QP.mk.injEq]; constructor <;> grind
theorem qd1 {a b c d : Spot} (hab : a ≠ b) (h1 : q1b a b c = 0) (h2 : q1b a b d = 0) {s t : Rat} (hs0 : 0 ≤ s) (hs1 : s ≤ 1) (ht0 : 0 ≤ t) (ht1 : t ≤ 1) (he : onP (qp a) (qp b) s = onP (qp c) (qp d) t) :
 onS a b c = true ∨ onS a b d = true ∨ onS c d a = true := by
 obtain ⟨s1, e1⟩ := qj6 hab h1
 obtain ⟨s2, e2⟩ := qj6 hab h2
 rw [e1, e2, on_on] at he
 have hs := qlS hab he
 by_cases c1 : 0 ≤ s1 ∧ s1 ≤ 1
 ·exact .inl (qfA c1.1 c1.2 e1)
 by_cases c2 : 0 ≤ s2 ∧ s2 ≤ 1
 ·exact .inr (.inl (qfA c2.1 c2.2 e2))
 have hne : s2 - s1 ≠ 0 := by
  intro h
  have : s = s1 := by rw [hs, h]; grind
  exact c1 ⟨by grind, by grind⟩
 have p1 : s - s1 = (s2 - s1) * t := by grind
 have p2 : s2 - s = (s2 - s1) * (1 - t) := by grind
 have hcase : (s1 < 0 ∧ 1 < s2) ∨ (s2 < 0 ∧ 1 < s1) := by
  rcases Rat.le_total (a := s1) (b := s2) with h | h
  ·have q1 := Rat.mul_nonneg (show 0 ≤ s2 - s1 by grind) ht0
   have q2 := Rat.mul_nonneg (show 0 ≤ s2 - s1 by grind) (show 0 ≤ 1 - t by grind)
   left; grind
  ·have q1 := Rat.mul_nonneg (show 0 ≤ s1 - s2 by grind) ht0
   have q2 := Rat.mul_nonneg (show 0 ≤ s1 - s2 by grind) (show 0 ≤ 1 - t by grind)
   right; grind
 right; right
 have hr := Rat.div_mul_cancel (a := 0 - s1) hne
 have hd : onP (qp c) (qp d) ((0 - s1) / (s2 - s1)) = qp a := by
  rw [e1, e2, on_on]
  have : s1 + (s2 - s1) * ((0 - s1) / (s2 - s1)) = 0 := by grind
  rw [this, qlT]
 generalize (0 - s1) / (s2 - s1) = r at hr hd
 refine qfA (s := r) ?_ ?_ hd.symm
 ·rcases hcase with ⟨g1, g2⟩ | ⟨g1, g2⟩
  ·by_cases hh : 0 ≤ r
   ·exact hh
   ·have := Rat.mul_pos (show 0 < -r by grind) (show 0 < s2 - s1 by grind)
    grind
  ·by_cases hh : 0 ≤ r
   ·exact hh
   ·have := Rat.mul_pos (show 0 < -r by grind) (show 0 < s1 - s2 by grind)
    grind
 ·rcases hcase with ⟨g1, g2⟩ | ⟨g1, g2⟩
  ·by_cases hh : r ≤ 1
   ·exact hh
   ·have := Rat.mul_pos (show 0 < r - 1 by grind) (show 0 < s2 - s1 by grind)
    grind
  ·by_cases hh : r ≤ 1
   ·exact hh
   ·have := Rat.mul_pos (show 0 < r - 1 by grind) (show 0 < s1 - s2 by grind)
    grind
theorem qni {x y : Int} (h : (0 < x ∧ y < 0) ∨ (x < 0 ∧ 0 < y)) : sgn x * sgn y < 0 := by
 unfold sgn
 rcases h with ⟨h1, h2⟩ | ⟨h1, h2⟩
 ·rw [if_neg (by omega), if_pos h1, if_pos h2]; decide
 ·rw [if_pos h1, if_neg (by omega), if_pos h2]; decide
theorem qj7 {a b c d : Spot} {s t : Rat} (ht0 : 0 ≤ t) (ht1 : t ≤ 1) (he : onP (qp a) (qp b) s = onP (qp c) (qp d) t) :
 (sgn (q1b a b c) * sgn (q1b a b d) < 0) ∨ (q1b a b c = 0 ∧ q1b a b d = 0) ∨ (q1b a b c = 0 ∧ t = 0) ∨ (q1b a b d = 0 ∧ t = 1) := by
 have h0 : (1 - t) * ((q1b a b c : Int) : Rat) + t * ((q1b a b d : Int) : Rat) = 0 := by
  rw [← qaZ, ← qaZ, ← qr4, ← he, qhk]
 generalize q1b a b c = x at *
 generalize q1b a b d = y at *
 by_cases hx : x = 0
 ·subst hx
  have : t * ((y : Int) : Rat) = 0 := by grind
  rcases Rat.mul_eq_zero.1 this with h | h
  ·exact .inr (.inr (.inl ⟨rfl, h⟩))
  ·exact .inr (.inl ⟨rfl, Rat.intCast_eq_zero_iff.1 h⟩)
 by_cases hy : y = 0
 ·subst hy
  have : (1 - t) * ((x : Int) : Rat) = 0 := by grind
  rcases Rat.mul_eq_zero.1 this with h | h
  ·exact .inr (.inr (.inr ⟨rfl, by grind⟩))
  ·exact absurd (Rat.intCast_eq_zero_iff.1 h) hx
 left
 apply qni
 rcases Int.lt_or_gt_of_ne hx with h1 | h1 <;> rcases Int.lt_or_gt_of_ne hy with h2 | h2
 ·exfalso
  have g1 : (x : Rat) < 0 := Rat.intCast_neg_iff.2 h1
  have g2 : (y : Rat) < 0 := Rat.intCast_neg_iff.2 h2
  rcases Rat.le_iff_lt_or_eq.1 ht0 with h | h
  ·have q1 := Rat.mul_pos h (show 0 < -(y : Rat) by grind)
   have q2 := Rat.mul_nonneg (show 0 ≤ 1 - t by grind) (show 0 ≤ -(x : Rat) by grind)
   grind
  ·rw [← h] at h0; grind
 ·right; exact ⟨h1, h2⟩
 ·left; exact ⟨h1, h2⟩
 ·exfalso
  have g1 : 0 < (x : Rat) := Rat.intCast_pos.2 h1
  have g2 : 0 < (y : Rat) := Rat.intCast_pos.2 h2
  rcases Rat.le_iff_lt_or_eq.1 ht0 with h | h
  ·have q1 := Rat.mul_pos h g2
   have q2 := Rat.mul_nonneg (show 0 ≤ 1 - t by grind) (show 0 ≤ (x : Rat) by grind)
   grind
  ·rw [← h] at h0; grind
theorem qnj {a b c d : Spot} (hab : a ≠ b) (hcd : c ≠ d) {s t : Rat} (hs0 : 0 ≤ s) (hs1 : s ≤ 1) (ht0 : 0 ≤ t) (ht1 : t ≤ 1) (he : onP (qp a) (qp b) s = onP (qp c) (qp d) t) : q5B a b c d = true := by
 have key : onS a b c = true ∨ onS a b d = true ∨ onS c d a = true ∨ onS c d b = true ∨ (q4X a b c d = true ∧ q4X c d a b = true) := by
  rcases qj7 ht0 ht1 he with h | ⟨h, h'⟩ | ⟨h, h'⟩ | ⟨h, h'⟩
  ·rcases qj7 hs0 hs1 he.symm with g | ⟨g, g'⟩ | ⟨g, g'⟩ | ⟨g, g'⟩
   ·right; right; right; right
    unfold q4X; simp [h, g]
   ·rcases qd1 hcd g g' ht0 ht1 hs0 hs1 he.symm with k | k | k
    ·exact .inr (.inr (.inl k))
    ·exact .inr (.inr (.inr (.inl k)))
    ·exact .inl k
   ·subst g'; rw [qlT] at he; exact .inr (.inr (.inl (qfA ht0 ht1 he)))
   ·subst g'; rw [qsX] at he; exact .inr (.inr (.inr (.inl (qfA ht0 ht1 he))))
  ·rcases qd1 hab h h' hs0 hs1 ht0 ht1 he with k | k | k
   ·exact .inl k
   ·exact .inr (.inl k)
   ·exact .inr (.inr (.inl k))
  ·subst h'; rw [qlT] at he; exact .inl (qfA hs0 hs1 he.symm)
  ·subst h'; rw [qsX] at he; exact .inr (.inl (qfA hs0 hs1 he.symm))
 unfold q5B
 rcases key with h | h | h | h | ⟨h, h'⟩
 ·simp [h]
 ·simp [h]
 ·simp [h]
 ·simp [h]
 ·simp [h, h']
end Go.F

namespace Go.F
theorem bounds (U : Nat → Int) (n : Nat) : ∃ (lo : Int) (N : Nat), ∀ j, j ≤ n → lo ≤ U j ∧ U j ≤ lo + N := by
 induction n with
 | zero =>
   refine ⟨U 0, 0, fun j hj => ?_⟩
   have : j = 0 := by omega
   subst this; omega
 | succ k ih =>
   obtain ⟨lo, N, h⟩ := ih
   refine ⟨min lo (U (k + 1)), (max (lo + N) (U (k + 1)) - min lo (U (k + 1))).toNat, ?_⟩
   intro j hj
   by_cases e : j = k + 1
   ·subst e; omega
   ·have := h j (by omega); omega
end Go.F

namespace Go.F
def shU (p : List Spot) (i : Nat) : Int := 16777216 * (vx p i).x + (vx p i).y
def shV (p : List Spot) (i : Nat) : Int := (vx p i).y
def shT (p : List Spot) (i : Nat) : Rat := ((shV p (i + 1) : Rat) - shV p i) / ((shU p (i + 1) : Rat) - shU p i)
def yR (p : List Spot) (j : Nat) (u : Rat) : Rat := (shV p j : Rat) + shT p j * (u - (shU p j : Rat))
def inR (p : List Spot) (j : Nat) (u : Rat) : Prop := ((shU p j : Rat) ≤ u ∧ u ≤ (shU p (j + 1) : Rat)) ∨ ((shU p (j + 1) : Rat) ≤ u ∧ u ≤ (shU p j : Rat))
theorem q9K (a b : Rat) : a ≤ b ∨ b ≤ a := Rat.le_total
theorem qho {a b r : Rat} (hb : 0 ≤ b) (hb0 : b ≠ 0) (h : r * b = a) (ha : 0 ≤ a) : 0 ≤ r := by
 rcases q9K 0 r with g | g
 ·exact g
 ·have k := Rat.mul_nonneg (show 0 ≤ -r by grind) hb
  have : r * b = 0 := by grind
  rcases Rat.mul_eq_zero.1 this with e | e
  ·grind
  ·exact absurd e hb0
theorem qdx {a b c : Rat} (h : c ≠ 0) (he : a * c = b * c) : a = b := by
 have h1 : (a - b) * c = 0 := by grind
 rcases Rat.mul_eq_zero.1 h1 with h2 | h2
 ·grind
 ·exact absurd h2 h
theorem qhp {p : List Spot} {i : Nat} (h : i < p.length) : vx p i = pt p i := by unfold vx; rw [Nat.mod_eq_of_lt h]
theorem qlV {p : List Spot} [OkP p] (hs : q2D p) {i : Nat} (hi : i < p.length) : shU p i ≠ shU p (i + 1) := by
 have h := (hs i hi).1.1
 rw [← qhp hi] at h
 have e : pt p ((i + 1) % p.length) = vx p (i + 1) := rfl
 rw [e] at h
 have b1 : OkS (vx p i) := by unfold vx; exact inferInstance
 have b2 : OkS (vx p (i + 1)) := by unfold vx; exact inferInstance
 have := b1.bx; have := b1.byy; have := b2.bx; have := b2.byy
 unfold shU
 intro he
 apply h
 generalize vx p i = a at *
 generalize vx p (i + 1) = b at *
 cases a; cases b
 simp only [Spot.mk.injEq] at *
 omega
theorem qqh {a b : Int} (h : a ≠ b) : (b : Rat) - (a : Rat) ≠ 0 := by
 rw [← Rat.intCast_sub]; intro hh; rw [Rat.intCast_eq_zero_iff] at hh; omega
theorem qnq {p : List Spot} {j : Nat} {u : Rat} (hne : shU p j ≠ shU p (j + 1)) (h : inR p j u) :
 ∃ s : Rat, 0 ≤ s ∧ s ≤ 1 ∧ u = shU p j + ((shU p (j + 1) : Rat) - shU p j) * s ∧ onP (qp (vx p j)) (qp (vx p (j + 1))) s = ⟨(u - yR p j u) / 16777216, yR p j u⟩ := by
 have hd := qqh hne
 have hs := Rat.div_mul_cancel (a := u - (shU p j : Rat)) hd
 have ht := Rat.div_mul_cancel (a := (shV p (j + 1) : Rat) - shV p j) hd
 refine ⟨(u - (shU p j : Rat)) / ((shU p (j + 1) : Rat) - shU p j), ?_, ?_, ?_, ?_⟩
 ·generalize hS : (u - (shU p j : Rat)) / ((shU p (j + 1) : Rat) - shU p j) = s at *
  rcases q9K 0 s with g | g
  ·exact g
  ·unfold inR at h
   have h1 := Rat.mul_nonneg (show 0 ≤ -s by grind) (show (0 : Rat) ≤ 1 by decide)
   rcases h with ⟨h1, h2⟩ | ⟨h1, h2⟩
   ·have k := Rat.mul_nonneg (show 0 ≤ -s by grind) (show 0 ≤ ((shU p (j + 1) : Rat) - shU p j) by grind)
    have : s * ((shU p (j + 1) : Rat) - shU p j) = 0 := by grind
    rcases Rat.mul_eq_zero.1 this with e | e
    ·grind
    ·exact absurd e hd
   ·have k := Rat.mul_nonneg (show 0 ≤ -s by grind) (show 0 ≤ ((shU p j : Rat) - shU p (j + 1)) by grind)
    have : s * ((shU p (j + 1) : Rat) - shU p j) = 0 := by grind
    rcases Rat.mul_eq_zero.1 this with e | e
    ·grind
    ·exact absurd e hd
 ·generalize hS : (u - (shU p j : Rat)) / ((shU p (j + 1) : Rat) - shU p j) = s at *
  rcases q9K s 1 with g | g
  ·exact g
  ·unfold inR at h
   rcases h with ⟨h1, h2⟩ | ⟨h1, h2⟩
   ·have k := Rat.mul_nonneg (show 0 ≤ s - 1 by grind) (show 0 ≤ ((shU p (j + 1) : Rat) - shU p j) by grind)
    have : (s - 1) * ((shU p (j + 1) : Rat) - shU p j) = 0 := by grind
    rcases Rat.mul_eq_zero.1 this with e | e
    ·grind
    ·exact absurd e hd
   ·have k := Rat.mul_nonneg (show 0 ≤ s - 1 by grind) (show 0 ≤ ((shU p j : Rat) - shU p (j + 1)) by grind)
    have : (s - 1) * ((shU p (j + 1) : Rat) - shU p j) = 0 := by grind
    rcases Rat.mul_eq_zero.1 this with e | e
    ·grind
    ·exact absurd e hd
 ·grind
 ·have hy : yR p j u = (shV p j : Rat) + ((shV p (j + 1) : Rat) - shV p j) * ((u - (shU p j : Rat)) / ((shU p (j + 1) : Rat) - shU p j)) := by
   unfold yR shT
   congr 1
   apply qdx hd
   grind
  rw [hy]
  generalize hS : (u - (shU p j : Rat)) / ((shU p (j + 1) : Rat) - shU p j) = s at *
  have hu : u = shU p j + ((shU p (j + 1) : Rat) - shU p j) * s := by grind
  rw [hu]
  have e1 : (shU p j : Rat) = 16777216 * ((vx p j).x : Rat) + ((vx p j).y : Rat) := by unfold shU; rw [Rat.intCast_add, Rat.intCast_mul]; rfl
  have e2 : (shU p (j + 1) : Rat) = 16777216 * ((vx p (j + 1)).x : Rat) + ((vx p (j + 1)).y : Rat) := by unfold shU; rw [Rat.intCast_add, Rat.intCast_mul]; rfl
  have e3 : (shV p j : Rat) = ((vx p j).y : Rat) := rfl
  have e4 : (shV p (j + 1) : Rat) = ((vx p (j + 1)).y : Rat) := rfl
  rw [e1, e2, e3, e4]
  unfold onP qeG q4j q1d qp
  simp only [QP.mk.injEq]
  refine ⟨?_, trivial⟩
  generalize ((vx p j).x : Rat) = a
  generalize ((vx p j).y : Rat) = b
  generalize ((vx p (j + 1)).x : Rat) = c
  generalize ((vx p (j + 1)).y : Rat) = d
  have k : (16777216 : Rat) ≠ 0 := by decide
  apply qdx k
  rw [Rat.div_mul_cancel k]
  grind
theorem qkU {a b c : Spot} (hon1 : onS a b c = false) (hon2 : onS b c a = false) {s t : Rat} (hs0 : 0 ≤ s) (hs1 : s ≤ 1) (ht0 : 0 ≤ t) (ht1 : t ≤ 1) (he : onP (qp a) (qp b) s = onP (qp b) (qp c) t) : s = 1 ∧ t = 0 := by
 have hx : (a.x : Rat) + ((b.x : Rat) - a.x) * s = b.x + ((c.x : Rat) - b.x) * t := congrArg QP.x he
 have hy : (a.y : Rat) + ((b.y : Rat) - a.y) * s = b.y + ((c.y : Rat) - b.y) * t := congrArg QP.y he
 rcases q9K t (1 - s) with h | h
 ·by_cases h0 : 1 - s = 0
  ·constructor <;> grind
  ·exfalso
   have hr := Rat.div_mul_cancel (a := t) h0
   have hp : 0 < 1 - s := by grind
   have r0 : 0 ≤ t / (1 - s) := qho (by grind) h0 hr ht0
   have r1 : t / (1 - s) ≤ 1 := by
    generalize t / (1 - s) = r at *
    rcases q9K r 1 with g | g
    ·exact g
    ·have k := Rat.mul_nonneg (show 0 ≤ r - 1 by grind) (show 0 ≤ 1 - s by grind)
     have : (r - 1) * (1 - s) = 0 := by grind
     rcases Rat.mul_eq_zero.1 this with e | e
     ·grind
     ·exact absurd e h0
   have : onS b c a = true := by
    refine qfA r0 r1 ?_
    generalize t / (1 - s) = r at *
    unfold onP qeG q4j q1d qp
    simp only [QP.mk.injEq]
    constructor
    ·apply qdx h0; grind
    ·apply qdx h0; grind
   rw [hon2] at this; cases this
 ·by_cases h0 : t = 0
  ·constructor <;> grind
  ·exfalso
   have hr := Rat.div_mul_cancel (a := 1 - s) h0
   have r0 : 0 ≤ (1 - s) / t := qho ht0 h0 hr (by grind)
   have r1 : (1 - s) / t ≤ 1 := by
    generalize (1 - s) / t = r at *
    rcases q9K r 1 with g | g
    ·exact g
    ·have k := Rat.mul_nonneg (show 0 ≤ r - 1 by grind) ht0
     have : (r - 1) * t = 0 := by grind
     rcases Rat.mul_eq_zero.1 this with e | e
     ·grind
     ·exact absurd e h0
   have : onS a b c = true := by
    refine qfA (s := 1 - (1 - s) / t) (by grind) (by grind) ?_
    generalize (1 - s) / t = r at *
    unfold onP qeG q4j q1d qp
    simp only [QP.mk.injEq]
    constructor
    ·apply qdx h0; grind
    ·apply qdx h0; grind
   rw [hon1] at this; cases this
theorem qt4 {p : List Spot} [OkP p] (hs : q2D p) (h3 : 3 ≤ p.length) {i j : Nat} (hj : j < p.length) (hij : i < j) {u : Rat} (ci : inR p i u) (cj : inR p j u) (he : yR p i u = yR p j u) :
 ∃ m m', (m = i ∨ m = i + 1) ∧ (m' = j ∨ m' = j + 1) ∧ (shU p m : Rat) = u ∧ (m = m' ∨ (m = 0 ∧ m' = p.length) ∨ (m = p.length ∧ m' = 0)) := by
 have hi : i < p.length := by omega
 obtain ⟨s, s0, s1, su, sp⟩ := qnq (qlV hs hi) ci
 obtain ⟨t, t0, t1, tu, tp⟩ := qnq (qlV hs hj) cj
 have hc : onP (qp (vx p i)) (qp (vx p (i + 1))) s = onP (qp (vx p j)) (qp (vx p (j + 1))) t := by rw [sp, tp, he]
 by_cases ha : j = i + 1
 ·subst ha
  have h2 := (hs i hi).1.2
  have e : pt p ((i + 2) % p.length) = vx p (i + 1 + 1) := rfl
  have e' : pt p ((i + 1) % p.length) = vx p (i + 1) := rfl
  rw [← qhp hi, e, e'] at h2
  obtain ⟨r1, r2⟩ := qkU h2.1 h2.2 s0 s1 t0 t1 hc
  exact ⟨i + 1, i + 1, .inr rfl, .inl rfl, by rw [su, r1]; grind, .inl rfl⟩
 ·by_cases hb : (j + 1) % p.length = i
  ·have hj1 : j + 1 = p.length := by
    rcases Nat.lt_or_ge (j + 1) p.length with g | g
    ·rw [Nat.mod_eq_of_lt g] at hb; omega
    ·omega
   rw [hj1, Nat.mod_self] at hb
   subst hb
   have h2 := (hs j hj).1.2
   have e0 : vx p (j + 1) = vx p 0 := by unfold vx; rw [hj1, Nat.mod_self, Nat.zero_mod]
   have e : pt p ((j + 2) % p.length) = vx p (0 + 1) := by
    unfold vx
    rw [show j + 2 = p.length + 1 by omega, Nat.add_mod_left]
   have e' : pt p ((j + 1) % p.length) = vx p (j + 1) := rfl
   rw [← qhp hj, e, e', e0] at h2
   rw [e0] at hc
   obtain ⟨r1, r2⟩ := qkU h2.1 h2.2 t0 t1 s0 s1 hc.symm
   refine ⟨0, j + 1, .inl rfl, .inr rfl, ?_, .inr (.inl ⟨rfl, hj1⟩)⟩
   rw [su, r2]; grind
  ·exfalso
   have h2 := (hs i hi).2 j hj (by omega) hb
   have n1 := (hs i hi).1.1
   have n2 := (hs j hj).1.1
   have e1 : pt p ((i + 1) % p.length) = vx p (i + 1) := rfl
   have e2 : pt p ((j + 1) % p.length) = vx p (j + 1) := rfl
   rw [← qhp hi, e1] at n1
   rw [← qhp hj, e2] at n2
   rw [← qhp hi, ← qhp hj, e1, e2, qnj n1 n2 s0 s1 t0 t1 hc] at h2
   cases h2
theorem touch {p : List Spot} [OkP p] (hs : q2D p) (h3 : 3 ≤ p.length) {i j : Nat} (hi : i < p.length) (hj : j < p.length) (hij : i ≠ j) {u : Rat} (ci : inR p i u) (cj : inR p j u) (he : yR p i u = yR p j u) :
 ∃ m m', (m = i ∨ m = i + 1) ∧ (m' = j ∨ m' = j + 1) ∧ (shU p m : Rat) = u ∧ (m = m' ∨ (m = 0 ∧ m' = p.length) ∨ (m = p.length ∧ m' = 0)) := by
 rcases Nat.lt_or_gt_of_ne hij with h | h
 ·exact qt4 hs h3 hj h ci cj he
 ·obtain ⟨m, m', h1, h2, h4, h5⟩ := qt4 hs h3 hi h cj ci he.symm
  refine ⟨m', m, h2, h1, ?_, ?_⟩
  ·rcases h5 with rfl | ⟨rfl, rfl⟩ | ⟨rfl, rfl⟩
   ·exact h4
   ·rw [← h4]; unfold shU vx; rw [Nat.mod_self, Nat.zero_mod]
   ·rw [← h4]; unfold shU vx; rw [Nat.mod_self, Nat.zero_mod]
  ·rcases h5 with rfl | ⟨rfl, rfl⟩ | ⟨rfl, rfl⟩
   ·exact .inl rfl
   ·exact .inr (.inr ⟨rfl, rfl⟩)
   ·exact .inr (.inl ⟨rfl, rfl⟩)
end Go.F

namespace Go.F
attribute [local irreducible] IntKind.wrap wpM
section
variable {T : Tab} {sh : Shr} {nx0 : Nat} {s : List Fr} {t : q0u} {h : q0f} {z : Frz} {nx : Nat} {q : Ex → q0u → q0f → Frz → Nat → Prop}
variable {base i : Nat} {res : List Nat} {g : Gd} {rest : List KOper}
end
theorem qbd (s : Sty) : s.enc = .agg [.str s.name, .lst (s.sizes.map .str), .lst (s.mults.map q00), .lst (s.pieces.map Piece.enc), .lst (s.uses.map Use.enc), .lst (s.seams.map Sew.enc), .lst (s.ops.map Opn.enc)] := rfl
end Go.F

namespace Go.F
attribute [local irreducible] IntKind.wrap wpM
def qgL : Piece := ⟨⟨#[]⟩, [], 0, [], [], [], false⟩
def q2S (s : Sty) (use : Int) : Piece := pc s.pieces (us s.uses use.toNat).piece.toNat
def q3i (s : Sty) (size use : Int) : List Edge × Piece × Int :=
 if q32 s ≠ 0 then ([], qgL, q32 s)
 else if qbe s size use then ([], qgL, 3)
 else ((q0B (q2S s use) (mu s.mults size.toNat)).1, q2S s use, (q0B (q2S s use) (mu s.mults size.toNat)).2)
set_option maxHeartbeats 4000000 in
theorem qfU (s : Sty) (size use : Int) (hB : StyB s) : PU q60 [s.enc, .int .i64 size, .int .i64 use] = some (.tup [edges (q3i s size use).1, (q3i s size use).2.1.enc, .int .i64 (q3i s size use).2.2]) := by
 refine q0h (fn := q5N) rfl (q0c ?_)
 refine go 800 rfl ?_
 refine q01 rfl rfl (q1c s hB) ?_
 refine go 800 rfl ?_
 refine q02 rfl (fun g => ?_) (fun g => ?_)
 ·rw [q0z] at g
  refine go 800 rfl ?_
  refine q08 rfl rfl rfl trivial ?_
  rw [q3i, if_pos g]; rfl
 have g : q32 s = 0 := q0A.1 g
 have hok := qdC g
 have hw : q3i s size use = if qbe s size use then ([], qgL, 3) else ((q0B (q2S s use) (mu s.mults size.toNat)).1, q2S s use, (q0B (q2S s use) (mu s.mults size.toNat)).2) := by rw [q3i, if_neg (by simp [g])]
 rw [hw]
 refine go 800 rfl ?_
 refine q05 rfl (fun f1 => ?_) (fun f1 => ?_)
 ·rw [q06] at f1
  refine go 800 rfl ?_
  refine q0e rfl ?_
  refine go 800 rfl ?_
  refine q0e rfl ?_
  refine go 800 rfl ?_
  refine q0g rfl ?_
  refine go 800 rfl ?_
  refine q08 rfl rfl rfl trivial ?_
  rw [if_pos (.inl f1)]; rfl
 rw [q07] at f1
 refine go 800 rfl ?_
 rw [List.length_map]
 refine q05 rfl (fun f2 => ?_) (fun f2 => ?_)
 ·rw [q0D] at f2
  refine go 800 rfl ?_
  refine q0e rfl ?_
  refine go 800 rfl ?_
  refine q0g rfl ?_
  refine go 800 rfl ?_
  refine q08 rfl rfl rfl trivial ?_
  rw [if_pos (.inr (.inl f2))]; rfl
 rw [q0E] at f2
 refine go 800 rfl ?_
 refine q05 rfl (fun f3 => ?_) (fun f3 => ?_)
 ·rw [q06] at f3
  refine go 800 rfl ?_
  refine q0g rfl ?_
  refine go 800 rfl ?_
  refine q08 rfl rfl rfl trivial ?_
  rw [if_pos (.inr (.inr (.inl f3)))]; rfl
 rw [q07] at f3
 refine go 800 rfl ?_
 rw [List.length_map]
 refine q02 rfl (fun f4 => ?_) (fun f4 => ?_)
 ·rw [q0D] at f4
  refine go 800 rfl ?_
  refine q08 rfl rfl rfl trivial ?_
  rw [if_pos (.inr (.inr (.inr f4)))]; rfl
 rw [q0E] at f4
 have hno : ¬ qbe s size use := by unfold qbe; omega
 rw [if_neg hno]
 have hu : use.toNat < s.uses.length := by omega
 have hup := hok.use (us s.uses use.toNat) (by rw [q9Q hu]; exact List.getElem_mem _)
 have hpl : (us s.uses use.toNat).piece.toNat < s.pieces.length := by omega
 have hml : size.toNat < s.mults.length := by rw [hok.mults]; omega
 have hg := q7R (q2S s use) (mu s.mults size.toNat) (by have := hB.corners _ (qpu hpl); unfold q2S; omega)
 refine go 800 rfl ?_
 refine q0k use.toNat rfl rfl (by omega) (qde hu) rfl ?_
 refine go 800 rfl ?_
 refine q0k (us s.uses use.toNat).piece.toNat rfl rfl (by omega) (qeL hpl) rfl ?_
 refine go 800 rfl ?_
 refine q0k size.toNat rfl rfl (by omega) (qpw hml) rfl ?_
 refine go 800 rfl ?_
 refine q01 rfl rfl hg ?_
 refine go 800 rfl ?_
 refine q08 rfl rfl rfl trivial ?_
 rfl
def qdL (s : Sty) (size use : Int) : List Spot × Int :=
 if (q3i s size use).2.2 ≠ 0 then ([], (q3i s size use).2.2) else q2F (q3i s size use).1 (q3i s size use).2.1.widths
theorem qtJ (s : Sty) (size use : Int) (hB : StyB s) : PU q48 [s.enc, .int .i64 size, .int .i64 use] = some (qll (qdL s size use)) := by
 have h := qfU s size use hB
 unfold qdL
 generalize q3i s size use = o at *
 refine q0h (fn := qbP) rfl (q0c ?_)
 refine go 800 rfl ?_
 refine q01 rfl rfl h ?_
 refine go 800 rfl ?_
 refine q02 rfl (fun g => ?_) (fun g => ?_)
 ·rw [q0z] at g
  refine go 800 rfl ?_
  refine q08 rfl rfl rfl trivial ?_
  rw [if_pos g]; rfl
 ·rw [q0A] at g
  rw [if_neg (by simp [g])]
  refine go 800 rfl ?_
  refine q01 rfl rfl (qmE o.1 o.2.1.widths) ?_
  refine go 800 rfl ?_
  exact q08 rfl rfl rfl trivial rfl
def qbB (s : Sty) (size use : Int) : Spot × Int :=
 if (q3i s size use).2.2 ≠ 0 then (⟨0, 0⟩, (q3i s size use).2.2) else (pt (eg (q3i s size use).1 0).line 0, 0)
theorem qtK {s : Sty} {size use : Int} (h : (q3i s size use).2.2 = 0) : q0Q (q3i s size use).1 = 0 ∧ q32 s = 0 ∧ ¬ qbe s size use := by
 unfold q3i at h ⊢
 split at h
 ·rename_i h1; exact absurd h h1
 ·rename_i h1
  rw [if_neg h1]
  split at h
  ·cases h
  ·rename_i h2
   rw [if_neg h2]
   exact ⟨(q5D h).2.2.1, by simpa using h1, h2⟩
theorem qlc (s : Sty) (size use : Int) (hB : StyB s) : PU q49 [s.enc, .int .i64 size, .int .i64 use] = some (.tup [(qbB s size use).1.enc, .int .i64 (qbB s size use).2]) := by
 have h := qfU s size use hB
 have hk := qtK (s := s) (size := size) (use := use)
 unfold qbB
 generalize q3i s size use = o at *
 refine q0h (fn := q80) rfl (q0c ?_)
 refine go 800 rfl ?_
 refine q01 rfl rfl h ?_
 refine go 800 rfl ?_
 refine q02 rfl (fun g => ?_) (fun g => ?_)
 ·rw [q0z] at g
  refine go 800 rfl ?_
  refine q08 rfl rfl rfl trivial ?_
  rw [if_pos g]; rfl
 ·rw [q0A] at g
  have hc := (hk g).1
  have h2 := (q1w hc).1
  have hl := (q20 hc (eg o.1 0) (by rw [q8s (by omega)]; exact List.getElem_mem _)).1
  rw [if_neg (by simp [g])]
  refine go 800 rfl ?_
  refine q0k 0 rfl rfl rfl (q24 (by omega)) rfl ?_
  refine go 800 rfl ?_
  refine q0k 0 rfl rfl rfl (q0T (by omega)) rfl ?_
  refine go 800 rfl ?_
  exact q08 rfl rfl rfl trivial rfl
end Go.F

namespace Go.F
mutual
def eqD : D → D → Bool
 | .bool a, .bool b => a == b
 | .int k n, .int k' n' => decide (k = k') && decide (n = n')
 | .str a, .str b => decide (a = b)
 | .lst l, .lst m => eqL l m
 | .agg l, .agg m => eqL l m
 | .tup l, .tup m => eqL l m
 | _, _ => false
def eqL : List D → List D → Bool
 | [], [] => true
 | a :: l, b :: m => eqD a b && eqL l m
 | _, _ => false
end
mutual
theorem qtb : ∀ {a b : D}, eqD a b = true → a = b
 | .bool a, .bool b, h => by simp [eqD] at h; rw [h]
 | .int k n, .int k' n', h => by simp [eqD] at h; rw [h.1, h.2]
 | .str a, .str b, h => by simp [eqD] at h; rw [h]
 | .lst l, .lst m, h => by rw [eqD] at h; rw [qm3 h]
 | .agg l, .agg m, h => by rw [eqD] at h; rw [qm3 h]
 | .tup l, .tup m, h => by rw [eqD] at h; rw [qm3 h]
 | .float .., _, h => by simp [eqD] at h
 | .nilsl, _, h => by simp [eqD] at h
 | .ref .., _, h => by simp [eqD] at h
 | .pl .., _, h => by simp [eqD] at h
 | .ptr .., _, h => by simp [eqD] at h
 | .fn .., _, h => by simp [eqD] at h
 | .mref .., _, h => by simp [eqD] at h
 | .mlst .., _, h => by simp [eqD] at h
 | .opq .., _, h => by simp [eqD] at h
 | .bad, _, h => by simp [eqD] at h
theorem qm3 : ∀ {a b : List D}, eqL a b = true → a = b
 | [], [], _ => rfl
 | a :: l, b :: m, h => by rw [eqL, Bool.and_eq_true] at h; rw [qtb h.1, qm3 h.2]
 | [], _ :: _, h => by simp [eqL] at h
 | _ :: _, [], h => by simp [eqL] at h
end
def eqO : Option D → D → Bool
 | some a, b => eqD a b
 | none, _ => false
theorem eqO_eq {a : Option D} {b : D} (h : eqO a b = true) : a = some b := by
 cases a with
 | none => simp [eqO] at h
 | some a => rw [qtb h]
def qul : Piece := ⟨⟨#[102, 114, 111, 110, 116]⟩,
 [⟨⟨#[101, 97]⟩, [⟨0, 0⟩, ⟨10, 0⟩]⟩, ⟨⟨#[101, 98]⟩, [⟨10, 0⟩, ⟨10, 10⟩]⟩, ⟨⟨#[101, 99]⟩, [⟨10, 10⟩, ⟨0, 10⟩]⟩, ⟨⟨#[101, 100]⟩, [⟨0, 10⟩, ⟨0, 0⟩]⟩],
 2, [], [⟨0, 0⟩, ⟨2, 0⟩, ⟨2, 0⟩, ⟨0, 0⟩], [1, 1, 1, 1], false⟩
def plainS : Sty := ⟨⟨#[115, 104, 105, 114, 116]⟩, [⟨#[83]⟩, ⟨#[77]⟩], [0, 3], [qul], [⟨0, 3, true⟩], [], []⟩
theorem qro : eqO (run prog q6Z q0r 12 qcx []) plainS.enc = true := by
 decide +kernel
theorem qtc : PU qcx [] = some plainS.enc := qoo (eqO_eq qro)
end Go.F

namespace Go.F
attribute [local irreducible] IntKind.wrap wpM
def nI (l : List Int) (i : Nat) : Int := l.getD i 0
theorem qs9 {l : List Int} {i : Nat} (h : i < l.length) : (l.map q00)[i]? = some (.int .i64 (nI l i)) := by simp [nI, h, q00]
theorem qsa {l : List Int} {i : Nat} (h : i < l.length) : nI l i = l[i] := by simp [nI, h]
theorem qhG (p q : List Int) (hp : p.length < 4611686018427387904) : PU q8v [ints p, ints q] = some (.bool (decide (p = q))) := by
 refine q0h (fn := q82) rfl (q0c ?_)
 refine go 800 rfl ?_
 refine q02 rfl (fun h1 => ?_) (fun h1 => ?_)
 ·refine go 800 rfl ?_
  refine q08 rfl rfl rfl trivial ?_
  rw [q0z, List.length_map, List.length_map] at h1
  have : p ≠ q := by rintro rfl; exact h1 rfl
  simp [this]
 rw [q0A, List.length_map, List.length_map] at h1
 refine go 800 rfl ?_
 refine q0q (S := fun k : Nat => ([ints p, ints q, q00 k], [none, none, none], [0, 0, 0])) (C := fun k => k ≤ p.length ∧ ∀ i, i < k → nI p i = nI q i) (m := fun k => p.length - k) 0 ⟨by omega, fun i hi => by omega⟩ (by omega) ?_ ?_
 ·exact q03 rfl trivial (by simp [ints, q00])
 intro k ⟨hk, hall⟩ N hN
 refine go 800 rfl ?_
 refine q02 rfl (fun g1 => ?_) (fun g1 => ?_)
 ·rw [q06, List.length_map] at g1
  have hlt : k < p.length := by omega
  have w1 : IntKind.i64.wrap ((k : Int) + 1) = ((k + 1 : Nat) : Int) := wrap64 (by omega) (by omega)
  refine go 800 rfl ?_
  refine q0k k rfl rfl rfl (qs9 hlt) rfl ?_
  refine go 800 rfl ?_
  refine q0k k rfl rfl rfl (qs9 (by omega)) rfl ?_
  refine go 800 rfl ?_
  refine q02 rfl (fun g2 => ?_) (fun g2 => ?_)
  ·rw [q0z] at g2
   refine go 800 rfl ?_
   refine q04 ?_
   refine go 800 rfl ?_
   refine q08 rfl rfl rfl trivial ?_
   have : p ≠ q := by rintro rfl; exact g2 rfl
   simp [this]
  ·rw [q0A] at g2
   refine go 800 rfl ?_
   refine q04 ?_
   refine hN (k + 1) ⟨by omega, fun i hi => ?_⟩ (by omega) (q03 rfl trivial (by simp [ints, q00, w1]))
   by_cases hik : i < k
   ·exact hall i hik
   ·obtain rfl : i = k := by omega
    exact g2
 rw [q07, List.length_map] at g1
 refine go 800 rfl ?_
 refine q04 ?_
 refine go 800 rfl ?_
 refine q08 rfl rfl rfl trivial ?_
 have : p = q := by
  refine List.ext_getElem (by omega) fun i h1 h2 => ?_
  have := hall i (by omega)
  rwa [qsa h1, qsa h2] at this
 simp [this]
theorem qom : q32 plainS = 0 := by decide +kernel
theorem pl_cut : qdL plainS 1 0 = ([⟨-1, -1⟩, ⟨17, -1⟩, ⟨17, 11⟩, ⟨-1, 11⟩], 0) := by decide +kernel
theorem qu0 : qbB plainS 1 0 = (⟨0, 0⟩, 0) := by decide +kernel
theorem qqz : (q7O plainS).map Plc.enc = [(⟨0, 0, 0, false, 0, 0, 0⟩ : Plc).enc, (⟨0, 0, 1, true, 0, 0, 0⟩ : Plc).enc, (⟨0, 0, 2, false, 0, 0, 0⟩ : Plc).enc] := by
 rw [q7O, if_neg (by rw [qom]; decide)]; rfl
theorem qsb : q6e plainS [0, 1, 1] = ([9], 0) := by
 rw [q6e, if_neg (by rw [qom]; decide)]; decide
def qon : Sty := ⟨⟨#[]⟩, [], [], [], [], [], []⟩
theorem qsc : q32 qon = 1 := by decide +kernel
end Go.F

namespace Go.F
theorem qu6 {f : FuncId} {fn : KFn} {args : List D} {Q : D → Prop} (hf : tab f = some fn) (hw : wp TT (shr TT 6) 0 fn.code (enter args) empty qf9 0 (qgt fn fun d h _ _ => ws2 h d Q)) : ∃ r, Q r ∧ PU f args = some r := by
 obtain ⟨F, cd, h1, h2, h3⟩ := tt_ok.tab f fn hf
 obtain ⟨d, h', z', nx', q1, e1⟩ := qcZ tt_ok (qkL tt_ok 6) h2 h3 hw
 obtain ⟨d', h4, h5⟩ := qq0 q1
 refine ⟨d', h5, qlO (e1.up.mono fun M hM => ?_)⟩
 obtain ⟨M', rfl, hM'⟩ := hM
 simp only [EM, env, h1, h2]
 have hM2 : body prog (env prog q6Z q0r M') (q0r f) F cd args empty qf9 0 = some (d, h', z', nx') := hM'
 rw [hM2]
 exact h4
theorem boolI {f : FuncId} {fn : KFn} {args : List D} {R : Prop} (hf : tab f = some fn)
 (hw : wpM TT (shr TT 6) 0 [.code fn.code] .normal (enter args) empty qf9 0 (qgt fn fun d h _ _ => ws2 h d fun d => ∃ b : Bool, d = .bool b ∧ (b = true → R))) : ∃ b : Bool, PU f args = some (.bool b) ∧ (b = true → R) := by
 simp only [wpM] at hw
 obtain ⟨r, ⟨b, rfl, hb⟩, h2⟩ := qu6 hf hw
 exact ⟨b, h2, hb⟩
attribute [local irreducible] IntKind.wrap wpM
section
variable {T : Tab} {sh : Shr} {nx0 : Nat} {t : q0u} {h : q0f} {z : Frz} {nx : Nat}
theorem qbI {fn : KFn} {ex : Ex} {Q : D → Prop} {d d' : D} {rows : List (List D × Nat × Nat)} (hex : (match ex with | .exit _ => false | _ => true) = true) (hd : dres t h fn.res = some d) (hs : dr2 h d = some (rows, d')) (hr : q4B rows) (he : Q d') :
 wpM T sh nx0 [] ex t h z nx (qgt fn fun d h _ _ => ws2 h d Q) := by
 refine q04 ?_
 cases ex with
 | exit i => cases hex
 | normal => exact q6M hd (qdG hs hr he)
 | ret => exact q6M hd (qdG hs hr he)
end
structure PcL (p : Piece) : Prop where
 edges : p.edges.length ≤ 20
 corners : p.corners.length ≤ 20
 widths : p.widths.length ≤ 20
 notches : p.notches.length ≤ 20
 line : ∀ i, i < p.edges.length → (eg p.edges i).line.length ≤ 80 ∧ (eg p.edges i).name.size ≤ 100
theorem qiZ (p : Piece) : p.enc = .agg [.str p.name, .lst (p.edges.map Edge.enc), .int .i64 p.grain, .lst (p.notches.map Ntc.enc), .lst (p.corners.map Spot.enc), .lst (p.widths.map q00), .bool p.match_] := rfl
set_option maxHeartbeats 8000000 in
theorem qlP (p : Piece) : ∃ b : Bool, PU qh2 [p.enc, .int .i64 80] = some (.bool b) ∧ (b = true → PcL p) := by
 refine boolI (fn := qbQ) rfl ?_
 rw [qiZ]
 refine go 800 rfl ?_
 refine q05 rfl (fun g0 => ?_) (fun g0 => ?_)
 ·refine go 800 rfl ?_
  refine q0e rfl ?_
  refine go 800 rfl ?_
  refine q0e rfl ?_
  refine go 800 rfl ?_
  refine q0g rfl ?_
  refine go 800 rfl ?_
  exact qbI rfl rfl rfl trivial ⟨false, rfl, fun h => by cases h⟩
 refine go 800 rfl ?_
 refine q05 rfl (fun g1 => ?_) (fun g1 => ?_)
 ·refine go 800 rfl ?_
  refine q0e rfl ?_
  refine go 800 rfl ?_
  refine q0g rfl ?_
  refine go 800 rfl ?_
  exact qbI rfl rfl rfl trivial ⟨false, rfl, fun h => by cases h⟩
 refine go 800 rfl ?_
 refine q05 rfl (fun g2 => ?_) (fun g2 => ?_)
 ·refine go 800 rfl ?_
  refine q0g rfl ?_
  refine go 800 rfl ?_
  exact qbI rfl rfl rfl trivial ⟨false, rfl, fun h => by cases h⟩
 refine go 800 rfl ?_
 refine q02 rfl (fun g3 => ?_) (fun g3 => ?_)
 ·refine go 800 rfl ?_
  exact qbI rfl rfl rfl trivial ⟨false, rfl, fun h => by cases h⟩
 rw [q07, List.length_map] at g0 g1 g2 g3
 refine go 800 rfl ?_
 refine q0q (S := fun a : Nat × Nat => ([.int .i64 80, .ptr 1 0 0, q00 a.2, q00 a.1], [none, some (.row [p.enc] 7), none, none], [0, 0, 0, 0])) (C := fun a => a.1 ≤ p.edges.length ∧ a.2 ≤ 80 * a.1 ∧ ∀ j, j < a.1 → (eg p.edges j).line.length ≤ 80 ∧ (eg p.edges j).name.size ≤ 100) (m := fun a => p.edges.length - a.1) (0, 0) ⟨Nat.zero_le _, Nat.zero_le _, fun j h => by simp at h⟩ (by show p.edges.length - 0 < _; omega) ?_ ?_
 ·exact q03 rfl ⟨rfl, trivial⟩ rfl
 rintro ⟨k, n⟩ ⟨hk, hn, hj⟩ N hN
 simp only at hk hn hj
 simp only [qiZ]
 refine go 800 rfl ?_
 rw [List.length_map]
 refine q02 rfl (fun e => ?_) (fun e => ?_)
 ·rw [q06] at e
  have hlt : k < p.edges.length := by omega
  have w1 : IntKind.i64.wrap ((k : Int) + 1) = ((k + 1 : Nat) : Int) := wrap64 (by omega) (by omega)
  refine go 800 rfl ?_
  refine q0k k rfl rfl rfl (q24 hlt) rfl ?_
  refine go 800 rfl ?_
  rw [List.length_map]
  refine q05 rfl (fun f1 => ?_) (fun f1 => ?_)
  ·refine go 800 rfl ?_
   refine q0g rfl ?_
   refine go 800 rfl ?_
   refine q04 ?_
   refine go 800 rfl ?_
   exact qbI rfl rfl rfl trivial ⟨false, rfl, fun h => by cases h⟩
  rw [q07] at f1
  refine go 800 rfl ?_
  refine q0k k rfl rfl rfl (q24 hlt) rfl ?_
  refine go 800 rfl ?_
  refine q02 rfl (fun f2 => ?_) (fun f2 => ?_)
  ·refine go 800 rfl ?_
   refine q04 ?_
   refine go 800 rfl ?_
   exact qbI rfl rfl rfl trivial ⟨false, rfl, fun h => by cases h⟩
  rw [q07] at f2
  have w2 : IntKind.i64.wrap ((n : Int) + ((eg p.edges k).line.length : Nat)) = ((n + (eg p.edges k).line.length : Nat) : Int) := wrap64 (by omega) (by omega)
  refine go 800 rfl ?_
  refine q0k k rfl rfl rfl (q24 hlt) rfl ?_
  refine go 800 rfl ?_
  rw [List.length_map]
  refine q04 ?_
  refine hN (k + 1, n + (eg p.edges k).line.length) ⟨hlt, by show _ ≤ 80 * (k + 1); omega, fun j hjk => ?_⟩ (by show p.edges.length - (k + 1) < p.edges.length - k; omega) (q03 rfl ⟨rfl, trivial⟩ (by rw [w1, w2]; rfl))
  have hjk : j < k + 1 := hjk
  by_cases ej : j = k
  ·subst ej; omega
  ·exact hj j (by omega)
 rw [q07] at e
 obtain rfl : k = p.edges.length := by omega
 refine go 800 rfl ?_
 refine q04 ?_
 refine go 800 rfl ?_
 exact qbI rfl rfl rfl trivial ⟨_, rfl, fun _ => ⟨by omega, by omega, by omega, by omega, hj⟩⟩
structure StyL (s : Sty) : Prop where
 name : s.name.size ≤ 100
 sizes : s.sizes.length ≤ 30
 mults : s.mults.length ≤ 30
 uses : s.uses.length ≤ 30
 seams : s.seams.length ≤ 30
 ops : s.ops.length ≤ 30
 pieces : s.pieces.length ≤ 14
 size : ∀ i (h : i < s.sizes.length), s.sizes[i].size ≤ 100
 piece : ∀ i, i < s.pieces.length → PcL (pc s.pieces i)
theorem StyL.B {s : Sty} (h : StyL s) : StyB s where
 sizes := Nat.le_trans h.sizes (by decide)
 size := fun x hx => by
  obtain ⟨i, hi, rfl⟩ := List.mem_iff_getElem.1 hx
  exact Nat.le_trans (h.size i hi) (by decide)
 mults := Nat.le_trans h.mults (by decide)
 pieces := Nat.le_trans h.pieces (by decide)
 uses := Nat.le_trans h.uses (by decide)
 seams := Nat.le_trans h.seams (by decide)
 ops := Nat.le_trans h.ops (by decide)
 corners := fun p hp => by
  obtain ⟨i, hi, rfl⟩ := List.mem_iff_getElem.1 hp
  exact q7z hi ▸ Nat.le_trans (h.piece i hi).corners (by decide)
 widths := fun p hp => by
  obtain ⟨i, hi, rfl⟩ := List.mem_iff_getElem.1 hp
  exact q7z hi ▸ Nat.le_trans (h.piece i hi).widths (by decide)
 notches := fun p hp => by
  obtain ⟨i, hi, rfl⟩ := List.mem_iff_getElem.1 hp
  exact q7z hi ▸ Nat.le_trans (h.piece i hi).notches (by decide)
set_option maxHeartbeats 8000000 in
theorem qaY (s : Sty) : ∃ b : Bool, PU q2O [s.enc] = some (.bool b) ∧ (b = true → StyL s) := by
 refine boolI (fn := qbN) rfl ?_
 rw [qbd]
 refine go 800 rfl ?_
 refine q05 rfl (fun g0 => ?_) (fun g0 => ?_)
 ·refine go 800 rfl ?_
  refine q0e rfl ?_
  refine go 800 rfl ?_
  refine q0e rfl ?_
  refine go 800 rfl ?_
  refine q0e rfl ?_
  refine go 800 rfl ?_
  refine q0e rfl ?_
  refine go 800 rfl ?_
  refine q0e rfl ?_
  refine go 800 rfl ?_
  refine q0g rfl ?_
  refine go 800 rfl ?_
  exact qbI rfl rfl rfl trivial ⟨false, rfl, fun h => by cases h⟩
 refine go 800 rfl ?_
 refine q05 rfl (fun g1 => ?_) (fun g1 => ?_)
 ·refine go 800 rfl ?_
  refine q0e rfl ?_
  refine go 800 rfl ?_
  refine q0e rfl ?_
  refine go 800 rfl ?_
  refine q0e rfl ?_
  refine go 800 rfl ?_
  refine q0e rfl ?_
  refine go 800 rfl ?_
  refine q0g rfl ?_
  refine go 800 rfl ?_
  exact qbI rfl rfl rfl trivial ⟨false, rfl, fun h => by cases h⟩
 refine go 800 rfl ?_
 refine q05 rfl (fun g2 => ?_) (fun g2 => ?_)
 ·refine go 800 rfl ?_
  refine q0e rfl ?_
  refine go 800 rfl ?_
  refine q0e rfl ?_
  refine go 800 rfl ?_
  refine q0e rfl ?_
  refine go 800 rfl ?_
  refine q0g rfl ?_
  refine go 800 rfl ?_
  exact qbI rfl rfl rfl trivial ⟨false, rfl, fun h => by cases h⟩
 refine go 800 rfl ?_
 refine q05 rfl (fun g3 => ?_) (fun g3 => ?_)
 ·refine go 800 rfl ?_
  refine q0e rfl ?_
  refine go 800 rfl ?_
  refine q0e rfl ?_
  refine go 800 rfl ?_
  refine q0g rfl ?_
  refine go 800 rfl ?_
  exact qbI rfl rfl rfl trivial ⟨false, rfl, fun h => by cases h⟩
 refine go 800 rfl ?_
 refine q05 rfl (fun g4 => ?_) (fun g4 => ?_)
 ·refine go 800 rfl ?_
  refine q0e rfl ?_
  refine go 800 rfl ?_
  refine q0g rfl ?_
  refine go 800 rfl ?_
  exact qbI rfl rfl rfl trivial ⟨false, rfl, fun h => by cases h⟩
 refine go 800 rfl ?_
 refine q05 rfl (fun g5 => ?_) (fun g5 => ?_)
 ·refine go 800 rfl ?_
  refine q0g rfl ?_
  refine go 800 rfl ?_
  exact qbI rfl rfl rfl trivial ⟨false, rfl, fun h => by cases h⟩
 refine go 800 rfl ?_
 refine q02 rfl (fun g6 => ?_) (fun g6 => ?_)
 ·refine go 800 rfl ?_
  exact qbI rfl rfl rfl trivial ⟨false, rfl, fun h => by cases h⟩
 rw [q07] at g0 g1 g2 g3 g4 g5 g6
 rw [List.length_map] at g1 g2 g3 g4 g5 g6
 refine go 800 rfl ?_
 refine q0q (S := fun k : Nat => ([.ptr 0 0 0, q00 k], [some (.row [s.enc] 7), none], [0, 0])) (C := fun k => k ≤ s.sizes.length ∧ ∀ j (h : j < s.sizes.length), j < k → s.sizes[j].size ≤ 100) (m := fun k => s.sizes.length - k) 0 ⟨Nat.zero_le _, fun j _ h => by omega⟩ (by omega) ?_ ?_
 ·exact q03 rfl ⟨rfl, trivial⟩ rfl
 rintro k ⟨hk, hj⟩ N hN
 simp only [qbd]
 refine go 800 rfl ?_
 rw [List.length_map]
 refine q02 rfl (fun e => ?_) (fun e => ?_)
 ·rw [q06] at e
  have hlt : k < s.sizes.length := by omega
  have w1 : IntKind.i64.wrap ((k : Int) + 1) = ((k + 1 : Nat) : Int) := wrap64 (by omega) (by omega)
  have hx : (s.sizes.map D.str)[k]? = some (.str s.sizes[k]) := q1J hlt
  refine go 800 rfl ?_
  refine q0k k rfl rfl rfl hx rfl ?_
  refine go 800 rfl ?_
  refine q02 rfl (fun f1 => ?_) (fun f1 => ?_)
  ·refine go 800 rfl ?_
   refine q04 ?_
   refine go 800 rfl ?_
   exact qbI rfl rfl rfl trivial ⟨false, rfl, fun h => by cases h⟩
  rw [q07] at f1
  refine go 800 rfl ?_
  refine q04 ?_
  refine hN (k + 1) ⟨hlt, fun j hj2 hjk => ?_⟩ (by omega) (q03 rfl ⟨rfl, trivial⟩ (by rw [w1]; rfl))
  by_cases ej : j = k
  ·subst ej; omega
  ·exact hj j hj2 (by omega)
 rw [q07] at e
 obtain rfl : k = s.sizes.length := by omega
 clear hN
 refine go 800 rfl ?_
 refine q04 ?_
 refine go 800 rfl ?_
 refine q0q (S := fun k : Nat => ([.ptr 0 0 0, q00 k], [some (.row [s.enc] 7), none], [0, 0])) (C := fun k => k ≤ s.pieces.length ∧ ∀ j, j < k → PcL (pc s.pieces j)) (m := fun k => s.pieces.length - k) 0 ⟨Nat.zero_le _, fun j h => by omega⟩ (by omega) ?_ ?_
 ·exact q03 rfl ⟨rfl, trivial⟩ rfl
 rintro k ⟨hk, hp⟩ N hN
 simp only [qbd]
 refine go 800 rfl ?_
 rw [List.length_map]
 refine q02 rfl (fun e => ?_) (fun e => ?_)
 ·rw [q06] at e
  have hlt : k < s.pieces.length := by omega
  have w1 : IntKind.i64.wrap ((k : Int) + 1) = ((k + 1 : Nat) : Int) := wrap64 (by omega) (by omega)
  obtain ⟨b, hb, hbs⟩ := qlP (pc s.pieces k)
  refine go 800 rfl ?_
  refine q0k k rfl rfl rfl (qeL hlt) rfl ?_
  refine go 800 rfl ?_
  refine q05 rfl (fun f1 => ?_) (fun f1 => ?_)
  ·refine go 800 rfl ?_
   refine q0g rfl ?_
   refine go 800 rfl ?_
   refine q04 ?_
   refine go 800 rfl ?_
   exact qbI rfl rfl rfl trivial ⟨false, rfl, fun h => by cases h⟩
  refine go 800 rfl ?_
  refine q0k k rfl rfl rfl (qeL hlt) rfl ?_
  refine go 800 rfl ?_
  refine q01 rfl rfl hb ?_
  refine go 800 rfl ?_
  cases b with
  | false =>
    refine q0g rfl ?_
    refine go 800 rfl ?_
    refine q04 ?_
    refine go 800 rfl ?_
    exact qbI rfl rfl rfl trivial ⟨false, rfl, fun h => by cases h⟩
  | true =>
    refine q0m rfl ?_
    refine go 800 rfl ?_
    refine q04 ?_
    refine hN (k + 1) ⟨hlt, fun j hjk => ?_⟩ (by omega) (q03 rfl ⟨rfl, trivial⟩ (by rw [w1]; rfl))
    by_cases ej : j = k
    ·subst ej; exact hbs rfl
    ·exact hp j (by omega)
 rw [q07] at e
 obtain rfl : k = s.pieces.length := by omega
 refine go 800 rfl ?_
 refine q04 ?_
 refine go 800 rfl ?_
 exact qbI rfl rfl rfl trivial ⟨_, rfl, fun _ => ⟨by omega, by omega, by omega, by omega, by omega, by omega, by omega, fun i hi => hj i hi hi, hp⟩⟩
end Go.F

namespace Go.F
attribute [local irreducible] IntKind.wrap wpM
theorem plB : StyB plainS := ⟨by decide, by decide, by decide, by decide, by decide, by decide, by decide, by decide, by decide, by decide⟩
theorem emB : StyB qon := ⟨by decide, by decide, by decide, by decide, by decide, by decide, by decide, by decide, by decide, by decide⟩
set_option maxRecDepth 100000 in
set_option maxHeartbeats 8000000 in
theorem q22 : PU q0X [] = some (.bool true) := by
 have s1 := qtJ plainS 1 0 plB
 have s2 := qlc plainS 1 0 plB
 have s3 := qld plainS plB
 have s4 := qod plainS [0, 1, 1] plB (by decide)
 have s5 := q1c plainS plB
 have s6 := q1c qon emB
 rw [pl_cut] at s1
 rw [qu0] at s2
 rw [qoc, qqz] at s3
 rw [qsb] at s4
 rw [qom] at s5
 rw [qsc] at s6
 have hn : ∀ {x : Int} {P : Prop}, nqb x x = true → P := fun h => absurd rfl (q0z.1 h)
 have s7 := qhv [⟨-1, -1⟩, ⟨17, -1⟩, ⟨17, 11⟩, ⟨-1, 11⟩] [⟨-1, -1⟩, ⟨17, -1⟩, ⟨17, 11⟩, ⟨-1, 11⟩] (by decide)
 have s8 := qhG [9] [9] (by decide)
 rw [decide_eq_true rfl] at s7 s8
 have e0 : eqb 0 0 = true := q12.2 rfl
 have e1 : eqb 1 1 = true := q12.2 rfl
 refine q0h (fn := qbO) rfl (q0c ?_)
 refine go 800 rfl ?_
 refine q01 rfl rfl qtc ?_
 refine go 800 rfl ?_
 refine q01 rfl rfl s1 ?_
 refine go 800 rfl ?_
 refine q01 rfl rfl s2 ?_
 refine go 800 rfl ?_
 refine q01 rfl rfl s3 ?_
 refine go 800 rfl ?_
 refine q2o rfl rfl ⟨⟨by decide, rfl⟩, trivial⟩ s4 fun z => ?_
 refine go 800 rfl ?_
 refine q05 rfl hn (fun _ => ?_)
 refine go 800 rfl ?_
 refine q05 rfl hn (fun _ => ?_)
 refine go 800 rfl ?_
 refine q05 rfl hn (fun _ => ?_)
 refine go 800 rfl ?_
 refine q05 rfl hn (fun _ => ?_)
 refine go 800 rfl ?_
 refine q01 rfl rfl s5 ?_
 refine go 800 rfl ?_
 refine q05 rfl hn (fun _ => ?_)
 refine go 800 rfl ?_
 refine q01 rfl rfl s6 ?_
 refine go 800 rfl ?_
 refine q02 rfl hn (fun _ => ?_)
 refine go 800 rfl ?_
 refine q2o rfl rfl ⟨⟨by decide, rfl⟩, trivial⟩ s7 fun z => ?_
 refine go 800 rfl ?_
 refine q0e rfl ?_
 refine go 800 rfl ?_
 refine q05 rfl (fun _ => ?_) (fun h => by simp [e0] at h)
 refine go 800 rfl ?_
 refine q0k 1 rfl rfl rfl rfl rfl ?_
 refine go 800 rfl ?_
 refine q05 rfl (fun _ => ?_) (fun h => by simp [e0, e1] at h)
 refine go 800 rfl ?_
 refine q2o rfl rfl ⟨⟨by decide, rfl⟩, trivial⟩ s8 fun z => ?_
 refine go 800 rfl ?_
 exact q08 rfl rfl rfl trivial rfl
end Go.F

namespace Go.F
attribute [local irreducible] IntKind.wrap wpM
theorem qhz (l : List Edge) (ws : List Int) : (q2F l ws).1.length ≤ 40 := by
 unfold q2F
 split
 ·unfold qan
  split
  ·simp
  ·split
   ·rename_i hq
    split
    ·exact (q2v hq).2.1
    ·simp
   ·simp
 ·simp
theorem qtx (s : Sty) (a b : Int) : (qdL s a b).1.length ≤ 40 := by
 unfold qdL
 split
 ·simp
 ·exact qhz _ _
theorem q7a {s : Sty} {a b : Int} (h : q32 s = 0) (hO : qbe s a b) : (qdL s a b).2 = 3 ∧ (qbB s a b).2 = 3 := by
 have ho : q3i s a b = ([], qgL, 3) := by unfold q3i; rw [if_neg (by simp [h]), if_pos hO]
 unfold qdL qbB
 rw [ho]
 exact ⟨rfl, rfl⟩
set_option maxRecDepth 100000 in
set_option maxHeartbeats 8000000 in
theorem qtX (s : Sty) (size use : Int) : PU qfi [s.enc, .int .i64 size, .int .i64 use] = some (.bool true) := by
 obtain ⟨b, hb, hbs⟩ := qaY s
 have he : ∀ {x : Int} {P : Prop}, eqb x x = false → P := fun h => absurd rfl (q1a.1 h)
 have hn : ∀ {x : Int} {P : Prop}, nqb x x = true → P := fun h => absurd rfl (q0z.1 h)
 refine q0h (fn := q5L) rfl (q0c ?_)
 refine go 800 rfl ?_
 refine q01 rfl rfl hb ?_
 cases b with
 | false =>
   refine go 800 rfl ?_
   refine q0e rfl ?_
   refine go 800 rfl ?_
   refine q0g rfl ?_
   refine go 800 rfl ?_
   refine q01 rfl rfl q22 ?_
   refine go 800 rfl ?_
   exact q08 rfl rfl rfl trivial rfl
 | true =>
   have hL := hbs rfl
   have hB := hL.B
   have s1 := q1c s hB
   have s2 := qtJ s size use hB
   have s3 := qlc s size use hB
   have hcl := qtx s size use
   refine go 800 rfl ?_
   refine q0j rfl ?_
   refine go 800 rfl ?_
   refine q01 rfl rfl s1 ?_
   refine go 800 rfl ?_
   refine q02 rfl (fun g => ?_) (fun g => ?_)
   ·refine go 800 rfl ?_
    refine q01 rfl rfl q22 ?_
    refine go 800 rfl ?_
    exact q08 rfl rfl rfl trivial rfl
   have g : q32 s = 0 := q0A.1 g
   have hok := qdC g
   refine go 800 rfl ?_
   refine q01 rfl rfl s2 ?_
   refine go 800 rfl ?_
   refine q01 rfl rfl s3 ?_
   refine go 800 rfl ?_
   refine q05 rfl (fun f1 => ?_) (fun f1 => ?_)
   ·rw [q06] at f1
    have hO : qbe s size use := .inl f1
    have hc := (q7a g hO).1
    have ha := (q7a g hO).2
    refine go 800 rfl ?_
    refine q0e rfl ?_
    refine go 800 rfl ?_
    refine q0e rfl ?_
    refine go 800 rfl ?_
    refine q0e rfl ?_
    refine go 800 rfl ?_
    refine q0e rfl ?_
    refine go 800 rfl ?_
    refine q0e rfl ?_
    refine go 800 rfl ?_
    refine q0g rfl ?_
    refine go 800 rfl ?_
    refine q05 rfl (fun _ => ?_) (fun h => absurd hc (q1a.1 h))
    refine go 800 rfl ?_
    refine q05 rfl (fun _ => ?_) (fun h => absurd ha (q1a.1 h))
    refine go 800 rfl ?_
    refine q01 rfl rfl q22 ?_
    refine go 800 rfl ?_
    exact q08 rfl rfl rfl trivial rfl
   rw [q07] at f1
   refine go 800 rfl ?_
   rw [List.length_map]
   refine q05 rfl (fun f2 => ?_) (fun f2 => ?_)
   ·rw [q0D] at f2
    have hO : qbe s size use := .inr (.inl f2)
    have hc := (q7a g hO).1
    have ha := (q7a g hO).2
    refine go 800 rfl ?_
    refine q0e rfl ?_
    refine go 800 rfl ?_
    refine q0e rfl ?_
    refine go 800 rfl ?_
    refine q0e rfl ?_
    refine go 800 rfl ?_
    refine q0e rfl ?_
    refine go 800 rfl ?_
    refine q0g rfl ?_
    refine go 800 rfl ?_
    refine q05 rfl (fun _ => ?_) (fun h => absurd hc (q1a.1 h))
    refine go 800 rfl ?_
    refine q05 rfl (fun _ => ?_) (fun h => absurd ha (q1a.1 h))
    refine go 800 rfl ?_
    refine q01 rfl rfl q22 ?_
    refine go 800 rfl ?_
    exact q08 rfl rfl rfl trivial rfl
   rw [q0E] at f2
   refine go 800 rfl ?_
   refine q05 rfl (fun f3 => ?_) (fun f3 => ?_)
   ·rw [q06] at f3
    have hO : qbe s size use := .inr (.inr (.inl f3))
    have hc := (q7a g hO).1
    have ha := (q7a g hO).2
    refine go 800 rfl ?_
    refine q0e rfl ?_
    refine go 800 rfl ?_
    refine q0e rfl ?_
    refine go 800 rfl ?_
    refine q0e rfl ?_
    refine go 800 rfl ?_
    refine q0g rfl ?_
    refine go 800 rfl ?_
    refine q05 rfl (fun _ => ?_) (fun h => absurd hc (q1a.1 h))
    refine go 800 rfl ?_
    refine q05 rfl (fun _ => ?_) (fun h => absurd ha (q1a.1 h))
    refine go 800 rfl ?_
    refine q01 rfl rfl q22 ?_
    refine go 800 rfl ?_
    exact q08 rfl rfl rfl trivial rfl
   rw [q07] at f3
   refine go 800 rfl ?_
   rw [List.length_map]
   refine q05 rfl (fun f4 => ?_) (fun f4 => ?_)
   ·rw [q0D] at f4
    have hO : qbe s size use := .inr (.inr (.inr f4))
    have hc := (q7a g hO).1
    have ha := (q7a g hO).2
    refine go 800 rfl ?_
    refine q0e rfl ?_
    refine go 800 rfl ?_
    refine q0e rfl ?_
    refine go 800 rfl ?_
    refine q0g rfl ?_
    refine go 800 rfl ?_
    refine q05 rfl (fun _ => ?_) (fun h => absurd hc (q1a.1 h))
    refine go 800 rfl ?_
    refine q05 rfl (fun _ => ?_) (fun h => absurd ha (q1a.1 h))
    refine go 800 rfl ?_
    refine q01 rfl rfl q22 ?_
    refine go 800 rfl ?_
    exact q08 rfl rfl rfl trivial rfl
   rw [q0E] at f4
   have hO : ¬ qbe s size use := by unfold qbe; omega
   refine go 800 rfl ?_
   rw [List.length_map]
   refine q05 rfl (fun f5 => ?_) (fun f5 => ?_)
   ·rw [q0D] at f5; have := hok.mults; omega
   obtain ⟨un, rfl⟩ := Int.eq_ofNat_of_zero_le f3
   obtain ⟨zn, rfl⟩ := Int.eq_ofNat_of_zero_le f1
   have hun : un < s.uses.length := by omega
   have hzn : zn < s.mults.length := by have := hok.mults; omega
   have huse := hok.use (us s.uses un) (by rw [q9Q hun]; exact List.getElem_mem _)
   have hout : q3i s zn un = ((q0B (q2S s un) (mu s.mults zn)).1, q2S s un, (q0B (q2S s un) (mu s.mults zn)).2) := by
    unfold q3i; rw [if_neg (by simp [g]), if_neg hO]; rfl
   have hpo : q2S s un = pc s.pieces (us s.uses un).piece.toNat := rfl
   have hpl : (us s.uses un).piece.toNat < s.pieces.length := by omega
   have hpi : (us s.uses un).piece = (((us s.uses un).piece.toNat : Nat) : Int) := by omega
   refine go 800 rfl ?_
   refine q0k un rfl rfl rfl (qde hun) rfl ?_
   refine go 800 rfl ?_
   refine q05 rfl (fun f6 => ?_) (fun f6 => ?_)
   ·rw [q06] at f6; omega
   refine go 800 rfl ?_
   refine q0k un rfl rfl rfl (qde hun) rfl ?_
   refine go 800 rfl ?_
   rw [List.length_map]
   refine q02 rfl (fun f7 => ?_) (fun f7 => ?_)
   ·rw [q0D] at f7; omega
   refine go 800 rfl ?_
   refine q0k un rfl rfl rfl (qde hun) rfl ?_
   refine go 800 rfl ?_
   generalize hq : (us s.uses un).piece = q at *
   obtain ⟨pn, rfl⟩ := Int.eq_ofNat_of_zero_le huse.1
   refine q0k pn rfl rfl rfl (qeL hpl) rfl ?_
   refine go 800 rfl ?_
   refine q0k zn rfl rfl rfl (qpw hzn) rfl ?_
   refine go 800 rfl ?_
   have hgr := q7R (pc s.pieces pn) (mu s.mults zn) (Nat.le_trans (hL.piece pn hpl).corners (by decide))
   refine q01 rfl rfl hgr ?_
   refine go 800 rfl ?_
   have hpo' : q2S s un = pc s.pieces pn := by rw [hpo]; rfl
   rw [hpo'] at hout
   refine q02 rfl (fun f8 => ?_) (fun f8 => ?_)
   ·rw [q0z] at f8
    have hc : qdL s zn un = ([], (q0B (pc s.pieces pn) (mu s.mults zn)).2) := by unfold qdL; rw [hout]; exact if_pos f8
    have ha : qbB s zn un = (⟨0, 0⟩, (q0B (pc s.pieces pn) (mu s.mults zn)).2) := by unfold qbB; rw [hout]; exact if_pos f8
    rw [hc, ha]
    refine go 800 rfl ?_
    refine q05 rfl (fun _ => ?_) he
    refine go 800 rfl ?_
    refine q05 rfl (fun _ => ?_) he
    refine go 800 rfl ?_
    refine q05 rfl (fun _ => ?_) he
    refine go 800 rfl ?_
    refine q01 rfl rfl q22 ?_
    refine go 800 rfl ?_
    exact q08 rfl rfl rfl trivial rfl
   have f8 : (q0B (pc s.pieces pn) (mu s.mults zn)).2 = 0 := q0A.1 f8
   have hc : qdL s zn un = q2F (q0B (pc s.pieces pn) (mu s.mults zn)).1 (pc s.pieces pn).widths := by unfold qdL; rw [hout]; exact if_neg (by simp [f8])
   have ha : qbB s zn un = (pt (eg (q0B (pc s.pieces pn) (mu s.mults zn)).1 0).line 0, 0) := by unfold qbB; rw [hout]; exact if_neg (by simp [f8])
   have hck := (q5D f8).2.2.1
   rw [hc, ha]
   generalize (q0B (pc s.pieces pn) (mu s.mults zn)).1 = l at *
   have hl2 := (q1w hck).1
   have hln := q20 hck (eg l 0) (by rw [q8s (by omega)]; exact List.getElem_mem _)
   have hal := qmE l (pc s.pieces pn).widths
   have hsm := qhv (q2F l (pc s.pieces pn).widths).1 (q2F l (pc s.pieces pn).widths).1 (by have := qhz l (pc s.pieces pn).widths; omega)
   rw [decide_eq_true rfl] at hsm
   refine go 800 rfl ?_
   refine q01 rfl rfl hal ?_
   refine go 800 rfl ?_
   rw [List.length_map]
   refine q05 rfl (fun f9 => ?_) (fun f9 => ?_)
   ·rw [q12] at f9; omega
   refine go 800 rfl ?_
   refine q0k 0 rfl rfl rfl (q24 (by omega)) rfl ?_
   refine go 800 rfl ?_
   rw [List.length_map]
   refine q02 rfl (fun f9 => ?_) (fun f9 => ?_)
   ·rw [q12] at f9; omega
   refine go 800 rfl ?_
   refine q05 rfl (fun _ => ?_) he
   refine go 800 rfl ?_
   refine q01 rfl rfl hsm ?_
   refine go 800 rfl ?_
   refine q0e rfl ?_
   refine go 800 rfl ?_
   refine q05 rfl (fun _ => ?_) he
   refine go 800 rfl ?_
   refine q0k 0 rfl rfl rfl (q24 (by omega)) rfl ?_
   refine go 800 rfl ?_
   refine q0k 0 rfl rfl rfl (q0T (by omega)) rfl ?_
   refine go 800 rfl ?_
   refine q05 rfl (fun _ => ?_) (fun h => by simp [q12.2 rfl] at h)
   refine go 800 rfl ?_
   refine q01 rfl rfl q22 ?_
   refine go 800 rfl ?_
   exact q08 rfl rfl rfl trivial rfl
end Go.F

namespace Go.F
attribute [local irreducible] IntKind.wrap wpM
theorem qfL {l : List Use} {u c : Nat} (hc : c < (us l u).count.toNat) : ∀ n, u < n → (q13 l n)[(q13 l u).length + c]? = some (qbf (us l u) u c) := by
 intro n
 induction n with
 | zero => intro h; omega
 | succ n ih =>
   intro h
   show (q13 l n ++ q1y (us l n) n (us l n).count.toNat)[(q13 l u).length + c]? = _
   by_cases e : u = n
   ·subst e
    rw [List.getElem?_append_right (by omega), Nat.add_sub_cancel_left]
    simp [q1y, hc]
   ·have h1 := ih (by omega)
    have h2 := (List.getElem?_eq_some_iff.1 h1).1
    rw [List.getElem?_append_left h2]; exact h1
def q2s (u : Use) (c : Nat) : Nat := if u.pair then c / 2 else 0
set_option maxRecDepth 100000 in
set_option maxHeartbeats 16000000 in
theorem qtW (s : Sty) (sizes : List Int) : PU qfh [s.enc, ints sizes] = some (.bool true) := by
 obtain ⟨b, hb, hbs⟩ := qaY s
 have he : ∀ {x : Int} {P : Prop}, eqb x x = false → P := fun h => absurd rfl (q1a.1 h)
 have hn0 : ∀ {x : Int} {P : Prop}, nqb x x = true → P := fun h => absurd rfl (q0z.1 h)
 refine q0h (fn := q5K) rfl (q0c ?_)
 refine go 800 rfl ?_
 refine q01 rfl rfl hb ?_
 cases b with
 | false =>
   refine go 800 rfl ?_
   refine q0e rfl ?_
   refine go 800 rfl ?_
   refine q0g rfl ?_
   refine go 800 rfl ?_
   refine q01 rfl rfl q22 ?_
   refine go 800 rfl ?_
   exact q08 rfl rfl rfl trivial rfl
 | true =>
   have hL := hbs rfl
   have hB := hL.B
   have s1 := q1c s hB
   have s2 := qld s hB
   refine go 800 rfl ?_
   refine q0j rfl ?_
   refine go 800 rfl ?_
   rw [List.length_map]
   refine q02 rfl (fun f1 => ?_) (fun f1 => ?_)
   ·refine go 800 rfl ?_
    refine q01 rfl rfl q22 ?_
    refine go 800 rfl ?_
    exact q08 rfl rfl rfl trivial rfl
   rw [q07] at f1
   have s3 := qod s sizes hB (by omega)
   refine go 800 rfl ?_
   refine q01 rfl rfl s2 ?_
   refine go 800 rfl ?_
   refine q01 rfl rfl s1 ?_
   refine go 800 rfl ?_
   refine q02 rfl (fun g => ?_) (fun g => ?_)
   ·rw [q0z] at g
    have hc : q7O s = [] := by rw [q7O, if_pos g]
    rw [hc]
    refine go 800 rfl ?_
    refine q05 rfl (fun _ => ?_) he
    refine go 800 rfl ?_
    refine q01 rfl rfl q22 ?_
    refine go 800 rfl ?_
    exact q08 rfl rfl rfl trivial rfl
   have g : q32 s = 0 := q0A.1 g
   have hok := qdC g
   have hcp : q7O s = q13 s.uses s.uses.length := by rw [q7O, if_neg (by simp [g])]
   have hnd : (q6e s sizes).2 = 3 ∧ (q6e s sizes).1 = [] ∨ (q6e s sizes).2 = 0 ∧ (q6e s sizes).1 = s.uses.map fun u => u.count * (sizes.length : Int) := by
    unfold q6e
    rw [if_neg (by simp [g])]
    split
    ·exact .inl ⟨rfl, rfl⟩
    ·exact .inr ⟨rfl, rfl⟩
   have hlen := qbg (l := s.uses) (fun u hu => (hok.use u hu).2.2.2)
   have hu12 := hok.uses
   rw [hcp]
   refine go 800 rfl ?_
   refine q01 rfl rfl s3 ?_
   generalize hE : (q6e s sizes).2 = E at *
   generalize hN0 : (q6e s sizes).1 = nd at *
   have hfin : ∀ {P : Prop}, (E ≠ 0 → nd.length ≠ 0 → P) := by
    intro P h1 h2
    rcases hnd with ⟨h3, h4⟩ | ⟨h3, h4⟩
    ·rw [h4] at h2; exact absurd rfl h2
    ·exact absurd h3 h1
   refine go 800 rfl ?_
   refine q05 rfl (fun g1 => ?_) (fun g1 => ?_)
   ·rw [q0z] at g1
    refine go 800 rfl ?_
    rw [List.length_map]
    refine q05 rfl (fun g2 => hfin g1 (fun h => (q0z.1 g2) (by omega))) (fun g2 => ?_)
    refine go 800 rfl ?_
    refine q05 rfl (fun g3 => absurd (q12.1 g3) g1) (fun g3 => ?_)
    refine go 800 rfl ?_
    refine q0m rfl ?_
    refine go 800 rfl ?_
    refine q0q (S := fun k : Nat => ([ints sizes, .ptr 1 0 0, qoc (q13 s.uses s.uses.length), ints nd, .int .i64 E, q00 (q13 s.uses k).length, q00 k], [none, some (.row [s.enc] 7), none, none, none, none, none], [0, 0, 0, 0, 0, 0, 0])) (C := fun k => k ≤ s.uses.length) (m := fun k => s.uses.length - k) 0 (Nat.zero_le _) (by omega) ?_ ?_
    ·exact q03 rfl ⟨rfl, trivial⟩ rfl
    intro k hk N hN
    refine go 800 rfl ?_
    rw [List.length_map]
    refine q02 rfl (fun e1 => ?_) (fun e1 => ?_)
    ·rw [q06] at e1
     have hlt : k < s.uses.length := by omega
     have w1 : IntKind.i64.wrap ((k : Int) + 1) = ((k + 1 : Nat) : Int) := wrap64 (by omega) (by omega)
     have hx := qde hlt
     have huk := hok.use (us s.uses k) (by rw [q9Q hlt]; exact List.getElem_mem _)
     have hget := fun c hc => qfL (l := s.uses) (u := k) (c := c) hc s.uses.length hlt
     have hl0 := hlen k hk
     have hl1 := hlen s.uses.length (Nat.le_refl _)
     have hstep : (q13 s.uses (k + 1)).length = (q13 s.uses k).length + (us s.uses k).count.toNat := by
      show (q13 s.uses k ++ q1y (us s.uses k) k (us s.uses k).count.toNat).length = _
      rw [List.length_append]; simp [q1y]
     have hndk : E = 0 → (nd.map q00)[k]? = some (.int .i64 ((us s.uses k).count * (sizes.length : Int))) := by
      intro hE0
      rcases hnd with ⟨h3, h4⟩ | ⟨h3, h4⟩
      ·rw [h3] at hE0; cases hE0
      ·rw [h4, List.map_map, List.getElem?_map, q9Q hlt]; simp [hlt, q00]
     generalize us s.uses k = u at *
     generalize q13 s.uses k = L at *
     generalize q13 s.uses s.uses.length = LL at *
     have ec : u.count = ((u.count.toNat : Nat) : Int) := by omega
     have hp : (sizes.length : Int) * u.count ≤ 40 * 4 := Int.mul_le_mul (by omega) (by omega) (by omega) (by omega)
     have hp0 : 0 ≤ (sizes.length : Int) * u.count := Int.mul_nonneg (by omega) (by omega)
     have w2 : IntKind.i64.wrap ((sizes.length : Int) * u.count) = (sizes.length : Int) * u.count := wrap64 (by omega) (by omega)
     refine go 800 rfl ?_
     refine q0q (S := fun n : Nat => ([ints sizes, .ptr 1 0 0, qoc LL, ints nd, .int .i64 E, q00 ((L.length + n : Nat) : Int), q00 k, q00 ((q2s u n : Nat) : Int), q00 n], [none, some (.row [s.enc] 7), none, none, none, none, none, none, none], [0, 0, 0, 0, 0, 0, 0, 0, 0])) (C := fun n => n ≤ u.count.toNat) (m := fun n => u.count.toNat - n) 0 (Nat.zero_le _) (by omega) ?_ ?_
     ·exact q03 rfl ⟨rfl, trivial⟩ (by simp [q2s, q00, ints, qoc])
     intro n hn N2 hN2
     refine go 800 rfl ?_
     refine q0k k rfl rfl rfl hx rfl ?_
     refine go 800 rfl ?_
     refine q02 rfl (fun e2 => ?_) (fun e2 => ?_)
     ·rw [q06] at e2
      have hn2 : n < u.count.toNat := by omega
      have hg := hget n hn2
      have hgl : L.length + n < LL.length := (List.getElem?_eq_some_iff.1 hg).1
      have hge : (LL.map Plc.enc)[L.length + n]? = some (qbf u k n).enc := by rw [List.getElem?_map, hg]; rfl
      have wn : IntKind.i64.wrap ((n : Int) + 1) = ((n + 1 : Nat) : Int) := wrap64 (by omega) (by omega)
      have wa : IntKind.i64.wrap (((L.length + n : Nat) : Int) + 1) = ((L.length + (n + 1) : Nat) : Int) := by rw [wrap64 (by omega) (by omega)]; omega
      have hfl : q2s u n ≤ n := by unfold q2s; split <;> omega
      have wf : IntKind.i64.wrap (((q2s u n : Nat) : Int) + 1) = ((q2s u n + 1 : Nat) : Int) := wrap64 (by omega) (by omega)
      refine go 800 rfl ?_
      rw [List.length_map]
      refine q05 rfl (fun e3 => ?_) (fun _ => ?_)
      ·rw [q0D] at e3; omega
      refine go 800 rfl ?_
      refine q0k (L.length + n) rfl rfl rfl hge rfl ?_
      refine go 800 rfl ?_
      refine q05 rfl hn0 (fun _ => ?_)
      refine go 800 rfl ?_
      refine q0k (L.length + n) rfl rfl rfl hge rfl ?_
      refine go 800 rfl ?_
      refine q05 rfl hn0 (fun _ => ?_)
      refine go 800 rfl ?_
      refine q0k (L.length + n) rfl rfl rfl hge rfl ?_
      refine go 800 rfl ?_
      refine q05 rfl hn0 (fun _ => ?_)
      refine go 800 rfl ?_
      refine q0k (L.length + n) rfl rfl rfl hge rfl ?_
      refine go 800 rfl ?_
      refine q02 rfl hn0 (fun _ => ?_)
      refine go 800 rfl ?_
      refine q0k (L.length + n) rfl rfl rfl hge rfl ?_
      refine go 800 rfl ?_
      refine q02 rfl (fun e4 => ?_) (fun e4 => ?_)
      ·have e4 : (u.pair && decide (n % 2 = 1)) = true := e4
       rw [Bool.and_eq_true, decide_eq_true_eq] at e4
       have hf1 : q2s u (n + 1) = q2s u n + 1 := by unfold q2s; rw [if_pos e4.1, if_pos e4.1]; omega
       refine go 800 rfl ?_
       refine q04 ?_
       refine hN2 (n + 1) (by omega) (by omega) (q03 rfl ⟨rfl, trivial⟩ ?_)
       rw [wn, wa, wf, hf1]; rfl
      ·have e4 : (u.pair && decide (n % 2 = 1)) = false := e4
       rw [Bool.and_eq_false_iff, decide_eq_false_iff_not] at e4
       have hf1 : q2s u (n + 1) = q2s u n := by
        unfold q2s
        rcases e4 with h | h
        ·rw [h]; rfl
        ·split <;> omega
       refine go 800 rfl ?_
       refine q04 ?_
       refine hN2 (n + 1) (by omega) (by omega) (q03 rfl ⟨rfl, trivial⟩ ?_)
       rw [wn, wa, hf1]; rfl
     rw [q07] at e2
     obtain rfl : n = u.count.toNat := by omega
     clear hN2
     have hfp : u.pair = true → ((q2s u u.count.toNat : Nat) : Int) = u.count.tdiv 2 := by
      intro h
      unfold q2s
      rw [if_pos h, Int.tdiv_eq_ediv_of_nonneg (by omega)]; omega
     have hfn : u.pair = false → q2s u u.count.toNat = 0 := by
      intro h
      unfold q2s
      rw [h]; rfl
     have wq : IntKind.i64.wrap (u.count.tdiv 2) = u.count.tdiv 2 := by
      rw [Int.tdiv_eq_ediv_of_nonneg (by omega)]; exact wrap64 (by omega) (by omega)
     refine go 800 rfl ?_
     refine q04 ?_
     refine go 800 rfl ?_
     cases hpr : u.pair with
     | true =>
       have hq := hfp hpr
       refine q05 rfl (fun e5 => ?_) (fun e5 => ?_)
       ·refine go 800 rfl ?_
        refine q0k k rfl rfl rfl hx rfl ?_
        refine go 800 rfl ?_
        rw [hpr]
        refine q0j rfl ?_
        refine go 800 rfl ?_
        refine q0k k rfl rfl rfl hx rfl ?_
        refine go 800 rfl ?_
        rw [hpr]
        refine q0e rfl ?_
        refine go 800 rfl ?_
        refine q0k k rfl rfl rfl hx rfl ?_
        refine go 800 rfl ?_
        refine qbD rfl rfl (by decide) ?_
        rw [wq, ← hq]
        refine go 800 rfl ?_
        refine q05 rfl hn0 (fun _ => ?_)
        refine go 800 rfl ?_
        refine q05 rfl (fun e6 => ?_) (fun e6 => ?_)
        ·have e6 := q12.1 e6
         refine go 800 rfl ?_
         refine q0k k rfl rfl rfl (hndk e6) rfl ?_
         refine go 800 rfl ?_
         refine q0k k rfl rfl rfl hx rfl ?_
         refine go 800 rfl ?_
         rw [List.length_map, w2]
         refine q02 rfl (fun e7 => absurd (Int.mul_comm _ _) (q0z.1 e7)) (fun _ => ?_)
         refine go 800 rfl ?_
         refine q04 ?_
         refine hN (k + 1) (by omega) (by omega) (q03 rfl ⟨rfl, trivial⟩ ?_)
         rw [w1, hstep]; rfl
        ·refine go 800 rfl ?_
         refine q0m rfl ?_
         refine go 800 rfl ?_
         refine q04 ?_
         refine hN (k + 1) (by omega) (by omega) (q03 rfl ⟨rfl, trivial⟩ ?_)
         rw [w1, hstep]; rfl
       ·refine go 800 rfl ?_
        refine q0j rfl ?_
        refine go 800 rfl ?_
        refine q0k k rfl rfl rfl hx rfl ?_
        refine go 800 rfl ?_
        rw [hpr]
        refine q0e rfl ?_
        refine go 800 rfl ?_
        refine q0k k rfl rfl rfl hx rfl ?_
        refine go 800 rfl ?_
        refine qbD rfl rfl (by decide) ?_
        rw [wq, ← hq]
        refine go 800 rfl ?_
        refine q05 rfl hn0 (fun _ => ?_)
        refine go 800 rfl ?_
        refine q05 rfl (fun e6 => ?_) (fun e6 => ?_)
        ·have e6 := q12.1 e6
         refine go 800 rfl ?_
         refine q0k k rfl rfl rfl (hndk e6) rfl ?_
         refine go 800 rfl ?_
         refine q0k k rfl rfl rfl hx rfl ?_
         refine go 800 rfl ?_
         rw [List.length_map, w2]
         refine q02 rfl (fun e7 => absurd (Int.mul_comm _ _) (q0z.1 e7)) (fun _ => ?_)
         refine go 800 rfl ?_
         refine q04 ?_
         refine hN (k + 1) (by omega) (by omega) (q03 rfl ⟨rfl, trivial⟩ ?_)
         rw [w1, hstep]; rfl
        ·refine go 800 rfl ?_
         refine q0m rfl ?_
         refine go 800 rfl ?_
         refine q04 ?_
         refine hN (k + 1) (by omega) (by omega) (q03 rfl ⟨rfl, trivial⟩ ?_)
         rw [w1, hstep]; rfl
     | false =>
       rw [hfn hpr]
       refine q05 rfl (fun e5 => absurd (q06.1 e5) (by omega)) (fun e5 => ?_)
       refine go 800 rfl ?_
       refine q0j rfl ?_
       refine go 800 rfl ?_
       refine q0k k rfl rfl rfl hx rfl ?_
       refine go 800 rfl ?_
       rw [hpr]
       refine q0j rfl ?_
       refine go 800 rfl ?_
       refine q0j rfl ?_
       refine go 800 rfl ?_
       refine q05 rfl (fun e6 => ?_) (fun e6 => ?_)
       ·have e6 := q12.1 e6
        refine go 800 rfl ?_
        refine q0k k rfl rfl rfl (hndk e6) rfl ?_
        refine go 800 rfl ?_
        refine q0k k rfl rfl rfl hx rfl ?_
        refine go 800 rfl ?_
        rw [List.length_map, w2]
        refine q02 rfl (fun e7 => absurd (Int.mul_comm _ _) (q0z.1 e7)) (fun _ => ?_)
        refine go 800 rfl ?_
        refine q04 ?_
        refine hN (k + 1) (by omega) (by omega) (q03 rfl ⟨rfl, trivial⟩ ?_)
        rw [w1, hstep]; rfl
       ·refine go 800 rfl ?_
        refine q0m rfl ?_
        refine go 800 rfl ?_
        refine q04 ?_
        refine hN (k + 1) (by omega) (by omega) (q03 rfl ⟨rfl, trivial⟩ ?_)
        rw [w1, hstep]; rfl
    rw [q07] at e1
    obtain rfl : k = s.uses.length := by omega
    clear hN
    refine go 800 rfl ?_
    refine q04 ?_
    refine go 800 rfl ?_
    rw [List.length_map]
    refine q05 rfl (fun _ => ?_) he
    refine go 800 rfl ?_
    refine q01 rfl rfl q22 ?_
    refine go 800 rfl ?_
    exact q08 rfl rfl rfl trivial rfl
   ·rw [q0A] at g1
    refine go 800 rfl ?_
    refine q0j rfl ?_
    refine go 800 rfl ?_
    refine q05 rfl (fun g3 => ?_) (fun g3 => absurd g1 (q1a.1 g3))
    refine go 800 rfl ?_
    rw [List.length_map, List.length_map]
    refine q02 rfl (fun g4 => ?_) (fun g4 => ?_)
    ·rcases hnd with ⟨h3, h4⟩ | ⟨h3, h4⟩
     ·rw [h3] at g1; cases g1
     ·rw [q0z] at g4; exact absurd (by rw [h4, List.length_map]) g4
    refine go 800 rfl ?_
    refine q0q (S := fun k : Nat => ([ints sizes, .ptr 1 0 0, qoc (q13 s.uses s.uses.length), ints nd, .int .i64 E, q00 (q13 s.uses k).length, q00 k], [none, some (.row [s.enc] 7), none, none, none, none, none], [0, 0, 0, 0, 0, 0, 0])) (C := fun k => k ≤ s.uses.length) (m := fun k => s.uses.length - k) 0 (Nat.zero_le _) (by omega) ?_ ?_
    ·exact q03 rfl ⟨rfl, trivial⟩ rfl
    intro k hk N hN
    refine go 800 rfl ?_
    rw [List.length_map]
    refine q02 rfl (fun e1 => ?_) (fun e1 => ?_)
    ·rw [q06] at e1
     have hlt : k < s.uses.length := by omega
     have w1 : IntKind.i64.wrap ((k : Int) + 1) = ((k + 1 : Nat) : Int) := wrap64 (by omega) (by omega)
     have hx := qde hlt
     have huk := hok.use (us s.uses k) (by rw [q9Q hlt]; exact List.getElem_mem _)
     have hget := fun c hc => qfL (l := s.uses) (u := k) (c := c) hc s.uses.length hlt
     have hl0 := hlen k hk
     have hl1 := hlen s.uses.length (Nat.le_refl _)
     have hstep : (q13 s.uses (k + 1)).length = (q13 s.uses k).length + (us s.uses k).count.toNat := by
      show (q13 s.uses k ++ q1y (us s.uses k) k (us s.uses k).count.toNat).length = _
      rw [List.length_append]; simp [q1y]
     have hndk : E = 0 → (nd.map q00)[k]? = some (.int .i64 ((us s.uses k).count * (sizes.length : Int))) := by
      intro hE0
      rcases hnd with ⟨h3, h4⟩ | ⟨h3, h4⟩
      ·rw [h3] at hE0; cases hE0
      ·rw [h4, List.map_map, List.getElem?_map, q9Q hlt]; simp [hlt, q00]
     generalize us s.uses k = u at *
     generalize q13 s.uses k = L at *
     generalize q13 s.uses s.uses.length = LL at *
     have ec : u.count = ((u.count.toNat : Nat) : Int) := by omega
     have hp : (sizes.length : Int) * u.count ≤ 40 * 4 := Int.mul_le_mul (by omega) (by omega) (by omega) (by omega)
     have hp0 : 0 ≤ (sizes.length : Int) * u.count := Int.mul_nonneg (by omega) (by omega)
     have w2 : IntKind.i64.wrap ((sizes.length : Int) * u.count) = (sizes.length : Int) * u.count := wrap64 (by omega) (by omega)
     refine go 800 rfl ?_
     refine q0q (S := fun n : Nat => ([ints sizes, .ptr 1 0 0, qoc LL, ints nd, .int .i64 E, q00 ((L.length + n : Nat) : Int), q00 k, q00 ((q2s u n : Nat) : Int), q00 n], [none, some (.row [s.enc] 7), none, none, none, none, none, none, none], [0, 0, 0, 0, 0, 0, 0, 0, 0])) (C := fun n => n ≤ u.count.toNat) (m := fun n => u.count.toNat - n) 0 (Nat.zero_le _) (by omega) ?_ ?_
     ·exact q03 rfl ⟨rfl, trivial⟩ (by simp [q2s, q00, ints, qoc])
     intro n hn N2 hN2
     refine go 800 rfl ?_
     refine q0k k rfl rfl rfl hx rfl ?_
     refine go 800 rfl ?_
     refine q02 rfl (fun e2 => ?_) (fun e2 => ?_)
     ·rw [q06] at e2
      have hn2 : n < u.count.toNat := by omega
      have hg := hget n hn2
      have hgl : L.length + n < LL.length := (List.getElem?_eq_some_iff.1 hg).1
      have hge : (LL.map Plc.enc)[L.length + n]? = some (qbf u k n).enc := by rw [List.getElem?_map, hg]; rfl
      have wn : IntKind.i64.wrap ((n : Int) + 1) = ((n + 1 : Nat) : Int) := wrap64 (by omega) (by omega)
      have wa : IntKind.i64.wrap (((L.length + n : Nat) : Int) + 1) = ((L.length + (n + 1) : Nat) : Int) := by rw [wrap64 (by omega) (by omega)]; omega
      have hfl : q2s u n ≤ n := by unfold q2s; split <;> omega
      have wf : IntKind.i64.wrap (((q2s u n : Nat) : Int) + 1) = ((q2s u n + 1 : Nat) : Int) := wrap64 (by omega) (by omega)
      refine go 800 rfl ?_
      rw [List.length_map]
      refine q05 rfl (fun e3 => ?_) (fun _ => ?_)
      ·rw [q0D] at e3; omega
      refine go 800 rfl ?_
      refine q0k (L.length + n) rfl rfl rfl hge rfl ?_
      refine go 800 rfl ?_
      refine q05 rfl hn0 (fun _ => ?_)
      refine go 800 rfl ?_
      refine q0k (L.length + n) rfl rfl rfl hge rfl ?_
      refine go 800 rfl ?_
      refine q05 rfl hn0 (fun _ => ?_)
      refine go 800 rfl ?_
      refine q0k (L.length + n) rfl rfl rfl hge rfl ?_
      refine go 800 rfl ?_
      refine q05 rfl hn0 (fun _ => ?_)
      refine go 800 rfl ?_
      refine q0k (L.length + n) rfl rfl rfl hge rfl ?_
      refine go 800 rfl ?_
      refine q02 rfl hn0 (fun _ => ?_)
      refine go 800 rfl ?_
      refine q0k (L.length + n) rfl rfl rfl hge rfl ?_
      refine go 800 rfl ?_
      refine q02 rfl (fun e4 => ?_) (fun e4 => ?_)
      ·have e4 : (u.pair && decide (n % 2 = 1)) = true := e4
       rw [Bool.and_eq_true, decide_eq_true_eq] at e4
       have hf1 : q2s u (n + 1) = q2s u n + 1 := by unfold q2s; rw [if_pos e4.1, if_pos e4.1]; omega
       refine go 800 rfl ?_
       refine q04 ?_
       refine hN2 (n + 1) (by omega) (by omega) (q03 rfl ⟨rfl, trivial⟩ ?_)
       rw [wn, wa, wf, hf1]; rfl
      ·have e4 : (u.pair && decide (n % 2 = 1)) = false := e4
       rw [Bool.and_eq_false_iff, decide_eq_false_iff_not] at e4
       have hf1 : q2s u (n + 1) = q2s u n := by
        unfold q2s
        rcases e4 with h | h
        ·rw [h]; rfl
        ·split <;> omega
       refine go 800 rfl ?_
       refine q04 ?_
       refine hN2 (n + 1) (by omega) (by omega) (q03 rfl ⟨rfl, trivial⟩ ?_)
       rw [wn, wa, hf1]; rfl
     rw [q07] at e2
     obtain rfl : n = u.count.toNat := by omega
     clear hN2
     have hfp : u.pair = true → ((q2s u u.count.toNat : Nat) : Int) = u.count.tdiv 2 := by
      intro h
      unfold q2s
      rw [if_pos h, Int.tdiv_eq_ediv_of_nonneg (by omega)]; omega
     have hfn : u.pair = false → q2s u u.count.toNat = 0 := by
      intro h
      unfold q2s
      rw [h]; rfl
     have wq : IntKind.i64.wrap (u.count.tdiv 2) = u.count.tdiv 2 := by
      rw [Int.tdiv_eq_ediv_of_nonneg (by omega)]; exact wrap64 (by omega) (by omega)
     refine go 800 rfl ?_
     refine q04 ?_
     refine go 800 rfl ?_
     cases hpr : u.pair with
     | true =>
       have hq := hfp hpr
       refine q05 rfl (fun e5 => ?_) (fun e5 => ?_)
       ·refine go 800 rfl ?_
        refine q0k k rfl rfl rfl hx rfl ?_
        refine go 800 rfl ?_
        rw [hpr]
        refine q0j rfl ?_
        refine go 800 rfl ?_
        refine q0k k rfl rfl rfl hx rfl ?_
        refine go 800 rfl ?_
        rw [hpr]
        refine q0e rfl ?_
        refine go 800 rfl ?_
        refine q0k k rfl rfl rfl hx rfl ?_
        refine go 800 rfl ?_
        refine qbD rfl rfl (by decide) ?_
        rw [wq, ← hq]
        refine go 800 rfl ?_
        refine q05 rfl hn0 (fun _ => ?_)
        refine go 800 rfl ?_
        refine q05 rfl (fun e6 => ?_) (fun e6 => ?_)
        ·have e6 := q12.1 e6
         refine go 800 rfl ?_
         refine q0k k rfl rfl rfl (hndk e6) rfl ?_
         refine go 800 rfl ?_
         refine q0k k rfl rfl rfl hx rfl ?_
         refine go 800 rfl ?_
         rw [List.length_map, w2]
         refine q02 rfl (fun e7 => absurd (Int.mul_comm _ _) (q0z.1 e7)) (fun _ => ?_)
         refine go 800 rfl ?_
         refine q04 ?_
         refine hN (k + 1) (by omega) (by omega) (q03 rfl ⟨rfl, trivial⟩ ?_)
         rw [w1, hstep]; rfl
        ·refine go 800 rfl ?_
         refine q0m rfl ?_
         refine go 800 rfl ?_
         refine q04 ?_
         refine hN (k + 1) (by omega) (by omega) (q03 rfl ⟨rfl, trivial⟩ ?_)
         rw [w1, hstep]; rfl
       ·refine go 800 rfl ?_
        refine q0j rfl ?_
        refine go 800 rfl ?_
        refine q0k k rfl rfl rfl hx rfl ?_
        refine go 800 rfl ?_
        rw [hpr]
        refine q0e rfl ?_
        refine go 800 rfl ?_
        refine q0k k rfl rfl rfl hx rfl ?_
        refine go 800 rfl ?_
        refine qbD rfl rfl (by decide) ?_
        rw [wq, ← hq]
        refine go 800 rfl ?_
        refine q05 rfl hn0 (fun _ => ?_)
        refine go 800 rfl ?_
        refine q05 rfl (fun e6 => ?_) (fun e6 => ?_)
        ·have e6 := q12.1 e6
         refine go 800 rfl ?_
         refine q0k k rfl rfl rfl (hndk e6) rfl ?_
         refine go 800 rfl ?_
         refine q0k k rfl rfl rfl hx rfl ?_
         refine go 800 rfl ?_
         rw [List.length_map, w2]
         refine q02 rfl (fun e7 => absurd (Int.mul_comm _ _) (q0z.1 e7)) (fun _ => ?_)
         refine go 800 rfl ?_
         refine q04 ?_
         refine hN (k + 1) (by omega) (by omega) (q03 rfl ⟨rfl, trivial⟩ ?_)
         rw [w1, hstep]; rfl
        ·refine go 800 rfl ?_
         refine q0m rfl ?_
         refine go 800 rfl ?_
         refine q04 ?_
         refine hN (k + 1) (by omega) (by omega) (q03 rfl ⟨rfl, trivial⟩ ?_)
         rw [w1, hstep]; rfl
     | false =>
       rw [hfn hpr]
       refine q05 rfl (fun e5 => absurd (q06.1 e5) (by omega)) (fun e5 => ?_)
       refine go 800 rfl ?_
       refine q0j rfl ?_
       refine go 800 rfl ?_
       refine q0k k rfl rfl rfl hx rfl ?_
       refine go 800 rfl ?_
       rw [hpr]
       refine q0j rfl ?_
       refine go 800 rfl ?_
       refine q0j rfl ?_
       refine go 800 rfl ?_
       refine q05 rfl (fun e6 => ?_) (fun e6 => ?_)
       ·have e6 := q12.1 e6
        refine go 800 rfl ?_
        refine q0k k rfl rfl rfl (hndk e6) rfl ?_
        refine go 800 rfl ?_
        refine q0k k rfl rfl rfl hx rfl ?_
        refine go 800 rfl ?_
        rw [List.length_map, w2]
        refine q02 rfl (fun e7 => absurd (Int.mul_comm _ _) (q0z.1 e7)) (fun _ => ?_)
        refine go 800 rfl ?_
        refine q04 ?_
        refine hN (k + 1) (by omega) (by omega) (q03 rfl ⟨rfl, trivial⟩ ?_)
        rw [w1, hstep]; rfl
       ·refine go 800 rfl ?_
        refine q0m rfl ?_
        refine go 800 rfl ?_
        refine q04 ?_
        refine hN (k + 1) (by omega) (by omega) (q03 rfl ⟨rfl, trivial⟩ ?_)
        rw [w1, hstep]; rfl
    rw [q07] at e1
    obtain rfl : k = s.uses.length := by omega
    clear hN
    refine go 800 rfl ?_
    refine q04 ?_
    refine go 800 rfl ?_
    rw [List.length_map]
    refine q05 rfl (fun _ => ?_) he
    refine go 800 rfl ?_
    refine q01 rfl rfl q22 ?_
    refine go 800 rfl ?_
    exact q08 rfl rfl rfl trivial rfl
end Go.F
