/- Parts of the proof, part 44: All3, All4, All5, All6, Ex1, Ex2, Sml, Zero. -/
import Derived.Test.YtjjkgfikkihokaaGreatZ43
import Derived.KernelRfl
set_option linter.all false
namespace Go.F
attribute [local irreducible] IntKind.wrap wpM
set_option maxRecDepth 100000 in
theorem qlO : (prog.funcs[q6B]?).map (fun fn => fn.body.isNone && fn.name == "math.sqrt") = some true := by kernel_rfl
theorem qnm {x y : Nat} (h : FloatKind.f64.format.sqrt x = some y) : PU q6B [.float .f64 x] = some (.float .f64 y) := by
 refine qmT (n := 1) ?_
 have h0 := qlO
 cases hf : prog.funcs[q6B]? with
 | none => rw [hf] at h0; simp at h0
 | some fn =>
   rw [hf] at h0
   simp only [Option.map_some, Option.some.injEq, Bool.and_eq_true] at h0
   obtain ⟨h1, h2⟩ := h0
   have hb : fn.body = none := by simpa using h1
   simp only [run, env, hf, hb, h2, if_true, qma, h]
   rfl
theorem qol {x y : Nat} (h : FloatKind.f64.format.sqrt x = some y) : PU qcB [.float .f64 x] = some (.float .f64 y) := by
 refine q0i (fn := q9f) rfl (q0a ?_)
 refine go 800 rfl ?_
 refine q00 rfl rfl (qnm h) ?_
 refine go 800 rfl ?_
 exact q0c rfl rfl rfl trivial rfl
section
variable {T : Tab} {sh : Shr} {nx0 : Nat} {s : List Fr} {t : q0p} {h : q08} {z : Frz} {nx : Nat} {q : Ex → q0p → q08 → Frz → Nat → Prop}
variable {base i : Nat} {res : List Nat} {dst : Nat} {g : Gd} {rest : List KOper}
theorem atCvF {k : IntKind} {x : X} {b : Nat} {n : Int} (hx : x.ev t = .float .f64 b) (hd : (FloatKind.f64.decode b).toInt .zero = some n) (hb : k.min ≤ n ∧ n ≤ k.max)
 (hk : wpM T sh nx0 (.ops base res rest :: s) .normal (upd t dst (.int k n)) h z nx q) :
 wpM T sh nx0 (.ops base res (⟨i, some dst, none, g, .conv (.int k) x⟩ :: rest) :: s) .normal t h z nx q := by
 refine q67 ?_
 simp only [kop, q8H, hx]
 exact qdN hd (q1s hb hk)
end
def qh4 (n : Nat) : Nat → Nat → Nat
 | 0, r => r
 | k + 1, r => if (r + 2 ^ k) * (r + 2 ^ k) ≤ n then qh4 n k (r + 2 ^ k) else qh4 n k r
def isq (n : Nat) : Nat := qh4 n 27 0
theorem qlP (n : Nat) : ∀ (k r : Nat), r * r ≤ n → n < (r + 2 ^ k) * (r + 2 ^ k) → qh4 n k r * qh4 n k r ≤ n ∧ n < (qh4 n k r + 1) * (qh4 n k r + 1) := by
 intro k
 induction k with
 | zero => intro r h1 h2; simp only [qh4]; exact ⟨h1, by simpa using h2⟩
 | succ k ih =>
   intro r h1 h2
   rw [qh4]
   rw [Nat.pow_succ] at h2
   split
   ·rename_i h; exact ih _ h (by rw [show r + 2 ^ k + 2 ^ k = r + 2 ^ k * 2 by omega]; exact h2)
   ·rename_i h; exact ih _ h1 (by omega)
theorem qeA {n : Nat} (h : n < 2 ^ 54) : isq n * isq n ≤ n ∧ n < (isq n + 1) * (isq n + 1) :=
 qlP n 27 0 (Nat.zero_le _) (by simp; omega)
theorem qkA {a b : Nat} (h : a * a < b * b) : a < b := by
 by_cases hc : b ≤ a
 ·exact absurd (Nat.mul_le_mul hc hc) (by omega)
 ·omega
theorem qeB {n r : Nat} (h : n < 2 ^ 54) (h1 : r * r ≤ n) (h2 : n < (r + 1) * (r + 1)) : r = isq n := by
 obtain ⟨g1, g2⟩ := qeA h
 have := qkA (Nat.lt_of_le_of_lt h1 g2)
 have := qkA (Nat.lt_of_le_of_lt g1 h2)
 omega
set_option maxHeartbeats 1000000 in
theorem qom (n : Nat) (hn : n < 2 ^ 50) : PU q7l [.int .i64 n] = some (.int .i64 (isq n)) := by
 obtain ⟨y, r0, h1, h2, h3, h4⟩ := qlN n (by omega)
 refine q0i (fn := q4S) rfl (q0a ?_)
 refine go 800 rfl ?_
 refine q00 rfl rfl (qol h1) ?_
 refine go 800 rfl ?_
 refine atCvF rfl h2 ⟨by have : IntKind.i64.min = -9223372036854775808 := rfl; omega, by have : IntKind.i64.max = 9223372036854775807 := rfl; omega⟩ ?_
 refine go 800 rfl ?_
 obtain ⟨a, rfl⟩ : ∃ a : Nat, r0 = a := ⟨r0.toNat, by omega⟩
 refine q0x (S := fun r : Nat => ([q01 n, q01 r], [none, none], [0, 0])) (C := fun r => r ≤ 268435456) (m := fun r => r) a (by omega) (by omega) ?_ ?_
 ·exact q05 rfl trivial (by simp [q01])
 intro r hr N hN
 have wr : IntKind.i64.wrap ((r : Int) * r) = ((r * r : Nat) : Int) := by
  have hb : r * r ≤ 268435456 * 268435456 := Nat.mul_le_mul hr hr
  rw [← Int.natCast_mul]; exact qi0 (by omega)
 refine go 800 rfl ?_
 rw [wr]
 refine q02 rfl (fun g1 => ?_) (fun g1 => ?_)
 ·rw [q0b] at g1
  have hr0 : r ≠ 0 := by rintro rfl; simp at g1; omega
  have w1 : IntKind.i64.wrap ((r : Int) - 1) = ((r - 1 : Nat) : Int) := by rw [wrap64 (by omega) (by omega)]; omega
  refine go 800 rfl ?_
  refine q09 ?_
  exact hN (r - 1) (by omega) (by omega) (q05 rfl trivial (by simp [q01, w1]))
 rw [q0d] at g1
 have g1' : r * r ≤ n := by omega
 clear hN
 refine go 800 rfl ?_
 refine q09 ?_
 refine go 800 rfl ?_
 refine q0x (S := fun r : Nat => ([q01 n, q01 r], [none, none], [0, 0])) (C := fun r => r * r ≤ n) (m := fun r => n - r) r g1' (by omega) ?_ ?_
 ·exact q05 rfl trivial (by simp [q01])
 intro r hr N hN
 have hrl : r < 33554432 := qkA (by omega)
 have w1 : IntKind.i64.wrap ((r : Int) + 1) = ((r + 1 : Nat) : Int) := wrap64 (by omega) (by omega)
 have w2 : IntKind.i64.wrap (((r + 1 : Nat) : Int) * ((r + 1 : Nat) : Int)) = (((r + 1) * (r + 1) : Nat) : Int) := by
  have hb : (r + 1) * (r + 1) ≤ 33554432 * 33554432 := Nat.mul_le_mul hrl hrl
  rw [← Int.natCast_mul]; exact qi0 (by omega)
 refine go 800 rfl ?_
 rw [w1, w2]
 refine q02 rfl (fun g2 => ?_) (fun g2 => ?_)
 ·rw [q24] at g2
  have g2' : (r + 1) * (r + 1) ≤ n := by omega
  have hlt : r < n := by
   have : (r + 1) * 1 ≤ (r + 1) * (r + 1) := Nat.mul_le_mul_left _ (by omega)
   omega
  refine go 800 rfl ?_
  refine q09 ?_
  exact hN (r + 1) g2' (by omega) (q05 rfl trivial (by simp [q01, w1]))
 rw [q25] at g2
 refine go 800 rfl ?_
 refine q09 ?_
 refine go 800 rfl ?_
 refine q0c rfl rfl rfl trivial ?_
 rw [qeB (n := n) (r := r) (by omega) hr (by omega)]
end Go.F

namespace Go.F
attribute [local irreducible] IntKind.wrap wpM
def q6q {α : Type} (d : α) (n : Nat) (f : Nat → α) (k : Nat) : List α := (List.range n).map fun i => if i < k then f i else d
theorem qg6 {α : Type} (d : α) (n : Nat) (f : Nat → α) : q6q d n f 0 = List.replicate n d := by
 unfold q6q
 apply List.ext_getElem <;> simp
theorem qg7 {α : Type} (d : α) (n : Nat) (f : Nat → α) : q6q d n f n = (List.range n).map f := by
 unfold q6q
 refine List.map_congr_left fun i hi => ?_
 rw [if_pos (List.mem_range.1 hi)]
theorem qbv {α : Type} (d : α) (n : Nat) (f : Nat → α) (k : Nat) : (q6q d n f k).length = n := by simp [q6q]
theorem qij {α : Type} (d : α) {n : Nat} (f : Nat → α) {k : Nat} (h : k < n) : (q6q d n f k).set k (f k) = q6q d n f (k + 1) := by
 unfold q6q
 apply List.ext_getElem
 ·simp
 ·intro i h1 h2
  simp only [List.length_set, List.length_map, List.length_range] at h1
  rw [List.getElem_set]
  by_cases hik : k = i
  ·subst hik; simp
  ·rw [if_neg hik]
   simp only [List.getElem_map, List.getElem_range]
   by_cases h3 : i < k
   ·rw [if_pos h3, if_pos (by omega)]
   ·rw [if_neg h3, if_neg (by omega)]
section
variable {T : Tab} {sh : Shr} {nx0 : Nat} {s : List Fr} {t : q0p} {h : q08} {z : Frz} {nx : Nat} {q : Ex → q0p → q08 → Frz → Nat → Prop}
variable {base i : Nat} {res : List Nat} {g : Gd} {rest : List KOper}
theorem qik {α : Type} {enc : α → D} {hint : Bool} {a v : X} {dst : Option Nat} {id k' n : Nat} (L : List α) (k : Nat) (w : α) (ha : a.ev t = .ptr id k' 0) (hv : v.ev t = enc w) (hkk : k' = k)
 (hn : (Nat.beq (enc w).cells.length n && (enc w).sto) = true) (hs : ∀ x : α, q7j (enc x) 0 (enc w).cells = some (enc w))
 (hr : g.h base h id = some (.row (L.map enc) n)) (hz : g.z base z id ≤ k) (hl : k < L.length)
 (hk : wpM T sh nx0 (.ops base res rest :: s) .normal (put t dst (.tup [])) (upd h id (some (.row ((L.set k w).map enc) n))) z nx q) :
 wpM T sh nx0 (.ops base res (⟨i, dst, none, g, .store hint n a v⟩ :: rest) :: s) .normal t h z nx q := by
 subst hkk
 refine qhH (e := enc L[k']) (e' := enc w) ha (by rw [hv]; exact hn) hr hz (q5L hl) (by rw [hv]; exact hs _) ?_
 rw [← List.map_set]
 exact hk
end
def sqd (a b : Spot) : Nat := ((b.x - a.x) * (b.x - a.x) + (b.y - a.y) * (b.y - a.y)).toNat
def qeC (a b : Spot) (w : Int) : Spot := ⟨q4e (w * (b.y - a.y)) (isq (sqd a b)), q4e (-w * (b.x - a.x)) (isq (sqd a b))⟩
def q2V (p : List Spot) (each : List Int) (sign : Int) (i : Nat) : Spot := qeC (pt p i) (pt p ((i + 1) % p.length)) (sign * wd each i)
def q6J (p : List Spot) (each : List Int) (sign : Int) : List Spot := (List.range p.length).map (q2V p each sign)
def q6r (w : Int) : Bool := decide (w < 0) || decide (500 < w)
def q0X (l : List Edge) (ws : List Int) : List Spot × Int :=
 if q0Y l = 0 then
  if ws.length = l.length then
   if ws.any q6r then ([], 3) else (q6J (q0m l) (q1I l ws l.length) (sgn (q1b (q0m l))), 0)
  else ([], 1)
 else ([], q0Y l)
def qjT (r : List Spot × Int) : D := .tup [q0k r.1, .int .i64 r.2]
theorem qeD (a b : Spot) : ((sqd a b : Nat) : Int) = (b.x - a.x) * (b.x - a.x) + (b.y - a.y) * (b.y - a.y) := by
 unfold sqd
 have h1 := q7w (b.x - a.x)
 have h2 := q7w (b.y - a.y)
 omega
theorem qnn (a b : Spot) [OkS a] [OkS b] : sqd a b < 2 ^ 50 := by
 have e := qeD a b
 have hb : Bd ((b.x - a.x) * (b.x - a.x) + (b.y - a.y) * (b.y - a.y)) _ := inferInstance
 have := hb.le
 omega
theorem qno {x : Int} (h : x ≠ 0) : 0 < x * x := by
 rcases Int.lt_or_gt_of_ne h with h | h
 ·have := Int.mul_pos (show 0 < -x by omega) (show 0 < -x by omega)
  rwa [Int.neg_mul_neg] at this
 ·exact Int.mul_pos h h
theorem qh5 {a b : Spot} (h : a ≠ b) : 0 < sqd a b := by
 have e := qeD a b
 have h1 := q7w (b.x - a.x)
 have h2 := q7w (b.y - a.y)
 by_cases hx : b.x - a.x = 0
 ·have hy : b.y - a.y ≠ 0 := fun hy => h (by cases a; cases b; simp at hx hy ⊢; omega)
  have := qno hy
  omega
 ·have := qno hx
  omega
theorem qh6 {n : Nat} (h : n < 2 ^ 54) (h0 : 0 < n) : 0 < isq n := by
 obtain ⟨_, h2⟩ := qeA h
 by_cases hc : isq n = 0
 ·rw [hc] at h2; omega
 ·omega
theorem qnp {n : Nat} (h : n < 2 ^ 50) : isq n < 33554432 := by
 obtain ⟨h1, _⟩ := qeA (n := n) (by omega)
 exact qkA (by omega)
theorem qg8 {p : List Spot} (hs : q3M p) (h2 : 2 ≤ p.length) {i : Nat} (hi : i < p.length) : pt p i ≠ pt p ((i + 1) % p.length) := by
 intro he
 by_cases hl : i + 1 < p.length
 ·rw [Nat.mod_eq_of_lt hl] at he
  refine hs.1 (i + 1) hl ?_
  rw [← he, q1f hi]
  exact List.mem_iff_getElem.2 ⟨i, by simp; omega, by simp⟩
 ·have : i + 1 = p.length := by omega
  rw [this, Nat.mod_self] at he
  refine hs.1 i hi ?_
  rw [he, q1f (by omega)]
  exact List.mem_iff_getElem.2 ⟨0, by simp; omega, by simp⟩
theorem qil (l : List Edge) (ws : List Int) : ∀ k, k ≤ ws.length → ∀ x ∈ q1I l ws k, x ∈ ws := by
 intro k
 induction k with
 | zero => intro _ x hx; simp [q1I] at hx
 | succ k ih =>
   intro hk x hx
   rw [q1I, List.mem_append] at hx
   rcases hx with hx | hx
   ·exact ih (by omega) x hx
   ·rw [(List.mem_replicate.1 hx).2]
    have : wd ws k = ws[k] := by simp [wd, show k < ws.length by omega]
    rw [this]; exact List.getElem_mem _
theorem qbw {w : Int} (h : q6r w = false) : 0 ≤ w ∧ w ≤ 500 := by simp [q6r] at h; omega
theorem qdl {a b : Int} {m : Nat} (hb : 0 < b) (h1 : -(m : Int) ≤ a) (h2 : a ≤ m) : -(m : Int) ≤ q4e a b ∧ q4e a b ≤ m := by
 have key : ∀ x : Int, 0 ≤ x → x ≤ m → 0 ≤ (2 * x + b) / (2 * b) ∧ (2 * x + b) / (2 * b) ≤ m := by
  intro x h0 hx
  refine ⟨Int.ediv_nonneg (by omega) (by omega), ?_⟩
  by_cases hx0 : x = 0
  ·subst hx0; rw [Int.ediv_eq_zero_of_lt (by omega) (by omega)]; omega
  ·have h4 : 2 * x + b < (x + 1) * (2 * b) := by
    have : x * (2 * b) ≥ x * 2 := Int.mul_le_mul_of_nonneg_left (by omega) h0
    rw [Int.add_mul]; omega
   have := Int.ediv_lt_of_lt_mul (by omega) h4
   omega
 unfold q4e
 split
 ·have := key (-a) (by omega) (by omega); omega
 ·have := key a (by omega) (by omega); omega
set_option maxHeartbeats 4000000 in
theorem qcm (l : List Edge) (ws : List Int) :
 PU q2z [q0A l, ints ws] = some (qjT (q0X l ws)) := by
 have hpoly := q6p l
 refine q0i (fn := q3V) rfl (q0a ?_)
 refine go 800 rfl ?_
 by_cases hc : ¬ q0Y l = 0
 ·rw [q9I, if_neg hc] at hpoly
  refine q00 rfl rfl hpoly ?_
  refine go 800 rfl ?_
  refine q02 rfl (fun g => ?_) (fun g => ?_)
  ·refine go 800 rfl ?_
   refine q0c rfl rfl rfl trivial ?_
   rw [q0X, if_neg hc]; rfl
  ·rw [q1j] at g; exact absurd g hc
 have hc : q0Y l = 0 := Classical.byContradiction hc
 rw [q9I, if_pos hc] at hpoly
 rw [q0X, if_pos hc]
 obtain ⟨h2, h16, _, _, hchk⟩ := q2M hc
 obtain ⟨v3, v40, vok, vin, vs⟩ := q2L hchk
 have hl1 : ∀ e ∈ l, 1 ≤ e.line.length ∧ e.line.length ≤ 100000 := fun e he => by have := q4D hc e he; omega
 refine q00 rfl rfl hpoly ?_
 refine go 800 rfl ?_
 refine q02 rfl (fun g => ?_) (fun g => ?_)
 ·rw [q17] at g; exact absurd rfl g
 refine go 800 rfl ?_
 rw [List.length_map, List.length_map]
 refine q02 rfl (fun g => ?_) (fun g => ?_)
 ·rw [q17] at g
  refine go 800 rfl ?_
  refine q0c rfl rfl rfl trivial ?_
  rw [if_neg (by omega)]; rfl
 rw [q1j] at g
 have hwl : ws.length = l.length := by omega
 rw [if_pos hwl]
 refine go 800 rfl ?_
 refine q0x (S := fun k : Nat => ([q0A l, ints ws, q0k (q0m l), ints ws, q01 ws.length, q01 k], [none, none, none, none, none, none], [0, 0, 0, 0, 0, 0])) (C := fun k => k ≤ ws.length ∧ ∀ i (hi : i < ws.length), i < k → q6r ws[i] = false) (m := fun k => ws.length - k) 0 ⟨Nat.zero_le _, fun i hi h => by omega⟩ (by omega) ?_ ?_
 ·exact q05 rfl trivial (by simp [q0A, ints, q0k, q01])
 intro k ⟨hk, hall⟩ N hN
 refine go 800 rfl ?_
 refine q02 rfl (fun g1 => ?_) (fun g1 => ?_)
 ·rw [q0b] at g1
  have hlt : k < ws.length := by omega
  have w1 : IntKind.i64.wrap ((k : Int) + 1) = ((k + 1 : Nat) : Int) := wrap64 (by omega) (by omega)
  have yes : q6r ws[k] = false → ∀ {t : q0p} {h : q08} {z : Frz} {nx : Nat}, (q0R 0 [(0, 0), (1, 0), (6, 0), (33, 0), (34, 0), (35, 0)] t h z nx fun _ _ kp => kp = ([q0A l, ints ws, q0k (q0m l), ints ws, q01 ws.length, q01 ((k + 1 : Nat) : Int)], [none, none, none, none, none, none], [0, 0, 0, 0, 0, 0])) → N t h z nx := by
   intro hb t h z nx hst
   refine hN (k + 1) ⟨by omega, fun i hi hik => ?_⟩ (by omega) hst
   by_cases hik' : i < k
   ·exact hall i hi hik'
   ·obtain rfl : i = k := by omega
    exact hb
  have no : q6r ws[k] = true → ws.any q6r = true := fun hb => List.any_eq_true.2 ⟨_, List.getElem_mem hlt, hb⟩
  clear hN
  refine go 800 rfl ?_
  refine q0y k rfl rfl rfl (q5L hlt) rfl ?_
  refine go 800 rfl ?_
  refine q0g rfl (fun e1 => ?_) (fun e1 => ?_)
  ·rw [q0b] at e1
   refine go 800 rfl ?_
   refine q0r rfl ?_
   refine go 800 rfl ?_
   refine q09 ?_
   refine go 800 rfl ?_
   refine q0c rfl rfl rfl trivial ?_
   rw [if_pos (no (by simp [q6r, e1]))]; rfl
  ·rw [q0d] at e1
   refine go 800 rfl ?_
   refine q02 rfl (fun e2 => ?_) (fun e2 => ?_)
   ·rw [q0b] at e2
    refine go 800 rfl ?_
    refine q09 ?_
    refine go 800 rfl ?_
    refine q0c rfl rfl rfl trivial ?_
    rw [if_pos (no (by simp [q6r, e2]))]; rfl
   ·rw [q0d] at e2
    refine go 800 rfl ?_
    refine q09 ?_
    exact yes (by simp [q6r]; omega) (q05 rfl trivial (by simp [q0A, ints, q0k, q01, w1]))
 rw [q0d] at g1
 clear hN
 have hgood : ws.any q6r = false := by
  rw [List.any_eq_false]
  intro x hx
  obtain ⟨i, hi, rfl⟩ := List.getElem_of_mem hx
  rw [hall i hi (by omega)]; decide
 rw [if_neg (by rw [hgood]; decide)]
 have hgood' : ∀ x ∈ ws, 0 ≤ x ∧ x ≤ 500 := fun x hx => qbw (by
  cases hb : q6r x with
  | false => rfl
  | true => rw [List.any_eq_true.2 ⟨x, hx, hb⟩] at hgood; cases hgood)
 have hseg := q9K l ws l.length (Nat.le_refl _)
 rw [List.take_length] at hseg
 refine go 800 rfl ?_
 refine q09 ?_
 refine go 800 rfl ?_
 refine q00 rfl rfl (q38 (q0m l)) ?_
 refine go 800 rfl ?_
 refine q00 rfl rfl (q7y l ws (by omega) hl1 (by omega) (by omega)) ?_
 refine go 800 rfl ?_
 have heb : ∀ i, 0 ≤ wd (q1I l ws l.length) i ∧ wd (q1I l ws l.length) i ≤ 500 := by
  intro i
  by_cases hi : i < (q1I l ws l.length).length
  ·have : wd (q1I l ws l.length) i = (q1I l ws l.length)[i] := by simp [wd, hi]
   rw [this]; exact hgood' _ (qil l ws l.length (by omega) _ (List.getElem_mem _))
  ·have : wd (q1I l ws l.length) i = 0 := by simp [wd, List.getElem?_eq_none (Nat.le_of_not_lt hi)]
   rw [this]; decide
 generalize hv : q0m l = v at *
 generalize q1I l ws l.length = each at *
 have hsb : -1 ≤ sgn (q1b v) ∧ sgn (q1b v) ≤ 1 := by have := (qjA (q1b v)).le; omega
 generalize sgn (q1b v) = sg at *
 rw [List.length_map]
 refine q3O v.length rfl rfl rfl (by simp [q0O]; omega) ?_
 have ez : List.replicate v.length (D.agg [D.int IntKind.i64 0, D.int IntKind.i64 0]) = (q6q ⟨0, 0⟩ v.length (q2V v each sg) 0).map Spot.enc := by
  rw [qg6]; simp [Spot.enc]
 rw [ez]
 refine go 800 rfl ?_
 refine q0x (S := fun k : Nat => ([q0k v, .int .i64 sg, ints each, .ref 3 0 v.length, q0k v, q01 v.length, q01 k], [none, none, none, some (.row ((q6q ⟨0, 0⟩ v.length (q2V v each sg) k).map Spot.enc) 2), none, none, none], [0, 0, 0, 0, 0, 0, 0])) (C := fun k => k ≤ v.length) (m := fun k => v.length - k) 0 (Nat.zero_le _) (by omega) ?_ ?_
 ·exact q05 rfl ⟨q07 q0I _, trivial⟩ (by simp [q0k, ints, q01])
 intro k hk N hN
 refine go 800 rfl ?_
 refine q02 rfl (fun g2 => ?_) (fun g2 => ?_)
 ·rw [q0b] at g2
  have hlt : k < v.length := by omega
  have w1 : IntKind.i64.wrap ((k : Int) + 1) = ((k + 1 : Nat) : Int) := wrap64 (by omega) (by omega)
  have hne := qg8 vs (by omega) hlt
  have heb := heb k
  have hsq := qnn (pt v k) (pt v ((k + 1) % v.length))
  have hsp := qh5 hne
  have hir := qh6 (n := sqd (pt v k) (pt v ((k + 1) % v.length))) (by omega) hsp
  have hil := qnp hsq
  have hse := qeD (pt v k) (pt v ((k + 1) % v.length))
  have hset := qij ⟨0, 0⟩ (q2V v each sg) hlt
  have hsh : q2V v each sg k = ⟨q4e (sg * wd each k * ((pt v ((k + 1) % v.length)).y - (pt v k).y)) (isq (sqd (pt v k) (pt v ((k + 1) % v.length)))), q4e (-(sg * wd each k) * ((pt v ((k + 1) % v.length)).x - (pt v k).x)) (isq (sqd (pt v k) (pt v ((k + 1) % v.length))))⟩ := rfl
  have bx : Bd ((pt v ((k + 1) % v.length)).x - (pt v k).x) 8388608 := inferInstance
  have by' : Bd ((pt v ((k + 1) % v.length)).y - (pt v k).y) 8388608 := inferInstance
  have c1 : IntKind.i64.wrap ((pt v ((k + 1) % v.length)).x - (pt v k).x) = (pt v ((k + 1) % v.length)).x - (pt v k).x := q0M (by decide)
  have c2 : IntKind.i64.wrap ((pt v ((k + 1) % v.length)).y - (pt v k).y) = (pt v ((k + 1) % v.length)).y - (pt v k).y := q0M (by decide)
  have bw : Bd (wd each k) 500 := ⟨by omega⟩
  have bs : Bd sg 1 := ⟨by omega⟩
  have c3 : IntKind.i64.wrap (sg * wd each k) = sg * wd each k := q0M (by decide)
  generalize hdx : (pt v ((k + 1) % v.length)).x - (pt v k).x = dx at *
  generalize hdy : (pt v ((k + 1) % v.length)).y - (pt v k).y = dy at *
  generalize hw' : sg * wd each k = w at *
  have bw' : Bd w 500 := by rw [← hw']; exact ⟨Nat.le_trans (qhZ (a := bs) (b := bw)).le (by decide)⟩
  have c4 : IntKind.i64.wrap (dx * dx) = dx * dx := q0M (by decide)
  have c5 : IntKind.i64.wrap (dy * dy) = dy * dy := q0M (by decide)
  have c6 : IntKind.i64.wrap (dx * dx + dy * dy) = ((sqd (pt v k) (pt v ((k + 1) % v.length)) : Nat) : Int) := by rw [hse]; exact q0M (by decide)
  have c7 : IntKind.i64.wrap (w * dy) = w * dy := q0M (by decide)
  have c8 : IntKind.i64.wrap (0 - w) = -w := by rw [wrap64 (by have := bw'.le; omega) (by have := bw'.le; omega)]; omega
  have c9 : IntKind.i64.wrap (-w * dx) = -w * dx := q0M (by decide)
  have b7 : Bd (w * dy) _ := qhZ
  have b9 : Bd (-w * dx) _ := qhZ
  have l7 := b7.le
  have l9 := b9.le
  refine go 800 rfl ?_
  refine q0y k rfl rfl rfl (q0Q hlt) rfl ?_
  refine go 800 rfl ?_
  refine q4j rfl rfl (by rw [List.length_map]; omega) ?_
  refine go 800 rfl ?_
  refine q0y ((k + 1) % v.length) rfl rfl (by rw [w1, List.length_map, q1e]) (q0Q (Nat.mod_lt _ (by omega))) rfl ?_
  refine go 800 rfl ?_
  refine q0y k rfl rfl rfl (qey (by omega)) rfl ?_
  refine go 800 rfl ?_
  rw [hdx, hdy, c1, c2, hw', c3, c4, c5, c6]
  refine q00 rfl rfl (qom _ hsq) ?_
  refine go 800 rfl ?_
  rw [c7]
  refine q00 rfl rfl (qex (w * dy) _ (by omega) (by omega) (by omega) (by omega)) ?_
  refine go 800 rfl ?_
  rw [c8, c9]
  refine q00 rfl rfl (qex (-w * dx) _ (by omega) (by omega) (by omega) (by omega)) ?_
  refine go 800 rfl ?_
  refine q0B k rfl rfl rfl rfl rfl hlt ?_
  refine go 800 rfl ?_
  refine qik (enc := Spot.enc) (q6q ⟨0, 0⟩ v.length (q2V v each sg) k) k (q2V v each sg k) rfl (by rw [hsh]; rfl) (Nat.zero_add _) rfl (fun _ => rfl) rfl (Nat.zero_le _) (by rw [qbv]; exact hlt) ?_
  rw [hset]
  refine go 800 rfl ?_
  refine q09 ?_
  exact hN (k + 1) hlt (by omega) (q05 rfl ⟨q07 q0I _, trivial⟩ (by simp [q0k, ints, q01, w1]))
 rw [q0d] at g2
 obtain rfl : k = v.length := by omega
 refine go 800 rfl ?_
 refine q09 ?_
 refine go 800 rfl ?_
 refine q0c rfl rfl rfl ⟨qci (by simp [qbv]) (q2U q5m _), trivial⟩ ?_
 rw [qaR (by simp [qbv]), qg7]; rfl
end Go.F

namespace Go.F
attribute [local irreducible] IntKind.wrap wpM
def q1E (a b : Spot) : Spot := ⟨a.x + b.x, a.y + b.y⟩
def qp (s : Spot) : QP := ⟨s.x, s.y⟩
class MidS (s : Spot) : Prop where
 bx : s.x.natAbs ≤ 1099511627776
 byy : s.y.natAbs ≤ 1099511627776
instance midOk {s : Spot} [h : OkS s] : MidS s := ⟨by have := h.bx; omega, by have := h.byy; omega⟩
instance (priority := 100) midX {s : Spot} [h : MidS s] : Bd s.x 1099511627776 := ⟨h.bx⟩
instance (priority := 100) midY {s : Spot} [h : MidS s] : Bd s.y 1099511627776 := ⟨h.byy⟩
instance qbQx {s : Spot} [h : MidS s] : QPB (qp s) 2 := ⟨qjG (by have := h.bx; omega) (by have := h.bx; omega), qjG (by have := h.byy; omega) (by have := h.byy; omega)⟩
theorem q9L (s : Spot) [h : MidS s] : PU q1w [s.enc] = some (qcg (qp s)) := by
 have h1 := h.bx
 have h2 := h.byy
 refine q0i (fn := q4w) rfl (q0a ?_)
 refine go 800 rfl ?_
 refine q00 rfl rfl (qib s.x s.y (by omega) (by omega) (by omega) (by omega)) ?_
 refine go 800 rfl ?_
 exact q0c rfl rfl rfl trivial rfl
theorem qjU (a b : Spot) [MidS a] [MidS b] : PU q3I [a.enc, b.enc] = some (q1E a b).enc := by
 have w1 : IntKind.i64.wrap (a.x + b.x) = a.x + b.x := q0M (by decide)
 have w2 : IntKind.i64.wrap (a.y + b.y) = a.y + b.y := q0M (by decide)
 refine q0i (fn := q5x) rfl (q0a ?_)
 refine go 800 rfl ?_
 refine q0c rfl rfl rfl trivial ?_
 rw [w1, w2]; rfl
theorem q3t (s : Spot) (m : Int) (h0 : 0 ≤ m) (h1 : m ≤ 1099511627776) : PU q3P [s.enc, .int .i64 m] = some (.bool (q0v s m)) := by
 have w : IntKind.i64.wrap (0 - m) = -m := by rw [wrap64 (by omega) (by omega)]; omega
 refine q0i (fn := q3X) rfl (q0a ?_)
 refine go 800 rfl ?_
 rw [w]
 repeat' (first
  | (refine goP 800 rfl rfl ?_)
  | (show wpM _ _ _ (Fr.ops _ _ (KOper.mk _ _ (some _) _ _ :: _) :: _) Ex.normal _ _ _ _ _; first | refine q0q rfl ?_ | refine q0s rfl ?_ | refine q0g rfl (fun _ => ?_) (fun _ => ?_))
  | (show wpM _ _ _ (Fr.code (K.cond _ _ _) :: _) Ex.normal _ _ _ _ _; first | refine q0r rfl ?_ | refine q0o rfl ?_ | refine q02 rfl (fun _ => ?_) (fun _ => ?_))
  | (show wpM _ _ _ (Fr.ops _ _ (KOper.mk _ _ none _ (KOp.pick _ _ _) :: _) :: _) Ex.normal _ _ _ _ _; refine q0F rfl (fun _ => ?_) (fun _ => ?_))
  | (show wpM _ _ _ [] _ _ _ _ _ _; refine q0c rfl rfl rfl trivial ?_))
 all_goals simp only [w] at *
 all_goals ((try simp only [q1N, q1T, q2O, q3p, decide_eq_true_eq, decide_eq_false_iff_not, Bool.not_eq_true, Bool.not_eq_false, Int.not_lt, Int.not_le] at *); first | (simp_all [q0v]; done) | (simp_all [q0v]; omega) | (rw [D.bool.injEq, Bool.eq_iff_iff]; simp [q0v]; omega) | (rw [D.bool.injEq, Bool.eq_iff_iff]; simp_all [q0v]; omega) | (simp [q0v]; split <;> (try split) <;> omega))
structure Seg where
 fr : Spot
 to : Spot
 w : Int
def Seg.enc (s : Seg) : D := .agg [.int .i64 s.fr.x, .int .i64 s.fr.y, .int .i64 s.to.x, .int .i64 s.to.y, .int .i64 s.w]
class SegOk (s : Seg) : Prop where
 fr : MidS s.fr
 to : MidS s.to
 w0 : 0 ≤ s.w
 w1 : s.w ≤ 500
instance {s : Seg} [h : SegOk s] : MidS s.fr := h.fr
instance {s : Seg} [h : SegOk s] : MidS s.to := h.to
def q3k (v : Spot) (a b : Seg) : List Spot :=
 match q8u (qp a.fr) (qp a.to) (qp b.fr) (qp b.to) with
 | none => [a.to, b.fr]
 | some m =>
   if (q3m (q12 m (qp v))).2 = 0 ∧ q0v (q3m (q12 m (qp v))).1 (4 * max a.w b.w + 4) = true then [q1E v (q3m (q12 m (qp v))).1] else [a.to, b.fr]
theorem qnq (p : QP) : MidS (q3m p).1 := by
 unfold q3m
 split
 ·rename_i h
  rw [Bool.and_eq_true, q37, q37] at h
  exact ⟨by simp only; omega, by simp only; omega⟩
 ·exact ⟨by simp, by simp⟩
theorem q3A {l : List Spot} {n : Nat} (hn : n = l.length) : 0 + n ≤ (l.map Spot.enc).length ∧ (((l.map Spot.enc).drop 0).take n).all (dat 4) = true := by
 subst hn
 refine ⟨by simp, ?_⟩
 rw [List.drop_zero, List.take_of_length_le (by simp)]
 exact q2U q5m _
set_option maxHeartbeats 1000000 in
theorem qlQ (v : Spot) (a b : Seg) [hv : MidS v] [ha : SegOk a] [hb : SegOk b] : PU q69 [v.enc, a.enc, b.enc] = some (q0k (q3k v a b)) := by
 have hm := qff (RP.of (qp a.fr)) (RP.of (qp a.to)) (RP.of (qp b.fr)) (RP.of (qp b.to)) (by decide)
 rw [RP.of_v, RP.of_v, RP.of_v, RP.of_v] at hm
 have a0 := ha.w0
 have a1 := ha.w1
 have b0 := hb.w0
 have b1 := hb.w1
 refine q0i (fn := q3W) rfl (q0a ?_)
 refine go 800 rfl ?_
 refine q00 rfl rfl (q9L a.fr) ?_
 refine go 800 rfl ?_
 refine q00 rfl rfl (q9L a.to) ?_
 refine go 800 rfl ?_
 refine q00 rfl rfl (q9L b.fr) ?_
 refine go 800 rfl ?_
 refine q00 rfl rfl (q9L b.to) ?_
 refine go 800 rfl ?_
 cases hq : q8u (qp a.fr) (qp a.to) (qp b.fr) (qp b.to) with
 | none =>
   rw [hq] at hm
   refine q00 rfl rfl hm ?_
   refine go 800 rfl ?_
   refine q02 rfl (fun g => ?_) (fun g => ?_)
   ·rw [q26] at g; cases g
   refine go 800 rfl ?_
   refine q0c rfl rfl rfl ⟨q3A (l := [a.to, b.fr]) rfl, trivial⟩ ?_
   rw [q3k, hq]; rfl
 | some m =>
   rw [hq] at hm
   have hqm : QPB m 50 := by
    unfold q8u at hq
    split at hq
    ·cases hq
    ·cases hq; exact inferInstance
   have hsub := q4C (RP.of m) (RP.of (qp v)) (by decide) (by decide)
   rw [RP.of_v, RP.of_v] at hsub
   have hgr := qoh (RP.of (q12 m (qp v))) (by decide)
   rw [RP.of_v] at hgr
   have hgm := qnq (q12 m (qp v))
   have hc : q3k v a b = if (q3m (q12 m (qp v))).2 = 0 ∧ q0v (q3m (q12 m (qp v))).1 (4 * max a.w b.w + 4) = true then [q1E v (q3m (q12 m (qp v))).1] else [a.to, b.fr] := by
    rw [q3k, hq]
   rw [hc]
   generalize q3m (q12 m (qp v)) = gd at *
   have w1 : IntKind.i64.wrap (4 * max a.w b.w) = 4 * max a.w b.w := wrap64 (by omega) (by omega)
   have w2 : IntKind.i64.wrap (4 * max a.w b.w + 4) = 4 * max a.w b.w + 4 := wrap64 (by omega) (by omega)
   refine q00 rfl rfl hm ?_
   refine go 800 rfl ?_
   refine q02 rfl (fun _ => ?_) (fun g => absurd rfl (q2g.1 g))
   refine go 800 rfl ?_
   refine q00 rfl rfl (q9L v) ?_
   refine go 800 rfl ?_
   refine q00 rfl rfl hsub ?_
   refine go 800 rfl ?_
   refine q00 rfl rfl hgr ?_
   refine go 800 rfl ?_
   refine q0g rfl (fun g1 => ?_) (fun g1 => ?_)
   ·rw [q26] at g1
    refine go 800 rfl ?_
    rw [w1, w2]
    refine q00 rfl rfl (q3t gd.1 (4 * max a.w b.w + 4) (by omega) (by omega)) ?_
    refine go 800 rfl ?_
    refine q02 rfl (fun g2 => ?_) (fun g2 => ?_)
    ·refine go 800 rfl ?_
     refine q00 rfl rfl (qjU v gd.1) ?_
     refine go 800 rfl ?_
     refine q0c rfl rfl rfl ⟨q3A (l := [q1E v gd.1]) rfl, trivial⟩ ?_
     rw [if_pos ⟨g1, g2⟩]; rfl
    ·refine go 800 rfl ?_
     refine q0c rfl rfl rfl ⟨q3A (l := [a.to, b.fr]) rfl, trivial⟩ ?_
     rw [if_neg (fun h => by rw [h.2] at g2; cases g2)]; rfl
   ·rw [q2g] at g1
    refine go 800 rfl ?_
    refine q0o rfl ?_
    refine go 800 rfl ?_
    refine q0c rfl rfl rfl ⟨q3A (l := [a.to, b.fr]) rfl, trivial⟩ ?_
    rw [if_neg (fun h => g1 h.1)]; rfl
end Go.F

namespace Go.F
attribute [local irreducible] IntKind.wrap wpM
section
variable {T : Tab} {sh : Shr} {nx0 : Nat} {s : List Fr} {t : q0p} {h : q08} {z : Frz} {nx : Nat} {q : Ex → q0p → q08 → Frz → Nat → Prop}
variable {base i : Nat} {res : List Nat} {g : Gd} {rest : List KOper}
theorem q5e {α : Type} {enc : α → D} {hint ag : Bool} {n : Nat} {a : X} {dst : Nat} {id k' esz : Nat} (L : List α) (k : Nat) (d : α) (ha : a.ev t = .ptr id k' 0) (hkk : k' = k) (hp : ∀ w : α, qfD ag n (enc w) 0 = some (enc w)) (hr : g.h base h id = some (.row (L.map enc) esz)) (hd : L[k]? = some d)
 (hk : wpM T sh nx0 (.ops base res rest :: s) .normal (upd t dst (enc d)) h z nx q) :
 wpM T sh nx0 (.ops base res (⟨i, some dst, none, g, .load hint ag n a⟩ :: rest) :: s) .normal t h z nx q := by
 subst hkk
 exact qkc ha hr (e := enc d) (by rw [List.getElem?_map, hd]; rfl) (hp d) hk
end
def q3n (v sh : List Spot) (each : List Int) (i : Nat) : Seg := ⟨q1E (pt v i) (pt sh i), q1E (pt v ((i + 1) % v.length)) (pt sh i), wd each i⟩
def q6s (v sh : List Spot) (each : List Int) (i : Nat) : List Spot := q3k (pt v i) (q3n v sh each ((i + v.length - 1) % v.length)) (q3n v sh each i)
def q0J (v sh : List Spot) (each : List Int) : Nat → List Spot
 | 0 => []
 | k + 1 => q0J v sh each k ++ q6s v sh each k
def q8w (l : List Spot) : Spot := pt l (l.length - 1)
def q19 (out : List Spot) (p : Spot) : List Spot := if out.length = 0 ∨ q8w out ≠ p then out ++ [p] else out
def q2e (l : List Spot) : List Spot := l.foldl q19 []
def q4H (R : List Spot) : Nat → Nat
 | 0 => 0
 | j + 1 => if 1 ≤ j ∧ pt R j = pt R 0 then q4H R j else j + 1
def qeE (v sh : List Spot) (each : List Int) : List Spot := (q2e (q0J v sh each v.length)).take (q4H (q2e (q0J v sh each v.length)) (q2e (q0J v sh each v.length)).length)
def qaT (v q : List Spot) : List Spot × Int :=
 if q.any (fun s => !q0v s 1048576) then ([], 3)
 else if q1O q = 0 then if sgn (q1b q) = sgn (q1b v) then (q, 0) else ([], 11)
 else ([], q1O q)
def q44 (l : List Edge) (ws : List Int) : List Spot × Int :=
 if (q0X l ws).2 = 0 then qaT (q0m l) (qeE (q0m l) (q0X l ws).1 (q1I l ws l.length)) else ([], (q0X l ws).2)
theorem q4c (s : Seg) : plain 4 s.enc = true := rfl
theorem q6K (v : Spot) (a b : Seg) : (q3k v a b).length ≤ 2 := by
 unfold q3k
 split
 ·simp
 ·split <;> simp
theorem qfh (v sh : List Spot) (each : List Int) (k : Nat) : (q0J v sh each k).length ≤ 2 * k := by
 induction k with
 | zero => simp [q0J]
 | succ k ih =>
   have := q6K (pt v k) (q3n v sh each ((k + v.length - 1) % v.length)) (q3n v sh each k)
   rw [q0J, List.length_append, q6s]; omega
theorem qlR (out : List Spot) (p : Spot) : (q19 out p).length ≤ out.length + 1 := by
 unfold q19; split <;> simp
theorem qa2 (l : List Spot) : ∀ out : List Spot, (l.foldl q19 out).length ≤ out.length + l.length := by
 induction l with
 | nil => intro out; simp
 | cons p l ih => intro out; have := ih (q19 out p); have := qlR out p; simp only [List.foldl_cons, List.length_cons]; omega
theorem qeF {l : List Edge} {ws : List Int} (h : (q0X l ws).2 = 0) : q0Y l = 0 ∧ ws.length = l.length ∧ (∀ x ∈ ws, 0 ≤ x ∧ x ≤ 500) ∧ (q0X l ws).1 = q6J (q0m l) (q1I l ws l.length) (sgn (q1b (q0m l))) := by
 unfold q0X at h ⊢
 split at h
 ·rename_i h1
  split at h
  ·rename_i h2
   split at h
   ·cases h
   ·rename_i h3
    refine ⟨h1, h2, fun x hx => qbw ?_, by rw [if_pos h1, if_pos h2, if_neg h3]⟩
    cases hb : q6r x with
    | false => rfl
    | true => exact absurd (List.any_eq_true.2 ⟨x, hx, hb⟩) h3
  ·cases h
 ·rename_i h1; exact absurd h h1
theorem qkB {l : List Edge} {ws : List Int} (hl : l.length ≤ ws.length) (hg : ∀ x ∈ ws, 0 ≤ x ∧ x ≤ 500) (i : Nat) : 0 ≤ wd (q1I l ws l.length) i ∧ wd (q1I l ws l.length) i ≤ 500 := by
 by_cases hi : i < (q1I l ws l.length).length
 ·have : wd (q1I l ws l.length) i = (q1I l ws l.length)[i] := by simp [wd, hi]
  rw [this]; exact hg _ (qil l ws l.length hl _ (List.getElem_mem _))
 ·have : wd (q1I l ws l.length) i = 0 := by simp [wd, List.getElem?_eq_none (Nat.le_of_not_lt hi)]
  rw [this]; decide
theorem qaU {v : List Spot} [OkP v] {each : List Int} {sg : Int} (hs : -1 ≤ sg ∧ sg ≤ 1) (hw : ∀ i, 0 ≤ wd each i ∧ wd each i ≤ 500) (hsim : q3M v) (h2 : 2 ≤ v.length) {i : Nat} (hi : i < v.length) :
 (q2V v each sg i).x.natAbs ≤ 4294967296 ∧ (q2V v each sg i).y.natAbs ≤ 4294967296 := by
 have hne := qg8 hsim h2 hi
 have hsq := qnn (pt v i) (pt v ((i + 1) % v.length))
 have hir := qh6 (n := sqd (pt v i) (pt v ((i + 1) % v.length))) (by omega) (qh5 hne)
 have hw := hw i
 have bw : Bd (wd each i) 500 := ⟨by omega⟩
 have bs : Bd sg 1 := ⟨by omega⟩
 have b1 : Bd (sg * wd each i * ((pt v ((i + 1) % v.length)).y - (pt v i).y)) _ := inferInstance
 have b2 : Bd (-(sg * wd each i) * ((pt v ((i + 1) % v.length)).x - (pt v i).x)) _ := inferInstance
 have l1 := b1.le
 have l2 := b2.le
 have r1 := qdl (b := (isq (sqd (pt v i) (pt v ((i + 1) % v.length))) : Int)) (m := 4294967296) (by omega) (show -((4294967296 : Nat) : Int) ≤ sg * wd each i * ((pt v ((i + 1) % v.length)).y - (pt v i).y) by omega) (by omega)
 have r2 := qdl (b := (isq (sqd (pt v i) (pt v ((i + 1) % v.length))) : Int)) (m := 4294967296) (by omega) (show -((4294967296 : Nat) : Int) ≤ -(sg * wd each i) * ((pt v ((i + 1) % v.length)).x - (pt v i).x) by omega) (by omega)
 exact ⟨by show (q4e _ _).natAbs ≤ _; omega, by show (q4e _ _).natAbs ≤ _; omega⟩
theorem qjV {f : Nat → Spot} {n i : Nat} (h : i < n) : pt ((List.range n).map f) i = f i := by
 rw [q1f (by simpa using h)]; simp
theorem qeG {c : List Spot} {j : Nat} (h : j < c.length) (out : List Spot) : (c.take (j + 1)).foldl q19 out = q19 ((c.take j).foldl q19 out) (pt c j) := by
 rw [List.take_succ_eq_append_getElem h, List.foldl_append, q1f h]; rfl
set_option maxHeartbeats 8000000 in
theorem qbx (l : List Edge) (ws : List Int) :
 PU q23 [q0A l, ints ws] = some (qjT (q44 l ws)) := by
 have hpoly := q6p l
 refine q0i (fn := q4r) rfl (q0a ?_)
 refine go 800 rfl ?_
 refine q00 rfl rfl (qcm l ws) ?_
 refine go 800 rfl ?_
 refine q02 rfl (fun g => ?_) (fun g => ?_)
 ·rw [q17] at g
  refine go 800 rfl ?_
  refine q0c rfl rfl rfl trivial ?_
  rw [q44, if_neg g]; rfl
 rw [q1j] at g
 rw [q44, if_pos g]
 obtain ⟨hc, hwl, hgood, hs1⟩ := qeF g
 obtain ⟨h2, h16, _, _, hchk⟩ := q2M hc
 obtain ⟨v3, v40, vok, vin, vs⟩ := q2L hchk
 have hl1 : ∀ e ∈ l, 1 ≤ e.line.length ∧ e.line.length ≤ 100000 := fun e he => by have := q4D hc e he; omega
 rw [q9I, if_pos hc] at hpoly
 have hseg := q9K l ws l.length (Nat.le_refl _)
 rw [List.take_length] at hseg
 have heb := qkB (l := l) (by omega) hgood
 have hsw := q7y l ws (by omega) hl1 (by omega) (by omega)
 have hsb : -1 ≤ sgn (q1b (q0m l)) ∧ sgn (q1b (q0m l)) ≤ 1 := by have := (qjA (q1b (q0m l))).le; omega
 have hsl : (q0X l ws).1.length = (q0m l).length := by rw [hs1]; simp [q6J]
 have hsb' : ∀ i, i < (q0m l).length → (pt (q0X l ws).1 i).x.natAbs ≤ 4294967296 ∧ (pt (q0X l ws).1 i).y.natAbs ≤ 4294967296 := by
  intro i hi
  rw [hs1, q6J, qjV hi]
  exact qaU hsb heb vs (by omega) hi
 have hsm : ∀ i, i < (q0m l).length → MidS (pt (q0X l ws).1 i) := by
  intro i hi
  rw [hs1, q6J, qjV hi]
  have := qaU hsb heb vs (by omega) hi
  exact ⟨by omega, by omega⟩
 generalize (q0X l ws).1 = sh at *
 generalize (q0X l ws).2 = e0 at *
 subst g
 refine go 800 rfl ?_
 refine q00 rfl rfl hpoly ?_
 refine go 800 rfl ?_
 refine q02 rfl (fun g => absurd rfl (q17.1 g)) (fun _ => ?_)
 refine go 800 rfl ?_
 refine q00 rfl rfl hsw ?_
 refine go 800 rfl ?_
 generalize q1I l ws l.length = each at *
 generalize q0m l = v at *
 have hok : ∀ i, i < v.length → SegOk (q3n v sh each i) := by
  intro i hi
  have hb := hsb' i hi
  have x1 := (qlH (p := v) (i := i)).bx
  have x2 := (qlH (p := v) (i := i)).byy
  have x3 := (qlH (p := v) (i := (i + 1) % v.length)).bx
  have x4 := (qlH (p := v) (i := (i + 1) % v.length)).byy
  refine ⟨⟨?_, ?_⟩, ⟨?_, ?_⟩, (heb i).1, (heb i).2⟩ <;> simp only [q3n, q1E] <;> omega
 rw [List.length_map]
 refine q3O v.length rfl rfl rfl (by simp [q0O]; omega) ?_
 have ez : List.replicate v.length (D.agg [D.int IntKind.i64 0, D.int IntKind.i64 0, D.int IntKind.i64 0, D.int IntKind.i64 0, D.int IntKind.i64 0]) = (q6q ⟨⟨0, 0⟩, ⟨0, 0⟩, 0⟩ v.length (q3n v sh each) 0).map Seg.enc := by
  rw [qg6]; simp [Seg.enc]
 rw [ez]
 refine go 800 rfl ?_
 refine q0x (S := fun k : Nat => ([q0k v, ints each, q01 v.length, .ref 3 0 v.length, q0k sh, q01 v.length, q01 k], [none, none, none, some (.row ((q6q ⟨⟨0, 0⟩, ⟨0, 0⟩, 0⟩ v.length (q3n v sh each) k).map Seg.enc) 5), none, none, none], [0, 0, 0, 0, 0, 0, 0])) (C := fun k => k ≤ v.length) (m := fun k => v.length - k) 0 (Nat.zero_le _) (by omega) ?_ ?_
 ·exact q05 rfl ⟨q07 q4c _, trivial⟩ (by simp [q0k, ints, q01, hsl])
 intro k hk N hN
 refine go 800 rfl ?_
 refine q02 rfl (fun g2 => ?_) (fun g2 => ?_)
 ·rw [q0b] at g2
  have hlt : k < v.length := by omega
  have w1 : IntKind.i64.wrap ((k : Int) + 1) = ((k + 1 : Nat) : Int) := wrap64 (by omega) (by omega)
  have hset := qij ⟨⟨0, 0⟩, ⟨0, 0⟩, 0⟩ (q3n v sh each) hlt
  have hms := hsm k hlt
  refine go 800 rfl ?_
  refine q0y k rfl rfl rfl (q0Q (by omega)) rfl ?_
  refine go 800 rfl ?_
  refine q0y k rfl rfl rfl (q0Q hlt) rfl ?_
  refine go 800 rfl ?_
  refine q00 rfl rfl (qjU (pt v k) (pt sh k)) ?_
  refine go 800 rfl ?_
  refine q4j rfl rfl (by omega) ?_
  refine go 800 rfl ?_
  refine q0y ((k + 1) % v.length) rfl rfl (by rw [w1, q1e]) (q0Q (Nat.mod_lt _ (by omega))) rfl ?_
  refine go 800 rfl ?_
  refine q00 rfl rfl (qjU (pt v ((k + 1) % v.length)) (pt sh k)) ?_
  refine go 800 rfl ?_
  refine q0y k rfl rfl rfl (qey (by omega)) rfl ?_
  refine go 800 rfl ?_
  refine q0B k rfl rfl rfl rfl rfl hlt ?_
  refine go 800 rfl ?_
  refine qik (enc := Seg.enc) (q6q ⟨⟨0, 0⟩, ⟨0, 0⟩, 0⟩ v.length (q3n v sh each) k) k (q3n v sh each k) rfl rfl (Nat.zero_add _) rfl (fun _ => rfl) rfl (Nat.zero_le _) (by rw [qbv]; exact hlt) ?_
  rw [hset]
  refine go 800 rfl ?_
  refine q09 ?_
  exact hN (k + 1) hlt (by omega) (q05 rfl ⟨q07 q4c _, trivial⟩ (by simp [q0k, ints, q01, w1]))
 rw [q0d] at g2
 obtain rfl : k = v.length := by omega
 clear hN
 refine go 800 rfl ?_
 refine q09 ?_
 refine go 800 rfl ?_
 rw [qg7]
 have hsgs : ∀ i, i < v.length → ((List.range v.length).map (q3n v sh each))[i]? = some (q3n v sh each i) := by
  intro i hi; simp [hi]
 have hseglen : ((List.range v.length).map (q3n v sh each)).length = v.length := by simp
 generalize hsg : (List.range v.length).map (q3n v sh each) = segs at *
 have hPlen : ∀ k, ((q0J v sh each k).foldl q19 []).length ≤ 2 * k := fun k => by
  have := qa2 (q0J v sh each k) []
  have := qfh v sh each k
  simp at *; omega
 refine q0x (S := fun k : Nat => ([q0k v, q01 v.length, .ref 2 0 v.length, .ref 3 0 ((q0J v sh each k).foldl q19 []).length, q0k v, q01 v.length, q01 k], [none, none, some (.row (segs.map Seg.enc) 5), some (.row (((q0J v sh each k).foldl q19 []).map Spot.enc) 2), none, none, none], [0, 0, 0, 0, 0, 0, 0])) (C := fun k => k ≤ v.length) (m := fun k => v.length - k) 0 (Nat.zero_le _) (by omega) ?_ ?_
 ·exact q05 rfl ⟨q07 q4c _, rfl, trivial⟩ (by simp [q0k, q01, q0J])
 intro k hk N hN
 refine go 800 rfl ?_
 refine q02 rfl (fun g3 => ?_) (fun g3 => ?_)
 ·rw [q0b] at g3
  have hlt : k < v.length := by omega
  have w1 : IntKind.i64.wrap ((k : Int) + 1) = ((k + 1 : Nat) : Int) := wrap64 (by omega) (by omega)
  have w2 : IntKind.i64.wrap (IntKind.i64.wrap ((k : Int) + v.length) - 1) = ((k + v.length - 1 : Nat) : Int) := by rw [wrap64 (x := (k : Int) + v.length) (by omega) (by omega), wrap64 (by omega) (by omega)]; omega
  have hm : (k + v.length - 1) % v.length < v.length := Nat.mod_lt _ (by omega)
  have ok1 := hok _ hm
  have ok2 := hok k hlt
  have hk1 := hPlen (k + 1)
  refine go 800 rfl ?_
  refine q0y k rfl rfl rfl (q0Q hlt) rfl ?_
  refine go 800 rfl ?_
  refine q4j rfl rfl (by omega) ?_
  refine go 800 rfl ?_
  refine q0B ((k + v.length - 1) % v.length) rfl rfl rfl rfl (by rw [w2, q1e]) hm ?_
  refine go 800 rfl ?_
  refine q5e (enc := Seg.enc) segs ((k + v.length - 1) % v.length) (q3n v sh each ((k + v.length - 1) % v.length)) rfl (Nat.zero_add _) (fun _ => rfl) rfl (hsgs _ hm) ?_
  refine go 800 rfl ?_
  refine q0B k rfl rfl rfl rfl rfl hlt ?_
  refine go 800 rfl ?_
  refine q5e (enc := Seg.enc) segs k (q3n v sh each k) rfl (Nat.zero_add _) (fun _ => rfl) rfl (hsgs _ hlt) ?_
  refine go 800 rfl ?_
  refine q00 rfl rfl (qlQ (pt v k) (q3n v sh each ((k + v.length - 1) % v.length)) (q3n v sh each k)) ?_
  refine go 800 rfl ?_
  have hcl : (q6s v sh each k).length ≤ 2 := q6K _ _ _
  have hct : q0J v sh each (k + 1) = q0J v sh each k ++ q6s v sh each k := rfl
  have hPk := hPlen k
  change wpM _ _ _ _ _ (upd _ 100 _) _ _ _ _
  have hcd : q3k (pt v k) (q3n v sh each ((k + v.length - 1) % v.length)) (q3n v sh each k) = q6s v sh each k := rfl
  rw [hcd]
  generalize q6s v sh each k = c at *
  generalize hP : (q0J v sh each k).foldl q19 [] = P at *
  have hfl : ∀ j, ((c.take j).foldl q19 P).length ≤ P.length + 2 := fun j => by
   have := qa2 (c.take j) P
   simp at *; omega
  refine q0x (S := fun j : Nat => ([q0k v, q01 v.length, .ref 2 0 v.length, .ref 3 0 ((c.take j).foldl q19 P).length, q0k v, q01 v.length, q01 k, q0k c, q01 c.length, q01 j], [none, none, some (.row (segs.map Seg.enc) 5), some (.row (((c.take j).foldl q19 P).map Spot.enc) 2), none, none, none, none, none, none], [0, 0, 0, 0, 0, 0, 0, 0, 0, 0])) (C := fun j => j ≤ c.length) (m := fun j => c.length - j) 0 (Nat.zero_le _) (by omega) ?_ ?_
  ·exact q05 rfl ⟨q07 q4c _, q07 q0I _, trivial⟩ (by simp [q0k, q01])
  intro j hj N2 hN2
  refine go 800 rfl ?_
  refine q02 rfl (fun g4 => ?_) (fun g4 => ?_)
  ·rw [q0b] at g4
   have hjl : j < c.length := by omega
   have wj : IntKind.i64.wrap ((j : Int) + 1) = ((j + 1 : Nat) : Int) := wrap64 (by omega) (by omega)
   have hstep := qeG hjl P
   have hfj := hfl j
   generalize hO : (c.take j).foldl q19 P = O at *
   have next : ∀ {t : q0p} {h : q08} {z : Frz} {nx : Nat}, (q0R 0 [(8, 0), (10, 0), (11, 0), (14, 2), (77, 0), (78, 0), (79, 0), (98, 0), (99, 0), (100, 0)] t h z nx fun _ _ kp => kp = ([q0k v, q01 v.length, .ref 2 0 v.length, .ref 3 0 (q19 O (pt c j)).length, q0k v, q01 v.length, q01 k, q0k c, q01 c.length, q01 ((j + 1 : Nat) : Int)], [none, none, some (.row (segs.map Seg.enc) 5), some (.row ((q19 O (pt c j)).map Spot.enc) 2), none, none, none, none, none, none], [0, 0, 0, 0, 0, 0, 0, 0, 0, 0])) → N2 t h z nx := by
    intro t h z nx hst
    refine hN2 (j + 1) hjl (by omega) ?_
    rw [hstep]; exact hst
   clear hN2
   have wl : O.length ≠ 0 → IntKind.i64.wrap ((O.length : Int) - 1) = ((O.length - 1 : Nat) : Int) := fun h => by rw [wrap64 (by omega) (by omega)]; omega
   refine go 800 rfl ?_
   refine q0y j rfl rfl rfl (q0Q hjl) rfl ?_
   refine go 800 rfl ?_
   refine q0g rfl (fun e1 => ?_) (fun e1 => ?_)
   ·rw [q26] at e1
    have hO0 : O.length = 0 := by omega
    have hpush : q19 O (pt c j) = O ++ [pt c j] := by rw [q19, if_pos (.inl hO0)]
    refine go 800 rfl ?_
    refine q0r rfl ?_
    refine go 800 rfl ?_
    refine q2w rfl rfl rfl rfl rfl rfl (by simp) (Nat.zero_le _) (by simp [q0O]; omega) ?_
    refine go 800 rfl ?_
    refine q09 ?_
    refine next (q05 rfl ⟨q07 q4c _, ?_, trivial⟩ ?_)
    ·rw [List.all_append, q07 q0I]; rfl
    ·rw [hpush]; simp [q0k, q01, wj, Spot.enc]
   ·rw [q2g] at e1
    have hO0 : O.length ≠ 0 := by omega
    have hlast : O[O.length - 1]? = some (q8w O) := by rw [q8w, q1f (by omega)]; exact List.getElem?_eq_getElem (by omega)
    refine go 800 rfl ?_
    refine q0B (O.length - 1) rfl rfl rfl rfl (wl hO0) (by omega) ?_
    refine go 800 rfl ?_
    refine q5e (enc := Spot.enc) O (O.length - 1) (q8w O) rfl (Nat.zero_add _) (fun _ => rfl) rfl hlast ?_
    refine go 800 rfl ?_
    refine q02 rfl (fun e2 => ?_) (fun e2 => ?_)
    ·rw [q13] at e2
     have hne : q8w O ≠ pt c j := by simpa using e2
     have hpush : q19 O (pt c j) = O ++ [pt c j] := by rw [q19, if_pos (.inr hne)]
     refine go 800 rfl ?_
     refine q2w rfl rfl rfl rfl rfl rfl (by simp) (Nat.zero_le _) (by simp [q0O]; omega) ?_
     refine go 800 rfl ?_
     refine q09 ?_
     refine next (q05 rfl ⟨q07 q4c _, ?_, trivial⟩ ?_)
     ·rw [List.all_append, q07 q0I]; rfl
     ·rw [hpush]; simp [q0k, q01, wj, Spot.enc]
    ·rw [q13] at e2
     have heq : q8w O = pt c j := by simpa using e2
     have hpush : q19 O (pt c j) = O := by rw [q19, if_neg (by intro h; rcases h with h | h; exact hO0 h; exact h heq)]
     refine go 800 rfl ?_
     refine q09 ?_
     exact next (q05 rfl ⟨q07 q4c _, q07 q0I _, trivial⟩ (by rw [hpush]; simp [q0k, q01, wj]))
  rw [q0d] at g4
  obtain rfl : j = c.length := by omega
  clear hN2
  refine go 800 rfl ?_
  refine q09 ?_
  refine go 800 rfl ?_
  refine q09 ?_
  refine hN (k + 1) hlt (by omega) (q05 rfl ⟨q07 q4c _, q07 q0I _, trivial⟩ ?_)
  simp [q0k, q01, w1, hct, hP]
 rw [q0d] at g3
 obtain rfl : k = v.length := by omega
 clear hN
 have hR2 := hPlen v.length
 have hq : qeE v sh each = (q2e (q0J v sh each v.length)).take (q4H (q2e (q0J v sh each v.length)) (q2e (q0J v sh each v.length)).length) := rfl
 rw [hq]
 change ((q2e (q0J v sh each v.length))).length ≤ _ at hR2
 refine go 800 rfl ?_
 refine q09 ?_
 refine go 800 rfl ?_
 have hon : (q0J v sh each v.length).foldl q19 [] = q2e (q0J v sh each v.length) := rfl
 rw [hon]
 clear hq hPlen hon
 generalize q2e (q0J v sh each v.length) = R at *
 refine q0x (S := fun j : Nat => ([q0k v, .ref 1 0 j], [none, some (.row (R.map Spot.enc) 2)], [0, 0])) (C := fun j => j ≤ R.length ∧ q4H R j = q4H R R.length) (m := fun j => j) R.length ⟨Nat.le_refl _, rfl⟩ (by omega) ?_ ?_
 ·exact q05 rfl ⟨q07 q0I _, trivial⟩ (by simp [q0k])
 rintro j ⟨hj, htr⟩ N hN
 have wl : j ≠ 0 → IntKind.i64.wrap ((j : Int) - 1) = ((j - 1 : Nat) : Int) := fun h => by rw [wrap64 (by omega) (by omega)]; omega
 have hstop : ¬ (2 ≤ j ∧ pt R (j - 1) = pt R 0) → q4H R R.length = j := by
  intro h
  rw [← htr]
  cases j with
  | zero => rfl
  | succ j => rw [q4H, if_neg (fun h' => h ⟨by omega, by simpa using h'.2⟩)]
 refine go 800 rfl ?_
 refine q0g rfl (fun e1 => ?_) (fun e1 => ?_)
 ·rw [q24] at e1
  have hj2 : 2 ≤ j := by omega
  refine go 800 rfl ?_
  refine q0B (j - 1) rfl rfl rfl rfl (wl (by omega)) (by omega) ?_
  refine go 800 rfl ?_
  refine q5e (enc := Spot.enc) R (j - 1) (pt R (j - 1)) rfl (Nat.zero_add _) (fun _ => rfl) rfl (by rw [q1f (by omega)]; exact List.getElem?_eq_getElem (by omega)) ?_
  refine go 800 rfl ?_
  refine q0B 0 rfl rfl rfl rfl rfl (by omega) ?_
  refine go 800 rfl ?_
  refine q5e (enc := Spot.enc) R 0 (pt R 0) rfl rfl (fun _ => rfl) rfl (by rw [q1f (by omega)]; exact List.getElem?_eq_getElem (by omega)) ?_
  refine go 800 rfl ?_
  refine q02 rfl (fun e2 => ?_) (fun e2 => ?_)
  ·rw [q13] at e2
   have heq : pt R (j - 1) = pt R 0 := by simpa using e2
   refine go 800 rfl ?_
   refine qdR (j - 1) rfl rfl rfl ⟨_, _, rfl, wl (by omega)⟩ (by omega) ?_
   refine go 800 rfl ?_
   refine q09 ?_
   refine hN (j - 1) ⟨by omega, ?_⟩ (by omega) (q05 rfl ⟨q07 q0I _, trivial⟩ (by simp [q0k]))
   rw [← htr]
   obtain ⟨i, rfl⟩ : ∃ i, j = i + 1 := ⟨j - 1, by omega⟩
   rw [q4H, if_pos ⟨by omega, by simpa using heq⟩]; rfl
  ·rw [q13] at e2
   have hne : ¬ (2 ≤ j ∧ pt R (j - 1) = pt R 0) := fun h => by rw [h.2] at e2; simp at e2
   rw [hstop hne]
   clear hN
   refine go 800 rfl ?_
   refine q09 ?_
   refine go 800 rfl ?_
   have hrow : D.lst ((R.map Spot.enc).take j) = q0k (R.take j) := by rw [q0k, List.map_take]
   have hdat : 0 + j ≤ (R.map Spot.enc).length ∧ (((R.map Spot.enc).drop 0).take j).all (dat 4) = true := by
    refine ⟨by simp; omega, ?_⟩
    rw [List.drop_zero, ← List.map_take]; exact q2U q5m _
   have hql : (R.take j).length = j := by simp; omega
   refine q0x (S := fun k : Nat => ([q0k v, .ref 1 0 j, .ref 1 0 j, q01 j, q01 k], [none, some (.row (R.map Spot.enc) 2), none, none, none], [0, 0, 0, 0, 0])) (C := fun k => k ≤ j ∧ ∀ i, i < k → q0v (pt R i) 1048576 = true) (m := fun k => j - k) 0 ⟨Nat.zero_le _, fun i hi => by omega⟩ (by omega) ?_ ?_
   ·exact q05 rfl ⟨q07 q0I _, q07 q0I _, trivial⟩ (by simp [q0k, q01])
   rintro k ⟨hk, hin⟩ N hN
   refine go 800 rfl ?_
   refine q02 rfl (fun f1 => ?_) (fun f1 => ?_)
   ·rw [q0b] at f1
    have hlt : k < j := by omega
    have w1 : IntKind.i64.wrap ((k : Int) + 1) = ((k + 1 : Nat) : Int) := wrap64 (by omega) (by omega)
    refine go 800 rfl ?_
    refine q0B k rfl rfl rfl rfl rfl hlt ?_
    refine go 800 rfl ?_
    refine q5e (enc := Spot.enc) R k (pt R k) rfl (Nat.zero_add _) (fun _ => rfl) rfl (by rw [q1f (by omega)]; exact List.getElem?_eq_getElem (by omega)) ?_
    refine go 800 rfl ?_
    refine q00 rfl rfl (q3t (pt R k) 1048576 (by decide) (by decide)) ?_
    refine go 800 rfl ?_
    refine q02 rfl (fun f2 => ?_) (fun f2 => ?_)
    ·refine go 800 rfl ?_
     refine q09 ?_
     refine go 800 rfl ?_
     refine q0c rfl rfl rfl trivial ?_
     have : (R.take j).any (fun s => !q0v s 1048576) = true := by
      refine List.any_eq_true.2 ⟨pt R k, ?_, f2⟩
      rw [q1f (by omega)]
      exact List.mem_iff_getElem.2 ⟨k, by omega, by simp⟩
     rw [qaT, if_pos this]; rfl
    ·refine go 800 rfl ?_
     refine q09 ?_
     refine hN (k + 1) ⟨hlt, fun i hi => ?_⟩ (by omega) (q05 rfl ⟨q07 q0I _, q07 q0I _, trivial⟩ (by simp [q0k, q01, w1]))
     by_cases hik : i < k
     ·exact hin i hik
     ·obtain rfl : i = k := by omega
      simpa using f2
   rw [q0d] at f1
   clear hN
   have hany : (R.take j).any (fun s => !q0v s 1048576) = false := by
    rw [List.any_eq_false]
    intro s hs
    obtain ⟨i, hi, rfl⟩ := List.getElem_of_mem hs
    have := hin i (by omega)
    rw [q1f (by omega)] at this
    simp [this]
   rw [qaT, if_neg (by rw [hany]; decide)]
   refine go 800 rfl ?_
   refine q09 ?_
   refine go 800 rfl ?_
   refine q84 rfl rfl ⟨hdat, trivial⟩ (by rw [hrow]; exact q3j (R.take j)) rfl ?_
   refine go 800 rfl ?_
   refine q02 rfl (fun f3 => ?_) (fun f3 => ?_)
   ·rw [q17] at f3
    refine go 800 rfl ?_
    refine q0c rfl rfl rfl trivial ?_
    rw [if_neg f3]; rfl
   rw [q1j] at f3
   rw [if_pos f3]
   refine go 800 rfl ?_
   refine q84 rfl rfl ⟨hdat, trivial⟩ (by rw [hrow]; exact q38 (R.take j)) rfl ?_
   refine go 800 rfl ?_
   refine q00 rfl rfl (q38 v) ?_
   refine go 800 rfl ?_
   refine q02 rfl (fun f4 => ?_) (fun f4 => ?_)
   ·rw [q17] at f4
    refine go 800 rfl ?_
    refine q0c rfl rfl rfl trivial ?_
    rw [if_neg f4]; rfl
   rw [q1j] at f4
   rw [if_pos f4]
   refine go 800 rfl ?_
   refine q0c rfl rfl rfl ⟨hdat, trivial⟩ ?_
   rw [hrow]; rfl
 ·rw [q25] at e1
  have hne : ¬ (2 ≤ j ∧ pt R (j - 1) = pt R 0) := fun h => by omega
  rw [hstop hne]
  clear hN
  refine go 800 rfl ?_
  refine q0o rfl ?_
  refine go 800 rfl ?_
  refine q09 ?_
  refine go 800 rfl ?_
  have hrow : D.lst ((R.map Spot.enc).take j) = q0k (R.take j) := by rw [q0k, List.map_take]
  have hdat : 0 + j ≤ (R.map Spot.enc).length ∧ (((R.map Spot.enc).drop 0).take j).all (dat 4) = true := by
   refine ⟨by simp; omega, ?_⟩
   rw [List.drop_zero, ← List.map_take]; exact q2U q5m _
  have hql : (R.take j).length = j := by simp; omega
  refine q0x (S := fun k : Nat => ([q0k v, .ref 1 0 j, .ref 1 0 j, q01 j, q01 k], [none, some (.row (R.map Spot.enc) 2), none, none, none], [0, 0, 0, 0, 0])) (C := fun k => k ≤ j ∧ ∀ i, i < k → q0v (pt R i) 1048576 = true) (m := fun k => j - k) 0 ⟨Nat.zero_le _, fun i hi => by omega⟩ (by omega) ?_ ?_
  ·exact q05 rfl ⟨q07 q0I _, q07 q0I _, trivial⟩ (by simp [q0k, q01])
  rintro k ⟨hk, hin⟩ N hN
  refine go 800 rfl ?_
  refine q02 rfl (fun f1 => ?_) (fun f1 => ?_)
  ·rw [q0b] at f1
   have hlt : k < j := by omega
   have w1 : IntKind.i64.wrap ((k : Int) + 1) = ((k + 1 : Nat) : Int) := wrap64 (by omega) (by omega)
   refine go 800 rfl ?_
   refine q0B k rfl rfl rfl rfl rfl hlt ?_
   refine go 800 rfl ?_
   refine q5e (enc := Spot.enc) R k (pt R k) rfl (Nat.zero_add _) (fun _ => rfl) rfl (by rw [q1f (by omega)]; exact List.getElem?_eq_getElem (by omega)) ?_
   refine go 800 rfl ?_
   refine q00 rfl rfl (q3t (pt R k) 1048576 (by decide) (by decide)) ?_
   refine go 800 rfl ?_
   refine q02 rfl (fun f2 => ?_) (fun f2 => ?_)
   ·refine go 800 rfl ?_
    refine q09 ?_
    refine go 800 rfl ?_
    refine q0c rfl rfl rfl trivial ?_
    have : (R.take j).any (fun s => !q0v s 1048576) = true := by
     refine List.any_eq_true.2 ⟨pt R k, ?_, f2⟩
     rw [q1f (by omega)]
     exact List.mem_iff_getElem.2 ⟨k, by omega, by simp⟩
    rw [qaT, if_pos this]; rfl
   ·refine go 800 rfl ?_
    refine q09 ?_
    refine hN (k + 1) ⟨hlt, fun i hi => ?_⟩ (by omega) (q05 rfl ⟨q07 q0I _, q07 q0I _, trivial⟩ (by simp [q0k, q01, w1]))
    by_cases hik : i < k
    ·exact hin i hik
    ·obtain rfl : i = k := by omega
     simpa using f2
  rw [q0d] at f1
  clear hN
  have hany : (R.take j).any (fun s => !q0v s 1048576) = false := by
   rw [List.any_eq_false]
   intro s hs
   obtain ⟨i, hi, rfl⟩ := List.getElem_of_mem hs
   have := hin i (by omega)
   rw [q1f (by omega)] at this
   simp [this]
  rw [qaT, if_neg (by rw [hany]; decide)]
  refine go 800 rfl ?_
  refine q09 ?_
  refine go 800 rfl ?_
  refine q84 rfl rfl ⟨hdat, trivial⟩ (by rw [hrow]; exact q3j (R.take j)) rfl ?_
  refine go 800 rfl ?_
  refine q02 rfl (fun f3 => ?_) (fun f3 => ?_)
  ·rw [q17] at f3
   refine go 800 rfl ?_
   refine q0c rfl rfl rfl trivial ?_
   rw [if_neg f3]; rfl
  rw [q1j] at f3
  rw [if_pos f3]
  refine go 800 rfl ?_
  refine q84 rfl rfl ⟨hdat, trivial⟩ (by rw [hrow]; exact q38 (R.take j)) rfl ?_
  refine go 800 rfl ?_
  refine q00 rfl rfl (q38 v) ?_
  refine go 800 rfl ?_
  refine q02 rfl (fun f4 => ?_) (fun f4 => ?_)
  ·rw [q17] at f4
   refine go 800 rfl ?_
   refine q0c rfl rfl rfl trivial ?_
   rw [if_neg f4]; rfl
  rw [q1j] at f4
  rw [if_pos f4]
  refine go 800 rfl ?_
  refine q0c rfl rfl rfl ⟨hdat, trivial⟩ ?_
  rw [hrow]; rfl
end Go.F

namespace Go.F
attribute [local irreducible] IntKind.wrap wpM
section
variable {T : Tab} {sh : Shr} {nx0 : Nat} {s : List Fr} {t : q0p} {h : q08} {z : Frz} {nx : Nat} {q : Ex → q0p → q08 → Frz → Nat → Prop}
variable {base i : Nat} {res : List Nat} {dst : Nat} {g : Gd} {rest : List KOper}
theorem atCvB {x : X} {id k : Nat} {es : List D} {esz : Nat} {bs : List UInt8} (hx : x.ev t = .ref id 0 k) (hr : g.h base h id = some (.row es esz)) (hk1 : k = es.length) (hc : es.all (fun d => d.cells.length == 1) = true) (hb : q3D es = some bs)
 (hk : wpM T sh nx0 (.ops base res rest :: s) .normal (upd t dst (.str ⟨bs.toArray⟩)) h z nx q) :
 wpM T sh nx0 (.ops base res (⟨i, some dst, none, g, .conv .bytes x⟩ :: rest) :: s) .normal t h z nx q := by
 refine q67 ?_
 subst hk1
 have e1 : ((es.drop 0).take es.length) = es := by simp
 simp only [kop, q8H, hx, q58, hr]
 refine qkb (by omega) (by rw [e1]; exact hc) ?_
 rw [e1]
 exact qdN hb hk
end
def qg9 (p : List Spot) (i : Nat) : Edge := ⟨⟨#[UInt8.ofNat (97 + i % 26)]⟩, [pt p i, pt p ((i + 1) % p.length)]⟩
def qnr (p : List Spot) : List Edge := (List.range p.length).map (qg9 p)
theorem qjW (p : List Spot) (k : Nat) : ((List.range (k + 1)).map (qg9 p)).map Edge.enc = ((List.range k).map (qg9 p)).map Edge.enc ++ [(qg9 p k).enc] := by
 rw [List.range_succ]; simp
theorem bytes1 (n : Nat) : q3D [D.int .u8 (n : Int)] = some [UInt8.ofNat n] := by
 simp [q3D]
set_option maxHeartbeats 2000000 in
theorem qby (p : List Spot) (hp : p.length ≤ 100000) : PU q8V [q0k p] = some (q0A (qnr p)) := by
 refine q0i (fn := q9b) rfl (q0a ?_)
 refine go 800 rfl ?_
 refine q0x (S := fun k : Nat => ([q0k p, .ref 1 0 k, q01 p.length, q01 k], [none, some (.row (((List.range k).map (qg9 p)).map Edge.enc) 2), none, none], [0, 0, 0, 0])) (C := fun k => k ≤ p.length) (m := fun k => p.length - k) 0 (Nat.zero_le _) (by omega) ?_ ?_
 ·exact q05 rfl ⟨rfl, trivial⟩ (by simp [q0k, q01])
 intro k hk N hN
 refine go 800 rfl ?_
 refine q02 rfl (fun g1 => ?_) (fun g1 => ?_)
 ·rw [q0b] at g1
  have hlt : k < p.length := by omega
  have w1 : IntKind.i64.wrap ((k : Int) + 1) = ((k + 1 : Nat) : Int) := wrap64 (by omega) (by omega)
  have w2 : IntKind.u8.wrap ((k : Int).tmod 26) = ((k % 26 : Nat) : Int) := by
   rw [show (26 : Int) = ((26 : Nat) : Int) from rfl, q1e]
   simp [IntKind.wrap, IntKind.bits, IntKind.signed]; omega
  have w3 : IntKind.u8.wrap (97 + ((k % 26 : Nat) : Int)) = ((97 + k % 26 : Nat) : Int) := by
   simp [IntKind.wrap, IntKind.bits, IntKind.signed]; omega
  refine go 800 rfl ?_
  refine q4j rfl rfl (by decide) ?_
  refine go 800 rfl ?_
  rw [w2, w3]
  refine atCvB rfl rfl rfl rfl (bytes1 (97 + k % 26)) ?_
  refine go 800 rfl ?_
  refine q0y k rfl rfl rfl (q0Q hlt) rfl ?_
  refine go 800 rfl ?_
  refine q4j rfl rfl (by rw [List.length_map]; omega) ?_
  refine go 800 rfl ?_
  refine q0y ((k + 1) % p.length) rfl rfl (by rw [w1, List.length_map, q1e]) (q0Q (Nat.mod_lt _ (by omega))) rfl ?_
  refine go 800 rfl ?_
  refine q2w rfl rfl rfl rfl rfl rfl (by simp) (Nat.zero_le _) (by simp [q0O]; omega) ?_
  refine go 800 rfl ?_
  refine q09 ?_
  refine hN (k + 1) hlt (by omega) (qoi [some (((List.range (k + 1)).map (qg9 p)).map Edge.enc, [35])] rfl ⟨?_, trivial⟩ ?_)
  ·rw [qjW]
   exact qng (q2U qi1 _) (q07 qjy _) rfl rfl rfl rfl
  ·simp [q0k, q01, w1]
 rw [q0d] at g1
 obtain rfl : k = p.length := by omega
 refine go 800 rfl ?_
 refine q09 ?_
 refine go 800 rfl ?_
 refine q0c rfl rfl rfl ⟨qci (by simp) (q2U qi1 _), trivial⟩ ?_
 rw [qaR (by simp)]; rfl
def qeH (x y z w : Int) : List Spot := [⟨x, y⟩, ⟨z, y⟩, ⟨z, w⟩, ⟨x, w⟩]
theorem qkC (x y z w : Int) : PU qap [.int .i64 x, .int .i64 y, .int .i64 z, .int .i64 w] = some (q0k (qeH x y z w)) := by
 refine q0i (fn := qau) rfl (q0a ?_)
 refine go 800 rfl ?_
 exact q0c rfl rfl rfl ⟨q3A (l := qeH x y z w) rfl, trivial⟩ rfl
def qns (s : ByteArray) : Bool :=
 !decide (s.size = 0) && (!decide (24 < s.size) && (!(s.data.toList == [109, 105, 110]) && (!(s.data.toList == [109, 97, 120]) && decide (∀ i, i < s.size → q5I i (s.data.toList.getD i 0).toNat = true))))
theorem qnt : q2p = qns := by
 funext s
 unfold q2p qns q43
 simp only [Go.ByteArray.toList_eq]
def qbz (l : List Edge) (i : Nat) : Int :=
 if qns (eg l i).name = false then 1 else if ((List.range i).any fun j => (eg l j).name.data.toList == (eg l i).name.data.toList) then 7 else q1W (eg l i).line
theorem qim : q16 = qbz := by
 funext l i
 unfold q16 qbz qaS
 simp only [qnt, Go.ByteArray.toList_eq]
def qnu (l : List Edge) : Int :=
 if 16 < l.length then 5 else if l.length < 2 then 11
 else if q0W (qbz l) l.length = 0 then
  if q0W (q2h l) l.length = 0 then q1O (q0m l) else q0W (q2h l) l.length
 else q0W (qbz l) l.length
theorem qga : q0Y = qnu := by
 funext l
 unfold q0Y qnu
 simp only [qim]
def ex1 : List Edge := qnr (qeH 0 0 10 10)
def ex2 : List Edge := qnr [⟨0, 0⟩, ⟨30, 0⟩, ⟨0, 40⟩]
theorem qjX : q0Y ex1 = 0 := by rw [qga]; decide +kernel
theorem ex2_ok : q0Y ex2 = 0 := by rw [qga]; decide +kernel
theorem qeI : q0X ex1 [1, 2, 3, 4] = ([⟨0, -1⟩, ⟨2, 0⟩, ⟨0, 3⟩, ⟨-4, 0⟩], 0) := by
 unfold q0X
 rw [qjX]
 decide +kernel
theorem qlS : q44 ex1 [1, 2, 3, 4] = (qeH (-4) (-1) 12 13, 0) := by
 unfold q44
 rw [qeI]
 decide +kernel
theorem qjY : q0X ex2 [0, 5, 0] = ([⟨0, 0⟩, ⟨4, 3⟩, ⟨0, 0⟩], 0) := by
 unfold q0X
 rw [ex2_ok]
 decide +kernel
theorem qlT : q44 ex2 [0, 5, 0] = ([⟨0, 0⟩, ⟨36, 0⟩, ⟨0, 48⟩], 0) := by
 unfold q44
 rw [qjY]
 decide +kernel
theorem qlU : q44 ex1 [1, 2, 3] = ([], 1) := by
 unfold q44 q0X
 rw [qjX]
 decide +kernel
theorem qnv : q0X ex1 [0, 0, 0, 501] = ([], 3) := by
 unfold q0X
 rw [qjX]
 decide +kernel
end Go.F

namespace Go.F
attribute [local irreducible] IntKind.wrap wpM
set_option maxHeartbeats 2000000 in
theorem q8x : PU q2y [] = some (.bool true) := by
 have s1 := qcm ex1 [1, 2, 3, 4]
 have s2 := qbx ex1 [1, 2, 3, 4]
 have s3 := qbx ex2 [0, 5, 0]
 have s4 := qbx ex1 [1, 2, 3]
 have s5 := qcm ex1 [0, 0, 0, 501]
 rw [qeI] at s1
 rw [qlS] at s2
 rw [qlT] at s3
 rw [qlU] at s4
 rw [qnv] at s5
 have hn : ∀ {x : Int} {P : Prop}, nqb x x = true → P := fun h => absurd rfl (q17.1 h)
 refine q0i (fn := q3U) rfl (q0a ?_)
 refine go 800 rfl ?_
 refine q00 rfl rfl (qkC 0 0 10 10) ?_
 refine go 800 rfl ?_
 refine q00 rfl rfl (qby (qeH 0 0 10 10) (by decide)) ?_
 refine go 800 rfl ?_
 refine q1q rfl rfl ⟨⟨by decide, rfl⟩, trivial⟩ s1 fun z => ?_
 refine go 800 rfl ?_
 refine q1q rfl rfl ⟨⟨by decide, rfl⟩, trivial⟩ s2 fun z => ?_
 refine go 800 rfl ?_
 refine q1q rfl rfl ⟨⟨by decide, rfl⟩, trivial⟩ (qby [⟨0, 0⟩, ⟨30, 0⟩, ⟨0, 40⟩] (by decide)) fun z => ?_
 refine go 800 rfl ?_
 refine q1q rfl rfl ⟨⟨by decide, rfl⟩, trivial⟩ s3 fun z => ?_
 refine go 800 rfl ?_
 refine qdR 3 rfl rfl rfl ⟨_, _, rfl, rfl⟩ (by decide) ?_
 refine go 800 rfl ?_
 refine q1q rfl rfl ⟨⟨by decide, rfl⟩, trivial⟩ s4 fun z => ?_
 refine go 800 rfl ?_
 refine q1q rfl rfl ⟨⟨by decide, rfl⟩, trivial⟩ s5 fun z => ?_
 refine go 800 rfl ?_
 refine q0g rfl hn (fun _ => ?_)
 refine go 800 rfl ?_
 refine q0g rfl hn (fun _ => ?_)
 refine go 800 rfl ?_
 refine q0g rfl hn (fun _ => ?_)
 refine go 800 rfl ?_
 refine q0g rfl hn (fun _ => ?_)
 refine go 800 rfl ?_
 refine q02 rfl hn (fun _ => ?_)
 refine go 800 rfl ?_
 refine q84 rfl rfl ⟨⟨by decide, rfl⟩, trivial⟩ (q6H [⟨0, -1⟩, ⟨2, 0⟩, ⟨0, 3⟩, ⟨-4, 0⟩] [⟨0, -1⟩, ⟨2, 0⟩, ⟨0, 3⟩, ⟨-4, 0⟩] (by decide)) rfl ?_
 refine go 800 rfl ?_
 refine q0g rfl (fun _ => ?_) (fun h => absurd h (by decide))
 refine go 800 rfl ?_
 refine q00 rfl rfl (qkC (-4) (-1) 12 13) ?_
 refine go 800 rfl ?_
 refine q00 rfl rfl (q6H (qeH (-4) (-1) 12 13) (qeH (-4) (-1) 12 13) (by decide)) ?_
 refine go 800 rfl ?_
 refine q0g rfl (fun _ => ?_) (fun h => absurd h (by decide))
 refine go 800 rfl ?_
 refine q84 rfl rfl ⟨⟨by decide, rfl⟩, trivial⟩ (q6H [⟨0, 0⟩, ⟨36, 0⟩, ⟨0, 48⟩] [⟨0, 0⟩, ⟨36, 0⟩, ⟨0, 48⟩] (by decide)) rfl ?_
 refine go 800 rfl ?_
 refine q0c rfl rfl rfl trivial ?_
 simp
end Go.F

namespace Go.F
attribute [local irreducible] IntKind.wrap wpM
def vcnt (l : List Edge) : Nat → Int
 | 0 => 0
 | k + 1 => min (IntKind.i64.wrap (IntKind.i64.wrap (vcnt l k + (eg l k).line.length) + 1)) (IntKind.i64.wrap (60 + 1))
set_option maxHeartbeats 1000000 in
theorem qdb (l : List Edge) (hl : l.length ≤ 30) : ∃ n : Int, PU q8U [q0A l, .int .i64 60] = some (.int .i64 n) := by
 obtain ⟨f, f0, fs⟩ : ∃ f : Nat → Int, f 0 = 0 ∧ ∀ k, f (k + 1) = min (IntKind.i64.wrap (IntKind.i64.wrap (f k + (eg l k).line.length) + 1)) (IntKind.i64.wrap (60 + 1)) := ⟨vcnt l, rfl, fun _ => rfl⟩
 have hex : ∃ k, k ≤ l.length ∧ (∀ i, i < k → f i ≤ 60) ∧ (k = l.length ∨ ¬ f k ≤ 60) := by
  have : ∀ m, m ≤ l.length → (∃ k, k ≤ l.length ∧ (∀ i, i < k → f i ≤ 60) ∧ (k = l.length ∨ ¬ f k ≤ 60)) ∨ ∀ i, i < m → f i ≤ 60 := by
   intro m
   induction m with
   | zero => intro _; right; intro i hi; omega
   | succ m ih =>
     intro hm
     rcases ih (by omega) with h | h
     ·exact .inl h
     ·by_cases hf : f m ≤ 60
      ·right; intro i hi
       by_cases him : i < m
       ·exact h i him
       ·obtain rfl : i = m := by omega
        exact hf
      ·exact .inl ⟨m, by omega, h, .inr hf⟩
  rcases this l.length (Nat.le_refl _) with h | h
  ·exact h
  ·exact ⟨l.length, Nat.le_refl _, h, .inl rfl⟩
 obtain ⟨K, hK, hlow, hend⟩ := hex
 refine ⟨f K, ?_⟩
 refine q0i (fn := q6b) rfl (q0a ?_)
 refine go 800 rfl ?_
 refine q0x (S := fun k : Nat => ([q0A l, .int .i64 60, .int .i64 (f k), q01 k], [none, none, none, none], [0, 0, 0, 0])) (C := fun k => k ≤ K) (m := fun k => K - k) 0 (Nat.zero_le _) (by omega) ?_ ?_
 ·exact q05 rfl trivial (by simp [q0A, q01, f0])
 intro k hk N hN
 have done : ¬ (k < l.length ∧ f k ≤ 60) → k = K := by
  intro h
  by_cases hkK : k = K
  ·exact hkK
  ·exfalso
   exact h ⟨by omega, hlow k (by omega)⟩
 refine go 800 rfl ?_
 rw [List.length_map]
 refine q0g rfl (fun g1 => ?_) (fun g1 => ?_)
 ·rw [q0b] at g1
  have hlt : k < l.length := by omega
  have w1 : IntKind.i64.wrap ((k : Int) + 1) = ((k + 1 : Nat) : Int) := wrap64 (by omega) (by omega)
  refine go 800 rfl ?_
  refine q02 rfl (fun g2 => ?_) (fun g2 => ?_)
  ·rw [q24] at g2
   have hkK : k < K := by
    by_cases h : k < K
    ·exact h
    ·obtain rfl : k = K := by omega
     rcases hend with h | h
     ·omega
     ·exact absurd g2 h
   refine go 800 rfl ?_
   refine q0y k rfl rfl rfl (q2Q hlt) rfl ?_
   refine go 800 rfl ?_
   refine q09 ?_
   refine hN (k + 1) hkK (by omega) (q05 rfl trivial ?_)
   rw [fs, List.length_map]
   simp [q0A, q01, w1]
  ·rw [q25] at g2
   obtain rfl := done (fun h => by omega)
   refine go 800 rfl ?_
   refine q09 ?_
   refine go 800 rfl ?_
   exact q0c rfl rfl rfl trivial rfl
 ·rw [q0d] at g1
  obtain rfl := done (fun h => by omega)
  refine go 800 rfl ?_
  refine q0o rfl ?_
  refine go 800 rfl ?_
  refine q09 ?_
  refine go 800 rfl ?_
  exact q0c rfl rfl rfl trivial rfl
set_option maxHeartbeats 1000000 in
theorem qnw (l : List Edge) (ws : List Int) : ∃ b : Bool, PU qcx [q0A l, ints ws] = some (.bool b) ∧ (b = true → l.length ≤ 30 ∧ ws.length ≤ 20) := by
 by_cases hl : 30 < l.length
 ·refine ⟨false, ?_, fun h => by cases h⟩
  refine q0i (fn := q47) rfl (q0a ?_)
  refine go 800 rfl ?_
  refine q0g rfl (fun g => ?_) (fun g => ?_)
  ·refine go 800 rfl ?_
   refine q0q rfl ?_
   refine go 800 rfl ?_
   refine q0r rfl ?_
   refine go 800 rfl ?_
   exact q0c rfl rfl rfl trivial rfl
  ·rw [q0d, List.length_map] at g; omega
 by_cases hw : 20 < ws.length
 ·refine ⟨false, ?_, fun h => by cases h⟩
  refine q0i (fn := q47) rfl (q0a ?_)
  refine go 800 rfl ?_
  refine q0g rfl (fun g => ?_) (fun g => ?_)
  ·rw [q0b, List.length_map] at g; omega
  refine go 800 rfl ?_
  refine q0g rfl (fun g => ?_) (fun g => ?_)
  ·refine go 800 rfl ?_
   refine q0r rfl ?_
   refine go 800 rfl ?_
   exact q0c rfl rfl rfl trivial rfl
  ·rw [q0d, List.length_map] at g; omega
 obtain ⟨n, hn⟩ := qdb l (by omega)
 by_cases hn6 : 60 < n
 ·refine ⟨false, ?_, fun h => by cases h⟩
  refine q0i (fn := q47) rfl (q0a ?_)
  refine go 800 rfl ?_
  refine q0g rfl (fun g => ?_) (fun g => ?_)
  ·rw [q0b, List.length_map] at g; omega
  refine go 800 rfl ?_
  refine q0g rfl (fun g => ?_) (fun g => ?_)
  ·rw [q0b, List.length_map] at g; omega
  refine go 800 rfl ?_
  refine q00 rfl rfl hn ?_
  refine go 800 rfl ?_
  refine q02 rfl (fun g => ?_) (fun g => ?_)
  ·refine go 800 rfl ?_
   exact q0c rfl rfl rfl trivial rfl
  ·rw [q0d] at g; omega
 refine ⟨decide (∀ i, i < l.length → (eg l i).name.size ≤ 100), ?_, fun _ => ⟨by omega, by omega⟩⟩
 refine q0i (fn := q47) rfl (q0a ?_)
 refine go 800 rfl ?_
 refine q0g rfl (fun g => ?_) (fun g => ?_)
 ·rw [q0b, List.length_map] at g; omega
 refine go 800 rfl ?_
 refine q0g rfl (fun g => ?_) (fun g => ?_)
 ·rw [q0b, List.length_map] at g; omega
 refine go 800 rfl ?_
 refine q00 rfl rfl hn ?_
 refine go 800 rfl ?_
 refine q02 rfl (fun g => ?_) (fun g => ?_)
 ·rw [q0b] at g; omega
 refine go 800 rfl ?_
 refine q0x (S := fun k : Nat => ([q0A l, q01 l.length, q01 k], [none, none, none], [0, 0, 0])) (C := fun k => k ≤ l.length ∧ ∀ i, i < k → (eg l i).name.size ≤ 100) (m := fun k => l.length - k) 0 ⟨Nat.zero_le _, fun i hi => by omega⟩ (by omega) ?_ ?_
 ·exact q05 rfl trivial (by simp [q0A, q01])
 rintro k ⟨hk, hall⟩ N hN
 refine go 800 rfl ?_
 refine q02 rfl (fun g1 => ?_) (fun g1 => ?_)
 ·rw [q0b] at g1
  have hlt : k < l.length := by omega
  have w1 : IntKind.i64.wrap ((k : Int) + 1) = ((k + 1 : Nat) : Int) := wrap64 (by omega) (by omega)
  refine go 800 rfl ?_
  refine q0y k rfl rfl rfl (q2Q hlt) rfl ?_
  refine go 800 rfl ?_
  refine q02 rfl (fun g2 => ?_) (fun g2 => ?_)
  ·rw [q0b] at g2
   refine go 800 rfl ?_
   refine q09 ?_
   refine go 800 rfl ?_
   refine q0c rfl rfl rfl trivial ?_
   rw [D.bool.injEq, eq_comm, decide_eq_false_iff_not]
   intro h
   have := h k hlt
   omega
  ·rw [q0d] at g2
   refine go 800 rfl ?_
   refine q09 ?_
   refine hN (k + 1) ⟨hlt, fun i hi => ?_⟩ (by omega) (q05 rfl trivial (by simp [q0A, q01, w1]))
   by_cases hik : i < k
   ·exact hall i hik
   ·obtain rfl : i = k := by omega
    omega
 rw [q0d] at g1
 refine go 800 rfl ?_
 refine q09 ?_
 refine go 800 rfl ?_
 refine q0c rfl rfl rfl trivial ?_
 rw [D.bool.injEq, eq_comm, decide_eq_true_iff]
 exact fun i hi => hall i (by omega)
end Go.F

namespace Go.F
theorem qlV {b : Int} (hb : 0 < b) : q4e 0 b = 0 := by
 unfold q4e
 rw [if_neg (by omega)]
 exact Int.ediv_eq_zero_of_lt (by omega) (by omega)
end Go.F
