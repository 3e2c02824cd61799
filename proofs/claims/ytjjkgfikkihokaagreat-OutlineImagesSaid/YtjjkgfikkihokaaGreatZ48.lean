/- Parts of the proof, part 48: Dec, Turn4, LPlc, Cyc1, Cyc2, Norm1, Norm2, Norm3, LImg. -/
import Derived.Test.YtjjkgfikkihokaaGreatZ43
import Derived.Test.YtjjkgfikkihokaaGreatZ47
import Derived.Test.YtjjkgfikkihokaaGreatZ41
import Derived.Test.YtjjkgfikkihokaaGreatZ45
import Derived.Test.YtjjkgfikkihokaaGreatZ46
set_option linter.all false
namespace Go.F
theorem qjI {sh : Sh} {α : Type} {enc : α → D} (h : ∀ x, HasC sh x → ∃ a, mkD sh x = enc a) {c : List D} (hc : HasC (.sl sh) c) : ∃ l : List α, mkD (.sl sh) c = .lst (l.map enc) ∧ l.length ≤ maxLen := by
 cases hc with
 | sl _ es hl he =>
   have key : ∀ es : List (List D), (∀ x ∈ es, HasC sh x) → ∃ l : List α, es.map (mkD sh) = l.map enc ∧ l.length = es.length := by
    intro es
    induction es with
    | nil => intro _; exact ⟨[], rfl, rfl⟩
    | cons x es ih =>
      intro hx
      obtain ⟨l, h1, h2⟩ := ih fun y hy => hx y (List.mem_cons_of_mem _ hy)
      obtain ⟨a, ha⟩ := h x (hx x (List.mem_cons_self ..))
      exact ⟨a :: l, by rw [List.map_cons, ha, h1, List.map_cons], by simp [h2]⟩
   obtain ⟨l, h1, h2⟩ := key es he
   exact ⟨l, by show D.lst (es.map (mkD sh)) = _; rw [h1], by omega⟩
theorem q5M {k : IntKind} {x : List D} (h : HasC (.int k) x) : ∃ n : Int, x = [.int k n] ∧ k.min ≤ n ∧ n ≤ k.max := by
 cases h with
 | int _ n hn => exact ⟨n, rfl, hn⟩
theorem qoS {x : List D} (h : HasC .bool x) : ∃ b : Bool, x = [.bool b] := by
 cases h with
 | bool b => exact ⟨b, rfl⟩
theorem qgf {x : List D} (h : HasC .str x) : ∃ s : ByteArray, x = [.str s] ∧ s.size ≤ maxLen := by
 cases h with
 | str s hs => exact ⟨s, rfl, hs⟩
theorem q6K {x : List D} (h : HasC (.st []) x) : x = [] := by
 cases h; rfl
theorem q1u {s : Sh} {ss : List Sh} {x : List D} (h : HasC (.st (s :: ss)) x) : ∃ a b, x = a ++ b ∧ HasC s a ∧ HasC (.st ss) b := by
 cases h with
 | stc _ _ a b ha hb => exact ⟨a, b, rfl, ha, hb⟩
def qfF : Sh := .st [.int .i64, .int .i64]
def qjJ : Sh := .st [.str, .sl qfF]
def q17 : Sh := .sl qjJ
theorem qoT {x : List D} (h : HasC qfF x) : ∃ s : Spot, mkD qfF x = s.enc ∧ x = [.int .i64 s.x, .int .i64 s.y] ∧ (IntKind.i64.min ≤ s.x ∧ s.x ≤ IntKind.i64.max) ∧ (IntKind.i64.min ≤ s.y ∧ s.y ≤ IntKind.i64.max) := by
 obtain ⟨a, b, rfl, ha, hb⟩ := q1u h
 obtain ⟨c, d, rfl, hc, hd⟩ := q1u hb
 obtain ⟨n, rfl, hn⟩ := q5M ha
 obtain ⟨m, rfl, hm⟩ := q5M hc
 obtain rfl := q6K hd
 exact ⟨⟨n, m⟩, rfl, rfl, hn, hm⟩
theorem quJ {x : List D} (h : HasC qjJ x) : ∃ e : Edge, mkD qjJ x = e.enc := by
 obtain ⟨a, b, rfl, ha, hb⟩ := q1u h
 obtain ⟨c, d, rfl, hc, hd⟩ := q1u hb
 obtain ⟨s, rfl, _⟩ := qgf ha
 obtain rfl := q6K hd
 obtain ⟨l, hl, _⟩ := qjI (enc := Spot.enc) (fun x hx => by obtain ⟨s, h1, _⟩ := qoT hx; exact ⟨s, h1⟩) hc
 refine ⟨⟨s, l⟩, ?_⟩
 show D.agg ([.str s] ++ (c ++ [])) = .agg [.str s, q0g l]
 have : c = [q0g l] := by
  cases hc with
  | sl _ es _ _ => show [_] = [_]; rw [show D.lst (es.map (mkD qfF)) = q0g l from hl]
 rw [this]; rfl
theorem dec_edges {x : List D} (h : HasC q17 x) : ∃ l : List Edge, mkD q17 x = q0s l ∧ l.length ≤ maxLen := qjI (fun _ hx => quJ hx) h
end Go.F

namespace Go.F
def I64 (x : Int) : Prop := -9223372036854775808 ≤ x ∧ x ≤ 9223372036854775807
theorem qwb {x : Int} (h : I64 x) : ng x = if x = -9223372036854775808 then x else -x := by
 unfold I64 at h
 unfold ng
 split
 ·rename_i e; subst e; decide
 ·rw [wrap64 (by omega) (by omega)]; omega
theorem q3q (t : Turn) {l : List Edge} {i : Nat} (h : i < l.length) : eg (q0N t l) i = q1s t (eg l (q1R t l.length i)) := by
 rw [q4z (by simpa [q0N] using h)]
 simp [q0N]
theorem q3r (t : Turn) (l : List Edge) : (q0N t l).length = l.length := by simp [q0N]
end Go.F

namespace Go.F
attribute [local irreducible] IntKind.wrap wpM
def q3e : Sh := .st [.bool, .int .i64]
theorem dec_turn {x : List D} (h : HasC q3e x) : ∃ t : Turn, mkD q3e x = t.enc ∧ -9223372036854775808 ≤ t.quarter ∧ t.quarter ≤ 9223372036854775807 := by
 obtain ⟨a, b, rfl, ha, hb⟩ := q1u h
 obtain ⟨c, d, rfl, hc, hd⟩ := q1u hb
 obtain ⟨n, rfl⟩ := qoS ha
 obtain ⟨m, rfl, hm⟩ := q5M hc
 obtain rfl := q6K hd
 exact ⟨⟨n, m⟩, rfl, hm⟩
end Go.F

namespace Go.F
def qhE (s : Spot) : Spot := ⟨-s.y, s.x⟩
def qgb (s : Spot) : Spot := ⟨-s.x, s.y⟩
def qjE : Nat → Spot → Spot
 | 0, s => s
 | k + 1, s => qhE (qjE k s)
def q8i (t : Turn) (s : Spot) : Spot := qjE (t.quarter % 4).toNat (if t.flip then qgb s else s)
def Sm (s : Spot) : Prop := s.x.natAbs ≤ 1099511627776 ∧ s.y.natAbs ≤ 1099511627776
theorem Sm.of {s : Spot} {m : Int} (h : q0v s m = true) (hm : m ≤ 1099511627776) : Sm s := by
 rw [q1x] at h
 exact ⟨by omega, by omega⟩
theorem ng_sm {x : Int} (h : x.natAbs ≤ 1099511627776) : ng x = -x := by
 rw [qwb ⟨by omega, by omega⟩, if_neg (by omega)]
theorem qwn {s : Spot} (h : Sm s) : Sm (qhE s) := ⟨by have := h.2; simp [qhE]; omega, h.1⟩
theorem qwo {s : Spot} (h : Sm s) : Sm (qgb s) := ⟨by have := h.1; simp [qgb]; omega, h.2⟩
theorem qoK {s : Spot} (h : Sm s) : ∀ k, Sm (qjE k s)
 | 0 => h
 | k + 1 => qwn (qoK h k)
theorem qqL {s : Spot} (h : Sm s) : ∀ k, q4J k s = qjE k s
 | 0 => rfl
 | k + 1 => by rw [q4J, qqL h k, ng_sm (qoK h k).2]; rfl
theorem qgc {s : Spot} (h : Sm s) (t : Turn) : q19 t s = q8i t s := by
 unfold q19 q8i q3a
 split
 ·rw [ng_sm h.1]; exact qqL (qwo h) _
 ·exact qqL h _
structure Iso (T : Spot → Spot) (w : Int) : Prop where
 sg : w = 1 ∨ w = -1
 cross : ∀ a b c, q0X (T a) (T b) (T c) = w * q0X a b c
 on : ∀ a b p, onS (T a) (T b) (T p) = onS a b p
 area : ∀ a b, (T a).x * (T b).y - (T a).y * (T b).x = w * (a.x * b.y - a.y * b.x)
 inj : ∀ a b, T a = T b → a = b
 within : ∀ s m, q0v (T s) m = q0v s m
 dist : ∀ a b, ((T b).x - (T a).x) * ((T b).x - (T a).x) + ((T b).y - (T a).y) * ((T b).y - (T a).y) = (b.x - a.x) * (b.x - a.x) + (b.y - a.y) * (b.y - a.y)
theorem quG : Iso (fun s => s) 1 := ⟨.inl rfl, fun _ _ _ => by omega, fun _ _ _ => rfl, fun _ _ => by omega, fun _ _ h => h, fun _ _ => rfl, fun _ _ => rfl⟩
theorem qoL {S T : Spot → Spot} {u v : Int} (hS : Iso S u) (hT : Iso T v) : Iso (fun s => S (T s)) (u * v) := by
 refine ⟨?_, fun a b c => ?_, fun a b p => ?_, fun a b => ?_, fun a b h => hT.inj _ _ (hS.inj _ _ h), fun s m => ?_, fun a b => ?_⟩
 ·rcases hS.sg with rfl | rfl <;> rcases hT.sg with rfl | rfl <;> simp
 ·rw [hS.cross, hT.cross, Int.mul_assoc]
 ·rw [hS.on, hT.on]
 ·rw [hS.area, hT.area, Int.mul_assoc]
 ·rw [hS.within, hT.within]
 ·rw [hS.dist, hT.dist]
theorem iso_rot : Iso qhE 1 := by
 have hc : ∀ a b c, q0X (qhE a) (qhE b) (qhE c) = q0X a b c := fun a b c => by
  unfold q0X qhE; simp only; grind
 refine ⟨.inl rfl, fun a b c => by rw [hc]; omega, fun a b p => ?_, fun a b => ?_, fun a b h => ?_, fun s m => ?_, fun a b => ?_⟩
 ·rw [Bool.eq_iff_iff, q7L, q7L, hc]
  simp only [qhE]
  omega
 ·simp only [qhE]; grind
 ·obtain ⟨ax, ay⟩ := a
  obtain ⟨bx, by'⟩ := b
  simp only [qhE, Spot.mk.injEq] at h ⊢
  omega
 ·rw [Bool.eq_iff_iff, q1x, q1x]; simp only [qhE]; omega
 ·simp only [qhE]; grind
theorem iso_flp : Iso qgb (-1) := by
 have hc : ∀ a b c, q0X (qgb a) (qgb b) (qgb c) = -1 * q0X a b c := fun a b c => by
  unfold q0X qgb; simp only; grind
 refine ⟨.inr rfl, hc, fun a b p => ?_, fun a b => ?_, fun a b h => ?_, fun s m => ?_, fun a b => ?_⟩
 ·rw [Bool.eq_iff_iff, q7L, q7L, hc]
  simp only [qgb]
  omega
 ·simp only [qgb]; grind
 ·obtain ⟨ax, ay⟩ := a
  obtain ⟨bx, by'⟩ := b
  simp only [qgb, Spot.mk.injEq] at h ⊢
  omega
 ·rw [Bool.eq_iff_iff, q1x, q1x]; simp only [qgb]; omega
 ·simp only [qgb]; grind
theorem qjF : ∀ k, Iso (qjE k) 1
 | 0 => quG
 | k + 1 => by
   have h := qoL iso_rot (qjF k)
   rw [Int.mul_one] at h
   exact h
def sgT (t : Turn) : Int := if t.flip then -1 else 1
theorem qet (t : Turn) : Iso (q8i t) (sgT t) := by
 unfold sgT
 cases hf : t.flip with
 | true =>
   have e : q8i t = fun s => qjE (t.quarter % 4).toNat (qgb s) := by funext s; simp [q8i, hf]
   rw [e]
   have := qoL (qjF (t.quarter % 4).toNat) iso_flp
   simpa using this
 | false =>
   have e : q8i t = fun s => qjE (t.quarter % 4).toNat s := by funext s; simp [q8i, hf]
   rw [e]
   simpa using qjF (t.quarter % 4).toNat
theorem Iso.parted {T : Spot → Spot} {u : Int} (h : Iso T u) (a b c d : Spot) : q2s (T a) (T b) (T c) (T d) = q2s a b c d := by
 unfold q2s
 rw [h.cross, h.cross]
 have hs : ∀ x : Int, sgn (-1 * x) = - sgn x := by intro x; unfold sgn; repeat' split
                                                   all_goals omega
 rcases h.sg with rfl | rfl
 ·simp
 ·rw [hs, hs, Int.neg_mul_neg]
theorem Iso.meet {T : Spot → Spot} {u : Int} (h : Iso T u) (a b c d : Spot) : q2S (T a) (T b) (T c) (T d) = q2S a b c d := by
 unfold q2S
 rw [h.on, h.on, h.on, h.on, h.parted, h.parted]
theorem qjG (a b c : Spot) : q0X b a c = - q0X a b c := by unfold q0X; grind
theorem qs8 (x : Int) : sgn (-x) = - sgn x := by
 unfold sgn; repeat' split
 all_goals omega
theorem qoM (a b c d : Spot) : q2s b a c d = q2s a b c d := by
 unfold q2s
 rw [qjG, qjG a b d, qs8, qs8, Int.neg_mul_neg]
theorem qno (a b c d : Spot) : q2s a b d c = q2s a b c d := by
 unfold q2s; rw [Int.mul_comm]
theorem qmb (a b c d : Spot) : q2S b a c d = q2S a b c d := by
 unfold q2S
 rw [qkW b a c, qkW b a d, qoM, qno c d a b, Bool.eq_iff_iff]
 simp only [Bool.or_eq_true]
 grind
theorem qhF (a b c d : Spot) : q2S c d a b = q2S a b c d := by
 unfold q2S
 rw [Bool.eq_iff_iff]
 simp only [Bool.or_eq_true, Bool.and_eq_true]
 grind
theorem qqM (a b c d : Spot) : q2S a b d c = q2S a b c d := by
 rw [qhF, qmb, qhF]
def cyc (p : List Spot) (i : Int) : Spot := pt p (i % p.length).toNat
theorem q7D {p : List Spot} {i : Nat} : cyc p i = pt p (i % p.length) := by
 unfold cyc; congr 1
theorem qdp {p : List Spot} {i : Nat} (h : i < p.length) : cyc p i = pt p i := by rw [q7D, Nat.mod_eq_of_lt h]
theorem qqN (p : List Spot) (i k : Int) : cyc p (i + p.length * k) = cyc p i := by
 unfold cyc; rw [Int.add_mul_emod_self_left]
theorem q8E {p : List Spot} {i j : Int} (h : (p.length : Int) ∣ i - j) : cyc p i = cyc p j := by
 unfold cyc
 rw [Int.emod_emod_of_dvd _ (Int.dvd_refl _) |>.symm, Int.emod_eq_emod_iff_emod_sub_eq_zero.2 (Int.emod_eq_zero_of_dvd h), Int.emod_emod]
structure SimC (n : Int) (F : Int → Spot) : Prop where
 side : ∀ i, F i ≠ F (i + 1) ∧ onS (F i) (F (i + 1)) (F (i + 2)) = false ∧ onS (F (i + 1)) (F (i + 2)) (F i) = false
 apart : ∀ i k, ¬ n ∣ i - k → ¬ n ∣ i + 1 - k → ¬ n ∣ k + 1 - i → q2S (F i) (F (i + 1)) (F k) (F (k + 1)) = false
theorem qgd {n a b : Nat} (hn : 0 < n) : ((n : Int) ∣ (a : Int) - b) ↔ a % n = b % n := by
 rw [← Int.emod_eq_emod_iff_emod_sub_eq_zero.trans (Int.dvd_iff_emod_eq_zero).symm]
 omega
theorem qwr {p : List Spot} (h3 : 3 ≤ p.length) (h : q2n p) : SimC p.length (cyc p) := by
 have red : ∀ i : Int, ∃ j : Nat, j < p.length ∧ ∀ k : Nat, cyc p (i + k) = pt p ((j + k) % p.length) := by
  intro i
  have h0 := Int.emod_nonneg i (show (p.length : Int) ≠ 0 by omega)
  have h1 := Int.emod_lt_of_pos i (show 0 < (p.length : Int) by omega)
  refine ⟨(i % p.length).toNat, by omega, fun k => ?_⟩
  rw [← q7D]
  refine q8E ?_
  refine ⟨i / p.length, ?_⟩
  have := Int.emod_add_mul_ediv i p.length
  omega
 have red2 : ∀ i : Int, ∃ j : Nat, j < p.length ∧ (∀ k : Nat, cyc p (i + k) = pt p ((j + k) % p.length)) ∧ (p.length : Int) ∣ i - j := by
  intro i
  have h0 := Int.emod_nonneg i (show (p.length : Int) ≠ 0 by omega)
  have h1 := Int.emod_lt_of_pos i (show 0 < (p.length : Int) by omega)
  have hd : (p.length : Int) ∣ i - (i % p.length).toNat := ⟨i / p.length, by have := Int.emod_add_mul_ediv i p.length; omega⟩
  refine ⟨(i % p.length).toNat, by omega, fun k => ?_, hd⟩
  rw [← q7D]
  refine q8E ?_
  obtain ⟨c, hc⟩ := hd
  exact ⟨c, by omega⟩
 refine ⟨fun i => ?_, fun i k e1 e2 e3 => ?_⟩
 ·obtain ⟨j, hj, hF⟩ := red i
  have f0 := hF 0
  have f1 := hF 1
  have f2 := hF 2
  simp only [Int.natCast_zero, Int.add_zero, Nat.add_zero, Nat.mod_eq_of_lt hj] at f0
  have f1 : cyc p (i + 1) = pt p ((j + 1) % p.length) := f1
  have f2 : cyc p (i + 2) = pt p ((j + 2) % p.length) := f2
  rw [f0, f1, f2]
  exact (h j hj).1
 ·obtain ⟨j, hj, hF, d1⟩ := red2 i
  obtain ⟨m, hm, hG, d2⟩ := red2 k
  have f0 := hF 0
  have f1 : cyc p (i + 1) = pt p ((j + 1) % p.length) := hF 1
  have g0 := hG 0
  have g1 : cyc p (k + 1) = pt p ((m + 1) % p.length) := hG 1
  simp only [Int.natCast_zero, Int.add_zero, Nat.add_zero, Nat.mod_eq_of_lt hj] at f0
  simp only [Int.natCast_zero, Int.add_zero, Nat.add_zero, Nat.mod_eq_of_lt hm] at g0
  have tr : ∀ {a b : Int}, (p.length : Int) ∣ a - b → ((p.length : Int) ∣ a ↔ (p.length : Int) ∣ b) := by
   intro a b hab
   obtain ⟨c, hc⟩ := hab
   constructor
   ·rintro ⟨d, hd⟩; exact ⟨d - c, by rw [Int.mul_sub]; omega⟩
   ·rintro ⟨d, hd⟩; exact ⟨d + c, by rw [Int.mul_add]; omega⟩
  have ddif : ∀ z : Int, (p.length : Int) ∣ (i + z - k) - ((j : Int) + z - m) := by
   intro z
   obtain ⟨c, hc⟩ := d1
   obtain ⟨d, hd⟩ := d2
   exact ⟨c - d, by rw [Int.mul_sub]; omega⟩
  have ddif2 : (p.length : Int) ∣ (k + 1 - i) - ((m : Int) + 1 - j) := by
   obtain ⟨c, hc⟩ := d1
   obtain ⟨d, hd⟩ := d2
   exact ⟨d - c, by rw [Int.mul_sub]; omega⟩
  have n1 : j ≠ m := by
   intro e
   apply e1
   have := (tr (ddif 0)).2 (by rw [e]; exact ⟨0, by omega⟩)
   simpa using this
  have n2 : (j + 1) % p.length ≠ m := by
   intro e
   apply e2
   refine (tr (ddif 1)).2 ?_
   have := (qgd (a := j + 1) (b := m) (show 0 < p.length by omega)).2 (by rw [e, Nat.mod_eq_of_lt hm])
   simpa using this
  have n3 : (m + 1) % p.length ≠ j := by
   intro e
   apply e3
   refine (tr ddif2).2 ?_
   have := (qgd (a := m + 1) (b := j) (show 0 < p.length by omega)).2 (by rw [e, Nat.mod_eq_of_lt hj])
   simpa using this
  rw [f0, f1, g0, g1]
  rcases Nat.lt_or_gt_of_ne n1 with hlt | hlt
  ·refine (h j hj).2 m hm ?_ n3
   rcases Nat.lt_or_ge (j + 1) m with g | g
   ·omega
   ·exfalso; apply n2
    rw [Nat.mod_eq_of_lt (by omega)]; omega
  ·rw [qhF]
   refine (h m hm).2 j hj ?_ n2
   rcases Nat.lt_or_ge (m + 1) j with g | g
   ·omega
   ·exfalso; apply n3
    rw [Nat.mod_eq_of_lt (by omega)]; omega
theorem qws {p : List Spot} (h3 : 3 ≤ p.length) (h : SimC p.length (cyc p)) : q2n p := by
 intro i hi
 have c0 : cyc p (i : Int) = pt p i := qdp hi
 have c1 : cyc p ((i : Int) + 1) = pt p ((i + 1) % p.length) := q7D (i := i + 1)
 have c2 : cyc p ((i : Int) + 2) = pt p ((i + 2) % p.length) := q7D (i := i + 2)
 refine ⟨?_, fun k hk hik hki => ?_⟩
 ·have := h.side i
  rw [c0, c1, c2] at this
  exact this
 ·have d0 : cyc p (k : Int) = pt p k := qdp hk
  have d1 : cyc p ((k : Int) + 1) = pt p ((k + 1) % p.length) := q7D (i := k + 1)
  have hn : 0 < p.length := by omega
  have := h.apart i k (fun e => ?_) (fun e => ?_) (fun e => ?_)
  ·rw [c0, c1, d0, d1] at this; exact this
  ·have := (qgd hn).1 e
   rw [Nat.mod_eq_of_lt hi, Nat.mod_eq_of_lt hk] at this; omega
  ·have := (qgd (a := i + 1) (b := k) hn).1 (by simpa using e)
   rw [Nat.mod_eq_of_lt hk, Nat.mod_eq_of_lt (by omega)] at this; omega
  ·have := (qgd (a := k + 1) (b := i) hn).1 (by simpa using e)
   rw [Nat.mod_eq_of_lt hi] at this; exact hki this
theorem SimC.image {n : Int} {F : Int → Spot} (h : SimC n F) {T : Spot → Spot} {u : Int} (hT : Iso T u) : SimC n fun i => T (F i) := by
 refine ⟨fun i => ?_, fun i k e1 e2 e3 => ?_⟩
 ·obtain ⟨h1, h2, h3⟩ := h.side i
  exact ⟨fun e => h1 (hT.inj _ _ e), by rw [hT.on]; exact h2, by rw [hT.on]; exact h3⟩
 ·rw [hT.meet]; exact h.apart i k e1 e2 e3
theorem SimC.shift {n : Int} {F : Int → Spot} (h : SimC n F) (c : Int) : SimC n fun i => F (c + i) := by
 refine ⟨fun i => ?_, fun i k e1 e2 e3 => ?_⟩
 ·have := h.side (c + i)
  rw [Int.add_assoc, Int.add_assoc] at this
  exact this
 ·have := h.apart (c + i) (c + k) (by rwa [show c + i - (c + k) = i - k by omega]) (by rwa [show c + i + 1 - (c + k) = i + 1 - k by omega]) (by rwa [show c + k + 1 - (c + i) = k + 1 - i by omega])
  rw [Int.add_assoc, Int.add_assoc] at this
  exact this
theorem SimC.back {n : Int} {F : Int → Spot} (h : SimC n F) (c : Int) : SimC n fun i => F (c - i) := by
 refine ⟨fun i => ?_, fun i k e1 e2 e3 => ?_⟩
 ·obtain ⟨h1, h2, h3⟩ := h.side (c - i - 2)
  have s1 := h.side (c - i - 1)
  rw [show c - i - 2 + 1 = c - (i + 1) by omega, show c - i - 2 + 2 = c - i by omega, show c - i - 2 = c - (i + 2) by omega] at h2 h3
  rw [show c - i - 1 + 1 = c - i by omega, show c - i - 1 = c - (i + 1) by omega] at s1
  refine ⟨fun e => s1.1 e.symm, ?_, ?_⟩
  ·rw [qkW]; exact h3
  ·rw [qkW]; exact h2
 ·have := h.apart (c - (i + 1)) (c - (k + 1)) (fun e => e1 ?_) (fun e => e3 ?_) (fun e => e2 ?_)
  ·rw [qmb, qqM]
   rw [show c - (i + 1) + 1 = c - i by omega, show c - (k + 1) + 1 = c - k by omega] at this
   exact this
  ·obtain ⟨d, hd⟩ := e; exact ⟨-d, by rw [Int.mul_neg]; omega⟩
  ·obtain ⟨d, hd⟩ := e; exact ⟨d, by omega⟩
  ·obtain ⟨d, hd⟩ := e; exact ⟨d, by omega⟩
def q70 (g : Int → Int) : Nat → Int
 | 0 => 0
 | k + 1 => q70 g k + g k
theorem qby {f g : Int → Int} : ∀ n : Nat, (∀ i : Nat, i < n → f i = g i) → q70 f n = q70 g n
 | 0, _ => rfl
 | n + 1, h => by rw [q70, q70, qby n (fun i hi => h i (by omega)), h n (by omega)]
theorem qdq (g : Int → Int) : ∀ n : Nat, q70 (fun i => g (1 + i)) n + g 0 = q70 g n + g n
 | 0 => by simp [q70]
 | n + 1 => by
   have := qdq g n
   rw [q70, q70]
   have e : g (1 + (n : Int)) = g ((n + 1 : Nat) : Int) := by congr 1; omega
   rw [e]; omega
theorem qbz {g : Int → Int} {n : Nat} (hg : ∀ i, g (i + n) = g i) : ∀ c : Nat, q70 (fun i => g (c + i)) n = q70 g n
 | 0 => by simp
 | c + 1 => by
   have h1 := qdq (fun i => g (c + i)) n
   have h0 : g ((c : Int) + (n : Int)) = g ((c : Int) + 0) := by rw [hg, Int.add_zero]
   have e : (fun i : Int => g ((c : Int) + (1 + i))) = fun i => g ((c + 1 : Nat) + i) := by funext i; congr 1; omega
   rw [e, h0] at h1
   rw [← qbz hg c]
   omega
theorem qoN (g : Int → Int) : ∀ n : Nat, q70 (fun i => g (n - 1 - i)) n = q70 g n
 | 0 => rfl
 | n + 1 => by
   have h1 := qdq (fun i => g ((n + 1 : Nat) - 1 - i)) n
   have e : (fun i : Int => g ((n + 1 : Nat) - 1 - (1 + i))) = fun i => g (n - 1 - i) := by funext i; congr 1; omega
   rw [e, qoN g n] at h1
   rw [q70, q70]
   have e2 : ((n + 1 : Nat) : Int) - 1 - 0 = n := by omega
   rw [e2] at h1
   omega
theorem qt0 {g : Int → Int} {n : Nat} (hg : ∀ i, g (i + n) = g i) (c : Nat) : q70 (fun i => g (c - i)) n = q70 g n := by
 rw [← qbz hg (c + 1), ← qoN (fun i => g ((c + 1 : Nat) + i)) n]
 congr 1
 funext i
 rw [← hg (c - i)]
 congr 1
 omega
def q7m (a b : Spot) : Int := a.x * b.y - a.y * b.x
theorem qmc (p : List Spot) : qeU p = q70 (fun i => q7m (cyc p i) (cyc p (i + 1))) p.length := by
 unfold qeU
 have key : ∀ k, k ≤ p.length → q2N p k = q70 (fun i => q7m (cyc p i) (cyc p (i + 1))) k := by
  intro k
  induction k with
  | zero => intro _; rfl
  | succ k ih =>
    intro hk
    rw [q2N, q70, ih (by omega), qdp (by omega)]
    have : cyc p ((k : Int) + 1) = pt p ((k + 1) % p.length) := q7D (i := k + 1)
    rw [this]; rfl
 exact key _ (Nat.le_refl _)
theorem q7Q (p : List Spot) (i : Int) : cyc p (i + p.length) = cyc p i := by
 have := qqN p i 1
 rwa [Int.mul_one] at this
def Img (T : Spot → Spot) (u : Int) (back : Bool) (c : Nat) (p q : List Spot) : Prop :=
 q.length = p.length ∧ Iso T u ∧ ∀ i : Nat, i < q.length → pt q i = T (cyc p (if back then (c : Int) - i else (c : Int) + i))
theorem Img.cyc {T : Spot → Spot} {u : Int} {b : Bool} {c : Nat} {p q : List Spot} (h : Img T u b c p q) (h0 : 0 < p.length) (i : Int) : cyc q i = T (cyc p (if b then (c : Int) - i else (c : Int) + i)) := by
 obtain ⟨hl, hT, hi⟩ := h
 have h1 := Int.emod_nonneg i (show (q.length : Int) ≠ 0 by omega)
 have h2 := Int.emod_lt_of_pos i (show 0 < (q.length : Int) by omega)
 unfold Go.F.cyc
 rw [hi _ (by omega)]
 congr 1
 refine q8E ?_
 have hd := Int.emod_add_mul_ediv i q.length
 rw [hl] at hd ⊢
 rw [hl] at h1 h2
 split
 ·exact ⟨i / p.length, by omega⟩
 ·exact ⟨-(i / p.length), by rw [Int.mul_neg]; omega⟩
theorem Img.simple {T : Spot → Spot} {u : Int} {b : Bool} {c : Nat} {p q : List Spot} (h : Img T u b c p q) (h3 : 3 ≤ p.length) (hs : q2n p) : q2n q := by
 have hS := qwr h3 hs
 refine qws (by rw [h.1]; exact h3) ?_
 have e : Go.F.cyc q = fun i => T (Go.F.cyc p (if b then (c : Int) - i else (c : Int) + i)) := by funext i; exact h.cyc (by omega) i
 rw [e, h.1]
 cases b with
 | true => exact (hS.back c).image h.2.1
 | false => exact (hS.shift c).image h.2.1
theorem Img.area {T : Spot → Spot} {u : Int} {b : Bool} {c : Nat} {p q : List Spot} (h : Img T u b c p q) (h0 : 0 < p.length) : qeU q = (if b then -u else u) * qeU p := by
 rw [qmc, qmc, h.1]
 have hper : ∀ i, q7m (Go.F.cyc p (i + p.length)) (Go.F.cyc p (i + p.length + 1)) = q7m (Go.F.cyc p i) (Go.F.cyc p (i + 1)) := by
  intro i
  rw [q7Q, show i + (p.length : Int) + 1 = (i + 1) + p.length by omega, q7Q]
 have hlin : ∀ (v : Int) (f : Int → Int) (n : Nat), q70 (fun i => v * f i) n = v * q70 f n := by
  intro v f n
  induction n with
  | zero => simp [q70]
  | succ n ih => rw [q70, q70, ih, Int.mul_add]
 cases b with
 | false =>
   simp only [Bool.false_eq_true, if_false]
   rw [← qbz (g := fun i => q7m (Go.F.cyc p i) (Go.F.cyc p (i + 1))) hper c, ← hlin]
   apply qby
   intro i _
   rw [h.cyc h0, h.cyc h0]
   simp only [Bool.false_eq_true, if_false, q7m]
   rw [h.2.1.area, ← Int.add_assoc]
 | true =>
   simp only [if_true]
   have hper2 : ∀ i, q7m (Go.F.cyc p (i + p.length - 1)) (Go.F.cyc p (i + p.length)) = q7m (Go.F.cyc p (i - 1)) (Go.F.cyc p i) := by
    intro i
    rw [q7Q, show i + (p.length : Int) - 1 = (i - 1) + p.length by omega, q7Q]
   have e1 : q70 (fun i => q7m (Go.F.cyc p i) (Go.F.cyc p (i + 1))) p.length = q70 (fun i => q7m (Go.F.cyc p (i - 1)) (Go.F.cyc p i)) p.length := by
    rw [← qbz (g := fun i => q7m (Go.F.cyc p (i - 1)) (Go.F.cyc p i)) hper2 1]
    apply qby
    intro i _
    congr 2 <;> omega
   rw [e1, ← qt0 (g := fun i => q7m (Go.F.cyc p (i - 1)) (Go.F.cyc p i)) hper2 c, ← hlin]
   apply qby
   intro i _
   rw [h.cyc h0, h.cyc h0]
   simp only [if_true, q7m]
   rw [h.2.1.area, show (c : Int) - (i + 1) = c - i - 1 by omega, Int.neg_mul]
   have : ∀ a b : Spot, b.x * a.y - b.y * a.x = -(a.x * b.y - a.y * b.x) := fun a b => by grind
   rw [this, Int.mul_neg]
theorem Img.within {T : Spot → Spot} {u : Int} {b : Bool} {c : Nat} {p q : List Spot} (h : Img T u b c p q) (h0 : 0 < p.length) {m : Int} (hw : ∀ s ∈ p, q0v s m = true) : ∀ s ∈ q, q0v s m = true := by
 intro s hs
 obtain ⟨i, hi, rfl⟩ := List.getElem_of_mem hs
 rw [← q0F hi, h.2.2 i hi, h.2.1.within]
 unfold Go.F.cyc
 generalize (if b = true then (c : Int) - (i : Int) else (c : Int) + (i : Int)) = z
 have h1 := Int.emod_nonneg z (show (p.length : Int) ≠ 0 by omega)
 have h2 := Int.emod_lt_of_pos z (show 0 < (p.length : Int) by omega)
 rw [q0F (by omega)]
 exact hw _ (List.getElem_mem _)
theorem Img.check {T : Spot → Spot} {u : Int} {b : Bool} {c : Nat} {p q : List Spot} (h : Img T u b c p q) (hc : q1V p = 0) : q1V q = 0 := by
 obtain ⟨h3, h40, _, hw, hs⟩ := q1g hc
 have hs' := h.simple h3 ((qbZ h3).1 hs)
 have h3' : 3 ≤ q.length := by rw [h.1]; exact h3
 have hw' := h.within (by omega) hw
 rw [q1V, if_neg (by rw [h.1]; omega), if_neg (by omega), if_neg, if_pos ((qbZ h3').2 hs')]
 simp only [List.any_eq_true, not_exists, not_and]
 intro s hsq
 rw [hw' s hsq]; decide
end Go.F

namespace Go.F
def off (l : List Edge) (k : Nat) : Nat := (q0k (l.take k)).length
theorem qge (l : List Edge) : off l 0 = 0 := by simp [off, q0k]
theorem q7R {l : List Edge} {k : Nat} (h : k < l.length) : off l (k + 1) = off l k + ((eg l k).line.length - 1) := by
 unfold off; rw [q99 h, q4z h]; simp
theorem qeu (l : List Edge) : off l l.length = (q0k l).length := by unfold off; rw [List.take_length]
theorem qoO {l : List Edge} : ∀ n, n ≤ l.length → ∀ i, i < off l n → ∃ k j, k < n ∧ j + 1 < (eg l k).line.length ∧ i = off l k + j
 | 0, _, i, hi => by rw [qge] at hi; omega
 | n + 1, hn, i, hi => by
   by_cases h : i < off l n
   ·obtain ⟨k, j, h1, h2, h3⟩ := qoO n (by omega) i h
    exact ⟨k, j, by omega, h2, h3⟩
   ·rw [q7R (by omega)] at hi
    exact ⟨n, i - off l n, by omega, by omega, by omega⟩
theorem qdr {l : List Edge} {j k : Nat} (h : j ≤ k) (hk : k ≤ l.length) : off l j ≤ off l k := by
 induction k with
 | zero => obtain rfl : j = 0 := by omega
           exact Nat.le_refl _
 | succ k ih =>
   by_cases e : j = k + 1
   ·subst e; exact Nat.le_refl _
   ·have := ih (by omega) (by omega)
    rw [q7R (by omega)]; omega
theorem q8F (t : Turn) (p : List Spot) : (q4r t p).length = p.length := by unfold q4r; split <;> simp
theorem q5x (t : Turn) {p : List Spot} {j : Nat} (h : j < p.length) : pt (q4r t p) j = q19 t (pt p (if t.flip then p.length - 1 - j else j)) := by
 rw [q0F (by rw [q8F]; exact h)]
 unfold q4r
 split
 ·rename_i hf
  simp only [if_pos hf, List.getElem_reverse, List.getElem_map, List.length_map]
  rw [q0F (by omega)]
 ·rename_i hf
  simp only [if_neg hf, List.getElem_map]
  rw [q0F h]
theorem qfE (t : Turn) {l : List Edge} (hm : 0 < l.length) : ∀ k, k ≤ l.length → off (q0N t l) k = if t.flip then (if k = 0 then 0 else off l 1 + (off l l.length - off l (l.length - k + 1))) else off l k
 | 0, _ => by rw [qge]; split <;> simp [qge]
 | k + 1, hk => by
   have hl := q3r t l
   rw [q7R (by omega), qfE t hm k (by omega), q3q t (by omega)]
   have e : (q1s t (eg l (q1R t l.length k))).line.length = (eg l (q1R t l.length k)).line.length := q8F t _
   rw [e]
   cases hf : t.flip with
   | false =>
     simp only [Bool.false_eq_true, if_false]
     rw [q7R (by omega), q1R, if_neg (by rw [hf]; decide)]
   | true =>
     simp only [if_true, Nat.add_eq_zero_iff, Nat.one_ne_zero, and_false, if_false]
     rw [q1R, if_pos hf]
     rcases Nat.eq_zero_or_pos k with rfl | h0
     ·rw [if_pos rfl, Nat.sub_zero, Nat.mod_self, Nat.sub_add_cancel (by omega), Nat.sub_self, q7R (l := l) (k := 0) hm, qge]
      omega
     ·rw [if_neg (by omega), Nat.mod_eq_of_lt (by omega)]
      have e1 : l.length - (k + 1) + 1 = l.length - k := by omega
      have e2 : off l (l.length - k + 1) = off l (l.length - k) + ((eg l (l.length - k)).line.length - 1) := q7R (by omega)
      have e3 := qdr (l := l) (j := l.length - k + 1) (k := l.length) (by omega) (Nat.le_refl _)
      rw [e1]; omega
theorem qhG (t : Turn) {l : List Edge} (hm : 0 < l.length) : (q0k (q0N t l)).length = (q0k l).length := by
 have h := qfE t hm l.length (Nat.le_refl _)
 have e : off (q0N t l) l.length = (q0k (q0N t l)).length := by rw [← q3r t l]; exact qeu _
 rw [e] at h
 rw [h, ← qeu l]
 split
 ·rw [if_neg (by omega), Nat.sub_self]
  have := qdr (l := l) (j := 0 + 1) (k := l.length) (by omega) (Nat.le_refl _)
  simp only [Nat.zero_add] at *
  omega
 ·rfl
def beg (t : Turn) (l : List Edge) : Nat := if t.flip then off l 1 else 0
theorem qoP {l : List Edge} (hc : q0J l = 0) : ∀ s ∈ q0k l, q0v s 1048576 = true := (q1g (q14 hc).2.2.2.2).2.2.2.1
theorem qev {l : List Edge} (hc : q0J l = 0) (t : Turn) : Img (q8i t) (sgT t) t.flip (beg t l) (q0k l) (q0k (q0N t l)) := by
 obtain ⟨h2, h16, hfe, hje, hchk⟩ := q14 hc
 have hlt := q3r t l
 have hlen := qhG t (l := l) (by omega)
 have hn3 := (q1g hchk).1
 have hin := qoP hc
 refine ⟨hlen, qet t, fun i hi => ?_⟩
 have hE : ∀ z, q8i t (cyc (q0k l) z) = q19 t (cyc (q0k l) z) := by
  intro z
  refine (qgc (Sm.of (hin _ ?_) (by decide)) t).symm
  unfold cyc
  have h1 := Int.emod_nonneg z (show ((q0k l).length : Int) ≠ 0 by omega)
  have h2 := Int.emod_lt_of_pos z (show 0 < ((q0k l).length : Int) by omega)
  rw [q0F (by omega)]; exact List.getElem_mem _
 rw [hE]
 obtain ⟨k, j, hk, hj, rfl⟩ := qoO (l := q0N t l) l.length (by omega) i (by rw [← hlt, qeu]; exact hi)
 have hp := qb7 (l := q0N t l) (k := k) (j := j) (by omega) hj
 have hp : pt (q0k (q0N t l)) (off (q0N t l) k + j) = pt (eg (q0N t l) k).line j := hp
 have hge := q3q t hk
 rw [hp, hge]
 rw [hge] at hj
 have hx := q7O t hk
 have el : (q1s t (eg l (q1R t l.length k))).line = q4r t (eg l (q1R t l.length k)).line := rfl
 rw [el, q8F] at hj
 rw [el, q5x t (by omega)]
 congr 1
 have hot := qfE t (l := l) (by omega) k (by omega)
 cases hf : t.flip with
 | false =>
   simp only [Bool.false_eq_true, if_false, beg, hf]
   rw [hf] at hot
   simp only [Bool.false_eq_true, if_false] at hot
   have ex : q1R t l.length k = k := by rw [q1R, if_neg (by rw [hf]; decide)]
   rw [ex] at hj ⊢
   rw [← qb7 hk hj, hot]
   have e0 : ((0 : Nat) : Int) + ((off l k + j : Nat) : Int) = ((off l k + j : Nat) : Int) := by omega
   rw [e0, qdp]
   ·rfl
   ·have h1 := q7R hk
    have h2 := qdr (l := l) (j := k + 1) (k := l.length) (by omega) (Nat.le_refl _)
    rw [qeu] at h2
    omega
 | true =>
   simp only [if_true, beg, hf]
   rw [hf] at hot
   simp only [if_true] at hot
   have hx' := hx
   generalize hK : q1R t l.length k = K at *
   have hnx := qfX hc hx' (j := (eg l K).line.length - 2 - j) (by omega)
   rw [show (eg l K).line.length - 2 - j + 1 = (eg l K).line.length - 1 - j by omega] at hnx
   rw [← hnx, ← q7D]
   refine q8E ?_
   have ho := q7R hx'
   have e1 : (q0k (l.take K)).length = off l K := rfl
   rw [e1]
   have hall := qeu l
   have hmono := qdr (l := l) (j := K + 1) (k := l.length) (by omega) (Nat.le_refl _)
   rw [hot]
   rw [q1R, if_pos hf] at hK
   rcases Nat.eq_zero_or_pos k with rfl | h0
   ·rw [Nat.sub_zero, Nat.mod_self] at hK
    subst hK
    refine ⟨0, ?_⟩
    rw [if_pos rfl]
    rw [Nat.zero_add] at ho
    omega
   ·rw [Nat.mod_eq_of_lt (by omega)] at hK
    rw [if_neg (by omega), show l.length - k + 1 = K + 1 by omega]
    refine ⟨1, ?_⟩
    omega
theorem qoQ {l : List Edge} (hfe : q1n (q1q l) l.length = 0) {i j : Nat} (hi : i < l.length) (hj : j < l.length) (hne : i ≠ j) : ((eg l i).name.toList == (eg l j).name.toList) = false := by
 have key : ∀ i j, j < i → i < l.length → ((eg l j).name.toList == (eg l i).name.toList) = false := by
  intro i j hji hi
  have h := q2f hfe hi
  unfold q1q at h
  split at h
  ·cases h
  split at h
  ·cases h
  ·rename_i h2
   cases e : ((eg l j).name.toList == (eg l i).name.toList) with
   | false => rfl
   | true => exact absurd (qfH hji e) h2
 rcases Nat.lt_or_gt_of_ne hne with h | h
 ·exact key j i h hj
 ·have := key i j h hi
  rw [Bool.beq_comm]; exact this
theorem quH (t : Turn) {n i j : Nat} (hi : i < n) (hj : j < n) (h : q1R t n i = q1R t n j) : i = j := by
 unfold q1R at h
 split at h
 ·rcases Nat.eq_zero_or_pos i with rfl | hi0
  ·rcases Nat.eq_zero_or_pos j with rfl | hj0
   ·rfl
   ·rw [Nat.sub_zero, Nat.mod_self, Nat.mod_eq_of_lt (by omega)] at h; omega
  ·rcases Nat.eq_zero_or_pos j with rfl | hj0
   ·rw [Nat.sub_zero, Nat.mod_self, Nat.mod_eq_of_lt (by omega)] at h; omega
   ·rw [Nat.mod_eq_of_lt (by omega), Nat.mod_eq_of_lt (by omega)] at h; omega
 ·exact h
theorem qig {p : List Spot} (h : q1v p = 0) (t : Turn) : q1v (q4r t p) = 0 := by
 obtain ⟨h2, h40, hw⟩ := q1T h
 have hl := q8F t p
 have hne := fun j (hj : j + 1 < p.length) => q9W h hj
 have hiso := qet t
 have hap : ∀ i, i < p.length → q19 t (pt p i) = q8i t (pt p i) := fun i hi => qgc (Sm.of (q3J h hi) (by decide)) t
 rw [q1v, if_neg (by omega), if_neg (by omega), if_neg, if_pos]
 ·intro i hi
  rw [hl] at hi
  rw [q5x t (by omega), q5x t (by omega)]
  split
  ·rw [hap _ (by omega), hap _ (by omega)]
   intro e
   have := hiso.inj _ _ e
   have h3 := hne (p.length - 1 - (i + 1)) (by omega)
   rw [show p.length - 1 - (i + 1) + 1 = p.length - 1 - i by omega] at h3
   exact h3 this.symm
  ·rw [hap _ (by omega), hap _ (by omega)]
   intro e
   exact hne i (by omega) (hiso.inj _ _ e)
 ·simp only [List.any_eq_true, not_exists, not_and]
  intro s hs
  obtain ⟨i, hi, rfl⟩ := List.getElem_of_mem hs
  rw [← q0F hi, q5x t (by omega), hap _ (by split <;> omega), hiso.within, q3J h (by split <;> omega)]
  decide
theorem qaj {f : Nat → Int} : ∀ {n : Nat}, (∀ i, i < n → f i = 0) → q1n f n = 0
 | 0, _ => rfl
 | n + 1, h => q5z (qaj fun i hi => h i (by omega)) (h n (by omega))
theorem qt1 {l : List Edge} (h2 : 2 ≤ l.length) (h16 : l.length ≤ 16) (he : ∀ i, i < l.length → q1q l i = 0) (hj : ∀ i, i < l.length → q2O l i = 0) (hc : q1V (q0k l) = 0) : q0J l = 0 := by
 rw [q0J, if_neg (by omega), if_neg (by omega), if_pos (qaj he), if_pos (qaj hj), hc]
theorem qds {l : List Edge} (hc : q0J l = 0) (t : Turn) : q0J (q0N t l) = 0 := by
 obtain ⟨h2, h16, hfe, hje, hchk⟩ := q14 hc
 have hlt := q3r t l
 have hL : ∀ i, i < l.length → q1v (eg l i).line = 0 := fun i hi => q4Q (q2f hfe hi)
 refine qt1 (by omega) (by omega) (fun i hi => ?_) (fun i hi => ?_) ((qev hc t).check hchk)
 ·rw [hlt] at hi
  have hx := q7O t hi
  have hn : q3O (eg l (q1R t l.length i)).name ≠ false := by
   have h := q2f hfe hx
   unfold q1q at h
   split at h
   ·cases h
   ·rename_i h1; exact h1
  have hnm : qdy (q0N t l) i = false := by
   refine qhM fun j hj => ?_
   rw [q3q t hi, q3q t (by omega)]
   refine qoQ hfe (q7O t (by omega)) hx fun e => ?_
   have := quH t (by omega) hi e
   omega
  rw [q1q, q3q t hi]
  have e : (q1s t (eg l (q1R t l.length i))).name = (eg l (q1R t l.length i)).name := rfl
  rw [e, if_neg hn, hnm, if_neg (by decide)]
  exact qig (hL _ hx) t
 ·rw [hlt] at hi
  have hx := q7O t hi
  have hm : (i + 1) % l.length < l.length := Nat.mod_lt _ (by omega)
  have hy := q7O t hm
  have l1 := (q1T (hL _ hx)).1
  have l2 := (q1T (hL _ hy)).1
  rw [q2O, hlt, q3q t hi, q3q t hm]
  have ea : (q1s t (eg l (q1R t l.length i))).line = q4r t (eg l (q1R t l.length i)).line := rfl
  have eb : (q1s t (eg l (q1R t l.length ((i + 1) % l.length)))).line = q4r t (eg l (q1R t l.length ((i + 1) % l.length))).line := rfl
  rw [ea, eb, q8F, q5x t (by omega), q5x t (by omega), if_pos]
  congr 1
  have hjn : ∀ k, k < l.length → pt (eg l k).line ((eg l k).line.length - 1) = pt (eg l ((k + 1) % l.length)).line 0 := by
   intro k hk
   have h := q2f hje hk
   unfold q2O at h
   split at h
   ·rename_i h1; exact h1
   ·cases h
  cases hf : t.flip with
  | false =>
    simp only [Bool.false_eq_true, if_false]
    have ex : ∀ k, q1R t l.length k = k := fun k => by rw [q1R, if_neg (by rw [hf]; decide)]
    rw [ex, ex]
    exact hjn i hi
  | true =>
    simp only [if_true, Nat.sub_zero]
    have h := hjn _ hy
    have e : (q1R t l.length ((i + 1) % l.length) + 1) % l.length = q1R t l.length i := by
     simp only [q1R, hf, if_true]
     by_cases h1 : i + 1 = l.length
     ·rw [h1, Nat.mod_self, Nat.sub_zero, Nat.mod_self, show l.length - i = 1 by omega]
     ·rw [Nat.mod_eq_of_lt (show i + 1 < l.length by omega), Nat.mod_eq_of_lt (show l.length - (i + 1) < l.length by omega), show l.length - (i + 1) + 1 = l.length - i by omega]
    rw [e] at h
    rw [h, show (eg l (q1R t l.length i)).line.length - 1 - ((eg l (q1R t l.length i)).line.length - 1) = 0 by omega]
end Go.F

namespace Go.F
attribute [local irreducible] IntKind.wrap wpM
theorem qtx {α : Type} (f : Nat → α) (n i : Nat) (v : α) : ((List.range n).map f).set i v = (List.range n).map fun m => if m = i then v else f m := by
 apply List.ext_getElem
 ·simp
 ·intro m h1 h2
  rw [List.getElem_set]
  simp only [List.getElem_map, List.getElem_range]
  by_cases h : i = m
  ·rw [if_pos h, if_pos h.symm]
  ·rw [if_neg h, if_neg (fun e => h e.symm)]
def q7Y (t : Turn) (p : List Spot) : List Spot := (List.range p.length).map fun m => q19 t (pt p (if t.flip then p.length - 1 - m else m))
def q8l (t : Turn) (p : List Spot) (k : Nat) : List Spot := (List.range p.length).map fun m => if (if t.flip then p.length - 1 - m else m) < k then q19 t (pt p (if t.flip then p.length - 1 - m else m)) else ⟨0, 0⟩
theorem qpt (t : Turn) (p : List Spot) : (q8l t p 0).map Spot.enc = List.replicate p.length (.agg [.int .i64 0, .int .i64 0]) := by
 unfold q8l
 rw [List.map_map]
 apply List.ext_getElem
 ·simp
 ·intro m h1 h2
  simp [Spot.enc]
theorem qre (t : Turn) (p : List Spot) : q8l t p p.length = q7Y t p := by
 unfold q8l q7Y
 apply List.map_congr_left
 intro m hm
 have hm := List.mem_range.1 hm
 rw [if_pos (by split <;> omega)]
theorem qpu (t : Turn) (p : List Spot) {k : Nat} (hk : k < p.length) : (q8l t p k).set (if t.flip then p.length - 1 - k else k) (q19 t (pt p k)) = q8l t p (k + 1) := by
 unfold q8l
 rw [qtx]
 apply List.map_congr_left
 intro m hm
 have hm := List.mem_range.1 hm
 cases t.flip with
 | false =>
   simp only [Bool.false_eq_true, if_false]
   by_cases h : m = k
   ·rw [if_pos h, if_pos (by omega), h]
   ·rw [if_neg h]
    by_cases h2 : m < k
    ·rw [if_pos h2, if_pos (by omega)]
    ·rw [if_neg h2, if_neg (by omega)]
 | true =>
   simp only [if_true]
   by_cases h : m = p.length - 1 - k
   ·rw [if_pos h, if_pos (by omega), show p.length - 1 - m = k by omega]
   ·rw [if_neg h]
    by_cases h2 : p.length - 1 - m < k
    ·rw [if_pos h2, if_pos (by omega)]
    ·rw [if_neg h2, if_neg (by omega)]
set_option maxHeartbeats 2000000 in
theorem qnK (t : Turn) (p : List Spot) (hp : p.length ≤ 100000) : PU qdB [t.enc, q0g p] = some (q0g (q7Y t p)) := by
 refine q0f (fn := qcM) rfl (q0a ?_)
 refine go 800 rfl ?_
 rw [List.length_map]
 refine q4g p.length rfl rfl rfl (by simp [q0K]; omega) ?_
 rw [← qpt t]
 refine go 800 rfl ?_
 rw [List.length_map]
 refine q0p (S := fun k : Nat => ([q0g p, .ptr 1 0 0, .ref 2 0 p.length, q0g p, q01 p.length, q01 k], [none, some (.row [t.enc] 2), some (.row ((q8l t p k).map Spot.enc) 2), none, none, none], [0, 0, 0, 0, 0, 0])) (C := fun k => k ≤ p.length) (m := fun k => p.length - k) 0 (Nat.zero_le _) (by omega) ?_ ?_
 ·exact q03 rfl ⟨rfl, q04 q0h _, trivial⟩ (by simp [q0g, q01, Turn.enc])
 intro k hk N hN
 refine go 800 rfl ?_
 refine q02 rfl (fun e1 => ?_) (fun e1 => ?_)
 ·rw [q06] at e1
  have hlt : k < p.length := by omega
  have w1 : IntKind.i64.wrap ((k : Int) + 1) = ((k + 1 : Nat) : Int) := wrap64 (by omega) (by omega)
  have hst := qpu t p hlt
  refine go 800 rfl ?_
  refine q0i k rfl rfl rfl (q0D hlt) rfl ?_
  refine go 800 rfl ?_
  refine q02 rfl (fun g => ?_) (fun g => ?_)
  ·have g : t.flip = true := g
   rw [g, if_pos rfl] at hst
   have HK0 : IntKind.i64.wrap (((p.map Spot.enc).length : Int) - 1) = (p.length : Int) - 1 := by rw [List.length_map]; exact wrap64 (by omega) (by omega)
   have HK : IntKind.i64.wrap (IntKind.i64.wrap (((p.map Spot.enc).length : Int) - 1) - (k : Int)) = ((p.length - 1 - k : Nat) : Int) := by rw [HK0, wrap64 (by omega) (by omega)]; omega
   refine go 800 rfl ?_
   refine q00 rfl rfl (q7N t (pt p k)) ?_
   refine go 800 rfl ?_
   refine q0B (p.length - 1 - k) rfl rfl rfl rfl HK (by omega) ?_
   refine go 800 rfl ?_
   refine q4i (enc := Spot.enc) (q8l t p k) (p.length - 1 - k) (q19 t (pt p k)) rfl rfl (Nat.zero_add _) rfl (fun _ => rfl) rfl (Nat.zero_le _) (by simp [q8l]; omega) ?_
   rw [hst]
   refine go 800 rfl ?_
   refine q05 ?_
   exact hN (k + 1) hlt (by omega) (q03 rfl ⟨rfl, q04 q0h _, trivial⟩ (by simp [q0g, q01, w1, Turn.enc]))
  ·have g : t.flip = false := g
   rw [g, if_neg (by decide)] at hst
   have HK : (k : Int) = (k : Int) := rfl
   refine go 800 rfl ?_
   refine q00 rfl rfl (q7N t (pt p k)) ?_
   refine go 800 rfl ?_
   refine q0B (k) rfl rfl rfl rfl HK (by omega) ?_
   refine go 800 rfl ?_
   refine q4i (enc := Spot.enc) (q8l t p k) (k) (q19 t (pt p k)) rfl rfl (Nat.zero_add _) rfl (fun _ => rfl) rfl (Nat.zero_le _) (by simp [q8l]; omega) ?_
   rw [hst]
   refine go 800 rfl ?_
   refine q05 ?_
   exact hN (k + 1) hlt (by omega) (q03 rfl ⟨rfl, q04 q0h _, trivial⟩ (by simp [q0g, q01, w1, Turn.enc]))
 rw [q07] at e1
 obtain rfl : k = p.length := by omega
 rw [qre]
 refine go 800 rfl ?_
 refine q05 ?_
 refine go 800 rfl ?_
 refine q0c rfl rfl rfl ⟨q2u (by simp [q7Y]) (q0T q24 _), trivial⟩ ?_
 rw [q2q (by simp [q7Y])]; rfl
def qsw (p : List Spot) (i : Nat) : Int := q0X (pt p ((i + p.length - 1) % p.length)) (pt p i) (pt p ((i + 1) % p.length))
theorem qwA (p : List Spot) [OkP p] (i : Nat) (hi : i < p.length) (hp : p.length ≤ 100000) : PU qdF [q0g p, .int .i64 i] = some (.int .i64 (qsw p i)) := by
 have w1 : IntKind.i64.wrap ((i : Int) + (p.length : Int)) = (i : Int) + (p.length : Int) := wrap64 (by omega) (by omega)
 have w2 : IntKind.i64.wrap ((i : Int) + (p.length : Int) - 1) = ((i + p.length - 1 : Nat) : Int) := by rw [wrap64 (by omega) (by omega)]; omega
 have w3 : IntKind.i64.wrap ((i : Int) + 1) = ((i + 1 : Nat) : Int) := wrap64 (by omega) (by omega)
 have m1 : (i + p.length - 1) % p.length < p.length := Nat.mod_lt _ (by omega)
 have m2 : (i + 1) % p.length < p.length := Nat.mod_lt _ (by omega)
 refine q0f (fn := q8U) rfl (q0a ?_)
 refine go 800 rfl ?_
 rw [List.length_map, w1, w2]
 refine q3Y rfl rfl (by omega) ?_
 refine go 800 rfl ?_
 refine q0i ((i + p.length - 1) % p.length) rfl rfl q1m (q0D m1) rfl ?_
 refine go 800 rfl ?_
 refine q0i i rfl rfl rfl (q0D hi) rfl ?_
 refine go 800 rfl ?_
 rw [w3]
 refine q3Y rfl rfl (by omega) ?_
 refine go 800 rfl ?_
 refine q0i ((i + 1) % p.length) rfl rfl q1m (q0D m2) rfl ?_
 refine go 800 rfl ?_
 refine q00 rfl rfl (qgj (pt p ((i + p.length - 1) % p.length)) (pt p i) (pt p ((i + 1) % p.length))) ?_
 refine go 800 rfl ?_
 exact q0c rfl rfl rfl trivial rfl
section
variable {T : Tab} {sh : Shr} {nx0 : Nat} {s : List Fr} {t : q0z} {h : q0e} {z : Frz} {nx : Nat} {q : Ex → q0z → q0e → Frz → Nat → Prop}
variable {base i : Nat} {res : List Nat} {dst : Nat} {g : Gd} {rest : List KOper}
theorem qwB {n : Nat} {x : X} {hi : Option X} (hx : x.ev t = .nilsl) (hhi : qh6 t hi 0 0)
 (hk : wpM T sh nx0 (.ops base res rest :: s) .normal (upd t dst .nilsl) h z nx q) :
 wpM T sh nx0 (.ops base res (⟨i, some dst, none, g, .slsl n x none hi none⟩ :: rest) :: s) .normal t h z nx q := by
 refine q54 ?_
 simp only [kop, qkm, hx]
 exact q6v (a := 0) rfl (q6v hhi (q1C ⟨rfl, rfl⟩ hk))
end
def qbP (n : Nat) (ls : List (List Spot)) : Nat → List Spot
 | 0 => List.replicate n ⟨0, 0⟩
 | j + 1 => (ls.take (j + 1)).flatten
theorem qi1 (ls : List (List Spot)) {j : Nat} (h : j < ls.length) : (ls.take (j + 1)).flatten = (ls.take j).flatten ++ ls[j] := by
 rw [List.take_succ_eq_append_getElem h, List.flatten_append]; simp
theorem qnL (ls : List (List Spot)) (j : Nat) : (ls.take j).flatten.length ≤ ls.flatten.length := by
 conv => rhs; rw [← List.take_append_drop j ls, List.flatten_append]
 simp
theorem q6t (n : Nat) (ls : List (List Spot)) (j : Nat) : (qbP n ls j).take (ls.take j).flatten.length = (ls.take j).flatten := by
 cases j with
 | zero => simp
 | succ j => exact List.take_length
theorem qbQ (n : Nat) (ls : List (List Spot)) (j : Nat) : (ls.take j).flatten.length ≤ (qbP n ls j).length := by
 cases j with
 | zero => simp
 | succ j => simp [qbP]
def q7Z (ls : List (List Spot)) : D := .lst (ls.map q0g)
set_option maxHeartbeats 4000000 in
theorem qmD (ls : List (List Spot)) (hn : ls.flatten.length ≤ 100000) (hl : ls.length ≤ 100000) : PU q2m [q7Z ls] = some (q0g ls.flatten) := by
 refine q0f (fn := q3c) rfl (q0a ?_)
 refine go 800 rfl ?_
 rw [List.length_map]
 refine q0p (S := fun j : Nat => ([q7Z ls, q01 (ls.take j).flatten.length, q7Z ls, q01 ls.length, q01 j], [none, none, none, none, none], [0, 0, 0, 0, 0])) (C := fun j => j ≤ ls.length) (m := fun j => ls.length - j) 0 (Nat.zero_le _) (by omega) ?_ ?_
 ·exact q03 rfl trivial (by simp [q7Z, q01])
 intro j hj N hN
 refine go 800 rfl ?_
 refine q02 rfl (fun f1 => ?_) (fun f1 => ?_)
 ·rw [q06] at f1
  have hjl : j < ls.length := by omega
  have wj : IntKind.i64.wrap ((j : Int) + 1) = ((j + 1 : Nat) : Int) := wrap64 (by omega) (by omega)
  have hst := qi1 ls hjl
  have hle := qnL ls (j + 1)
  have hx : (ls.map q0g)[j]? = some (q0g ls[j]) := by rw [List.getElem?_map, List.getElem?_eq_getElem hjl]; rfl
  generalize ls[j] = x at *
  have hl2 : (ls.take (j + 1)).flatten.length = (ls.take j).flatten.length + x.length := by rw [hst, List.length_append]
  have w2 : IntKind.i64.wrap (((ls.take j).flatten.length : Int) + ((x.map Spot.enc).length : Int)) = ((ls.take (j + 1)).flatten.length : Int) := by rw [List.length_map, wrap64 (by omega) (by omega)]; omega
  refine go 800 rfl ?_
  refine q0i j rfl rfl rfl hx rfl ?_
  refine go 800 rfl ?_
  rw [w2]
  refine q02 rfl (fun e => absurd (q06.1 e) (by omega)) (fun _ => ?_)
  refine go 800 rfl ?_
  refine q05 ?_
  exact hN (j + 1) hjl (by omega) (q03 rfl trivial (by simp [q7Z, q01, wj]))
 rw [q07] at f1
 obtain rfl : j = ls.length := by omega
 clear hN
 rw [List.take_length]
 have w3 : IntKind.i64.wrap ((ls.flatten.length : Int) - IntKind.i64.wrap (0 - 0)) = (ls.flatten.length : Int) := by rw [wrap64 (x := 0 - 0) (by omega) (by omega), wrap64 (by omega) (by omega)]; omega
 refine go 800 rfl ?_
 refine q05 ?_
 refine go 800 rfl ?_
 refine q7A (fn := q3L) rfl rfl ?_
 refine go 800 rfl ?_
 refine q02 rfl (fun e => absurd (q06.1 e) (by omega)) (fun _ => ?_)
 refine go 800 rfl ?_
 refine q02 rfl (fun e => ?_) (fun e => ?_)
 ·refine go 800 rfl ?_
  refine qwB rfl ⟨_, _, rfl, rfl⟩ ?_
  refine go 800 rfl ?_
  refine qug (n := ls.flatten.length) rfl (by first | rfl | exact congrArg _ w3) (by show _ * 17 ≤ 2 ^ 40; omega) ?_
  refine go 800 rfl ?_
  refine q8n 0 rfl rfl rfl ⟨_, _, rfl, rfl⟩ (Nat.zero_le _) ?_
  refine go 800 rfl ?_
  refine qbO rfl rfl ?_
  refine go 800 rfl ?_
  rw [List.length_map]
  refine q0p (S := fun j : Nat => ([.ref 0 0 (ls.take j).flatten.length, q7Z ls, q01 ls.length, q01 j], [some (.row ((qbP ls.flatten.length ls j).map Spot.enc) 2), none, none, none], [0, 0, 0, 0])) (C := fun j => j ≤ ls.length) (m := fun j => ls.length - j) 0 (Nat.zero_le _) (by omega) ?_ ?_
  ·refine q03 rfl ⟨?_, trivial⟩ ?_
   ·rw [List.all_eq_true]; intro x hx; simp at hx; try (obtain ⟨_, rfl⟩ := hx; rfl)
   ·simp [q7Z, q01, qbP, Spot.enc]
  intro j hj N2 hN2
  refine go 800 rfl ?_
  refine q02 rfl (fun f1 => ?_) (fun f1 => ?_)
  ·rw [q06] at f1
   have hjl : j < ls.length := by omega
   have wj : IntKind.i64.wrap ((j : Int) + 1) = ((j + 1 : Nat) : Int) := wrap64 (by omega) (by omega)
   have hst := qi1 ls hjl
   have hle := qnL ls (j + 1)
   have hx : (ls.map q0g)[j]? = some (q0g ls[j]) := by rw [List.getElem?_map, List.getElem?_eq_getElem hjl]; rfl
   have htk := q6t ls.flatten.length ls j
   have hcl := qbQ ls.flatten.length ls j
   generalize ls[j] = x at *
   have hl2 : (ls.take (j + 1)).flatten.length = (ls.take j).flatten.length + x.length := by rw [hst, List.length_append]
   refine go 800 rfl ?_
   refine q0i j rfl rfl rfl hx rfl ?_
   refine go 800 rfl ?_
   refine qsN rfl rfl rfl (q1S (n := 2) (fun _ => rfl) _) (by rw [List.length_map]; exact hcl) (Nat.zero_le _) (by rw [List.length_map]; show (_ + _) * 17 ≤ 2 ^ 40; omega) ?_
   rw [← List.map_take, htk, ← List.map_append, ← hst, List.length_map, ← hl2]
   refine go 800 rfl ?_
   refine q05 ?_
   refine hN2 (j + 1) hjl (by omega) (q03 rfl ⟨q04 q0h _, trivial⟩ ?_)
   simp [q7Z, q01, qbP, wj]
  rw [q07] at f1
  obtain rfl : j = ls.length := by omega
  refine go 800 rfl ?_
  refine q05 ?_
  refine go 800 rfl ?_
  refine q0c rfl rfl rfl ⟨?_, trivial⟩ ?_
  ·refine ⟨by have := qbQ ls.flatten.length ls ls.length; simpa using this, ?_⟩
   rw [List.drop_zero, ← List.map_take, q6t]
   exact q0T q24 _
  ·rw [← List.map_take, q6t, List.take_length]; rfl
 ·refine go 800 rfl ?_
  refine qbO rfl rfl ?_
  refine go 800 rfl ?_
  rw [List.length_map]
  refine q0p (S := fun j : Nat => ([.ref 0 0 (ls.take j).flatten.length, q7Z ls, q01 ls.length, q01 j], [some (.row ((qbP 0 ls j).map Spot.enc) 2), none, none, none], [0, 0, 0, 0])) (C := fun j => j ≤ ls.length) (m := fun j => ls.length - j) 0 (Nat.zero_le _) (by omega) ?_ ?_
  ·refine q03 rfl ⟨?_, trivial⟩ ?_
   ·rw [List.all_eq_true]; intro x hx; simp at hx; try (obtain ⟨_, rfl⟩ := hx; rfl)
   ·simp [q7Z, q01, qbP, Spot.enc]
  intro j hj N2 hN2
  refine go 800 rfl ?_
  refine q02 rfl (fun f1 => ?_) (fun f1 => ?_)
  ·rw [q06] at f1
   have hjl : j < ls.length := by omega
   have wj : IntKind.i64.wrap ((j : Int) + 1) = ((j + 1 : Nat) : Int) := wrap64 (by omega) (by omega)
   have hst := qi1 ls hjl
   have hle := qnL ls (j + 1)
   have hx : (ls.map q0g)[j]? = some (q0g ls[j]) := by rw [List.getElem?_map, List.getElem?_eq_getElem hjl]; rfl
   have htk := q6t 0 ls j
   have hcl := qbQ 0 ls j
   generalize ls[j] = x at *
   have hl2 : (ls.take (j + 1)).flatten.length = (ls.take j).flatten.length + x.length := by rw [hst, List.length_append]
   refine go 800 rfl ?_
   refine q0i j rfl rfl rfl hx rfl ?_
   refine go 800 rfl ?_
   refine qsN rfl rfl rfl (q1S (n := 2) (fun _ => rfl) _) (by rw [List.length_map]; exact hcl) (Nat.zero_le _) (by rw [List.length_map]; show (_ + _) * 17 ≤ 2 ^ 40; omega) ?_
   rw [← List.map_take, htk, ← List.map_append, ← hst, List.length_map, ← hl2]
   refine go 800 rfl ?_
   refine q05 ?_
   refine hN2 (j + 1) hjl (by omega) (q03 rfl ⟨q04 q0h _, trivial⟩ ?_)
   simp [q7Z, q01, qbP, wj]
  rw [q07] at f1
  obtain rfl : j = ls.length := by omega
  refine go 800 rfl ?_
  refine q05 ?_
  refine go 800 rfl ?_
  refine q0c rfl rfl rfl ⟨?_, trivial⟩ ?_
  ·refine ⟨by have := qbQ 0 ls ls.length; simpa using this, ?_⟩
   rw [List.drop_zero, ← List.map_take, q6t]
   exact q0T q24 _
  ·rw [← List.map_take, q6t, List.take_length]; rfl
end Go.F

namespace Go.F
attribute [local irreducible] IntKind.wrap wpM
def q1K (p : List Spot) : Nat → List Spot
 | 0 => []
 | k + 1 => if qsw p k ≠ 0 then q1K p k ++ [pt p k] else q1K p k
theorem q9O (p : List Spot) : ∀ k, (q1K p k).length ≤ k
 | 0 => Nat.le_refl _
 | k + 1 => by
   have := q9O p k
   rw [q1K]; split <;> simp <;> omega
def lexB (a b : Spot) : Bool := decide (a.x < b.x) || (decide (a.x = b.x) && decide (a.y < b.y))
def q0G (c : List Spot) : Nat → Nat
 | 0 => 0
 | k + 1 => if lexB (pt c k) (pt c (q0G c k)) then k else q0G c k
theorem q8J (c : List Spot) : ∀ k, q0G c k ≤ k
 | 0 => Nat.le_refl _
 | k + 1 => by
   have := q8J c k
   rw [q0G]; split <;> omega
theorem qi2 (c : List Spot) : ∀ k, 0 < k → q0G c k < k
 | 0, h => absurd h (by decide)
 | k + 1, _ => by
   rw [q0G]
   split
   ·omega
   ·have := q8J c k; omega
def qkB (c : List Spot) : List Spot := c.drop (q0G c c.length) ++ c.take (q0G c c.length)
def qpv (p : List Spot) : List Spot := if qeU p < 0 then (q1K p p.length).reverse else q1K p p.length
def q8r (p : List Spot) : List Spot × Int := if q1V p = 0 then (qkB (qpv p), 0) else ([], q1V p)
def OldR (b : Blk) (h : q0e) (z : Frz) : Prop := (∃ h0 : q0e, h = upd h0 1 (some b)) ∧ ∃ z0 : Frz, z = upd z0 1 0
theorem OldR.of {b : Blk} {h : q0e} {z : Frz} (h1 : h 1 = some b) (z1 : z 1 = 0) : OldR b h z :=
 ⟨⟨h, by rw [q2w (f := h) h1]⟩, z, by rw [q2w (f := z) z1]⟩
theorem OldR.old {b : Blk} {h : q0e} {z : Frz} (p1 : q1l (some b) = true) (h1 : h 1 = some b) (z1 : z 1 = 0) : OldR b (q2j h) z :=
 OldR.of (q5k h1 p1) z1
set_option maxHeartbeats 2000000 in
theorem rev47 (a : List Spot) (ha : a.length ≤ 1000000) {h : q0e} {z : Frz} {K : D → q0e → Frz → Nat → Prop}
 (hold : OldR (.row (a.map Spot.enc) 2) h z)
 (hk : ∀ (h' : q0e) (z' : Frz), OldR (.row (a.reverse.map Spot.enc) 2) h' z' → K (.tup []) h' z' 61) :
 wpM TT (shr TT 5) 47 [.code k_slices_Reverse_Spot_Spot.code] .normal (enter [.ref 1 0 a.length]) h z 47 (qhS k_slices_Reverse_Spot_Spot K) := by
 obtain ⟨⟨h0, rfl⟩, z0, rfl⟩ := hold
 refine go 800 rfl ?_
 refine q6Y (S := fun x : Nat => ([.ref 1 0 a.length, q01 x, .int .i64 ((a.length : Int) - 1 - x)], [none, none, none], [0, 0, 0]))
  (O := fun x ho zo => OldR (.row ((q4H a x).map Spot.enc) 2) ho zo)
  (C := fun x => x ≤ a.length) (m := fun x => a.length - x) 0 (Nat.zero_le _) (by omega) ?_ ?_
 ·have w0 : IntKind.i64.wrap ((a.length : Int) - 1) = (a.length : Int) - 1 := wrap64 (by omega) (by omega)
  refine q27 rfl ⟨q04 q0h _, trivial⟩ ⟨by simp [q01, w0], ?_⟩
  rw [qlp]
  exact OldR.old (q4w q0h _ _) rfl rfl
 rintro k hk' ho zo hold N hN
 obtain ⟨⟨h1, rfl⟩, z1, rfl⟩ := hold
 refine go 800 rfl ?_
 refine q02 rfl (fun e1 => ?_) (fun e1 => ?_)
 ·rw [q06] at e1
  have hlt : 2 * k + 1 < a.length := by omega
  have ej : (a.length : Int) - 1 - k = ((a.length - 1 - k : Nat) : Int) := by omega
  have w1 : IntKind.i64.wrap ((k : Int) + 1) = ((k + 1 : Nat) : Int) := wrap64 (by omega) (by omega)
  have w2 : IntKind.i64.wrap (((a.length - 1 - k : Nat) : Int) - 1) = (a.length : Int) - 1 - ((k + 1 : Nat) : Int) := by rw [wrap64 (by omega) (by omega)]; omega
  have hst := qlq a hlt
  have l1 := qhc a (i := k) (m := a.length - 1 - k) (by omega) (by omega) (by omega)
  have l2 := qhc a (i := k) (m := k) (by omega) (by omega) (by omega)
  rw [ej]
  refine go 800 rfl ?_
  refine q0B (a.length - 1 - k) rfl rfl rfl rfl rfl (by omega) ?_
  refine go 800 rfl ?_
  refine q1O (enc := Spot.enc) (q4H a k) (a.length - 1 - k) (pt a (a.length - 1 - k)) rfl (Nat.zero_add _) (fun _ => rfl) rfl l1 ?_
  refine go 800 rfl ?_
  refine q0B k rfl rfl rfl rfl rfl (by omega) ?_
  refine go 800 rfl ?_
  refine q1O (enc := Spot.enc) (q4H a k) k (pt a k) rfl (Nat.zero_add _) (fun _ => rfl) rfl l2 ?_
  refine go 800 rfl ?_
  refine q0B k rfl rfl rfl rfl rfl (by omega) ?_
  refine go 800 rfl ?_
  refine q4i (enc := Spot.enc) (q4H a k) k (pt a (a.length - 1 - k)) rfl rfl (Nat.zero_add _) rfl (fun _ => rfl) rfl (Nat.zero_le _) (by rw [qb9]; omega) ?_
  refine go 800 rfl ?_
  refine q0B (a.length - 1 - k) rfl rfl rfl rfl rfl (by omega) ?_
  refine go 800 rfl ?_
  refine q4i (enc := Spot.enc) ((q4H a k).set k (pt a (a.length - 1 - k))) (a.length - 1 - k) (pt a k) rfl rfl (Nat.zero_add _) rfl (fun _ => rfl) rfl (Nat.zero_le _) (by rw [List.length_set, qb9]; omega) ?_
  rw [hst]
  refine go 800 rfl ?_
  refine q05 ?_
  refine hN (k + 1) (by omega) (by omega) (q27 rfl ⟨q04 q0h _, trivial⟩ ⟨by simp [q01, w1, w2], ?_⟩)
  exact OldR.old (q4w q0h _ _) rfl rfl
 ·rw [q07] at e1
  rw [qnb a (by omega)]
  refine go 800 rfl ?_
  refine q05 ?_
  refine go 800 rfl ?_
  exact qbO rfl rfl (hk _ _ (OldR.of rfl rfl))
theorem q6u {h : q0e} {id o n : Nat} {c : List Spot} (hr : h id = some (.row (c.map Spot.enc) 2)) (hn : o + n ≤ c.length) : q13 h 8 (.ref id o n) = some (q0g ((c.drop o).take n)) := by
 rw [q13, hr]
 simp only
 rw [if_pos (by simpa using hn), ← List.map_drop, ← List.map_take, qox (by decide) (q0T q24 _)]
 rfl
set_option maxHeartbeats 8000000 in
theorem qmE (p : List Spot) : PU q3P [q0g p] = some (.tup [q0g (q8r p).1, .int .i64 (q8r p).2]) := by
 refine q0f (fn := q78) rfl (q0a ?_)
 refine go 800 rfl ?_
 refine q00 rfl rfl (q2Y p) ?_
 refine go 800 rfl ?_
 refine q02 rfl (fun h => ?_) (fun h => ?_)
 ·rw [q0O] at h
  refine go 800 rfl ?_
  refine q0c rfl rfl rfl trivial ?_
  rw [q8r, if_neg h]; rfl
 have h : q1V p = 0 := q0S.1 h
 rw [q8r, if_pos h]
 obtain ⟨h3, h40, hok, hw, hs⟩ := q1g h
 refine go 800 rfl ?_
 rw [List.length_map]
 refine q0p (S := fun k : Nat => ([q0g p, .ref 1 0 (q1K p k).length, q0g p, q01 p.length, q01 k], [none, some (.row ((q1K p k).map Spot.enc) 2), none, none, none], [0, 0, 0, 0, 0])) (C := fun k => k ≤ p.length) (m := fun k => p.length - k) 0 (Nat.zero_le _) (by omega) ?_ ?_
 ·exact q03 rfl ⟨rfl, trivial⟩ (by simp [q0g, q01, q1K])
 intro k hk N hN
 refine go 800 rfl ?_
 refine q02 rfl (fun e1 => ?_) (fun e1 => ?_)
 ·rw [q06] at e1
  have hlt : k < p.length := by omega
  have w1 : IntKind.i64.wrap ((k : Int) + 1) = ((k + 1 : Nat) : Int) := wrap64 (by omega) (by omega)
  have hcl := q9O p k
  refine go 800 rfl ?_
  refine q0i k rfl rfl rfl (q0D hlt) rfl ?_
  refine go 800 rfl ?_
  refine q00 rfl rfl (qwA p k hlt (by omega)) ?_
  refine go 800 rfl ?_
  refine q02 rfl (fun e2 => ?_) (fun e2 => ?_)
  ·rw [q0O] at e2
   have hst : q1K p (k + 1) = q1K p k ++ [pt p k] := by rw [q1K, if_pos e2]
   refine go 800 rfl ?_
   refine q1e rfl rfl rfl rfl rfl rfl (by simp) (Nat.zero_le _) (by simp [q0K]; omega) ?_
   refine go 800 rfl ?_
   refine q05 ?_
   refine hN (k + 1) hlt (by omega) (q03 rfl ⟨?_, trivial⟩ ?_)
   ·rw [List.all_append, q04 q0h]; rfl
   ·rw [hst]; simp [q0g, q01, w1, Spot.enc]
  ·rw [q0S] at e2
   have hst : q1K p (k + 1) = q1K p k := by rw [q1K, if_neg (by simp [e2])]
   refine go 800 rfl ?_
   refine q05 ?_
   refine hN (k + 1) hlt (by omega) (q03 rfl ⟨q04 q0h _, trivial⟩ ?_)
   rw [hst]; simp [q0g, q01, w1]
 rw [q07] at e1
 obtain rfl : k = p.length := by omega
 clear hN
 have hcl := q9O p p.length
 refine go 800 rfl ?_
 refine q05 ?_
 refine go 800 rfl ?_
 refine q00 rfl rfl (qsd p (by omega)) ?_
 refine go 800 rfl ?_
 refine q02 rfl (fun g => ?_) (fun g => ?_)
 ·rw [q06] at g
  have hd : qpv p = (q1K p p.length).reverse := by rw [qpv, if_pos g]
  rw [hd]
  generalize q1K p p.length = c at *
  refine go 800 rfl ?_
  refine q7A (fn := k_slices_Reverse_Spot_Spot) rfl rfl ?_
  refine rev47 c (by omega) (OldR.of rfl rfl) fun h' z' hold => ?_
  obtain ⟨⟨h0, rfl⟩, z0, rfl⟩ := hold
  have hl : c.length = c.reverse.length := by simp
  rw [hl] at hcl
  rw [hl]
  generalize c.reverse = r at *
  refine go 800 rfl ?_
  refine q0p (S := fun k : Nat => ([.ref 0 0 (r).length, q01 (q0G (r) k), .ref 0 0 (r).length, q01 (r).length, q01 k], [some (.row ((r).map Spot.enc) 2), none, none, none, none], [0, 0, 0, 0, 0])) (C := fun k => k ≤ (r).length) (m := fun k => (r).length - k) 0 (Nat.zero_le _) (by omega) ?_ ?_
  ·exact q03 rfl ⟨q04 q0h _, q04 q0h _, trivial⟩ (by simp [q01, q0G])
  intro k hk N hN
  refine go 800 rfl ?_
  refine q02 rfl (fun e1 => ?_) (fun e1 => ?_)
  ·rw [q06] at e1
   have hlt : k < (r).length := by omega
   have w1 : IntKind.i64.wrap ((k : Int) + 1) = ((k + 1 : Nat) : Int) := wrap64 (by omega) (by omega)
   have hfl := q8J (r) k
   refine go 800 rfl ?_
   refine q0B k rfl rfl rfl rfl rfl (by omega) ?_
   refine go 800 rfl ?_
   refine q1O (enc := Spot.enc) (r) k (pt (r) k) rfl (Nat.zero_add _) (fun _ => rfl) rfl (by rw [q0F hlt]; exact List.getElem?_eq_getElem _) ?_
   refine go 800 rfl ?_
   refine q0B (q0G (r) k) rfl rfl rfl rfl rfl (by omega) ?_
   refine go 800 rfl ?_
   refine q1O (enc := Spot.enc) (r) (q0G (r) k) (pt (r) (q0G (r) k)) rfl (Nat.zero_add _) (fun _ => rfl) rfl (by rw [q0F (by omega)]; exact List.getElem?_eq_getElem _) ?_
   refine go 800 rfl ?_
   have yes : lexB (pt (r) k) (pt (r) (q0G (r) k)) = true → q0G (r) (k + 1) = k := fun h => by rw [q0G, if_pos h]
   have no : lexB (pt (r) k) (pt (r) (q0G (r) k)) = false → q0G (r) (k + 1) = q0G (r) k := fun h => by rw [q0G, if_neg (by rw [h]; decide)]
   refine q09 rfl (fun g1 => ?_) (fun g1 => ?_)
   ·rw [q06] at g1
    have hy := yes (by simp [lexB, g1])
    refine go 800 rfl ?_
    refine q0m rfl ?_
    refine go 800 rfl ?_
    refine q05 ?_
    exact hN (k + 1) hlt (by omega) (q03 rfl ⟨q04 q0h _, q04 q0h _, trivial⟩ (by simp [q01, hy, w1]))
   ·rw [q07] at g1
    refine go 800 rfl ?_
    refine q09 rfl (fun g2 => ?_) (fun g2 => ?_)
    ·rw [q2z] at g2
     refine go 800 rfl ?_
     refine q02 rfl (fun g3 => ?_) (fun g3 => ?_)
     ·rw [q06] at g3
      have hy := yes (by simp [lexB, g2, g3])
      refine go 800 rfl ?_
      refine q05 ?_
      exact hN (k + 1) hlt (by omega) (q03 rfl ⟨q04 q0h _, q04 q0h _, trivial⟩ (by simp [q01, hy, w1]))
     ·rw [q07] at g3
      have hy := no (by simp [lexB]; omega)
      refine go 800 rfl ?_
      refine q05 ?_
      exact hN (k + 1) hlt (by omega) (q03 rfl ⟨q04 q0h _, q04 q0h _, trivial⟩ (by simp [q01, hy, w1]))
    ·rw [q1w] at g2
     have hy := no (by simp [lexB]; omega)
     refine go 800 rfl ?_
     refine q0n rfl ?_
     refine go 800 rfl ?_
     refine q05 ?_
     exact hN (k + 1) hlt (by omega) (q03 rfl ⟨q04 q0h _, q04 q0h _, trivial⟩ (by simp [q01, hy, w1]))
  rw [q07] at e1
  obtain rfl : k = (r).length := by omega
  clear hN
  have hfl := q8J (r) (r).length
  have hfin : PU q2m [q7Z [(r).drop (q0G (r) (r).length), (r).take (q0G (r) (r).length)]] = some (q0g (qkB (r))) := by
   rw [qmD _ (by simp; omega) (by simp)]
   simp [qkB]
  refine go 800 rfl ?_
  refine q05 ?_
  refine go 800 rfl ?_
  by_cases h0 : q0G (r) (r).length = 0
  ·refine qlk (q0G (r) (r).length) (r).length rfl rfl rfl ⟨_, _, rfl, rfl⟩ rfl ⟨hfl, Nat.le_refl _⟩ ?_
   rw [if_pos h0]
   refine go 800 rfl ?_
   refine q8n (q0G (r) (r).length) rfl rfl rfl ⟨_, _, rfl, rfl⟩ hfl ?_
   refine go 800 rfl ?_
   refine q40 [q7Z [(r).drop (q0G (r) (r).length), (r).take (q0G (r) (r).length)]] rfl (q5X rfl (Nat.le_refl 2) ?_ (fun k hk => hk)) hfin fun z => ?_
   ·simp only [List.take, List.mapM_cons, List.mapM_nil]
    rw [q6u rfl (by omega), q6u rfl (by omega), h0]
    simp
   ·refine go 800 rfl ?_
    exact q0c rfl rfl rfl trivial rfl
  ·have hlt := qi2 (r) (r).length (by omega)
   refine qlk (q0G (r) (r).length) (r).length rfl rfl rfl ⟨_, _, rfl, rfl⟩ rfl ⟨hfl, Nat.le_refl _⟩ ?_
   rw [if_neg h0, if_neg (by omega)]
   refine go 800 rfl ?_
   refine q8n (q0G (r) (r).length) rfl rfl rfl ⟨_, _, rfl, rfl⟩ hfl ?_
   refine go 800 rfl ?_
   refine q40 [q7Z [(r).drop (q0G (r) (r).length), (r).take (q0G (r) (r).length)]] rfl (q5X rfl (Nat.le_refl 2) ?_ (fun k hk => hk)) hfin fun z => ?_
   ·simp only [List.take, List.mapM_cons, List.mapM_nil]
    rw [q6u rfl (by omega), q6u rfl (by omega)]
    have e1 : ((r).drop (0 + q0G (r) (r).length)).take ((r).length - q0G (r) (r).length) = (r).drop (q0G (r) (r).length) := by
     rw [Nat.zero_add]; exact List.take_of_length_le (by simp)
    rw [e1]; simp
   ·refine go 800 rfl ?_
    exact q0c rfl rfl rfl trivial rfl
 ·rw [q07] at g
  have hd : qpv p = q1K p p.length := by rw [qpv, if_neg (by omega)]
  rw [hd]
  generalize q1K p p.length = r at *
  refine go 800 rfl ?_
  refine q0p (S := fun k : Nat => ([.ref 0 0 (r).length, q01 (q0G (r) k), .ref 0 0 (r).length, q01 (r).length, q01 k], [some (.row ((r).map Spot.enc) 2), none, none, none, none], [0, 0, 0, 0, 0])) (C := fun k => k ≤ (r).length) (m := fun k => (r).length - k) 0 (Nat.zero_le _) (by omega) ?_ ?_
  ·exact q03 rfl ⟨q04 q0h _, q04 q0h _, trivial⟩ (by simp [q01, q0G])
  intro k hk N hN
  refine go 800 rfl ?_
  refine q02 rfl (fun e1 => ?_) (fun e1 => ?_)
  ·rw [q06] at e1
   have hlt : k < (r).length := by omega
   have w1 : IntKind.i64.wrap ((k : Int) + 1) = ((k + 1 : Nat) : Int) := wrap64 (by omega) (by omega)
   have hfl := q8J (r) k
   refine go 800 rfl ?_
   refine q0B k rfl rfl rfl rfl rfl (by omega) ?_
   refine go 800 rfl ?_
   refine q1O (enc := Spot.enc) (r) k (pt (r) k) rfl (Nat.zero_add _) (fun _ => rfl) rfl (by rw [q0F hlt]; exact List.getElem?_eq_getElem _) ?_
   refine go 800 rfl ?_
   refine q0B (q0G (r) k) rfl rfl rfl rfl rfl (by omega) ?_
   refine go 800 rfl ?_
   refine q1O (enc := Spot.enc) (r) (q0G (r) k) (pt (r) (q0G (r) k)) rfl (Nat.zero_add _) (fun _ => rfl) rfl (by rw [q0F (by omega)]; exact List.getElem?_eq_getElem _) ?_
   refine go 800 rfl ?_
   have yes : lexB (pt (r) k) (pt (r) (q0G (r) k)) = true → q0G (r) (k + 1) = k := fun h => by rw [q0G, if_pos h]
   have no : lexB (pt (r) k) (pt (r) (q0G (r) k)) = false → q0G (r) (k + 1) = q0G (r) k := fun h => by rw [q0G, if_neg (by rw [h]; decide)]
   refine q09 rfl (fun g1 => ?_) (fun g1 => ?_)
   ·rw [q06] at g1
    have hy := yes (by simp [lexB, g1])
    refine go 800 rfl ?_
    refine q0m rfl ?_
    refine go 800 rfl ?_
    refine q05 ?_
    exact hN (k + 1) hlt (by omega) (q03 rfl ⟨q04 q0h _, q04 q0h _, trivial⟩ (by simp [q01, hy, w1]))
   ·rw [q07] at g1
    refine go 800 rfl ?_
    refine q09 rfl (fun g2 => ?_) (fun g2 => ?_)
    ·rw [q2z] at g2
     refine go 800 rfl ?_
     refine q02 rfl (fun g3 => ?_) (fun g3 => ?_)
     ·rw [q06] at g3
      have hy := yes (by simp [lexB, g2, g3])
      refine go 800 rfl ?_
      refine q05 ?_
      exact hN (k + 1) hlt (by omega) (q03 rfl ⟨q04 q0h _, q04 q0h _, trivial⟩ (by simp [q01, hy, w1]))
     ·rw [q07] at g3
      have hy := no (by simp [lexB]; omega)
      refine go 800 rfl ?_
      refine q05 ?_
      exact hN (k + 1) hlt (by omega) (q03 rfl ⟨q04 q0h _, q04 q0h _, trivial⟩ (by simp [q01, hy, w1]))
    ·rw [q1w] at g2
     have hy := no (by simp [lexB]; omega)
     refine go 800 rfl ?_
     refine q0n rfl ?_
     refine go 800 rfl ?_
     refine q05 ?_
     exact hN (k + 1) hlt (by omega) (q03 rfl ⟨q04 q0h _, q04 q0h _, trivial⟩ (by simp [q01, hy, w1]))
  rw [q07] at e1
  obtain rfl : k = (r).length := by omega
  clear hN
  have hfl := q8J (r) (r).length
  have hfin : PU q2m [q7Z [(r).drop (q0G (r) (r).length), (r).take (q0G (r) (r).length)]] = some (q0g (qkB (r))) := by
   rw [qmD _ (by simp; omega) (by simp)]
   simp [qkB]
  refine go 800 rfl ?_
  refine q05 ?_
  refine go 800 rfl ?_
  by_cases h0 : q0G (r) (r).length = 0
  ·refine qlk (q0G (r) (r).length) (r).length rfl rfl rfl ⟨_, _, rfl, rfl⟩ rfl ⟨hfl, Nat.le_refl _⟩ ?_
   rw [if_pos h0]
   refine go 800 rfl ?_
   refine q8n (q0G (r) (r).length) rfl rfl rfl ⟨_, _, rfl, rfl⟩ hfl ?_
   refine go 800 rfl ?_
   refine q40 [q7Z [(r).drop (q0G (r) (r).length), (r).take (q0G (r) (r).length)]] rfl (q5X rfl (Nat.le_refl 2) ?_ (fun k hk => hk)) hfin fun z => ?_
   ·simp only [List.take, List.mapM_cons, List.mapM_nil]
    rw [q6u rfl (by omega), q6u rfl (by omega), h0]
    simp
   ·refine go 800 rfl ?_
    exact q0c rfl rfl rfl trivial rfl
  ·have hlt := qi2 (r) (r).length (by omega)
   refine qlk (q0G (r) (r).length) (r).length rfl rfl rfl ⟨_, _, rfl, rfl⟩ rfl ⟨hfl, Nat.le_refl _⟩ ?_
   rw [if_neg h0, if_neg (by omega)]
   refine go 800 rfl ?_
   refine q8n (q0G (r) (r).length) rfl rfl rfl ⟨_, _, rfl, rfl⟩ hfl ?_
   refine go 800 rfl ?_
   refine q40 [q7Z [(r).drop (q0G (r) (r).length), (r).take (q0G (r) (r).length)]] rfl (q5X rfl (Nat.le_refl 2) ?_ (fun k hk => hk)) hfin fun z => ?_
   ·simp only [List.take, List.mapM_cons, List.mapM_nil]
    rw [q6u rfl (by omega), q6u rfl (by omega)]
    have e1 : ((r).drop (0 + q0G (r) (r).length)).take ((r).length - q0G (r) (r).length) = (r).drop (q0G (r) (r).length) := by
     rw [Nat.zero_add]; exact List.take_of_length_le (by simp)
    rw [e1]; simp
   ·refine go 800 rfl ?_
    exact q0c rfl rfl rfl trivial rfl
end Go.F

namespace Go.F
def qgK (u : List Spot) (z : Int) : Int := q0X (cyc u (z - 1)) (cyc u z) (cyc u (z + 1))
theorem qwC {p : List Spot} {i : Nat} (h : i < p.length) : qsw p i = qgK p i := by
 unfold qsw qgK
 have e1 : cyc p ((i : Int) - 1) = pt p ((i + p.length - 1) % p.length) := by
  rw [← q7D]
  refine q8E ⟨-1, ?_⟩
  omega
 have e2 : cyc p ((i : Int) + 1) = pt p ((i + 1) % p.length) := q7D (i := i + 1)
 rw [e1, e2, qdp h]
def qaX (u : List Spot) (a : Int) : Nat → List Spot
 | 0 => []
 | k + 1 => if qgK u (a + k) ≠ 0 then qaX u a k ++ [cyc u (a + k)] else qaX u a k
theorem qkC (u : List Spot) (a : Int) (j : Nat) : ∀ k, qaX u a (j + k) = qaX u a j ++ qaX u (a + j) k
 | 0 => by simp [qaX]
 | k + 1 => by
   have e : a + ((j + k : Nat) : Int) = a + j + k := by omega
   rw [← Nat.add_assoc, qaX, qaX, qkC u a j k, e]
   split <;> simp
theorem qnM (u : List Spot) (z : Int) : qgK u (z + u.length) = qgK u z := by
 unfold qgK
 rw [q7Q, show z + (u.length : Int) - 1 = (z - 1) + u.length by omega, q7Q, show z + (u.length : Int) + 1 = (z + 1) + u.length by omega, q7Q]
theorem qiC (u : List Spot) (a : Int) : ∀ k, qaX u (a + u.length) k = qaX u a k
 | 0 => rfl
 | k + 1 => by
   have e : a + (u.length : Int) + k = (a + k) + u.length := by omega
   rw [qaX, qaX, qiC u a k, e, qnM, q7Q]
theorem qe3 (p : List Spot) : ∀ k, k ≤ p.length → q1K p k = qaX p 0 k
 | 0, _ => rfl
 | k + 1, h => by
   have e : (0 : Int) + (k : Int) = k := by omega
   rw [q1K, qaX, qe3 p k (by omega), qwC (by omega), e, qdp (by omega)]
theorem qpw {u v : List Spot} {c : Nat} (h : Img (fun s => s) 1 false c u v) (h0 : 0 < u.length) (hc : c ≤ u.length) : ∃ A B, q1K u u.length = A ++ B ∧ q1K v v.length = B ++ A := by
 have hcy : ∀ i : Int, cyc v i = cyc u ((c : Int) + i) := fun i => by
  have := h.cyc h0 i
  simpa using this
 have hb : ∀ i : Int, qgK v i = qgK u ((c : Int) + i) := by
  intro i
  unfold qgK
  rw [hcy, hcy, hcy, show (c : Int) + (i - 1) = c + i - 1 by omega, show (c : Int) + (i + 1) = c + i + 1 by omega]
 have hseg : ∀ k, qaX v 0 k = qaX u c k := by
  intro k
  induction k with
  | zero => rfl
  | succ k ih =>
    have e : (0 : Int) + (k : Int) = k := by omega
    rw [qaX, qaX, ih, e, hb, hcy]
 refine ⟨qaX u 0 c, qaX u c (u.length - c), ?_, ?_⟩
 ·rw [qe3 u _ (Nat.le_refl _)]
  have := qkC u 0 c (u.length - c)
  rw [show c + (u.length - c) = u.length by omega, show (0 : Int) + (c : Int) = c by omega] at this
  exact this
 ·rw [qe3 v _ (Nat.le_refl _), hseg, h.1]
  have := qkC u c (u.length - c) c
  rw [show u.length - c + c = u.length by omega, show (c : Int) + ((u.length - c : Nat) : Int) = 0 + u.length by omega, qiC] at this
  exact this
theorem qvq (a : Spot) : lexB a a = false := by simp [lexB]
theorem qty {a b : Spot} (h1 : lexB a b = false) (h2 : lexB b a = false) : a = b := by
 obtain ⟨ax, ay⟩ := a
 obtain ⟨bx, by'⟩ := b
 simp only [lexB, Bool.or_eq_false_iff, Bool.and_eq_false_iff, decide_eq_false_iff_not, Spot.mk.injEq] at *
 omega
theorem qrf {a b c : Spot} (h1 : lexB a b = true) (h2 : lexB c b = false) : lexB c a = false := by
 simp only [lexB, Bool.or_eq_true, Bool.and_eq_true, decide_eq_true_eq, Bool.or_eq_false_iff, Bool.and_eq_false_iff, decide_eq_false_iff_not] at *
 omega
theorem qkD (c : List Spot) : ∀ k, ∀ j, j < k → lexB (pt c j) (pt c (q0G c k)) = false
 | 0, j, h => absurd h (by omega)
 | k + 1, j, h => by
   have ih := qkD c k
   rw [q0G]
   split
   ·rename_i hl
    by_cases e : j = k
    ·subst e; exact qvq _
    ·exact qrf hl (ih j (by omega))
   ·rename_i hl
    by_cases e : j = k
    ·subst e; simpa using hl
    ·exact ih j (by omega)
theorem qgL {α : Type} {m : α} : ∀ {P Q P' Q' : List α}, m ∉ P → m ∉ P' → P ++ m :: Q = P' ++ m :: Q' → P = P' ∧ Q = Q'
 | [], Q, [], Q', _, _, h => ⟨rfl, by simpa using h⟩
 | [], Q, x :: P', Q', _, h2, h => by
   simp only [List.nil_append, List.cons_append, List.cons.injEq] at h
   exact absurd (by rw [← h.1]; exact List.mem_cons_self) h2
 | x :: P, Q, [], Q', h1, _, h => by
   simp only [List.nil_append, List.cons_append, List.cons.injEq] at h
   exact absurd (by rw [h.1]; exact List.mem_cons_self) h1
 | x :: P, Q, y :: P', Q', h1, h2, h => by
   simp only [List.cons_append, List.cons.injEq] at h
   have := qgL (fun hm => h1 (List.mem_cons_of_mem _ hm)) (fun hm => h2 (List.mem_cons_of_mem _ hm)) h.2
   exact ⟨by rw [h.1, this.1], this.2⟩
theorem qkE {c : List Spot} (h : c ≠ []) (hn : c.Nodup) : ∃ m P Q, c = P ++ m :: Q ∧ m ∉ P ∧ m ∉ Q ∧ qkB c = m :: Q ++ P ∧ ∀ x ∈ c, lexB x m = false := by
 have hl : 0 < c.length := List.length_pos_iff.2 h
 have hf := qi2 c c.length hl
 have hd : c.drop (q0G c c.length) = c[q0G c c.length] :: c.drop (q0G c c.length + 1) := List.drop_eq_getElem_cons hf
 have hc : c = c.take (q0G c c.length) ++ c[q0G c c.length] :: c.drop (q0G c c.length + 1) := by
  rw [← hd, List.take_append_drop]
 refine ⟨c[q0G c c.length], c.take (q0G c c.length), c.drop (q0G c c.length + 1), hc, ?_, ?_, ?_, ?_⟩
 ·intro hm
  rw [hc, List.nodup_append] at hn
  exact hn.2.2 _ hm _ List.mem_cons_self rfl
 ·intro hm
  rw [hc, List.nodup_append] at hn
  have := hn.2.1
  rw [List.nodup_cons] at this
  exact this.1 hm
 ·rw [qkB, hd]
 ·intro x hx
  obtain ⟨j, hj, rfl⟩ := List.getElem_of_mem hx
  have := qkD c c.length j hj
  rw [q0F hj, q0F hf] at this
  exact this
theorem qpx {A B : List Spot} (hn : (A ++ B).Nodup) : qkB (A ++ B) = qkB (B ++ A) := by
 by_cases h : A ++ B = []
 ·obtain ⟨rfl, rfl⟩ := List.append_eq_nil_iff.1 h; rfl
 have hn' : (B ++ A).Nodup := by
  rw [List.nodup_append] at hn ⊢
  exact ⟨hn.2.1, hn.1, fun a ha b hb e => hn.2.2 b hb a ha e.symm⟩
 have h' : B ++ A ≠ [] := by
  intro e
  obtain ⟨rfl, rfl⟩ := List.append_eq_nil_iff.1 e
  exact h rfl
 obtain ⟨m, P, Q, e1, e2, e3, e4, e5⟩ := qkE h hn
 obtain ⟨m', P', Q', f1, f2, f3, f4, f5⟩ := qkE h' hn'
 have hm : m ∈ A ++ B := by rw [e1]; simp
 have hm' : m' ∈ B ++ A := by rw [f1]; simp
 have hsw : ∀ x : Spot, x ∈ A ++ B ↔ x ∈ B ++ A := by intro x; simp [or_comm]
 have he : m = m' := qty (f5 m ((hsw m).1 hm)) (e5 m' ((hsw m').2 hm'))
 subst he
 rw [e4, f4]
 have key : ∀ {A B P Q P' Q' : List Spot}, m ∈ A → A ++ B = P ++ m :: Q → m ∉ P → m ∉ Q → B ++ A = P' ++ m :: Q' → m ∉ P' → m :: Q ++ P = m :: Q' ++ P' := by
  intro A B P Q P' Q' hA e1 e2 e3 f1 f2
  obtain ⟨A1, A2, rfl⟩ := List.append_of_mem hA
  have nA1 : m ∉ A1 := by
   intro hx
   obtain ⟨X, Y, rfl⟩ := List.append_of_mem hx
   have e : X ++ m :: (Y ++ m :: A2 ++ B) = P ++ m :: Q := by rw [← e1]; simp
   by_cases hX : m ∈ X
   ·obtain ⟨X1, X2, rfl⟩ := List.append_of_mem hX
    have : m ∈ P ∨ m ∈ Q := by
     have h1 : ((X1 ++ m :: X2) ++ m :: (Y ++ m :: A2 ++ B)).count m = (P ++ m :: Q).count m := by rw [e]
     simp only [List.count_append, List.count_cons_self] at h1
     have h2 : P.count m = 0 := List.count_eq_zero.2 e2
     have h3 : Q.count m = 0 := List.count_eq_zero.2 e3
     omega
    rcases this with h | h
    ·exact e2 h
    ·exact e3 h
   ·obtain ⟨_, rfl⟩ := qgL hX e2 e
    exact e3 (by simp)
  have e : A1 ++ m :: (A2 ++ B) = P ++ m :: Q := by rw [← e1]; simp
  obtain ⟨rfl, rfl⟩ := qgL nA1 e2 e
  have nB : m ∉ B := fun h => e3 (by simp [h])
  have f : (B ++ A1) ++ m :: A2 = P' ++ m :: Q' := by rw [← f1]; simp
  obtain ⟨rfl, rfl⟩ := qgL (fun h => by rcases List.mem_append.1 h with h | h; exact nB h; exact nA1 h) f2 f
  simp
 rcases List.mem_append.1 hm with hA | hB
 ·exact key hA e1 e2 e3 f1 f2
 ·exact (key hB f1 f2 f3 e1 e2).symm
theorem qiD (p : List Spot) : ∀ k, k ≤ p.length → List.Sublist (q1K p k) (p.take k)
 | 0, _ => by simp [q1K]
 | k + 1, h => by
   have ih := qiD p k (by omega)
   rw [List.take_succ_eq_append_getElem (by omega), q1K]
   split
   ·rw [q0F (by omega)]
    exact ih.append (List.Sublist.refl _)
   ·exact ih.trans (List.sublist_append_left _ _)
theorem qnN {p : List Spot} (h : q47 p) : p.Nodup := by
 rw [List.nodup_iff_pairwise_ne, List.pairwise_iff_getElem]
 intro i j hi hj hij e
 apply h.1 j hj
 rw [q0F hj, ← e]
 rw [List.mem_take_iff_getElem]
 exact ⟨i, by omega, rfl⟩
theorem qlJ {p : List Spot} (h : q1V p = 0) : (q1K p p.length).Nodup := by
 have h1 := qiD p p.length (Nat.le_refl _)
 rw [List.take_length] at h1
 exact h1.nodup (qnN (q1g h).2.2.2.2)
theorem qvr {u v : List Spot} {c : Nat} (h : Img (fun s => s) 1 false c u v) (hc : c ≤ u.length) (hu : q1V u = 0) : q8r v = q8r u := by
 have hv := h.check hu
 have h3 := (q1g hu).1
 have ha := h.area (by omega)
 simp only [Bool.false_eq_true, if_false, Int.one_mul] at ha
 obtain ⟨A, B, e1, e2⟩ := qpw h (by omega) hc
 have hn := qlJ hu
 rw [e1] at hn
 rw [q8r, q8r, if_pos hu, if_pos hv, qpv, qpv, ha, e1, e2]
 split
 ·rw [List.reverse_append, List.reverse_append]
  have hn2 : (B.reverse ++ A.reverse).Nodup := by
   rw [← List.reverse_append]
   exact List.pairwise_reverse.2 (hn.imp fun h => h.symm)
  rw [qpx hn2]
 ·rw [qpx hn]
theorem qvs {p : List Spot} (hw : ∀ s ∈ p, q0v s 1048576 = true) (t : Turn) : Img (q8i t) (sgT t) t.flip (if t.flip then p.length - 1 else 0) p (q7Y t p) := by
 have hl : (q7Y t p).length = p.length := by simp [q7Y]
 refine ⟨hl, qet t, fun i hi => ?_⟩
 rw [hl] at hi
 rw [q0F (by omega)]
 simp only [q7Y, List.getElem_map, List.getElem_range]
 rw [qgc (Sm.of (hw _ (by rw [q0F (by split <;> omega)]; exact List.getElem_mem _)) (by decide))]
 congr 1
 split
 ·have e : ((p.length - 1 : Nat) : Int) - (i : Int) = ((p.length - 1 - i : Nat) : Int) := by omega
  rw [e, qdp (by omega)]
 ·have e : ((0 : Nat) : Int) + (i : Int) = (i : Int) := by omega
  rw [e, qdp (by omega)]
theorem qwD {T : Spot → Spot} {w : Int} {b : Bool} {c d : Nat} {p u v : List Spot} (hu : Img T w b c p u) (hv : Img T w b d p v) (h0 : 0 < p.length) (hc : c ≤ p.length) (hd : d ≤ p.length) : ∃ e, e ≤ u.length ∧ Img (fun s => s) 1 false e u v := by
 have hlu := hu.1
 have hlv := hv.1
 have hz : ∀ z : Int, 0 ≤ z % (p.length : Int) ∧ z % (p.length : Int) < p.length := fun z => ⟨Int.emod_nonneg z (by omega), Int.emod_lt_of_pos z (by omega)⟩
 refine ⟨((if b then (c : Int) - d else (d : Int) - c) % (p.length : Int)).toNat, ?_, ?_, quG, fun i hi => ?_⟩
 ·have := hz (if b then (c : Int) - d else (d : Int) - c)
  omega
 ·omega
 ·rw [hv.2.2 i hi, hu.cyc h0]
  congr 1
  refine q8E ?_
  have h1 := hz (if b then (c : Int) - d else (d : Int) - c)
  have h2 := Int.emod_add_mul_ediv (if b then (c : Int) - d else (d : Int) - c) p.length
  simp only [Bool.false_eq_true, if_false]
  cases b with
  | true =>
    simp only [if_true] at h1 h2 ⊢
    exact ⟨-(((c : Int) - d) / p.length), by rw [Int.mul_neg]; omega⟩
  | false =>
    simp only [Bool.false_eq_true, if_false] at h1 h2 ⊢
    exact ⟨((d : Int) - c) / p.length, by omega⟩
theorem beg_le {l : List Edge} (hc : q0J l = 0) (t : Turn) : beg t l ≤ (q0k l).length := by
 unfold beg
 split
 ·rw [← qeu]
  exact qdr (by have := (q14 hc).1; omega) (Nat.le_refl _)
 ·exact Nat.zero_le _
theorem qpy {l : List Edge} (hc : q0J l = 0) (t : Turn) : q8r (q7Y t (q0k l)) = q8r (q0k (q0N t l)) ∧ (q8r (q7Y t (q0k l))).2 = 0 := by
 have hp := (q14 hc).2.2.2.2
 have h3 := (q1g hp).1
 have i1 := qvs (qoP hc) t
 have i2 := qev hc t
 have hu := i1.check hp
 obtain ⟨e, he, i3⟩ := qwD i1 i2 (by omega) (by split <;> omega) (beg_le hc t)
 refine ⟨(qvr i3 he hu).symm, ?_⟩
 rw [q8r, if_pos hu]
end Go.F

namespace Go.F
attribute [local irreducible] IntKind.wrap wpM
theorem qvd (c : List Spot) : (qkB c).length = c.length := by simp [qkB]; omega
theorem qtl (p : List Spot) : (q8r p).1.length ≤ p.length := by
 unfold q8r
 split
 ·simp only [qvd, qpv]
  have := q9O p p.length
  split <;> simp <;> omega
 ·simp
set_option maxHeartbeats 2000000 in
theorem qlE (l : List Edge) (t : Turn) : PU qeR [q0s l, t.enc] = some (.bool true) := by
 obtain ⟨b, hb, hbs⟩ := q4h l
 have s2 := q1h l
 refine q0f (fn := q3G) rfl (q0a ?_)
 refine go 800 rfl ?_
 refine q00 rfl rfl hb ?_
 cases b with
 | false =>
   refine go 800 rfl ?_
   refine q0o rfl ?_
   refine go 800 rfl ?_
   refine q0m rfl ?_
   refine go 800 rfl ?_
   refine q00 rfl rfl q1F ?_
   refine go 800 rfl ?_
   exact q0c rfl rfl rfl trivial rfl
 | true =>
   obtain ⟨g1, g2⟩ := hbs rfl
   refine go 800 rfl ?_
   refine q0u rfl ?_
   refine go 800 rfl ?_
   refine q00 rfl rfl s2 ?_
   refine go 800 rfl ?_
   refine q02 rfl (fun h => ?_) (fun h => ?_)
   ·refine go 800 rfl ?_
    refine q00 rfl rfl q1F ?_
    refine go 800 rfl ?_
    exact q0c rfl rfl rfl trivial rfl
   have hc : q0J l = 0 := q0S.1 h
   have hc' := qds hc t
   have hp40 := (q1g (q14 hc).2.2.2.2).2.1
   have s3 := q1Q l t (by omega) (fun e he => by have := g2 e he; omega)
   have s4 := q1r l
   rw [q5A, if_pos hc] at s4
   have s5 := q1r (q0N t l)
   rw [q5A, if_pos hc'] at s5
   have s6 := qnK t (q0k l) (by omega)
   have s7 := qmE (q7Y t (q0k l))
   have s8 := qmE (q0k (q0N t l))
   obtain ⟨n1, n2⟩ := qpy hc t
   rw [← n1] at s8
   rw [n2] at s7 s8
   have hl := qtl (q7Y t (q0k l))
   have hpl : (q7Y t (q0k l)).length = (q0k l).length := by simp [q7Y]
   have s9 := q2W (q8r (q7Y t (q0k l))).1 (q8r (q7Y t (q0k l))).1 (by omega)
   rw [decide_eq_true rfl] at s9
   have hvl := (qev hc t).1
   have he2 : ∀ {x : Int} {P : Prop}, eqb x x = false → P := fun h => absurd rfl (q1w.1 h)
   refine go 800 rfl ?_
   refine q00 rfl rfl s4 ?_
   refine go 800 rfl ?_
   refine q00 rfl rfl s3 ?_
   refine go 800 rfl ?_
   refine q00 rfl rfl s5 ?_
   refine go 800 rfl ?_
   refine q00 rfl rfl s6 ?_
   refine go 800 rfl ?_
   refine q00 rfl rfl s7 ?_
   refine go 800 rfl ?_
   refine q00 rfl rfl s8 ?_
   refine go 800 rfl ?_
   refine q09 rfl (fun _ => ?_) he2
   refine go 800 rfl ?_
   refine q09 rfl (fun _ => ?_) he2
   refine go 800 rfl ?_
   refine q00 rfl rfl s9 ?_
   refine go 800 rfl ?_
   refine q0o rfl ?_
   refine go 800 rfl ?_
   rw [List.length_map, List.length_map, hvl]
   refine q09 rfl (fun _ => ?_) he2
   refine go 800 rfl ?_
   refine q00 rfl rfl q1F ?_
   refine go 800 rfl ?_
   exact q0c rfl rfl rfl trivial rfl
end Go.F
