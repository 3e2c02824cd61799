/- Parts of the proof, part 48: Dec, Turn4, LPlc, LTb. -/
import Derived.Test.YtjjkgfikkihokaaGreatZ43
import Derived.Test.YtjjkgfikkihokaaGreatZ47
import Derived.Test.YtjjkgfikkihokaaGreatZ41
import Derived.Test.YtjjkgfikkihokaaGreatZ45
set_option linter.all false
namespace Go.F
theorem q5M {k : IntKind} {x : List D} (h : HasC (.int k) x) : ∃ n : Int, x = [.int k n] ∧ k.min ≤ n ∧ n ≤ k.max := by
 cases h with
 | int _ n hn => exact ⟨n, rfl, hn⟩
theorem qoS {x : List D} (h : HasC .bool x) : ∃ b : Bool, x = [.bool b] := by
 cases h with
 | bool b => exact ⟨b, rfl⟩
theorem qgf {x : List D} (h : HasC .str x) : ∃ s : ByteArray, x = [.str s] ∧ s.size ≤ maxLen := by
 cases h with
 | str s hs => exact ⟨s, rfl, hs⟩
theorem q6K {x : List D} (h : HasC (.st []) x) : x = [] := by
 cases h; rfl
theorem q1u {s : Sh} {ss : List Sh} {x : List D} (h : HasC (.st (s :: ss)) x) : ∃ a b, x = a ++ b ∧ HasC s a ∧ HasC (.st ss) b := by
 cases h with
 | stc _ _ a b ha hb => exact ⟨a, b, rfl, ha, hb⟩
def qfF : Sh := .st [.int .i64, .int .i64]
def qjJ : Sh := .st [.str, .sl qfF]
def q17 : Sh := .sl qjJ
theorem qoT {x : List D} (h : HasC qfF x) : ∃ s : Spot, mkD qfF x = s.enc ∧ x = [.int .i64 s.x, .int .i64 s.y] ∧ (IntKind.i64.min ≤ s.x ∧ s.x ≤ IntKind.i64.max) ∧ (IntKind.i64.min ≤ s.y ∧ s.y ≤ IntKind.i64.max) := by
 obtain ⟨a, b, rfl, ha, hb⟩ := q1u h
 obtain ⟨c, d, rfl, hc, hd⟩ := q1u hb
 obtain ⟨n, rfl, hn⟩ := q5M ha
 obtain ⟨m, rfl, hm⟩ := q5M hc
 obtain rfl := q6K hd
 exact ⟨⟨n, m⟩, rfl, rfl, hn, hm⟩
end Go.F

namespace Go.F
def I64 (x : Int) : Prop := -9223372036854775808 ≤ x ∧ x ≤ 9223372036854775807
def In (s : Spot) : Prop := I64 s.x ∧ I64 s.y
def InE (l : List Edge) : Prop := ∀ e ∈ l, ∀ s ∈ e.line, In s
theorem qwa (x : Int) : I64 (ng x) := by
 unfold ng I64
 simp only [IntKind.wrap, IntKind.bits, IntKind.signed]
 have h1 := Int.le_bmod (x := 0 - x) (m := 2 ^ 64) (by decide)
 have h2 := Int.bmod_lt (x := 0 - x) (m := 2 ^ 64) (by decide)
 simp at h1 h2 ⊢
 omega
theorem qwb {x : Int} (h : I64 x) : ng x = if x = -9223372036854775808 then x else -x := by
 unfold I64 at h
 unfold ng
 split
 ·rename_i e; subst e; decide
 ·rw [wrap64 (by omega) (by omega)]; omega
theorem qsP {x : Int} (h : I64 x) : ng (ng x) = x := by
 have h1 := qwa x
 rw [qwb h1, qwb h]
 unfold I64 at h
 repeat' split
 all_goals omega
theorem qoy {s : Spot} (h : In s) : ∀ k, In (q4J k s)
 | 0 => h
 | k + 1 => ⟨qwa _, (qoy h k).1⟩
theorem qen {s : Spot} (h : In s) (f : Bool) : In (q3a f s) := by
 unfold q3a; split
 ·exact ⟨qwa _, h.2⟩
 ·exact h
theorem qba (s : Spot) (j : Nat) : ∀ k, q4J k (q4J j s) = q4J (j + k) s
 | 0 => rfl
 | k + 1 => by rw [q4J, qba s j k, ← Nat.add_assoc, q4J]
theorem rotN_4 {s : Spot} (h : In s) : q4J 4 s = s := by
 obtain ⟨x, y⟩ := s
 simp only [q4J]
 rw [qsP h.1, qsP h.2]
theorem qqp {s : Spot} (h : In s) (k : Nat) : q4J (k % 4) s = q4J k s := by
 induction k using Nat.strongRecOn with
 | _ k ih =>
   by_cases hk : k < 4
   ·rw [Nat.mod_eq_of_lt hk]
   ·have e : k = 4 + (k - 4) := by omega
    have e2 : k % 4 = (k - 4) % 4 := by omega
    rw [e2, ih (k - 4) (by omega)]
    conv => rhs; rw [e, ← qba, rotN_4 h]
theorem qls {s : Spot} (h : In s) {j k : Nat} (e : j % 4 = k % 4) : q4J j s = q4J k s := by
 rw [← qqp h j, ← qqp h k, e]
theorem qui {s : Spot} (h : In s) : q3a true (q4J 1 s) = q4J 3 (q3a true s) := by
 obtain ⟨x, y⟩ := s
 simp only [q4J, q3a, if_true]
 rw [qsP h.1]
theorem qqq {s : Spot} (h : In s) : ∀ k, q3a true (q4J k s) = q4J (3 * k) (q3a true s)
 | 0 => rfl
 | k + 1 => by
   rw [← qba s k 1, qui (qoy h k), qqq h k, qba]
   congr 1
theorem quj {s : Spot} (h : In s) : q3a true (q3a true s) = s := by
 obtain ⟨x, y⟩ := s
 simp only [q3a, if_true]
 rw [qsP h.1]
theorem qqr {s : Spot} (h : In s) (t u : Turn) : q19 u (q19 t s) = q19 (q2p t u) s := by
 obtain ⟨f, q⟩ := t
 obtain ⟨g, r⟩ := u
 unfold q19 q2p
 simp only
 cases g with
 | false =>
   have e : q3a false (q4J (q % 4).toNat (q3a f s)) = q4J (q % 4).toNat (q3a f s) := rfl
   rw [e, qba]
   have e2 : (f != false) = f := by cases f <;> rfl
   rw [e2]
   refine qls (qen h _) ?_
   simp only [Bool.false_eq_true, if_false]
   omega
 | true =>
   rw [qqq (qen h _), qba]
   have e2 : q3a (f != true) s = q3a true (q3a f s) := by
    cases f with
    | true => rw [quj h]; rfl
    | false => rfl
   rw [e2]
   refine qls (qen (qen h _) _) ?_
   simp only [if_true]
   omega
theorem qs1 {p : List Spot} (h : ∀ s ∈ p, In s) (t u : Turn) : q4r u (q4r t p) = q4r (q2p t u) p := by
 have hm : (p.map (q19 t)).map (q19 u) = p.map (q19 (q2p t u)) := by
  rw [List.map_map]
  exact List.map_congr_left fun s hs => qqr (h s hs) t u
 have hf : (q2p t u).flip = (t.flip != u.flip) := rfl
 unfold q4r
 rw [hf]
 cases t.flip <;> cases u.flip <;> simp [hm] <;> simp [← hm]
theorem quk (t u : Turn) {n i : Nat} (hi : i < n) : q1R t n (q1R u n i) = q1R (q2p t u) n i := by
 have hf : (q2p t u).flip = (t.flip != u.flip) := rfl
 unfold q1R
 rw [hf]
 cases t.flip <;> cases u.flip <;> simp
 rcases Nat.eq_zero_or_pos i with rfl | h
 ·simp
 ·rw [Nat.mod_eq_of_lt (show n - i < n by omega), show n - (n - i) = i by omega, Nat.mod_eq_of_lt hi]
theorem q3q (t : Turn) {l : List Edge} {i : Nat} (h : i < l.length) : eg (q0N t l) i = q1s t (eg l (q1R t l.length i)) := by
 rw [q4z (by simpa [q0N] using h)]
 simp [q0N]
theorem qhd {l : List Edge} (h : InE l) (t u : Turn) : q0N u (q0N t l) = q0N (q2p t u) l := by
 have hl : (q0N t l).length = l.length := by simp [q0N]
 have e : q0N u (q0N t l) = (List.range l.length).map fun i => q1s u (eg (q0N t l) (q1R u l.length i)) := by
  conv => lhs; rw [q0N, hl]
 rw [e]
 conv => rhs; rw [q0N]
 apply List.map_congr_left
 intro i hi
 have hi := List.mem_range.1 hi
 have hx := q7O u hi
 rw [q3q t hx, quk t u hi]
 unfold q1s
 simp only [Edge.mk.injEq, true_and]
 refine qs1 (fun s hs => h _ ?_ s hs) t u
 have hj := q7O (q2p t u) hi
 rw [q4z hj]; exact List.getElem_mem _
theorem qqs (t : Turn) : q2p t (q82 t) = ⟨false, 0⟩ := by
 obtain ⟨f, q⟩ := t
 cases f with
 | true =>
   simp only [q2p, q82, if_true, Turn.mk.injEq]
   exact ⟨rfl, by omega⟩
 | false =>
   simp only [q2p, q82, Bool.false_eq_true, if_false, Turn.mk.injEq]
   exact ⟨rfl, by omega⟩
theorem qs2 (l : List Edge) : q0N ⟨false, 0⟩ l = l := by
 unfold q0N
 apply List.ext_getElem
 ·simp
 ·intro i h1 h2
  simp only [List.getElem_map, List.getElem_range]
  have e : q1R ⟨false, 0⟩ l.length i = i := rfl
  rw [e, q4z h2]
  have e2 : q4r ⟨false, 0⟩ l[i].line = l[i].line := by
   unfold q4r
   have : q19 ⟨false, 0⟩ = id := by funext s; rfl
   rw [this]; simp
  unfold q1s
  rw [e2]
theorem qoz {l : List Edge} (h : InE l) (t : Turn) : q0N (q82 t) (q0N t l) = l := by
 rw [qhd h, qqs, qs2]
theorem q3r (t : Turn) (l : List Edge) : (q0N t l).length = l.length := by simp [q0N]
theorem qay (t : Turn) {l : List Edge} {n : Nat} (h : ∀ e ∈ l, e.line.length ≤ n) : ∀ e ∈ q0N t l, e.line.length ≤ n := by
 intro e he
 simp only [q0N, List.mem_map, List.mem_range] at he
 obtain ⟨i, hi, rfl⟩ := he
 have hx := q7O t hi
 have := h (eg l (q1R t l.length i)) (by rw [q4z hx]; exact List.getElem_mem _)
 unfold q1s q4r
 split <;> simpa using this
theorem qbb {sh : Sh} {α : Type} {enc : α → D} {P : α → Prop} (h : ∀ x, HasC sh x → ∃ a, mkD sh x = enc a ∧ P a) {c : List D} (hc : HasC (.sl sh) c) : ∃ l : List α, mkD (.sl sh) c = .lst (l.map enc) ∧ l.length ≤ maxLen ∧ ∀ a ∈ l, P a := by
 cases hc with
 | sl _ es hl he =>
   have key : ∀ es : List (List D), (∀ x ∈ es, HasC sh x) → ∃ l : List α, es.map (mkD sh) = l.map enc ∧ l.length = es.length ∧ ∀ a ∈ l, P a := by
    intro es
    induction es with
    | nil => intro _; exact ⟨[], rfl, rfl, fun _ h => (by cases h)⟩
    | cons x es ih =>
      intro hx
      obtain ⟨l, h1, h2, h3⟩ := ih fun y hy => hx y (List.mem_cons_of_mem _ hy)
      obtain ⟨a, ha, hp⟩ := h x (hx x (List.mem_cons_self ..))
      refine ⟨a :: l, by rw [List.map_cons, ha, h1, List.map_cons], by simp [h2], fun b hb => ?_⟩
      rcases List.mem_cons.1 hb with rfl | hb
      ·exact hp
      ·exact h3 b hb
   obtain ⟨l, h1, h2, h3⟩ := key es he
   exact ⟨l, by show D.lst (es.map (mkD sh)) = _; rw [h1], by omega, h3⟩
theorem qul {x : List D} (h : HasC qfF x) : ∃ s : Spot, mkD qfF x = s.enc ∧ In s := by
 obtain ⟨s, h1, _, h2, h3⟩ := qoT h
 refine ⟨s, h1, ?_, ?_⟩
 ·exact h2
 ·exact h3
theorem qum {x : List D} (h : HasC qjJ x) : ∃ e : Edge, mkD qjJ x = e.enc ∧ ∀ s ∈ e.line, In s := by
 obtain ⟨a, b, rfl, ha, hb⟩ := q1u h
 obtain ⟨c, d, rfl, hc, hd⟩ := q1u hb
 obtain ⟨s, rfl, _⟩ := qgf ha
 obtain rfl := q6K hd
 obtain ⟨l, hl, _, hp⟩ := qbb (enc := Spot.enc) (fun x hx => qul hx) hc
 refine ⟨⟨s, l⟩, ?_, hp⟩
 show D.agg ([.str s] ++ (c ++ [])) = .agg [.str s, q0g l]
 have : c = [q0g l] := by
  cases hc with
  | sl _ es _ _ => show [_] = [_]; rw [show D.lst (es.map (mkD qfF)) = q0g l from hl]
 rw [this]; rfl
theorem qs3 {x : List D} (h : HasC q17 x) : ∃ l : List Edge, mkD q17 x = q0s l ∧ InE l := by
 obtain ⟨l, h1, _, h2⟩ := qbb (fun _ hx => qum hx) h
 exact ⟨l, h1, h2⟩
end Go.F

namespace Go.F
attribute [local irreducible] IntKind.wrap wpM
def q3e : Sh := .st [.bool, .int .i64]
theorem dec_turn {x : List D} (h : HasC q3e x) : ∃ t : Turn, mkD q3e x = t.enc ∧ -9223372036854775808 ≤ t.quarter ∧ t.quarter ≤ 9223372036854775807 := by
 obtain ⟨a, b, rfl, ha, hb⟩ := q1u h
 obtain ⟨c, d, rfl, hc, hd⟩ := q1u hb
 obtain ⟨n, rfl⟩ := qoS ha
 obtain ⟨m, rfl, hm⟩ := q5M hc
 obtain rfl := q6K hd
 exact ⟨⟨n, m⟩, rfl, hm⟩
end Go.F

namespace Go.F
attribute [local irreducible] IntKind.wrap wpM
set_option maxHeartbeats 2000000 in
theorem qhV (l : List Edge) (t u : Turn) (hI : InE l) : PU qbE [q0s l, t.enc, u.enc] = some (.bool true) := by
 obtain ⟨b, hb, hbs⟩ := q4h l
 refine q0f (fn := q2K) rfl (q0a ?_)
 refine go 800 rfl ?_
 refine q00 rfl rfl hb ?_
 cases b with
 | false =>
   refine go 800 rfl ?_
   refine q0m rfl ?_
   refine go 800 rfl ?_
   refine q00 rfl rfl q1F ?_
   refine go 800 rfl ?_
   exact q0c rfl rfl rfl trivial rfl
 | true =>
   obtain ⟨g1, g2⟩ := hbs rfl
   have ht := qay t g2
   have htl := q3r t l
   have s3 := q1Q l t (by omega) (fun e he => by have := g2 e he; omega)
   have s4 := q1Q (q0N t l) (q82 t) (by omega) (fun e he => by have := ht e he; omega)
   rw [qoz hI] at s4
   have s5 := q6x l (by omega) (fun e he => by have := g2 e he; omega)
   have s6 := q1Q (q0N t l) u (by omega) (fun e he => by have := ht e he; omega)
   rw [qhd hI] at s6
   have s7 := q1Q l (q2p t u) (by omega) (fun e he => by have := g2 e he; omega)
   have s8 := q6x (q0N (q2p t u) l) (by rw [q3r]; omega) (fun e he => by have := qay (q2p t u) g2 e he; omega)
   refine go 800 rfl ?_
   refine q0n rfl ?_
   refine go 800 rfl ?_
   refine q00 rfl rfl s3 ?_
   refine go 800 rfl ?_
   refine q00 rfl rfl (qjb t) ?_
   refine go 800 rfl ?_
   refine q00 rfl rfl s4 ?_
   refine go 800 rfl ?_
   refine q00 rfl rfl s5 ?_
   refine go 800 rfl ?_
   refine q0o rfl ?_
   refine go 800 rfl ?_
   refine q00 rfl rfl s6 ?_
   refine go 800 rfl ?_
   refine q00 rfl rfl (qjc t u) ?_
   refine go 800 rfl ?_
   refine q00 rfl rfl s7 ?_
   refine go 800 rfl ?_
   refine q00 rfl rfl s8 ?_
   refine go 800 rfl ?_
   refine q0o rfl ?_
   refine go 800 rfl ?_
   refine q00 rfl rfl q1F ?_
   refine go 800 rfl ?_
   exact q0c rfl rfl rfl trivial rfl
end Go.F
