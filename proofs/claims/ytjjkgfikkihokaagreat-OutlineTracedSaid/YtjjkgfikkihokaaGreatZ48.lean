/- Parts of the proof, part 48: Dec, Turn4, LTrc, LTrd. -/
import Derived.Test.YtjjkgfikkihokaaGreatZ43
import Derived.Test.YtjjkgfikkihokaaGreatZ47
import Derived.Test.YtjjkgfikkihokaaGreatZ41
import Derived.Test.YtjjkgfikkihokaaGreatZ45
set_option linter.all false
namespace Go.F
theorem q5M {k : IntKind} {x : List D} (h : HasC (.int k) x) : ∃ n : Int, x = [.int k n] ∧ k.min ≤ n ∧ n ≤ k.max := by
 cases h with
 | int _ n hn => exact ⟨n, rfl, hn⟩
theorem qoS {x : List D} (h : HasC .bool x) : ∃ b : Bool, x = [.bool b] := by
 cases h with
 | bool b => exact ⟨b, rfl⟩
theorem qgf {x : List D} (h : HasC .str x) : ∃ s : ByteArray, x = [.str s] ∧ s.size ≤ maxLen := by
 cases h with
 | str s hs => exact ⟨s, rfl, hs⟩
theorem q6K {x : List D} (h : HasC (.st []) x) : x = [] := by
 cases h; rfl
theorem q1u {s : Sh} {ss : List Sh} {x : List D} (h : HasC (.st (s :: ss)) x) : ∃ a b, x = a ++ b ∧ HasC s a ∧ HasC (.st ss) b := by
 cases h with
 | stc _ _ a b ha hb => exact ⟨a, b, rfl, ha, hb⟩
end Go.F

namespace Go.F
def I64 (x : Int) : Prop := -9223372036854775808 ≤ x ∧ x ≤ 9223372036854775807
theorem qbb {sh : Sh} {α : Type} {enc : α → D} {P : α → Prop} (h : ∀ x, HasC sh x → ∃ a, mkD sh x = enc a ∧ P a) {c : List D} (hc : HasC (.sl sh) c) : ∃ l : List α, mkD (.sl sh) c = .lst (l.map enc) ∧ l.length ≤ maxLen ∧ ∀ a ∈ l, P a := by
 cases hc with
 | sl _ es hl he =>
   have key : ∀ es : List (List D), (∀ x ∈ es, HasC sh x) → ∃ l : List α, es.map (mkD sh) = l.map enc ∧ l.length = es.length ∧ ∀ a ∈ l, P a := by
    intro es
    induction es with
    | nil => intro _; exact ⟨[], rfl, rfl, fun _ h => (by cases h)⟩
    | cons x es ih =>
      intro hx
      obtain ⟨l, h1, h2, h3⟩ := ih fun y hy => hx y (List.mem_cons_of_mem _ hy)
      obtain ⟨a, ha, hp⟩ := h x (hx x (List.mem_cons_self ..))
      refine ⟨a :: l, by rw [List.map_cons, ha, h1, List.map_cons], by simp [h2], fun b hb => ?_⟩
      rcases List.mem_cons.1 hb with rfl | hb
      ·exact hp
      ·exact h3 b hb
   obtain ⟨l, h1, h2, h3⟩ := key es he
   exact ⟨l, by show D.lst (es.map (mkD sh)) = _; rw [h1], by omega, h3⟩
end Go.F

namespace Go.F
attribute [local irreducible] IntKind.wrap wpM
def qve : Sh := .sl (.int .u32)
def qvf : Sh := .st [.st [.bool, qve], qve]
def shPt : Sh := .st [qvf, qvf]
def qnF : Sh := .st [.str, shPt]
def q5E : Sh := .sl qnF
def qkr : Sh := .st [.str, .sl .str, .int .i64]
def q4u : Sh := .sl qkr
theorem qsj {sh : Sh} {α : Type} {enc : α → D} {P : α → Prop} (h : ∀ x, HasC sh x → ∃ a, mkD sh x = enc a ∧ P a) {c : List D} (hc : HasC (.sl sh) c) : ∃ l : List α, c = [.lst (l.map enc)] ∧ ∀ a ∈ l, P a := by
 obtain ⟨l, h1, _, h2⟩ := qbb h hc
 refine ⟨l, ?_, h2⟩
 cases hc with
 | sl _ es _ _ => rw [← h1]; rfl
theorem qww {x : List D} (h : HasC (.int .u32) x) : ∃ n : Nat, mkD (.int .u32) x = u32 n ∧ n < 4294967296 := by
 obtain ⟨n, rfl, h1, h2⟩ := q5M h
 have h1 : 0 ≤ n := h1
 have h2 : n ≤ 4294967295 := h2
 obtain ⟨m, rfl⟩ : ∃ m : Nat, n = m := ⟨n.toNat, by omega⟩
 exact ⟨m, rfl, by omega⟩
theorem qsk {x : List D} (h : HasC qve x) : ∃ l : List Nat, x = [nat l] ∧ LOk l := by
 obtain ⟨l, h1, h2⟩ := qsj (fun x hx => qww hx) h
 exact ⟨l, h1, ⟨h2⟩⟩
def RR.ok (r : RR) : Prop := LOk r.mag ∧ LOk r.den
def RP.ok (r : RP) : Prop := r.x.ok ∧ r.y.ok
theorem qsl {x : List D} (h : HasC qvf x) : ∃ r : RR, x = [.bool r.neg, nat r.mag, nat r.den] ∧ r.ok := by
 obtain ⟨a, b, rfl, ha, hb⟩ := q1u h
 obtain ⟨c, d, rfl, hc, hd⟩ := q1u hb
 obtain rfl := q6K hd
 obtain ⟨a1, a2, rfl, h1, h2⟩ := q1u ha
 obtain ⟨a3, a4, rfl, h3, h4⟩ := q1u h2
 obtain rfl := q6K h4
 obtain ⟨n, rfl⟩ := qoS h1
 obtain ⟨m, rfl, g1⟩ := qsk h3
 obtain ⟨e, rfl, g2⟩ := qsk hc
 exact ⟨⟨n, m, e⟩, rfl, g1, g2⟩
theorem qtn {x : List D} (h : HasC qnF x) : ∃ n : Nmd, mkD qnF x = n.enc ∧ n.at_.ok := by
 obtain ⟨a, b, rfl, ha, hb⟩ := q1u h
 obtain ⟨c, d, rfl, hc, hd⟩ := q1u hb
 obtain rfl := q6K hd
 obtain ⟨s, rfl, _⟩ := qgf ha
 obtain ⟨c1, c2, rfl, h1, h2⟩ := q1u hc
 obtain ⟨c3, c4, rfl, h3, h4⟩ := q1u h2
 obtain rfl := q6K h4
 obtain ⟨r1, rfl, g1⟩ := qsl h1
 obtain ⟨r2, rfl, g2⟩ := qsl h3
 exact ⟨⟨s, ⟨r1, r2⟩⟩, rfl, g1, g2⟩
theorem qks {x : List D} (h : HasC q5E x) : ∃ p : List Nmd, mkD q5E x = q4I p ∧ ∀ n ∈ p, n.at_.ok := by
 obtain ⟨l, h1, _, h2⟩ := qbb (fun x hx => qtn hx) h
 exact ⟨l, h1, h2⟩
theorem qra {x : List D} (h : HasC qkr x) : ∃ c : Crvd, mkD qkr x = c.enc ∧ I64 c.seg := by
 obtain ⟨a, b, rfl, ha, hb⟩ := q1u h
 obtain ⟨c, d, rfl, hc, hd⟩ := q1u hb
 obtain ⟨e, f, rfl, he, hf⟩ := q1u hd
 obtain rfl := q6K hf
 obtain ⟨s, rfl, _⟩ := qgf ha
 obtain ⟨n, rfl, hn⟩ := q5M he
 obtain ⟨l, rfl, _⟩ := qsj (enc := D.str) (P := fun _ => True) (fun x hx => by obtain ⟨s, rfl, _⟩ := qgf hx; exact ⟨s, rfl, trivial⟩) hc
 exact ⟨⟨s, l, n⟩, rfl, hn⟩
theorem qiB {x : List D} (h : HasC q4u x) : ∃ l : List Crvd, mkD q4u x = q1X l ∧ ∀ c ∈ l, I64 c.seg := by
 obtain ⟨l, h1, _, h2⟩ := qbb (fun x hx => qra hx) h
 exact ⟨l, h1, h2⟩
def qgF (r : RR) : Bool := decide ((r.mag.length : Int) ≤ 2) && decide ((r.den.length : Int) ≤ 2)
theorem qkt (r : RR) : PU qhN [r.enc, .int .i64 2] = some (.bool (qgF r)) := by
 refine q0f (fn := qhk) rfl (q0a ?_)
 repeat' (first
  | (refine goP 800 rfl rfl ?_)
  | (show wpM _ _ _ (Fr.ops _ _ (KOper.mk _ _ (some _) _ _ :: _) :: _) Ex.normal _ _ _ _ _; first | refine q0o rfl ?_ | refine q0u rfl ?_ | refine q09 rfl (fun _ => ?_) (fun _ => ?_))
  | (show wpM _ _ _ (Fr.code (K.cond _ _ _) :: _) Ex.normal _ _ _ _ _; first | refine q0m rfl ?_ | refine q0n rfl ?_ | refine q02 rfl (fun _ => ?_) (fun _ => ?_))
  | (show wpM _ _ _ (Fr.ops _ _ (KOper.mk _ _ none _ (KOp.pick _ _ _) :: _) :: _) Ex.normal _ _ _ _ _; refine q0I rfl (fun _ => ?_) (fun _ => ?_))
  | (show wpM _ _ _ [] _ _ _ _ _ _; refine q0c rfl rfl rfl trivial ?_))
 all_goals ((try simp only [q22, q1U, q2C, q31, decide_eq_true_eq, decide_eq_false_iff_not, Bool.not_eq_true, Bool.not_eq_false, Int.not_lt, Int.not_le] at *); first | (simp_all [qgF, nat]; done) | (simp_all [qgF, nat]; omega) | (rw [D.bool.injEq, Bool.eq_iff_iff]; simp [qgF, nat]; omega) | (rw [D.bool.injEq, Bool.eq_iff_iff]; simp_all [qgF, nat]; omega) | (simp [qgF, nat]; split <;> (try split) <;> omega))
theorem qnG (r : RP) : PU qim [r.enc, .int .i64 2] = some (.bool (qgF r.x && qgF r.y)) := by
 have h1 := qkt r.x
 have h2 := qkt r.y
 refine q0f (fn := qcS) rfl (q0a ?_)
 refine go 800 rfl ?_
 refine q00 rfl rfl h1 ?_
 cases qgF r.x with
 | false =>
   refine go 800 rfl ?_
   refine q0u rfl ?_
   refine go 800 rfl ?_
   exact q0c rfl rfl rfl trivial rfl
 | true =>
   refine go 800 rfl ?_
   refine q0o rfl ?_
   refine go 800 rfl ?_
   refine q00 rfl rfl h2 ?_
   refine go 800 rfl ?_
   exact q0c rfl rfl rfl trivial rfl
def FewC (c : Crvd) : Prop := (c.name.size ≤ 60 ∧ c.ctl.length ≤ 6 ∧ c.seg ≤ 40) ∧ ∀ s ∈ c.ctl, s.size ≤ 60
def FewN (n : Nmd) : Prop := n.name.size ≤ 60 ∧ (qgF n.at_.x && qgF n.at_.y) = true
def FewQ (p : List Nmd) (l : List Crvd) : Prop := (p.length ≤ 12 ∧ l.length ≤ 20) ∧ (∀ n ∈ p, FewN n) ∧ ∀ c ∈ l, FewC c
set_option maxHeartbeats 4000000 in
theorem qpn (p : List Nmd) (l : List Crvd) (b : Bool) (hb : b = true ↔ FewQ p l) : PU qey [q4I p, q1X l] = some (.bool b) := by
 have bad : ¬ FewQ p l → (.bool false : D) = .bool b := by
  intro h; cases b with
  | false => rfl
  | true => exact absurd (hb.1 rfl) h
 refine q0f (fn := qhh) rfl (q0a ?_)
 refine go 800 rfl ?_
 rw [List.length_map]
 refine q09 rfl (fun g => ?_) (fun g => ?_)
 ·rw [q06] at g
  refine go 800 rfl ?_
  refine q0m rfl ?_
  refine go 800 rfl ?_
  exact q0c rfl rfl rfl trivial (bad fun h => by have := h.1.1; omega)
 rw [q07] at g
 refine go 800 rfl ?_
 rw [List.length_map]
 refine q02 rfl (fun g2 => ?_) (fun g2 => ?_)
 ·rw [q06] at g2
  refine go 800 rfl ?_
  exact q0c rfl rfl rfl trivial (bad fun h => by have := h.1.2; omega)
 rw [q07] at g2
 refine go 800 rfl ?_
 refine q0p (S := fun i : Nat => ([q4I p, q1X l, q01 i], [none, none, none], [0, 0, 0])) (C := fun i => i ≤ p.length ∧ ∀ n ∈ p.take i, FewN n) (m := fun i => p.length - i) 0 ⟨Nat.zero_le _, fun n hn => by simp at hn⟩ (by omega) ?_ ?_
 ·exact q03 rfl trivial (by simp [q4I, q1X, q01])
 rintro i ⟨hi, hin⟩ N hN
 refine go 800 rfl ?_
 rw [List.length_map]
 refine q02 rfl (fun e1 => ?_) (fun e1 => ?_)
 ·rw [q06] at e1
  have hlt : i < p.length := by omega
  have w1 : IntKind.i64.wrap ((i : Int) + 1) = ((i + 1 : Nat) : Int) := wrap64 (by omega) (by omega)
  have hnd := qou hlt
  have hmem : p[i] ∈ p := List.getElem_mem _
  have htk : p.take (i + 1) = p.take i ++ [p[i]] := List.take_succ_eq_append_getElem hlt
  generalize p[i] = n at *
  have hsh := qnG n.at_
  refine go 800 rfl ?_
  refine q0i i rfl rfl rfl hnd rfl ?_
  refine go 800 rfl ?_
  refine q09 rfl (fun e2 => ?_) (fun e2 => ?_)
  ·rw [q06] at e2
   refine go 800 rfl ?_
   refine q0m rfl ?_
   refine go 800 rfl ?_
   refine q05 ?_
   refine go 800 rfl ?_
   exact q0c rfl rfl rfl trivial (bad fun h => by have := (h.2.1 n hmem).1; omega)
  rw [q07] at e2
  refine go 800 rfl ?_
  refine q0i i rfl rfl rfl hnd rfl ?_
  refine go 800 rfl ?_
  refine q00 rfl rfl hsh ?_
  cases hfb : (qgF n.at_.x && qgF n.at_.y) with
  | false =>
    refine go 800 rfl ?_
    refine q0m rfl ?_
    refine go 800 rfl ?_
    refine q05 ?_
    refine go 800 rfl ?_
    exact q0c rfl rfl rfl trivial (bad fun h => by have := (h.2.1 n hmem).2; rw [hfb] at this; exact absurd this (by decide))
  | true =>
    refine go 800 rfl ?_
    refine q0n rfl ?_
    refine go 800 rfl ?_
    refine q05 ?_
    refine hN (i + 1) ⟨hlt, fun x hx => ?_⟩ (by omega) (q03 rfl trivial (by simp [q4I, q1X, q01, w1]))
    rw [htk, List.mem_append] at hx
    rcases hx with hx | hx
    ·exact hin x hx
    ·rw [List.mem_singleton] at hx; subst hx
     exact ⟨by omega, hfb⟩
 rw [q07] at e1
 obtain rfl : i = p.length := by omega
 rw [List.take_length] at hin
 clear hN
 refine go 800 rfl ?_
 refine q05 ?_
 refine go 800 rfl ?_
 refine q0p (S := fun i : Nat => ([q1X l, q01 i], [none, none], [0, 0])) (C := fun i => i ≤ l.length ∧ ∀ c ∈ l.take i, FewC c) (m := fun i => l.length - i) 0 ⟨Nat.zero_le _, fun n hn => by simp at hn⟩ (by omega) ?_ ?_
 ·exact q03 rfl trivial (by simp [q1X, q01])
 rintro i ⟨hi, hic⟩ N hN
 refine go 800 rfl ?_
 rw [List.length_map]
 refine q02 rfl (fun e1 => ?_) (fun e1 => ?_)
 ·rw [q06] at e1
  have hlt : i < l.length := by omega
  have w1 : IntKind.i64.wrap ((i : Int) + 1) = ((i + 1 : Nat) : Int) := wrap64 (by omega) (by omega)
  have hce := qcc hlt
  have hmem : cv l i ∈ l := by rw [q55 hlt]; exact List.getElem_mem _
  have htk : l.take (i + 1) = l.take i ++ [cv l i] := by rw [q55 hlt]; exact List.take_succ_eq_append_getElem hlt
  generalize cv l i = c at *
  refine go 800 rfl ?_
  refine q0i i rfl rfl rfl hce rfl ?_
  refine go 800 rfl ?_
  refine q09 rfl (fun e2 => ?_) (fun e2 => ?_)
  ·rw [q06] at e2
   refine go 800 rfl ?_
   refine q0o rfl ?_
   refine go 800 rfl ?_
   refine q0m rfl ?_
   refine go 800 rfl ?_
   refine q05 ?_
   refine go 800 rfl ?_
   exact q0c rfl rfl rfl trivial (bad fun h => by have := (h.2.2 c hmem).1.1; omega)
  rw [q07] at e2
  refine go 800 rfl ?_
  refine q0i i rfl rfl rfl hce rfl ?_
  refine go 800 rfl ?_
  rw [List.length_map]
  refine q09 rfl (fun e3 => ?_) (fun e3 => ?_)
  ·rw [q06] at e3
   refine go 800 rfl ?_
   refine q0m rfl ?_
   refine go 800 rfl ?_
   refine q05 ?_
   refine go 800 rfl ?_
   exact q0c rfl rfl rfl trivial (bad fun h => by have := (h.2.2 c hmem).1.2.1; omega)
  rw [q07] at e3
  refine go 800 rfl ?_
  refine q0i i rfl rfl rfl hce rfl ?_
  refine go 800 rfl ?_
  refine q02 rfl (fun e4 => ?_) (fun e4 => ?_)
  ·rw [q06] at e4
   refine go 800 rfl ?_
   refine q05 ?_
   refine go 800 rfl ?_
   exact q0c rfl rfl rfl trivial (bad fun h => by have := (h.2.2 c hmem).1.2.2; omega)
  rw [q07] at e4
  refine go 800 rfl ?_
  refine q0p (S := fun k : Nat => ([q1X l, q01 i, q01 k], [none, none, none], [0, 0, 0])) (C := fun k => k ≤ c.ctl.length ∧ ∀ s ∈ c.ctl.take k, s.size ≤ 60) (m := fun k => c.ctl.length - k) 0 ⟨Nat.zero_le _, fun n hn => by simp at hn⟩ (by omega) ?_ ?_
  ·exact q03 rfl trivial (by simp [q1X, q01])
  rintro k ⟨hk, hks⟩ N2 hN2
  refine go 800 rfl ?_
  refine q0i i rfl rfl rfl hce rfl ?_
  refine go 800 rfl ?_
  rw [List.length_map]
  refine q02 rfl (fun f1 => ?_) (fun f1 => ?_)
  ·rw [q06] at f1
   have hkl : k < c.ctl.length := by omega
   have w2 : IntKind.i64.wrap ((k : Int) + 1) = ((k + 1 : Nat) : Int) := wrap64 (by omega) (by omega)
   have hcm : c.ctl[k] ∈ c.ctl := List.getElem_mem _
   have htk2 : c.ctl.take (k + 1) = c.ctl.take k ++ [c.ctl[k]] := List.take_succ_eq_append_getElem hkl
   have hcx : (c.ctl.map D.str)[k]? = some (.str c.ctl[k]) := by rw [List.getElem?_map, List.getElem?_eq_getElem hkl]; rfl
   generalize c.ctl[k] = s at *
   refine go 800 rfl ?_
   refine q0i i rfl rfl rfl hce rfl ?_
   refine go 800 rfl ?_
   refine q0i k rfl rfl rfl hcx rfl ?_
   refine go 800 rfl ?_
   refine q02 rfl (fun f2 => ?_) (fun f2 => ?_)
   ·rw [q06] at f2
    refine go 800 rfl ?_
    refine q05 ?_
    refine go 800 rfl ?_
    refine q05 ?_
    refine go 800 rfl ?_
    exact q0c rfl rfl rfl trivial (bad fun h => by have := (h.2.2 c hmem).2 s hcm; omega)
   rw [q07] at f2
   refine go 800 rfl ?_
   refine q05 ?_
   refine hN2 (k + 1) ⟨hkl, fun x hx => ?_⟩ (by omega) (q03 rfl trivial (by simp [q1X, q01, w2]))
   rw [htk2, List.mem_append] at hx
   rcases hx with hx | hx
   ·exact hks x hx
   ·rw [List.mem_singleton] at hx; subst hx; omega
  rw [q07] at f1
  obtain rfl : k = c.ctl.length := by omega
  rw [List.take_length] at hks
  clear hN2
  refine go 800 rfl ?_
  refine q05 ?_
  refine go 800 rfl ?_
  refine q05 ?_
  refine hN (i + 1) ⟨hlt, fun x hx => ?_⟩ (by omega) (q03 rfl trivial (by simp [q1X, q01, w1]))
  rw [htk, List.mem_append] at hx
  rcases hx with hx | hx
  ·exact hic x hx
  ·rw [List.mem_singleton] at hx; subst hx
   exact ⟨⟨by omega, by omega, by omega⟩, hks⟩
 rw [q07] at e1
 obtain rfl : i = l.length := by omega
 rw [List.take_length] at hic
 have hq : b = true := hb.2 ⟨⟨by omega, by omega⟩, hin, hic⟩
 refine go 800 rfl ?_
 refine q05 ?_
 refine go 800 rfl ?_
 refine q0c rfl rfl rfl trivial ?_
 rw [hq]
theorem qku (p : List Nmd) (l : List Crvd) (hok : ∀ n ∈ p, n.at_.ok) : ∃ b : Bool, PU qey [q4I p, q1X l] = some (.bool b) ∧ (b = true → p.length ≤ 12 ∧ l.length ≤ 20 ∧ (∀ n ∈ p, SzP n.at_ 2) ∧ ∀ c ∈ l, c.ctl.length ≤ 6) := by
 open Classical in
 refine ⟨decide (FewQ p l), qpn p l _ (by simp), fun h => ?_⟩
 have h : FewQ p l := by simpa using h
 refine ⟨h.1.1, h.1.2, fun n hn => ?_, fun c hc => (h.2.2 c hc).1.2.1⟩
 have h2 := (h.2.1 n hn).2
 simp only [qgF, Bool.and_eq_true, decide_eq_true_eq] at h2
 obtain ⟨⟨a1, a2⟩, a3, a4⟩ := h2
 obtain ⟨⟨b1, b2⟩, b3, b4⟩ := hok n hn
 exact ⟨⟨⟨b1, by omega⟩, ⟨b2, by omega⟩⟩, ⟨⟨b3, by omega⟩, ⟨b4, by omega⟩⟩⟩
end Go.F

namespace Go.F
attribute [local irreducible] IntKind.wrap wpM
theorem qvg (a b : QP) : onP a b 0 = a := by
 unfold onP qe9 q4d q1t
 simp [Rat.mul_zero, Rat.add_zero]
theorem qwx (a b : QP) : onP a b 1 = b := by
 obtain ⟨a1, a2⟩ := a
 obtain ⟨b1, b2⟩ := b
 unfold onP qe9 q4d q1t
 simp only [Rat.mul_one, QP.mk.injEq]
 constructor <;> grind
theorem qpo {t : RR} (ht : t.v = 0) (c : List RP) : ∀ j i, i + j < c.length → (rp (itR t c j) i).v = (rp c i).v
 | 0, _, _ => rfl
 | j + 1, i, h => by
   have hl := q2M t c j
   have e : rp (itR t c (j + 1)) i = onR t (itR t c j) i := by
    rw [q5n (by rw [q2M]; omega)]; simp [itR, q72]
   rw [e, onR, RP.of_v, ht, qvg]
   exact qpo ht c j i (by omega)
theorem qsm {t : RR} (ht : t.v = 1) (c : List RP) : ∀ j i, i + j < c.length → (rp (itR t c j) i).v = (rp c (i + j)).v
 | 0, _, _ => rfl
 | j + 1, i, h => by
   have hl := q2M t c j
   have e : rp (itR t c (j + 1)) i = onR t (itR t c j) i := by
    rw [q5n (by rw [q2M]; omega)]; simp [itR, q72]
   rw [e, onR, RP.of_v, ht, qwx, qsm ht c j (i + 1) (by omega)]
   congr 2
   omega
theorem qwy (n : Nat) : (tR 0 n).v = 0 := by
 rw [tR, RR.of_v]; simp
theorem tR_one {n : Nat} (h : n ≠ 0) : (tR n n).v = 1 := by
 rw [tR, RR.of_v]
 have e : mkRat (n : Int) n = mkRat 1 1 := (Rat.mkRat_eq_iff h (by decide)).2 (by omega)
 rw [e]; rfl
theorem qmu {c : List RP} (h : 2 ≤ c.length) (n : Nat) : (atR c (tR 0 n)).v = (rp c 0).v := by
 unfold atR
 exact qpo (qwy n) c _ 0 (by omega)
theorem qpp {c : List RP} (h : 2 ≤ c.length) {n : Nat} (hn : n ≠ 0) : (atR c (tR n n)).v = (rp c (c.length - 1)).v := by
 unfold atR
 rw [qsm (tR_one hn) c _ 0 (by omega), Nat.zero_add]
theorem qmv : ∀ {l : List RP}, q9Z l = 0 → ∀ p ∈ l, (q20 p.v).2 = 0
 | [], _, p, hp => by cases hp
 | q :: l, h, p, hp => by
   rw [q9Z] at h
   by_cases e : (q20 q.v).2 = 0
   ·rw [if_pos e] at h
    rcases List.mem_cons.1 hp with rfl | hp
    ·exact e
    ·exact qmv h p hp
   ·rw [if_neg e] at h; exact absurd h e
theorem qgG : ∀ a : List Spot, (q0H a)[0]? = a[0]?
 | [] => rfl
 | [_] => rfl
 | a :: b :: l => by
   rw [q0H]
   split
   ·rename_i e; subst e
    rw [qgG (a :: l)]; rfl
   ·rfl
theorem qkv {m : ByteArray → Option RP} : ∀ {l : List ByteArray} {ps : List RP}, l.mapM m = some ps → ∀ (i : Nat) (hi : i < l.length), m l[i] = some (rp ps i)
 | [], _, _, i, hi => by simp at hi
 | x :: l, ps, h, i, hi => by
   rw [List.mapM_cons] at h
   cases h1 : m x with
   | none => rw [h1] at h; cases h
   | some y =>
     rw [h1] at h
     cases h2 : l.mapM m with
     | none => rw [h2] at h; cases h
     | some qs =>
       rw [h2] at h
       cases h
       cases i with
       | zero => exact h1
       | succ i => exact qkv h2 i (by simpa using hi)
structure TrOk (p : List Nmd) (c : Crvd) (ln : List Spot) : Prop where
 ctl : 2 ≤ c.ctl.length
 a : ∃ r, q4q p (qel c) = some r ∧ (q20 r.v).2 = 0 ∧ ln[0]? = some (q20 r.v).1
 b : ∃ r, q4q p (qek c) = some r ∧ (q20 r.v).2 = 0 ∧ ln[ln.length - 1]? = some (q20 r.v).1
 seg : (ln.length : Int) ≤ c.seg + 1
 seg1 : 1 ≤ c.seg ∧ c.seg ≤ 39
theorem qtp {p : List Nmd} {c : Crvd} (h : (q1A (places p) c).2 = 0) : TrOk p c (q1A (places p) c).1 := by
 cases hps : c.ctl.mapM (q3z (places p)) with
 | none =>
   have hr : q1A (places p) c = ([], 6) := by unfold q1A; rw [hps]
   rw [hr] at h; cases h
 | some ps =>
   have hr : q1A (places p) c = if (q38 ps c.seg).2 = 0 then qcx (q38 ps c.seg).1 else ([], (q38 ps c.seg).2) := by unfold q1A; rw [hps]
   rw [hr] at h ⊢
   have hpl := mapM_len _ _ _ hps
   by_cases hf : (q38 ps c.seg).2 = 0
   ·rw [if_pos hf] at h
    rw [if_pos hf]
    unfold qcx at h ⊢
    by_cases hg : q9Z (q38 ps c.seg).1 = 0
    ·rw [if_pos hg]
     unfold q38 at hf hg ⊢
     split at hf
     ·rename_i hv
      rw [if_pos hv] at hg
      rw [if_pos hv]
      split at hf
      ·simp at hf
      ·rename_i hs
       rw [if_neg hs] at hg
       rw [if_neg hs]
       simp only at hg ⊢
       have hgall := qmv hg
       have hpf := qhb p
       have e0 : qel c = c.ctl[0]'(by omega) := by simp [qel, (by omega : 0 < c.ctl.length)]
       have e1 : qek c = c.ctl[c.ctl.length - 1]'(by omega) := by simp [qek, List.getD, (by omega : c.ctl.length - 1 < c.ctl.length)]
       have m0 := qkv hps 0 (by omega)
       have m1 := qkv hps (c.ctl.length - 1) (by omega)
       rw [← e0, hpf] at m0
       rw [← e1, hpf] at m1
       have hlen : (q93 ps c.seg.toNat).length = c.seg.toNat + 1 := by simp [q93]
       have g0 : (q1H (q93 ps c.seg.toNat))[0]? = some (q20 (rp ps 0).v).1 := by
        rw [q1H, List.getElem?_map, List.getElem?_eq_getElem (by omega)]
        simp only [q93, List.getElem_map, List.getElem_range, Option.map_some]
        rw [qmu hv.1]
       have g1 : (q1H (q93 ps c.seg.toNat)).getLast? = some (q20 (rp ps (c.ctl.length - 1)).v).1 := by
        rw [List.getLast?_eq_getElem?, q1H, List.getElem?_map, List.length_map, List.getElem?_eq_getElem (by omega)]
        simp only [q93, List.getElem_map, List.getElem_range, Option.map_some, List.length_map, List.length_range, Nat.add_sub_cancel]
        rw [qpp hv.1 (by omega), hpl]
       refine ⟨by omega, ⟨rp ps 0, m0, ?_, ?_⟩, ⟨rp ps (c.ctl.length - 1), m1, ?_, ?_⟩, ?_, by omega⟩
       ·have := hgall (atR ps (tR 0 c.seg.toNat)) (by simp only [q93, List.mem_map, List.mem_range]; exact ⟨0, by omega, rfl⟩)
        rwa [qmu hv.1] at this
       ·rw [qgG]; exact g0
       ·have := hgall (atR ps (tR c.seg.toNat c.seg.toNat)) (by simp only [q93, List.mem_map, List.mem_range]; exact ⟨c.seg.toNat, by omega, rfl⟩)
        rwa [qpp hv.1 (by omega), hpl] at this
       ·rw [← List.getLast?_eq_getElem?, qcd]; exact g1
       ·have := qcG (q1H (q93 ps c.seg.toNat))
        have e : (q1H (q93 ps c.seg.toNat)).length = c.seg.toNat + 1 := by rw [q1H, List.length_map, hlen]
        omega
     ·simp at hf
    ·rw [if_neg hg] at h; exact absurd h hg
   ·rw [if_neg hf] at h; exact absurd h hf
theorem qsn {m : List (ByteArray × RP)} : ∀ {l : List Crvd}, trE m l = 0 → ∀ c ∈ l, (q1A m c).2 = 0
 | [], _, c, hc => by cases hc
 | d :: l, h, c, hc => by
   rw [trE] at h
   by_cases e : (q1A m d).2 = 0
   ·rw [if_pos e] at h
    rcases List.mem_cons.1 hc with rfl | hc
    ·exact e
    ·exact qsn h c hc
   ·rw [if_neg e] at h; exact absurd h e
theorem qtq {p : List Nmd} {l : List Crvd} (h : (q2l p l).2 = 0) : (q2l p l).1 = l.map (eg1 (places p)) ∧ q0J (l.map (eg1 (places p))) = 0 ∧ ∀ c ∈ l, (q1A (places p) c).2 = 0 := by
 unfold q2l at h ⊢
 split at h
 ·simp at h
 ·rename_i h1
  rw [if_neg h1]
  split at h
  ·rename_i h2; exact absurd h h2
  ·rename_i h2
   rw [if_neg h2]
   split at h
   ·rename_i h3
    rw [if_pos h3]
    split at h
    ·rename_i h4
     rw [if_pos h4]
     exact ⟨rfl, h4, qsn (by simpa using h2)⟩
    ·rename_i h4; exact absurd h h4
   ·simp at h
theorem qrc {p : List Nmd} {l : List Crvd} (h : (q2l p l).2 ≠ 0) : (q2l p l).1 = [] := by
 unfold q2l at h ⊢
 repeat' split
 all_goals first
  | rfl
  | (exfalso; simp_all)
theorem qmw (p : List Nmd) (s : ByteArray) (hp : p.length ≤ 1000000) {r : RP} (hr : q4q p s = some r) : PU qjU [q4I p, .str s] = some r.enc := by
 refine q0f (fn := qjt) rfl (q0a ?_)
 refine go 800 rfl ?_
 refine q0p (S := fun i : Nat => ([q4I p, .str s, .ptr 2 0 0, q01 i], [none, none, some (.row [q7k none] 6), none], [0, 0, 0, 0])) (C := fun i => i ≤ p.length ∧ q4q p s = q4q (p.drop i) s) (m := fun i => p.length - i) 0 ⟨Nat.zero_le _, rfl⟩ (by omega) ?_ ?_
 ·exact q03 rfl ⟨rfl, trivial⟩ (by simp [q4I, q01, q7k])
 rintro i ⟨hi, hf⟩ N hN
 refine go 800 rfl ?_
 rw [List.length_map]
 refine q02 rfl (fun g => ?_) (fun g => ?_)
 ·rw [q06] at g
  have hlt : i < p.length := by omega
  have w1 : IntKind.i64.wrap ((i : Int) + 1) = ((i + 1 : Nat) : Int) := wrap64 (by omega) (by omega)
  have hd : q4q (p.drop i) s = if p[i].name.toList == s.toList then some p[i].at_ else q4q (p.drop (i + 1)) s := by
   rw [List.drop_eq_getElem_cons hlt]
   unfold q4q
   rw [List.find?_cons]
   cases p[i].name.toList == s.toList <;> rfl
  rw [hd] at hf
  have hnd := qou hlt
  generalize p[i] = n at *
  refine go 800 rfl ?_
  refine q0i i rfl rfl rfl hnd rfl ?_
  refine go 800 rfl ?_
  refine q02 rfl (fun e => ?_) (fun e => ?_)
  ·rw [if_pos e, hr] at hf
   cases hf
   refine go 800 rfl ?_
   refine q0i i rfl rfl rfl hnd rfl ?_
   refine go 800 rfl ?_
   refine q05 ?_
   refine go 800 rfl ?_
   refine q0c rfl rfl rfl trivial ?_
   rfl
  ·rw [if_neg (by rw [e]; decide)] at hf
   refine go 800 rfl ?_
   refine q05 ?_
   exact hN (i + 1) ⟨hlt, hf⟩ (by omega) (q03 rfl ⟨rfl, trivial⟩ (by simp [q4I, q01, q7k, w1]))
 rw [q07] at g
 obtain rfl : i = p.length := by omega
 rw [hr, List.drop_length] at hf
 cases hf
theorem qmx {p : List Nmd} {s : ByteArray} {r : RP} (h : q4q p s = some r) : ∃ n ∈ p, n.at_ = r := by
 unfold q4q at h
 rw [Option.map_eq_some_iff] at h
 obtain ⟨n, h1, h2⟩ := h
 exact ⟨n, List.mem_of_find?_eq_some h1, h2⟩
set_option maxHeartbeats 4000000 in
theorem qlH (p : List Nmd) (l : List Crvd) (hok : ∀ n ∈ p, n.at_.ok) : PU qeQ [q4I p, q1X l] = some (.bool true) := by
 obtain ⟨b, hb, hbs⟩ := qku p l hok
 have he : ∀ {x : Int} {P : Prop}, nqb x x = true → P := fun h => absurd rfl (q0O.1 h)
 refine q0f (fn := q3F) rfl (q0a ?_)
 refine go 800 rfl ?_
 refine q00 rfl rfl hb ?_
 cases b with
 | false =>
   refine go 800 rfl ?_
   refine q0m rfl ?_
   refine go 800 rfl ?_
   refine q00 rfl rfl q1F ?_
   refine go 800 rfl ?_
   exact q0c rfl rfl rfl trivial rfl
 | true =>
   obtain ⟨g1, g2, g3, g4⟩ := hbs rfl
   have s1 := q5i p l g3 (by decide) (by omega) (by omega) (fun c hc => by have := g4 c hc; omega)
   refine go 800 rfl ?_
   refine q0n rfl ?_
   refine go 800 rfl ?_
   refine q00 rfl rfl s1 ?_
   refine go 800 rfl ?_
   refine q02 rfl (fun e => ?_) (fun e => ?_)
   ·have e := qrc (q0O.1 e)
    rw [e]
    refine go 800 rfl ?_
    refine q09 rfl (fun _ => ?_) (fun e => absurd rfl (q1w.1 e))
    refine go 800 rfl ?_
    refine q00 rfl rfl q1F ?_
    refine go 800 rfl ?_
    exact q0c rfl rfl rfl trivial rfl
   have e : (q2l p l).2 = 0 := q0S.1 e
   obtain ⟨t1, t2, t3⟩ := qtq e
   have s2 := q1h (l.map (eg1 (places p)))
   rw [t2] at s2
   rw [t1]
   refine go 800 rfl ?_
   refine q00 rfl rfl s2 ?_
   refine go 800 rfl ?_
   refine q09 rfl he (fun _ => ?_)
   refine go 800 rfl ?_
   rw [List.length_map, List.length_map, List.length_map]
   refine q02 rfl he (fun _ => ?_)
   refine go 800 rfl ?_
   refine q0p (S := fun i : Nat => ([q4I p, q1X l, q0s (l.map (eg1 (places p))), q01 i], [none, none, none, none], [0, 0, 0, 0])) (C := fun i => i ≤ l.length) (m := fun i => l.length - i) 0 (Nat.zero_le _) (by omega) ?_ ?_
   ·exact q03 rfl trivial (by simp [q4I, q1X, q01, q0s])
   intro i hi N hN
   refine go 800 rfl ?_
   rw [List.length_map]
   refine q02 rfl (fun e1 => ?_) (fun e1 => ?_)
   ·rw [q06] at e1
    have hlt : i < l.length := by omega
    have w1 : IntKind.i64.wrap ((i : Int) + 1) = ((i + 1 : Nat) : Int) := wrap64 (by omega) (by omega)
    have hce := qcc hlt
    have hmem : cv l i ∈ l := by rw [q55 hlt]; exact List.getElem_mem _
    have hee : ((l.map (eg1 (places p))).map Edge.enc)[i]? = some (eg1 (places p) (cv l i)).enc := by
     rw [List.getElem?_map, List.getElem?_map, List.getElem?_eq_getElem hlt, q55 hlt]; rfl
    have hn2 := q2P t2 (eg1 (places p) (cv l i)) (List.mem_map_of_mem hmem)
    have hT := qtp (t3 _ hmem)
    have hc4 := g4 _ hmem
    have hnm : (eg1 (places p) (cv l i)).name = (cv l i).name := rfl
    have hen : (eg1 (places p) (cv l i)).enc = .agg [.str (cv l i).name, q0g (q1A (places p) (cv l i)).1] := rfl
    have hln : (eg1 (places p) (cv l i)).line = (q1A (places p) (cv l i)).1 := rfl
    rw [hen] at hee
    rw [hln] at hn2
    generalize (q1A (places p) (cv l i)).1 = ln at *
    generalize cv l i = c at *
    obtain ⟨q1, ⟨ra, a1, a2, a3⟩, ⟨rb, b1, b2, b3⟩, q4, q5⟩ := hT
    obtain ⟨na, ma, rfl⟩ := qmx a1
    obtain ⟨nb, mb, rfl⟩ := qmx b1
    have sza := g3 na ma
    have szb := g3 nb mb
    have u1 := qmw p (qel c) (by omega) a1
    have u2 := qmw p (qek c) (by omega) b1
    have v1 := qjj na.at_ (by decide)
    have v2 := qjj nb.at_ (by decide)
    rw [a2] at v1
    rw [b2] at v2
    have x0 : (ln.map Spot.enc)[0]? = some (q20 na.at_.v).1.enc := by rw [List.getElem?_map, a3]; rfl
    have x1 : (ln.map Spot.enc)[ln.length - 1]? = some (q20 nb.at_.v).1.enc := by rw [List.getElem?_map, b3]; rfl
    have wl : IntKind.i64.wrap ((ln.length : Int) - 1) = ((ln.length - 1 : Nat) : Int) := by rw [wrap64 (by omega) (by omega)]; omega
    have w2 : IntKind.i64.wrap (((c.ctl.map D.str).length : Int) - 1) = ((c.ctl.length - 1 : Nat) : Int) := by rw [List.length_map, wrap64 (by omega) (by omega)]; omega
    have ws : IntKind.i64.wrap (c.seg + 1) = c.seg + 1 := wrap64 (by omega) (by omega)
    refine go 800 rfl ?_
    refine q0i i rfl rfl rfl hee rfl ?_
    refine go 800 rfl ?_
    rw [List.length_map]
    refine q09 rfl (fun e => absurd (q06.1 e) (by omega)) (fun _ => ?_)
    refine go 800 rfl ?_
    refine q0i i rfl rfl rfl hce rfl ?_
    refine go 800 rfl ?_
    rw [List.length_map]
    refine q02 rfl (fun e => absurd (q06.1 e) (by omega)) (fun _ => ?_)
    refine go 800 rfl ?_
    refine q0i i rfl rfl rfl hce rfl ?_
    refine go 800 rfl ?_
    refine q0i 0 rfl rfl rfl (d := .str (qel c)) (by rw [List.getElem?_map, List.getElem?_eq_getElem (by omega)]; simp [qel, List.getD, (by omega : 0 < c.ctl.length)]) rfl ?_
    refine go 800 rfl ?_
    refine q00 rfl rfl u1 ?_
    refine go 800 rfl ?_
    refine q00 rfl rfl v1 ?_
    refine go 800 rfl ?_
    refine q0i i rfl rfl rfl hce rfl ?_
    refine go 800 rfl ?_
    refine q0i i rfl rfl rfl hce rfl ?_
    refine go 800 rfl ?_
    refine q0i (c.ctl.length - 1) rfl rfl w2 (d := .str (qek c)) (by rw [List.getElem?_map, List.getElem?_eq_getElem (by omega)]; simp [qek, List.getD, (by omega : c.ctl.length - 1 < c.ctl.length)]) rfl ?_
    refine go 800 rfl ?_
    refine q00 rfl rfl u2 ?_
    refine go 800 rfl ?_
    refine q00 rfl rfl v2 ?_
    refine go 800 rfl ?_
    refine q09 rfl he (fun _ => ?_)
    refine go 800 rfl ?_
    refine q09 rfl he (fun _ => ?_)
    refine go 800 rfl ?_
    refine q0i i rfl rfl rfl hee rfl ?_
    refine go 800 rfl ?_
    refine q0i 0 rfl rfl rfl x0 rfl ?_
    refine go 800 rfl ?_
    refine q09 rfl (fun e => by rw [q0Y] at e; simp at e) (fun _ => ?_)
    refine go 800 rfl ?_
    refine q0i i rfl rfl rfl hee rfl ?_
    refine go 800 rfl ?_
    refine q0i (ln.length - 1) rfl rfl wl x1 rfl ?_
    refine go 800 rfl ?_
    refine q09 rfl (fun e => by rw [q0Y] at e; simp at e) (fun _ => ?_)
    refine go 800 rfl ?_
    refine q0i i rfl rfl rfl hce rfl ?_
    refine go 800 rfl ?_
    rw [ws]
    refine q09 rfl (fun e => absurd (q06.1 e) (by omega)) (fun _ => ?_)
    refine go 800 rfl ?_
    refine q0i i rfl rfl rfl hee rfl ?_
    refine go 800 rfl ?_
    refine q0i i rfl rfl rfl hce rfl ?_
    refine go 800 rfl ?_
    refine q02 rfl (fun e => absurd e (by simp)) (fun _ => ?_)
    refine go 800 rfl ?_
    refine q05 ?_
    exact hN (i + 1) hlt (by omega) (q03 rfl trivial (by simp [q4I, q1X, q01, q0s, w1]))
   rw [q07] at e1
   refine go 800 rfl ?_
   refine q05 ?_
   refine go 800 rfl ?_
   refine q00 rfl rfl q1F ?_
   refine go 800 rfl ?_
   exact q0c rfl rfl rfl trivial rfl
end Go.F
