/- Parts of the proof, part 48: Dec, Turn4, LTrc. -/
import Derived.Test.YtjjkgfikkihokaaGreatZ43
import Derived.Test.YtjjkgfikkihokaaGreatZ47
import Derived.Test.YtjjkgfikkihokaaGreatZ41
import Derived.Test.YtjjkgfikkihokaaGreatZ45
set_option linter.all false
namespace Go.F
theorem q5M {k : IntKind} {x : List D} (h : HasC (.int k) x) : ∃ n : Int, x = [.int k n] ∧ k.min ≤ n ∧ n ≤ k.max := by
 cases h with
 | int _ n hn => exact ⟨n, rfl, hn⟩
theorem qoS {x : List D} (h : HasC .bool x) : ∃ b : Bool, x = [.bool b] := by
 cases h with
 | bool b => exact ⟨b, rfl⟩
theorem qgf {x : List D} (h : HasC .str x) : ∃ s : ByteArray, x = [.str s] ∧ s.size ≤ maxLen := by
 cases h with
 | str s hs => exact ⟨s, rfl, hs⟩
theorem q6K {x : List D} (h : HasC (.st []) x) : x = [] := by
 cases h; rfl
theorem q1u {s : Sh} {ss : List Sh} {x : List D} (h : HasC (.st (s :: ss)) x) : ∃ a b, x = a ++ b ∧ HasC s a ∧ HasC (.st ss) b := by
 cases h with
 | stc _ _ a b ha hb => exact ⟨a, b, rfl, ha, hb⟩
end Go.F

namespace Go.F
def I64 (x : Int) : Prop := -9223372036854775808 ≤ x ∧ x ≤ 9223372036854775807
theorem qbb {sh : Sh} {α : Type} {enc : α → D} {P : α → Prop} (h : ∀ x, HasC sh x → ∃ a, mkD sh x = enc a ∧ P a) {c : List D} (hc : HasC (.sl sh) c) : ∃ l : List α, mkD (.sl sh) c = .lst (l.map enc) ∧ l.length ≤ maxLen ∧ ∀ a ∈ l, P a := by
 cases hc with
 | sl _ es hl he =>
   have key : ∀ es : List (List D), (∀ x ∈ es, HasC sh x) → ∃ l : List α, es.map (mkD sh) = l.map enc ∧ l.length = es.length ∧ ∀ a ∈ l, P a := by
    intro es
    induction es with
    | nil => intro _; exact ⟨[], rfl, rfl, fun _ h => (by cases h)⟩
    | cons x es ih =>
      intro hx
      obtain ⟨l, h1, h2, h3⟩ := ih fun y hy => hx y (List.mem_cons_of_mem _ hy)
      obtain ⟨a, ha, hp⟩ := h x (hx x (List.mem_cons_self ..))
      refine ⟨a :: l, by rw [List.map_cons, ha, h1, List.map_cons], by simp [h2], fun b hb => ?_⟩
      rcases List.mem_cons.1 hb with rfl | hb
      ·exact hp
      ·exact h3 b hb
   obtain ⟨l, h1, h2, h3⟩ := key es he
   exact ⟨l, by show D.lst (es.map (mkD sh)) = _; rw [h1], by omega, h3⟩
end Go.F

namespace Go.F
attribute [local irreducible] IntKind.wrap wpM
def qve : Sh := .sl (.int .u32)
def qvf : Sh := .st [.st [.bool, qve], qve]
def shPt : Sh := .st [qvf, qvf]
def qnF : Sh := .st [.str, shPt]
def q5E : Sh := .sl qnF
def qkr : Sh := .st [.str, .sl .str, .int .i64]
def q4u : Sh := .sl qkr
theorem qsj {sh : Sh} {α : Type} {enc : α → D} {P : α → Prop} (h : ∀ x, HasC sh x → ∃ a, mkD sh x = enc a ∧ P a) {c : List D} (hc : HasC (.sl sh) c) : ∃ l : List α, c = [.lst (l.map enc)] ∧ ∀ a ∈ l, P a := by
 obtain ⟨l, h1, _, h2⟩ := qbb h hc
 refine ⟨l, ?_, h2⟩
 cases hc with
 | sl _ es _ _ => rw [← h1]; rfl
theorem qww {x : List D} (h : HasC (.int .u32) x) : ∃ n : Nat, mkD (.int .u32) x = u32 n ∧ n < 4294967296 := by
 obtain ⟨n, rfl, h1, h2⟩ := q5M h
 have h1 : 0 ≤ n := h1
 have h2 : n ≤ 4294967295 := h2
 obtain ⟨m, rfl⟩ : ∃ m : Nat, n = m := ⟨n.toNat, by omega⟩
 exact ⟨m, rfl, by omega⟩
theorem qsk {x : List D} (h : HasC qve x) : ∃ l : List Nat, x = [nat l] ∧ LOk l := by
 obtain ⟨l, h1, h2⟩ := qsj (fun x hx => qww hx) h
 exact ⟨l, h1, ⟨h2⟩⟩
def RR.ok (r : RR) : Prop := LOk r.mag ∧ LOk r.den
def RP.ok (r : RP) : Prop := r.x.ok ∧ r.y.ok
theorem qsl {x : List D} (h : HasC qvf x) : ∃ r : RR, x = [.bool r.neg, nat r.mag, nat r.den] ∧ r.ok := by
 obtain ⟨a, b, rfl, ha, hb⟩ := q1u h
 obtain ⟨c, d, rfl, hc, hd⟩ := q1u hb
 obtain rfl := q6K hd
 obtain ⟨a1, a2, rfl, h1, h2⟩ := q1u ha
 obtain ⟨a3, a4, rfl, h3, h4⟩ := q1u h2
 obtain rfl := q6K h4
 obtain ⟨n, rfl⟩ := qoS h1
 obtain ⟨m, rfl, g1⟩ := qsk h3
 obtain ⟨e, rfl, g2⟩ := qsk hc
 exact ⟨⟨n, m, e⟩, rfl, g1, g2⟩
theorem qtn {x : List D} (h : HasC qnF x) : ∃ n : Nmd, mkD qnF x = n.enc ∧ n.at_.ok := by
 obtain ⟨a, b, rfl, ha, hb⟩ := q1u h
 obtain ⟨c, d, rfl, hc, hd⟩ := q1u hb
 obtain rfl := q6K hd
 obtain ⟨s, rfl, _⟩ := qgf ha
 obtain ⟨c1, c2, rfl, h1, h2⟩ := q1u hc
 obtain ⟨c3, c4, rfl, h3, h4⟩ := q1u h2
 obtain rfl := q6K h4
 obtain ⟨r1, rfl, g1⟩ := qsl h1
 obtain ⟨r2, rfl, g2⟩ := qsl h3
 exact ⟨⟨s, ⟨r1, r2⟩⟩, rfl, g1, g2⟩
theorem qks {x : List D} (h : HasC q5E x) : ∃ p : List Nmd, mkD q5E x = q4I p ∧ ∀ n ∈ p, n.at_.ok := by
 obtain ⟨l, h1, _, h2⟩ := qbb (fun x hx => qtn hx) h
 exact ⟨l, h1, h2⟩
theorem qra {x : List D} (h : HasC qkr x) : ∃ c : Crvd, mkD qkr x = c.enc ∧ I64 c.seg := by
 obtain ⟨a, b, rfl, ha, hb⟩ := q1u h
 obtain ⟨c, d, rfl, hc, hd⟩ := q1u hb
 obtain ⟨e, f, rfl, he, hf⟩ := q1u hd
 obtain rfl := q6K hf
 obtain ⟨s, rfl, _⟩ := qgf ha
 obtain ⟨n, rfl, hn⟩ := q5M he
 obtain ⟨l, rfl, _⟩ := qsj (enc := D.str) (P := fun _ => True) (fun x hx => by obtain ⟨s, rfl, _⟩ := qgf hx; exact ⟨s, rfl, trivial⟩) hc
 exact ⟨⟨s, l, n⟩, rfl, hn⟩
theorem qiB {x : List D} (h : HasC q4u x) : ∃ l : List Crvd, mkD q4u x = q1X l ∧ ∀ c ∈ l, I64 c.seg := by
 obtain ⟨l, h1, _, h2⟩ := qbb (fun x hx => qra hx) h
 exact ⟨l, h1, h2⟩
def qgF (r : RR) : Bool := decide ((r.mag.length : Int) ≤ 2) && decide ((r.den.length : Int) ≤ 2)
theorem qkt (r : RR) : PU qhN [r.enc, .int .i64 2] = some (.bool (qgF r)) := by
 refine q0f (fn := qhk) rfl (q0a ?_)
 repeat' (first
  | (refine goP 800 rfl rfl ?_)
  | (show wpM _ _ _ (Fr.ops _ _ (KOper.mk _ _ (some _) _ _ :: _) :: _) Ex.normal _ _ _ _ _; first | refine q0o rfl ?_ | refine q0u rfl ?_ | refine q09 rfl (fun _ => ?_) (fun _ => ?_))
  | (show wpM _ _ _ (Fr.code (K.cond _ _ _) :: _) Ex.normal _ _ _ _ _; first | refine q0m rfl ?_ | refine q0n rfl ?_ | refine q02 rfl (fun _ => ?_) (fun _ => ?_))
  | (show wpM _ _ _ (Fr.ops _ _ (KOper.mk _ _ none _ (KOp.pick _ _ _) :: _) :: _) Ex.normal _ _ _ _ _; refine q0I rfl (fun _ => ?_) (fun _ => ?_))
  | (show wpM _ _ _ [] _ _ _ _ _ _; refine q0c rfl rfl rfl trivial ?_))
 all_goals ((try simp only [q22, q1U, q2C, q31, decide_eq_true_eq, decide_eq_false_iff_not, Bool.not_eq_true, Bool.not_eq_false, Int.not_lt, Int.not_le] at *); first | (simp_all [qgF, nat]; done) | (simp_all [qgF, nat]; omega) | (rw [D.bool.injEq, Bool.eq_iff_iff]; simp [qgF, nat]; omega) | (rw [D.bool.injEq, Bool.eq_iff_iff]; simp_all [qgF, nat]; omega) | (simp [qgF, nat]; split <;> (try split) <;> omega))
theorem qnG (r : RP) : PU qim [r.enc, .int .i64 2] = some (.bool (qgF r.x && qgF r.y)) := by
 have h1 := qkt r.x
 have h2 := qkt r.y
 refine q0f (fn := qcS) rfl (q0a ?_)
 refine go 800 rfl ?_
 refine q00 rfl rfl h1 ?_
 cases qgF r.x with
 | false =>
   refine go 800 rfl ?_
   refine q0u rfl ?_
   refine go 800 rfl ?_
   exact q0c rfl rfl rfl trivial rfl
 | true =>
   refine go 800 rfl ?_
   refine q0o rfl ?_
   refine go 800 rfl ?_
   refine q00 rfl rfl h2 ?_
   refine go 800 rfl ?_
   exact q0c rfl rfl rfl trivial rfl
def FewC (c : Crvd) : Prop := (c.name.size ≤ 60 ∧ c.ctl.length ≤ 6 ∧ c.seg ≤ 40) ∧ ∀ s ∈ c.ctl, s.size ≤ 60
def FewN (n : Nmd) : Prop := n.name.size ≤ 60 ∧ (qgF n.at_.x && qgF n.at_.y) = true
def FewQ (p : List Nmd) (l : List Crvd) : Prop := (p.length ≤ 12 ∧ l.length ≤ 20) ∧ (∀ n ∈ p, FewN n) ∧ ∀ c ∈ l, FewC c
set_option maxHeartbeats 4000000 in
theorem qpn (p : List Nmd) (l : List Crvd) (b : Bool) (hb : b = true ↔ FewQ p l) : PU qey [q4I p, q1X l] = some (.bool b) := by
 have bad : ¬ FewQ p l → (.bool false : D) = .bool b := by
  intro h; cases b with
  | false => rfl
  | true => exact absurd (hb.1 rfl) h
 refine q0f (fn := qhh) rfl (q0a ?_)
 refine go 800 rfl ?_
 rw [List.length_map]
 refine q09 rfl (fun g => ?_) (fun g => ?_)
 ·rw [q06] at g
  refine go 800 rfl ?_
  refine q0m rfl ?_
  refine go 800 rfl ?_
  exact q0c rfl rfl rfl trivial (bad fun h => by have := h.1.1; omega)
 rw [q07] at g
 refine go 800 rfl ?_
 rw [List.length_map]
 refine q02 rfl (fun g2 => ?_) (fun g2 => ?_)
 ·rw [q06] at g2
  refine go 800 rfl ?_
  exact q0c rfl rfl rfl trivial (bad fun h => by have := h.1.2; omega)
 rw [q07] at g2
 refine go 800 rfl ?_
 refine q0p (S := fun i : Nat => ([q4I p, q1X l, q01 i], [none, none, none], [0, 0, 0])) (C := fun i => i ≤ p.length ∧ ∀ n ∈ p.take i, FewN n) (m := fun i => p.length - i) 0 ⟨Nat.zero_le _, fun n hn => by simp at hn⟩ (by omega) ?_ ?_
 ·exact q03 rfl trivial (by simp [q4I, q1X, q01])
 rintro i ⟨hi, hin⟩ N hN
 refine go 800 rfl ?_
 rw [List.length_map]
 refine q02 rfl (fun e1 => ?_) (fun e1 => ?_)
 ·rw [q06] at e1
  have hlt : i < p.length := by omega
  have w1 : IntKind.i64.wrap ((i : Int) + 1) = ((i + 1 : Nat) : Int) := wrap64 (by omega) (by omega)
  have hnd := qou hlt
  have hmem : p[i] ∈ p := List.getElem_mem _
  have htk : p.take (i + 1) = p.take i ++ [p[i]] := List.take_succ_eq_append_getElem hlt
  generalize p[i] = n at *
  have hsh := qnG n.at_
  refine go 800 rfl ?_
  refine q0i i rfl rfl rfl hnd rfl ?_
  refine go 800 rfl ?_
  refine q09 rfl (fun e2 => ?_) (fun e2 => ?_)
  ·rw [q06] at e2
   refine go 800 rfl ?_
   refine q0m rfl ?_
   refine go 800 rfl ?_
   refine q05 ?_
   refine go 800 rfl ?_
   exact q0c rfl rfl rfl trivial (bad fun h => by have := (h.2.1 n hmem).1; omega)
  rw [q07] at e2
  refine go 800 rfl ?_
  refine q0i i rfl rfl rfl hnd rfl ?_
  refine go 800 rfl ?_
  refine q00 rfl rfl hsh ?_
  cases hfb : (qgF n.at_.x && qgF n.at_.y) with
  | false =>
    refine go 800 rfl ?_
    refine q0m rfl ?_
    refine go 800 rfl ?_
    refine q05 ?_
    refine go 800 rfl ?_
    exact q0c rfl rfl rfl trivial (bad fun h => by have := (h.2.1 n hmem).2; rw [hfb] at this; exact absurd this (by decide))
  | true =>
    refine go 800 rfl ?_
    refine q0n rfl ?_
    refine go 800 rfl ?_
    refine q05 ?_
    refine hN (i + 1) ⟨hlt, fun x hx => ?_⟩ (by omega) (q03 rfl trivial (by simp [q4I, q1X, q01, w1]))
    rw [htk, List.mem_append] at hx
    rcases hx with hx | hx
    ·exact hin x hx
    ·rw [List.mem_singleton] at hx; subst hx
     exact ⟨by omega, hfb⟩
 rw [q07] at e1
 obtain rfl : i = p.length := by omega
 rw [List.take_length] at hin
 clear hN
 refine go 800 rfl ?_
 refine q05 ?_
 refine go 800 rfl ?_
 refine q0p (S := fun i : Nat => ([q1X l, q01 i], [none, none], [0, 0])) (C := fun i => i ≤ l.length ∧ ∀ c ∈ l.take i, FewC c) (m := fun i => l.length - i) 0 ⟨Nat.zero_le _, fun n hn => by simp at hn⟩ (by omega) ?_ ?_
 ·exact q03 rfl trivial (by simp [q1X, q01])
 rintro i ⟨hi, hic⟩ N hN
 refine go 800 rfl ?_
 rw [List.length_map]
 refine q02 rfl (fun e1 => ?_) (fun e1 => ?_)
 ·rw [q06] at e1
  have hlt : i < l.length := by omega
  have w1 : IntKind.i64.wrap ((i : Int) + 1) = ((i + 1 : Nat) : Int) := wrap64 (by omega) (by omega)
  have hce := qcc hlt
  have hmem : cv l i ∈ l := by rw [q55 hlt]; exact List.getElem_mem _
  have htk : l.take (i + 1) = l.take i ++ [cv l i] := by rw [q55 hlt]; exact List.take_succ_eq_append_getElem hlt
  generalize cv l i = c at *
  refine go 800 rfl ?_
  refine q0i i rfl rfl rfl hce rfl ?_
  refine go 800 rfl ?_
  refine q09 rfl (fun e2 => ?_) (fun e2 => ?_)
  ·rw [q06] at e2
   refine go 800 rfl ?_
   refine q0o rfl ?_
   refine go 800 rfl ?_
   refine q0m rfl ?_
   refine go 800 rfl ?_
   refine q05 ?_
   refine go 800 rfl ?_
   exact q0c rfl rfl rfl trivial (bad fun h => by have := (h.2.2 c hmem).1.1; omega)
  rw [q07] at e2
  refine go 800 rfl ?_
  refine q0i i rfl rfl rfl hce rfl ?_
  refine go 800 rfl ?_
  rw [List.length_map]
  refine q09 rfl (fun e3 => ?_) (fun e3 => ?_)
  ·rw [q06] at e3
   refine go 800 rfl ?_
   refine q0m rfl ?_
   refine go 800 rfl ?_
   refine q05 ?_
   refine go 800 rfl ?_
   exact q0c rfl rfl rfl trivial (bad fun h => by have := (h.2.2 c hmem).1.2.1; omega)
  rw [q07] at e3
  refine go 800 rfl ?_
  refine q0i i rfl rfl rfl hce rfl ?_
  refine go 800 rfl ?_
  refine q02 rfl (fun e4 => ?_) (fun e4 => ?_)
  ·rw [q06] at e4
   refine go 800 rfl ?_
   refine q05 ?_
   refine go 800 rfl ?_
   exact q0c rfl rfl rfl trivial (bad fun h => by have := (h.2.2 c hmem).1.2.2; omega)
  rw [q07] at e4
  refine go 800 rfl ?_
  refine q0p (S := fun k : Nat => ([q1X l, q01 i, q01 k], [none, none, none], [0, 0, 0])) (C := fun k => k ≤ c.ctl.length ∧ ∀ s ∈ c.ctl.take k, s.size ≤ 60) (m := fun k => c.ctl.length - k) 0 ⟨Nat.zero_le _, fun n hn => by simp at hn⟩ (by omega) ?_ ?_
  ·exact q03 rfl trivial (by simp [q1X, q01])
  rintro k ⟨hk, hks⟩ N2 hN2
  refine go 800 rfl ?_
  refine q0i i rfl rfl rfl hce rfl ?_
  refine go 800 rfl ?_
  rw [List.length_map]
  refine q02 rfl (fun f1 => ?_) (fun f1 => ?_)
  ·rw [q06] at f1
   have hkl : k < c.ctl.length := by omega
   have w2 : IntKind.i64.wrap ((k : Int) + 1) = ((k + 1 : Nat) : Int) := wrap64 (by omega) (by omega)
   have hcm : c.ctl[k] ∈ c.ctl := List.getElem_mem _
   have htk2 : c.ctl.take (k + 1) = c.ctl.take k ++ [c.ctl[k]] := List.take_succ_eq_append_getElem hkl
   have hcx : (c.ctl.map D.str)[k]? = some (.str c.ctl[k]) := by rw [List.getElem?_map, List.getElem?_eq_getElem hkl]; rfl
   generalize c.ctl[k] = s at *
   refine go 800 rfl ?_
   refine q0i i rfl rfl rfl hce rfl ?_
   refine go 800 rfl ?_
   refine q0i k rfl rfl rfl hcx rfl ?_
   refine go 800 rfl ?_
   refine q02 rfl (fun f2 => ?_) (fun f2 => ?_)
   ·rw [q06] at f2
    refine go 800 rfl ?_
    refine q05 ?_
    refine go 800 rfl ?_
    refine q05 ?_
    refine go 800 rfl ?_
    exact q0c rfl rfl rfl trivial (bad fun h => by have := (h.2.2 c hmem).2 s hcm; omega)
   rw [q07] at f2
   refine go 800 rfl ?_
   refine q05 ?_
   refine hN2 (k + 1) ⟨hkl, fun x hx => ?_⟩ (by omega) (q03 rfl trivial (by simp [q1X, q01, w2]))
   rw [htk2, List.mem_append] at hx
   rcases hx with hx | hx
   ·exact hks x hx
   ·rw [List.mem_singleton] at hx; subst hx; omega
  rw [q07] at f1
  obtain rfl : k = c.ctl.length := by omega
  rw [List.take_length] at hks
  clear hN2
  refine go 800 rfl ?_
  refine q05 ?_
  refine go 800 rfl ?_
  refine q05 ?_
  refine hN (i + 1) ⟨hlt, fun x hx => ?_⟩ (by omega) (q03 rfl trivial (by simp [q1X, q01, w1]))
  rw [htk, List.mem_append] at hx
  rcases hx with hx | hx
  ·exact hic x hx
  ·rw [List.mem_singleton] at hx; subst hx
   exact ⟨⟨by omega, by omega, by omega⟩, hks⟩
 rw [q07] at e1
 obtain rfl : i = l.length := by omega
 rw [List.take_length] at hic
 have hq : b = true := hb.2 ⟨⟨by omega, by omega⟩, hin, hic⟩
 refine go 800 rfl ?_
 refine q05 ?_
 refine go 800 rfl ?_
 refine q0c rfl rfl rfl trivial ?_
 rw [hq]
theorem qku (p : List Nmd) (l : List Crvd) (hok : ∀ n ∈ p, n.at_.ok) : ∃ b : Bool, PU qey [q4I p, q1X l] = some (.bool b) ∧ (b = true → p.length ≤ 12 ∧ l.length ≤ 20 ∧ (∀ n ∈ p, SzP n.at_ 2) ∧ ∀ c ∈ l, c.ctl.length ≤ 6) := by
 open Classical in
 refine ⟨decide (FewQ p l), qpn p l _ (by simp), fun h => ?_⟩
 have h : FewQ p l := by simpa using h
 refine ⟨h.1.1, h.1.2, fun n hn => ?_, fun c hc => (h.2.2 c hc).1.2.1⟩
 have h2 := (h.2.1 n hn).2
 simp only [qgF, Bool.and_eq_true, decide_eq_true_eq] at h2
 obtain ⟨⟨a1, a2⟩, a3, a4⟩ := h2
 obtain ⟨⟨b1, b2⟩, b3, b4⟩ := hok n hn
 exact ⟨⟨⟨b1, by omega⟩, ⟨b2, by omega⟩⟩, ⟨⟨b3, by omega⟩, ⟨b4, by omega⟩⟩⟩
theorem qrb {m : List (ByteArray × RP)} {k : Nat} (hm : MB k m) (hk : k ≤ 100) (c : Crvd) : (q1A m c).1.length ≤ 40 := by
 unfold q1A
 split
 ·simp
 ·rename_i ps hps
  obtain ⟨hb, _⟩ := qh9 hm _ _ hps
  obtain ⟨h1, _⟩ := qot hb hk c.seg
  split
  ·unfold qcx
   split
   ·have := qcG (q1H (q38 ps c.seg).1)
    simp only [q1H, List.length_map] at this
    simp only [q1H]; omega
   ·simp
  ·simp
theorem qto {p : List Nmd} (l : List Crvd) {k : Nat} (hm : ∀ n ∈ p, SzP n.at_ k) (hk : k ≤ 100) : (q2l p l).1.length ≤ l.length ∧ ∀ e ∈ (q2l p l).1, e.line.length ≤ 40 := by
 have hMB := qid hm
 unfold q2l
 repeat' split
 all_goals first
  | exact ⟨by simp, fun e he => by cases he⟩
  | skip
 refine ⟨by simp, fun e he => ?_⟩
 simp only [List.mem_map] at he
 obtain ⟨c, _, rfl⟩ := he
 exact qrb hMB hk c
set_option maxHeartbeats 1000000 in
theorem qlG (p : List Nmd) (l : List Crvd) (hok : ∀ n ∈ p, n.at_.ok) : PU qeN [q4I p, q1X l] = some (.bool true) := by
 obtain ⟨b, hb, hbs⟩ := qku p l hok
 refine q0f (fn := q3C) rfl (q0a ?_)
 refine go 800 rfl ?_
 refine q00 rfl rfl hb ?_
 cases b with
 | false =>
   refine go 800 rfl ?_
   refine q0m rfl ?_
   refine go 800 rfl ?_
   refine q00 rfl rfl q1F ?_
   refine go 800 rfl ?_
   exact q0c rfl rfl rfl trivial rfl
 | true =>
   obtain ⟨g1, g2, g3, g4⟩ := hbs rfl
   have s1 := q5i p l g3 (by decide) (by omega) (by omega) (fun c hc => by have := g4 c hc; omega)
   have s2 := qov p l g3 (by decide) (by omega) (by omega) (fun c hc => by have := g4 c hc; omega)
   obtain ⟨z1, z2⟩ := qto l g3 (by decide)
   have s3 := q6x (q2l p l).1 (by omega) (fun e he => by have := z2 e he; omega)
   generalize q2l p l = r at *
   refine go 800 rfl ?_
   refine q0n rfl ?_
   refine go 800 rfl ?_
   refine q00 rfl rfl s1 ?_
   refine go 800 rfl ?_
   refine q00 rfl rfl s2 ?_
   refine go 800 rfl ?_
   refine q00 rfl rfl s3 ?_
   refine go 800 rfl ?_
   refine q0o rfl ?_
   refine go 800 rfl ?_
   refine q09 rfl (fun _ => ?_) (fun e => absurd rfl (q1w.1 e))
   refine go 800 rfl ?_
   refine q00 rfl rfl q1F ?_
   refine go 800 rfl ?_
   exact q0c rfl rfl rfl trivial rfl
end Go.F
