/- Parts of the proof, part 45: Turn2, Turn3, RN1, RN2, RN3, RN4, RefA, RefB, RN5, Crv1, Crv2, Map1, St2, St3, St4, St5. -/
import Derived.Test.YtdhpbljlnlpibaaGreatZ44
set_option linter.all false
namespace Go.F
attribute [local irreducible] IntKind.wrap wpM
theorem q7P {h : q0f} {id : Nat} {b : Blk} (hh : h id = some b) (hp : q1g (some b) = true) : q17 h id = some b := by
 unfold q17
 rw [hh, hp]; rfl
def Old4 (b1 b2 b3 b4 : Blk) (h : q0f) (z : Frz) : Prop :=
 (∃ h0 : q0f, h = upd (upd (upd (upd h0 1 (some b1)) 2 (some b2)) 3 (some b3)) 4 (some b4)) ∧ ∃ z0 : Frz, z = upd (upd (upd (upd z0 1 0) 2 0) 3 0) 4 0
theorem Old4.of {b1 b2 b3 b4 : Blk} {h : q0f} {z : Frz} (h1 : h 1 = some b1) (h2 : h 2 = some b2) (h3 : h 3 = some b3) (h4 : h 4 = some b4) (z1 : z 1 = 0) (z2 : z 2 = 0) (z3 : z 3 = 0) (z4 : z 4 = 0) : Old4 b1 b2 b3 b4 h z := by
 refine ⟨⟨h, ?_⟩, z, ?_⟩
 ·rw [q33 (f := h) h1, q33 (f := h) h2, q33 (f := h) h3, q33 (f := h) h4]
 ·rw [q33 (f := z) z1, q33 (f := z) z2, q33 (f := z) z3, q33 (f := z) z4]
theorem Old4.old {b1 b2 b3 b4 : Blk} {h : q0f} {z : Frz} (p1 : q1g (some b1) = true) (p2 : q1g (some b2) = true) (p3 : q1g (some b3) = true) (p4 : q1g (some b4) = true) (h1 : h 1 = some b1) (h2 : h 2 = some b2) (h3 : h 3 = some b3) (h4 : h 4 = some b4) (z1 : z 1 = 0) (z2 : z 2 = 0) (z3 : z 3 = 0) (z4 : z 4 = 0) : Old4 b1 b2 b3 b4 (q17 h) z :=
 Old4.of (q7P h1 p1) (q7P h2 p2) (q7P h3 p3) (q7P h4 p4) z1 z2 z3 z4
end Go.F

namespace Go.F
attribute [local irreducible] IntKind.wrap wpM
end Go.F

namespace Go.F
attribute [local irreducible] IntKind.wrap wpM
end Go.F

namespace Go.F
attribute [local irreducible] IntKind.wrap wpM
end Go.F

namespace Go.F
attribute [local irreducible] IntKind.wrap wpM
end Go.F

namespace Go.F
attribute [local irreducible] IntKind.wrap wpM
end Go.F

namespace Go.F
attribute [local irreducible] IntKind.wrap wpM
structure RSeg where
 a : Spot
 b : Spot
 w : Int
 s : Spot
def RSeg.enc (g : RSeg) : D := .agg [.int .i64 g.a.x, .int .i64 g.a.y, .int .i64 g.b.x, .int .i64 g.b.y, .int .i64 g.w, .int .i64 g.s.x, .int .i64 g.s.y]
end Go.F

namespace Go.F
attribute [local irreducible] IntKind.wrap wpM
end Go.F

namespace Go.F
attribute [local irreducible] IntKind.wrap wpM
def RSeg.mv (g : RSeg) : Seg := ⟨q27 g.a g.s, q27 g.b g.s, g.w⟩
class RSegOk (g : RSeg) : Prop where
 a : OkS g.a
 b : OkS g.b
 s : g.s.x.natAbs ≤ 4294967296 ∧ g.s.y.natAbs ≤ 4294967296
 w0 : 0 ≤ g.w
 w1 : g.w ≤ 500
end Go.F

namespace Go.F
attribute [local irreducible] IntKind.wrap wpM
def rp0 : RP := ⟨⟨false, [], []⟩, ⟨false, [], []⟩⟩
def rp (c : List RP) (i : Nat) : RP := c.getD i rp0
def onR (t : RR) (c : List RP) (i : Nat) : RP := RP.of (onP (rp c i).v (rp c (i + 1)).v t.v)
def qgX (t : RR) (c : List RP) : List RP := (List.range (c.length - 1)).map (onR t c)
def RB (k : Nat) (c : List RP) : Prop := ∀ p ∈ c, SzP p k
theorem qou {c : List RP} {i : Nat} (h : i < c.length) : rp c i = c[i] := by simp [rp, h]
theorem RB.at {k : Nat} {c : List RP} (h : RB k c) {i : Nat} (hi : i < c.length) : SzP (rp c i) k := by
 rw [qou hi]; exact h _ (List.getElem_mem _)
theorem RB.next {k kt : Nat} {t : RR} {c : List RP} (h : RB k c) (ht : SzR t kt) : RB (3 * k + kt + 6) (qgX t c) := by
 intro p hp
 simp only [qgX, List.mem_map, List.mem_range] at hp
 obtain ⟨i, hi, rfl⟩ := hp
 have h1 := h.at (i := i) (by omega)
 have h2 := h.at (i := i + 1) (by omega)
 have e : 3 * k + kt + 6 = (k + 1) + (((k + 1) + (k + 1) + 1) + (kt + 1)) + 1 := by omega
 rw [e]
 unfold onR
 infer_instance
section
variable {t : q0u} {h : q0f} {z : Frz} {nx : Nat}
end
end Go.F

namespace Go.F
attribute [local irreducible] IntKind.wrap wpM
end Go.F

namespace Go.F
section
variable {T : Tab} {sh : Shr} {nx0 : Nat} {s : List Fr} {t : q0u} {h : q0f} {z : Frz} {nx : Nat} {q : Ex → q0u → q0f → Frz → Nat → Prop}
variable {base i : Nat} {res : List Nat} {g : Gd} {rest : List KOper}
def qbs (t : q0u) : Live → List Rep → q0f → Frz → Option (List Obl × q0f × Frz)
 | [], _, h, z => some ([], h, z)
 | x :: rest, reps, h, z =>
   match q2V (t x.1) with
   | none =>
     match plain 4 (t x.1) with
     | true => qbs t rest reps h z
     | false => none
   | some id =>
     match h id with
     | some (.row es esz) =>
       match reps with
       | [] => none
       | none :: reps =>
         match qbs t rest reps h z with
         | some (o, h', z') => some (.p es :: o, h', z')
         | none => none
       | some (l, rs) :: reps =>
         match qbs t rest reps (upd h id (some (.row l esz))) (qaJ h z rs) with
         | some (o, h', z') => some (.s h es l rs :: o, h', z')
         | none => none
     | some (.mp _ vs) =>
       match qbs t rest reps h z with
       | some (o, h', z') => some (.p vs :: o, h', z')
       | none => none
     | none => qbs t rest reps h z
theorem qsO {t : q0u} : ∀ {live : Live} {reps : List Rep} {h : q0f} {z : Frz} {o : List Obl} {h' : q0f} {z' : Frz} {k : q0f → Frz → Prop}, qbs t live reps h z = some (o, h', z') → qgM o → k h' z' → q2Q live t h z k := by
 intro live
 induction live with
 | nil => intro reps h z o h' z' k hr _ hk; simp only [qbs, Option.some.injEq, Prod.mk.injEq] at hr; obtain ⟨_, rfl, rfl⟩ := hr; exact hk
 | cons x live ih =>
   intro reps h z o h' z' k hr ho hk
   simp only [qbs] at hr
   simp only [q2Q]
   cases hid : q2V (t x.1) with
   | none =>
     rw [hid] at hr
     simp only at hr ⊢
     cases hb : plain 4 (t x.1) with
     | true => rw [hb] at hr; exact ih hr ho hk
     | false => rw [hb] at hr; cases hr
   | some id =>
     rw [hid] at hr
     simp only at hr ⊢
     cases hb : h id with
     | none => rw [hb] at hr; exact ih hr ho hk
     | some b =>
       rw [hb] at hr
       cases b with
       | mp ks vs =>
         simp only at hr ⊢
         cases hx : qbs t live reps h z with
         | none => rw [hx] at hr; cases hr
         | some y =>
           obtain ⟨o1, h1, z1⟩ := y
           rw [hx] at hr
           simp only [Option.some.injEq, Prod.mk.injEq] at hr
           obtain ⟨rfl, rfl, rfl⟩ := hr
           exact q1p ho.1 (ih hx ho.2 hk)
       | row es esz =>
         simp only at hr ⊢
         match reps, hr with
         | none :: reps, hr =>
           simp only at hr
           cases hx : qbs t live reps h z with
           | none => rw [hx] at hr; cases hr
           | some y =>
             obtain ⟨o1, h1, z1⟩ := y
             rw [hx] at hr
             simp only [Option.some.injEq, Prod.mk.injEq] at hr
             obtain ⟨rfl, rfl, rfl⟩ := hr
             unfold qaX
             exact .inl ⟨ho.1, ih hx ho.2 hk⟩
         | some (l, rs) :: reps, hr =>
           simp only at hr
           cases hx : qbs t live reps (upd h id (some (.row l esz))) (qaJ h z rs) with
           | none => rw [hx] at hr; cases hr
           | some y =>
             obtain ⟨o1, h1, z1⟩ := y
             rw [hx] at hr
             simp only [Option.some.injEq, Prod.mk.injEq] at hr
             obtain ⟨rfl, rfl, rfl⟩ := hr
             obtain ⟨g1, g2, g3, g4⟩ := ho.1
             unfold qaX
             exact .inr ⟨l, rs, g1, g2, g3, g4, ih hx ho.2 hk⟩
def setZ (live : Live) (reps : List Rep) (t : q0u) (h : q0f) (z : Frz) (nx : Nat) : Option (List Obl × Kept) :=
 match qbC live t h z nx with
 | (t, h, z) =>
   match qbs t live reps h z with
   | some (o, h', z') => fL1 (q9R 0 (q0x t live) t live) fun vs => fLi (q9S 0 (q0x t live) h' (q0x t live) 0) fun bs => fLi (qfu 0 (q0x t live) z' (q0x t live) 0) fun zs => some (o, vs, bs, zs)
   | none => none
theorem qq2 {live : Live} (reps : List Rep) {o : List Obl} {kp : Kept} {K : Kept → Prop} (hs : setZ live reps t h z nx = some (o, kp)) (hp : qgM o) (hk : K kp) (hnst : q6u live = false := by rfl) : q0Z 0 live t h z nx fun _ _ kp => K kp := by
 unfold setZ at hs
 split at hs
 rename_i t1 h1 z1 hn
 split at hs
 ·rename_i o1 h2 z2 hr
  simp only [q5w, qjM, Option.some.injEq, Prod.mk.injEq] at hs
  obtain ⟨rfl, rfl⟩ := hs
  unfold q0Z
  simp only [hnst]
  unfold q75
  refine qfV _ _ _ _ _ _ fun nx' => ?_
  rw [hn]
  refine qsO hr hp ?_
  rw [q6K, q6L]
  exact hk
 ·cases hs
def qeC (m : List (ByteArray × D)) (s : ByteArray) : Option D := (m.find? fun p => s == p.1).map (·.2)
theorem q99 (m : List (ByteArray × D)) (s : ByteArray) : ∀ n, match findKey s (m.map (·.1)) n with
 | some i => n ≤ i ∧ ∃ v, (m.map (·.2))[i - n]? = some v ∧ qeC m s = some v
 | none => qeC m s = none := by
 induction m with
 | nil => intro n; rfl
 | cons p m ih =>
   intro n
   simp only [List.map_cons, findKey]
   by_cases e : (s == p.1) = true
   ·rw [if_pos e]
    refine ⟨Nat.le_refl _, p.2, by simp, by simp [qeC, List.find?_cons, e]⟩
   ·rw [if_neg e]
    have h := ih (n + 1)
    have em : qeC (p :: m) s = qeC m s := by
     unfold qeC; rw [List.find?_cons]
     simp only [Bool.not_eq_true] at e
     rw [e]
    cases hf : findKey s (m.map (·.1)) (n + 1) with
    | none => rw [hf] at h; simp only at h ⊢; rw [em]; exact h
    | some i =>
      rw [hf] at h
      simp only at h ⊢
      obtain ⟨h1, v, h2, h3⟩ := h
      refine ⟨by omega, v, ?_, by rw [em]; exact h3⟩
      have : i - n = (i - (n + 1)) + 1 := by omega
      rw [this, List.getElem?_cons_succ]; exact h2
theorem atPut {mx kx vx : X} {dst : Option Nat} {m : List (ByteArray × D)} {st : ByteArray} {id : Nat} (hx : mx.ev t = .mref id) (hh : g.h base h id = some (.mp (m.map (·.1)) (m.map (·.2)))) (hz : g.z base z id = 0) (hkx : kx.ev t = .str st) (hn : qeC m st = none)
 (hk : wpM T sh nx0 (.ops base res rest :: s) .normal (put t dst (.tup [])) (upd h id (some (.mp ((m ++ [(st, vx.ev t)]).map (·.1)) ((m ++ [(st, vx.ev t)]).map (·.2))))) z nx q) :
 wpM T sh nx0 (.ops base res (⟨i, dst, none, g, .mapset mx kx vx⟩ :: rest) :: s) .normal t h z nx q := by
 refine q4A ?_
 have hf := q99 m st 0
 simp only [kop, qi5, hx, hh, hkx, hz, qlH]
 cases hk' : findKey st (m.map (·.1)) 0 with
 | none => rw [List.map_append, List.map_append] at hk; exact hk
 | some j =>
   rw [hk'] at hf
   obtain ⟨_, v, h2, h3⟩ := hf
   rw [hn] at h3; cases h3
end
end Go.F

namespace Go.F
attribute [local irreducible] IntKind.wrap wpM
section
variable {T : Tab} {sh : Shr} {nx0 : Nat} {s : List Fr} {t : q0u} {h : q0f} {z : Frz} {nx : Nat} {q : Ex → q0u → q0f → Frz → Nat → Prop}
variable {base i : Nat} {res : List Nat} {g : Gd} {rest : List KOper}
end
def q2B (n : Nat) : Bool := (decide (65 ≤ n) && decide (n ≤ 90)) || (decide (48 ≤ n) && decide (n ≤ 57))
def sizeS (s : ByteArray) : Bool := decide (1 ≤ s.size) && (decide (s.size ≤ 8) && decide (∀ i, i < s.size → q2B (q23 s i).toNat = true))
theorem qoa {s : ByteArray} {k : Nat} (hk : k < s.size) (h : q2B (q23 s k).toNat = false) : sizeS s = false := by
 unfold sizeS
 rw [Bool.and_eq_false_iff, Bool.and_eq_false_iff]
 right; right
 rw [decide_eq_false_iff_not]
 intro g
 rw [g k hk] at h; cases h
theorem q1j (n : Nat) : q2B n = ((leb 65 n && leb n 90) || (leb 48 n && leb n 57)) := by
 simp only [q2B, q1I]
 congr 1
 ·congr 1 <;> (apply decide_eq_decide.2; omega)
 ·congr 1 <;> (apply decide_eq_decide.2; omega)
set_option maxHeartbeats 2000000 in
theorem qhW (s : ByteArray) (hs : s.size ≤ 1000000) : PU qcH [.str s] = some (.bool (sizeS s)) := by
 refine q0h (fn := q8e) rfl (q0c ?_)
 refine go 800 rfl ?_
 refine q0q (S := fun k : Nat => ([.str s, q00 s.size, q00 k], [none, none, none], [0, 0, 0])) (C := fun k => k ≤ s.size ∧ ∀ i, i < k → q2B (q23 s i).toNat = true) (m := fun k => s.size - k) 0 ⟨by omega, fun i hi => by omega⟩ (by omega) ?_ ?_
 ·exact q03 rfl trivial (by simp [q00])
 intro k ⟨hk, hall⟩ N hN
 refine go 800 rfl ?_
 refine q02 rfl (fun g1 => ?_) (fun g1 => ?_)
 ·rw [q06] at g1
  have hlt : k < s.size := by omega
  have w1 : IntKind.i64.wrap ((k : Int) + 1) = ((k + 1 : Nat) : Int) := wrap64 (by omega) (by omega)
  have hb := q6w hlt
  have hno := qoa hlt
  have hyes : q2B (q23 s k).toNat = true → ∀ i, i < k + 1 → q2B (q23 s i).toNat = true := by
   intro h i hi
   by_cases e : i = k
   ·subst e; exact h
   ·exact hall i (by omega)
  generalize q23 s k = c at *
  refine go 800 rfl ?_
  refine q1U k rfl rfl rfl hb ?_
  refine go 800 rfl ?_
  refine q05 rfl (fun a1 => ?_) (fun a1 => ?_)
  ·refine go 800 rfl ?_
   refine q1U k rfl rfl rfl hb ?_
   refine go 800 rfl ?_
   refine q1U k rfl rfl rfl hb ?_
   refine go 800 rfl ?_
   refine q05 rfl (fun d1 => ?_) (fun d1 => ?_)
   ·refine go 800 rfl ?_
    refine q1U k rfl rfl rfl hb ?_
    refine go 800 rfl ?_
    refine q05 rfl (fun e1 => ?_) (fun e1 => ?_)
    ·refine go 800 rfl ?_
     refine q02 rfl (fun e2 => ?_) (fun e2 => ?_)
     ·have hc : q2B c.toNat = false := by rw [q1j]; simp_all
      refine go 800 rfl ?_
      refine q04 ?_
      refine go 800 rfl ?_
      refine q08 rfl rfl rfl trivial ?_
      rw [hno hc]
     ·have hc : q2B c.toNat = true := by rw [q1j]; simp_all
      refine go 800 rfl ?_
      refine q04 ?_
      exact hN (k + 1) ⟨hlt, hyes hc⟩ (by omega) (q03 rfl trivial (by simp [q00, w1]))
    ·refine go 800 rfl ?_
     refine q0m rfl ?_
     have hc : q2B c.toNat = true := by rw [q1j]; simp_all
     refine go 800 rfl ?_
     refine q04 ?_
     exact hN (k + 1) ⟨hlt, hyes hc⟩ (by omega) (q03 rfl trivial (by simp [q00, w1]))
   ·refine go 800 rfl ?_
    refine q05 rfl (fun e1 => ?_) (fun e1 => ?_)
    ·refine go 800 rfl ?_
     refine q02 rfl (fun e2 => ?_) (fun e2 => ?_)
     ·have hc : q2B c.toNat = false := by rw [q1j]; simp_all
      refine go 800 rfl ?_
      refine q04 ?_
      refine go 800 rfl ?_
      refine q08 rfl rfl rfl trivial ?_
      rw [hno hc]
     ·have hc : q2B c.toNat = true := by rw [q1j]; simp_all
      refine go 800 rfl ?_
      refine q04 ?_
      exact hN (k + 1) ⟨hlt, hyes hc⟩ (by omega) (q03 rfl trivial (by simp [q00, w1]))
    ·refine go 800 rfl ?_
     refine q0m rfl ?_
     have hc : q2B c.toNat = true := by rw [q1j]; simp_all
     refine go 800 rfl ?_
     refine q04 ?_
     exact hN (k + 1) ⟨hlt, hyes hc⟩ (by omega) (q03 rfl trivial (by simp [q00, w1]))
  ·refine go 800 rfl ?_
   refine q1U k rfl rfl rfl hb ?_
   refine go 800 rfl ?_
   refine q05 rfl (fun d1 => ?_) (fun d1 => ?_)
   ·refine go 800 rfl ?_
    refine q1U k rfl rfl rfl hb ?_
    refine go 800 rfl ?_
    refine q05 rfl (fun e1 => ?_) (fun e1 => ?_)
    ·refine go 800 rfl ?_
     refine q02 rfl (fun e2 => ?_) (fun e2 => ?_)
     ·have hc : q2B c.toNat = false := by rw [q1j]; simp_all
      refine go 800 rfl ?_
      refine q04 ?_
      refine go 800 rfl ?_
      refine q08 rfl rfl rfl trivial ?_
      rw [hno hc]
     ·have hc : q2B c.toNat = true := by rw [q1j]; simp_all
      refine go 800 rfl ?_
      refine q04 ?_
      exact hN (k + 1) ⟨hlt, hyes hc⟩ (by omega) (q03 rfl trivial (by simp [q00, w1]))
    ·refine go 800 rfl ?_
     refine q0m rfl ?_
     have hc : q2B c.toNat = true := by rw [q1j]; simp_all
     refine go 800 rfl ?_
     refine q04 ?_
     exact hN (k + 1) ⟨hlt, hyes hc⟩ (by omega) (q03 rfl trivial (by simp [q00, w1]))
   ·refine go 800 rfl ?_
    refine q05 rfl (fun e1 => ?_) (fun e1 => ?_)
    ·refine go 800 rfl ?_
     refine q02 rfl (fun e2 => ?_) (fun e2 => ?_)
     ·have hc : q2B c.toNat = false := by rw [q1j]; simp_all
      refine go 800 rfl ?_
      refine q04 ?_
      refine go 800 rfl ?_
      refine q08 rfl rfl rfl trivial ?_
      rw [hno hc]
     ·have hc : q2B c.toNat = true := by rw [q1j]; simp_all
      refine go 800 rfl ?_
      refine q04 ?_
      exact hN (k + 1) ⟨hlt, hyes hc⟩ (by omega) (q03 rfl trivial (by simp [q00, w1]))
    ·refine go 800 rfl ?_
     refine q0m rfl ?_
     have hc : q2B c.toNat = true := by rw [q1j]; simp_all
     refine go 800 rfl ?_
     refine q04 ?_
     exact hN (k + 1) ⟨hlt, hyes hc⟩ (by omega) (q03 rfl trivial (by simp [q00, w1]))
 rw [q07] at g1
 obtain rfl : k = s.size := by omega
 have hA : decide (∀ i, i < s.size → q2B (q23 s i).toNat = true) = true := decide_eq_true hall
 refine go 800 rfl ?_
 refine q04 ?_
 refine go 800 rfl ?_
 refine q05 rfl (fun h1 => ?_) (fun h1 => ?_)
 ·rw [q0D] at h1
  refine go 800 rfl ?_
  refine q08 rfl rfl rfl trivial ?_
  rw [sizeS, hA, q1I, decide_eq_true (show 1 ≤ s.size by omega)]
  simp
  omega
 ·rw [q0E] at h1
  refine go 800 rfl ?_
  refine q08 rfl rfl rfl trivial ?_
  rw [sizeS, decide_eq_false (show ¬ 1 ≤ s.size by omega)]; rfl
theorem qbA (s : ByteArray) : PU q8B [.str s] = some (.bool (q1L s)) := by
 refine q0h (fn := q86) rfl (q0c ?_)
 refine go 800 rfl ?_
 refine q01 rfl rfl (qa1 s) ?_
 repeat' (first
  | (refine goP 800 rfl rfl ?_)
  | (show wpM _ _ _ (Fr.ops _ _ (KOper.mk _ _ (some _) _ _ :: _) :: _) Ex.normal _ _ _ _ _; first | refine q0e rfl ?_ | refine q0j rfl ?_ | refine q05 rfl (fun _ => ?_) (fun _ => ?_))
  | (show wpM _ _ _ (Fr.code (K.cond _ _ _) :: _) Ex.normal _ _ _ _ _; first | refine q0g rfl ?_ | refine q0m rfl ?_ | refine q02 rfl (fun _ => ?_) (fun _ => ?_))
  | (show wpM _ _ _ (Fr.ops _ _ (KOper.mk _ _ none _ (KOp.pick _ _ _) :: _) :: _) Ex.normal _ _ _ _ _; refine q0G rfl (fun _ => ?_) (fun _ => ?_))
  | (show wpM _ _ _ [] _ _ _ _ _ _; refine q08 rfl rfl rfl trivial ?_))
 cases q1L s <;> simp [eqb]
theorem qkk (s : ByteArray) : PU q3H [.lst [], .str s] = some (.int .i64 (-1)) := by
 refine q0h (fn := q2d) rfl (q0c ?_)
 refine go 800 rfl ?_
 refine q0q (S := fun k : Nat => ([.lst [], .str s, q00 0, q00 k], [none, none, none, none], [0, 0, 0, 0])) (C := fun k => k = 0) (m := fun k => 0) 0 rfl (by omega) ?_ ?_
 ·exact q03 rfl trivial rfl
 rintro k rfl N hN
 refine go 800 rfl ?_
 refine q02 rfl (fun g => absurd (q06.1 g) (by simp)) (fun _ => ?_)
 refine go 800 rfl ?_
 refine q04 ?_
 refine go 800 rfl ?_
 exact q08 rfl rfl rfl trivial rfl
theorem qgJ (s : ByteArray) : PU q34 [.lst [], .str s] = some (.bool false) := by
 refine q0h (fn := q1S) rfl (q0c ?_)
 refine go 800 rfl ?_
 refine q01 rfl rfl (qkk s) ?_
 refine go 800 rfl ?_
 refine q08 rfl rfl rfl trivial ?_
 rw [q1I]; rfl
def qgK (s : ByteArray) : D := .agg [.lst [.str s], .int .i64 0, .lst []]
theorem qpx (s : ByteArray) : PU qbm [qgK s, .int .i64 0] = some (.bool true) := by
 refine q0h (fn := q7k) rfl (q0c ?_)
 repeat' (first
  | (refine goP 800 rfl rfl ?_)
  | (show wpM _ _ _ (Fr.ops _ _ (KOper.mk _ _ (some _) _ _ :: _) :: _) Ex.normal _ _ _ _ _; first | refine q0e rfl ?_ | refine q0j rfl ?_ | refine q05 rfl (fun _ => ?_) (fun _ => ?_))
  | (show wpM _ _ _ (Fr.code (K.cond _ _ _) :: _) Ex.normal _ _ _ _ _; first | refine q0g rfl ?_ | refine q0m rfl ?_ | refine q02 rfl (fun _ => ?_) (fun _ => ?_))
  | (show wpM _ _ _ (Fr.ops _ _ (KOper.mk _ _ none _ (KOp.pick _ _ _) :: _) :: _) Ex.normal _ _ _ _ _; refine q0G rfl (fun _ => ?_) (fun _ => ?_))
  | (show wpM _ _ _ [] _ _ _ _ _ _; refine q08 rfl rfl rfl trivial ?_))
 all_goals (first | rfl | (simp_all [q1I, q1H]; done) | (simp only [q0E, q07] at *; omega))
set_option maxHeartbeats 4000000 in
theorem qjL (s : ByteArray) (hs : s.size ≤ 1000000) : PU qdP [qgK s] = some (.int .i64 (if sizeS s then 0 else 1)) := by
 have hz := qhW s hs
 refine q0h (fn := q9n) rfl (q0c ?_)
 refine go 800 rfl ?_
 refine q05 rfl (fun g => absurd (q06.1 g) (by simp)) (fun _ => ?_)
 refine go 800 rfl ?_
 refine q02 rfl (fun g => absurd (q06.1 g) (by simp)) (fun _ => ?_)
 refine go 800 rfl ?_
 refine q02 rfl (fun g => absurd (q12.1 g) (by simp)) (fun _ => ?_)
 refine go 800 rfl ?_
 refine q0q (S := fun k : Nat => ([.ptr 0 0 0, .lst [.str s], q00 1, q00 k], [some (.row [qgK s] 3), none, none, none], [0, 0, 0, 0])) (C := fun k => k ≤ 1 ∧ (k = 1 → sizeS s = true)) (m := fun k => 1 - k) 0 ⟨by omega, fun h => by omega⟩ (by omega) ?_ ?_
 ·exact q03 rfl ⟨rfl, trivial⟩ rfl
 rintro k ⟨hk, hks⟩ N hN
 refine go 800 rfl ?_
 refine q02 rfl (fun g => ?_) (fun g => ?_)
 ·rw [q06] at g
  obtain rfl : k = 0 := by omega
  refine go 800 rfl ?_
  refine q0k 0 rfl rfl rfl rfl rfl ?_
  refine go 800 rfl ?_
  refine q01 rfl rfl hz ?_
  cases hv : sizeS s with
  | false =>
    refine go 800 rfl ?_
    refine q0g rfl ?_
    refine go 800 rfl ?_
    refine q04 ?_
    refine go 800 rfl ?_
    exact q08 rfl rfl rfl trivial rfl
  | true =>
    refine go 800 rfl ?_
    refine q0m rfl ?_
    refine go 800 rfl ?_
    refine q04 ?_
    refine hN 1 ⟨by omega, fun _ => hv⟩ (by omega) (q03 rfl ⟨rfl, trivial⟩ ?_)
    have w : IntKind.i64.wrap (((0 : Nat) : Int) + 1) = ((1 : Nat) : Int) := wrap64 (by omega) (by omega)
    rw [w]; rfl
 rw [q07] at g
 obtain rfl : k = 1 := by omega
 clear hN
 rw [hks rfl]
 refine go 800 rfl ?_
 refine q04 ?_
 refine go 800 rfl ?_
 refine q0q (S := fun k : Nat => ([.ptr 0 0 0, .lst [], q00 0, q00 0], [some (.row [qgK s] 3), none, none, none], [0, 0, 0, 0])) (C := fun k => k = 0) (m := fun k => 0) 0 rfl (by omega) ?_ ?_
 ·exact q03 rfl ⟨rfl, trivial⟩ rfl
 rintro k rfl N hN
 refine go 800 rfl ?_
 refine q02 rfl (fun g => absurd (q06.1 g) (by simp)) (fun _ => ?_)
 clear hN
 refine go 800 rfl ?_
 refine q04 ?_
 refine go 800 rfl ?_
 refine q0q (S := fun k : Nat => ([.ptr 0 0 0, .lst [.str s], q00 1, q00 k], [some (.row [qgK s] 3), none, none, none], [0, 0, 0, 0])) (C := fun k => k ≤ 1) (m := fun k => 1 - k) 0 (by omega) (by omega) ?_ ?_
 ·exact q03 rfl ⟨rfl, trivial⟩ rfl
 intro k hk N hN
 refine go 800 rfl ?_
 refine q02 rfl (fun g => ?_) (fun g => ?_)
 ·rw [q06] at g
  obtain rfl : k = 0 := by omega
  refine go 800 rfl ?_
  refine q0k 0 rfl rfl rfl rfl rfl ?_
  refine go 800 rfl ?_
  refine qdM 0 rfl rfl ⟨_, _, rfl, rfl⟩ (Nat.zero_le _) ?_
  refine go 800 rfl ?_
  refine q01 rfl rfl (qgJ s) ?_
  refine go 800 rfl ?_
  refine q0m rfl ?_
  refine go 800 rfl ?_
  refine q04 ?_
  refine hN 1 (by omega) (by omega) (q03 rfl ⟨rfl, trivial⟩ ?_)
  have w : IntKind.i64.wrap (((0 : Nat) : Int) + 1) = ((1 : Nat) : Int) := wrap64 (by omega) (by omega)
  rw [w]; rfl
 rw [q07] at g
 clear hN
 refine go 800 rfl ?_
 refine q04 ?_
 refine go 800 rfl ?_
 refine q0q (S := fun k : Nat => ([.ptr 0 0 0, .lst [], q00 0, q00 0], [some (.row [qgK s] 3), none, none, none], [0, 0, 0, 0])) (C := fun k => k = 0) (m := fun k => 0) 0 rfl (by omega) ?_ ?_
 ·exact q03 rfl ⟨rfl, trivial⟩ rfl
 rintro k rfl N hN
 refine go 800 rfl ?_
 refine q02 rfl (fun g => absurd (q06.1 g) (by simp)) (fun _ => ?_)
 clear hN
 refine go 800 rfl ?_
 refine q04 ?_
 refine go 800 rfl ?_
 refine q01 rfl rfl (qpx s) ?_
 refine go 800 rfl ?_
 refine q0m rfl ?_
 refine go 800 rfl ?_
 exact q08 rfl rfl rfl trivial rfl
theorem qhX (s : ByteArray) (hs : s.size ≤ 1000000) : PU qcy [.str s] = some (.bool (sizeS s)) := by
 have hz := qjL s hs
 refine q0h (fn := q87) rfl (q0c ?_)
 refine go 800 rfl ?_
 refine q58 rfl rfl ⟨⟨Nat.le_refl _, rfl⟩, trivial⟩ hz rfl ?_
 refine go 800 rfl ?_
 refine q08 rfl rfl rfl trivial ?_
 cases sizeS s <;> simp [q2i]
theorem qmy (l : List Int) (v : Int) (hl : l.length ≤ 1000000) : PU q64 [ints l, .int .i64 v] = some (.int .i64 (qcu (fun x => decide (v = x)) l)) := by
 refine q0h (fn := q3o) rfl (q0c ?_)
 refine go 800 rfl ?_
 rw [List.length_map]
 refine q0q (S := fun k : Nat => ([ints l, .int .i64 v, q00 l.length, q00 k], [none, none, none, none], [0, 0, 0, 0])) (C := fun k => k ≤ l.length ∧ ∀ j (hj : j < l.length), j < k → decide (v = l[j]) = false) (m := fun k => l.length - k) 0 ⟨Nat.zero_le _, fun j _ h => by omega⟩ (by omega) ?_ ?_
 ·exact q03 rfl trivial (by simp [ints, q00])
 rintro k ⟨hk, hno⟩ N hN
 refine go 800 rfl ?_
 refine q02 rfl (fun g => ?_) (fun g => ?_)
 ·rw [q06] at g
  have hlt : k < l.length := by omega
  have w1 : IntKind.i64.wrap ((k : Int) + 1) = ((k + 1 : Nat) : Int) := wrap64 (by omega) (by omega)
  refine go 800 rfl ?_
  refine q0k k rfl rfl rfl (q1J hlt) rfl ?_
  refine go 800 rfl ?_
  refine q02 rfl (fun e => ?_) (fun e => ?_)
  ·rw [q12] at e
   refine go 800 rfl ?_
   refine q04 ?_
   refine go 800 rfl ?_
   refine q08 rfl rfl rfl trivial ?_
   rw [qeu hlt hno (decide_eq_true e)]
  ·rw [q1a] at e
   refine go 800 rfl ?_
   refine q04 ?_
   refine hN (k + 1) ⟨hlt, fun j hj hjk => ?_⟩ (by omega) (q03 rfl trivial (by simp [ints, q00, w1]))
   by_cases ej : j = k
   ·subst ej; exact decide_eq_false e
   ·exact hno j hj (by omega)
 rw [q07] at g
 obtain rfl : k = l.length := by omega
 refine go 800 rfl ?_
 refine q04 ?_
 refine go 800 rfl ?_
 refine q08 rfl rfl rfl trivial ?_
 rw [qev fun j hj => hno j hj hj]
theorem qhY (l : List Int) (v : Int) (hl : l.length ≤ 1000000) : PU q4D [ints l, .int .i64 v] = some (.bool (decide (v ∈ l))) := by
 have h := qmy l v hl
 have e : decide (v ∈ l) = decide (0 ≤ qcu (fun x => decide (v = x)) l) := by
  rw [qaK]
  rw [Bool.eq_iff_iff]
  simp
 refine q0h (fn := q2H) rfl (q0c ?_)
 refine go 800 rfl ?_
 refine q01 rfl rfl h ?_
 refine go 800 rfl ?_
 refine q08 rfl rfl rfl trivial ?_
 rw [e, q1I]
end Go.F

namespace Go.F
attribute [local irreducible] IntKind.wrap wpM
section
variable {T : Tab} {sh : Shr} {nx0 : Nat} {s : List Fr} {t : q0u} {h : q0f} {z : Frz} {nx : Nat} {q : Ex → q0u → q0f → Frz → Nat → Prop}
variable {base i : Nat} {res : List Nat} {g : Gd} {rest : List KOper}
theorem quM {zv : D} {x kx : X} {dst : Nat} {m : List (ByteArray × D)} {st : ByteArray} {id : Nat} (hx : x.ev t = .mref id) (hh : g.h base h id = some (.mp (m.map (·.1)) (m.map (·.2)))) (hkx : kx.ev t = .str st)
 (hs : ∀ v, qeC m st = some v → wpM T sh nx0 (.ops base res rest :: s) .normal (upd t dst v) h z nx q)
 (hn : qeC m st = none → wpM T sh nx0 (.ops base res rest :: s) .normal (upd t dst zv) h z nx q) :
 wpM T sh nx0 (.ops base res (⟨i, some dst, none, g, .lookup zv x kx false⟩ :: rest) :: s) .normal t h z nx q := by
 refine q4A ?_
 have hf := q99 m st 0
 simp only [kop, qft, hx, hh, q6E, hkx, qlH]
 cases hk : findKey st (m.map (·.1)) 0 with
 | none => rw [hk] at hf; exact hn hf
 | some j =>
   rw [hk] at hf
   obtain ⟨_, v, h2, h3⟩ := hf
   exact q9f h2 (hs v h3)
end
theorem quN {a b : ByteArray} (h : a.toList = b.toList) : a = b := by
 rw [Go.ByteArray.toList_eq, Go.ByteArray.toList_eq] at h
 exact ByteArray.ext (Array.ext' h)
theorem ba_eq2 (a b : ByteArray) : (a == b) = (a.toList == b.toList) := by
 have e : (a == b) = (a.data == b.data) := rfl
 rw [e, Bool.eq_iff_iff, beq_iff_eq, beq_iff_eq]
 exact ⟨fun h => by rw [Go.ByteArray.toList_eq, Go.ByteArray.toList_eq, h], fun h => by rw [quN h]⟩
def q7b (l : List ByteArray) : List (ByteArray × D) := l.map fun x => (x, D.bool true)
theorem qpy (l : List ByteArray) (x : ByteArray) : q7b (l ++ [x]) = q7b l ++ [(x, .bool true)] := by simp [q7b]
theorem qrR (l : List ByteArray) (s : ByteArray) : qeC (q7b l) s = cond (l.any fun x => x.toList == s.toList) (some (.bool true)) none := by
 induction l with
 | nil => rfl
 | cons x l ih =>
   unfold qeC q7b at *
   simp only [List.map_cons, List.find?_cons, List.any_cons]
   rw [ba_eq2, Bool.beq_comm]
   cases x.toList == s.toList with
   | true => rfl
   | false => exact ih
theorem qob (l : List ByteArray) : ((q7b l).map (·.2)).all (plain 4) = true := by
 unfold q7b; rw [List.map_map]; exact q0b (fun _ => rfl) _
def q4o (l : List ByteArray) : Bool := (List.range l.length).any fun i => (l.take i).any fun x => x.toList == (sz l i).toList
def q26 (s : Sty) : Int :=
 if q1L s.name = false ∨ s.sizes.length = 0 then 1
 else if s.sizes.any (fun x => !sizeS x) then 1
 else if s.mults.length ≠ s.sizes.length ∨ 0 ∉ s.mults then 1
 else if q4o s.sizes then 7
 else if 12 < s.sizes.length ∨ 12 < s.pieces.length ∨ 12 < s.uses.length then 5
 else if 24 < s.seams.length ∨ 16 < s.ops.length then 5
 else if s.mults.any (fun m => decide (m < -100) || decide (100 < m)) then 3 else 0
structure StyB (s : Sty) : Prop where
 sizes : s.sizes.length ≤ 1000
 size : ∀ x ∈ s.sizes, x.size ≤ 1000
 mults : s.mults.length ≤ 1000
 pieces : s.pieces.length ≤ 1000
 uses : s.uses.length ≤ 1000
 seams : s.seams.length ≤ 1000
 ops : s.ops.length ≤ 1000
 corners : ∀ p ∈ s.pieces, p.corners.length ≤ 1000
 widths : ∀ p ∈ s.pieces, p.widths.length ≤ 1000
 notches : ∀ p ∈ s.pieces, p.notches.length ≤ 1000
set_option maxHeartbeats 8000000 in
theorem qkl (s : Sty) (hB : StyB s) : PU q8w [s.enc] = some (.int .i64 (q26 s)) := by
 have b1 := hB.sizes
 have b2 := hB.mults
 refine q0h (fn := q5a) rfl (q0c ?_)
 refine go 800 rfl ?_
 refine q01 rfl rfl (qbA s.name) ?_
 cases hn : q1L s.name with
 | false =>
   refine go 800 rfl ?_
   refine q0e rfl ?_
   refine go 800 rfl ?_
   refine q0g rfl ?_
   refine go 800 rfl ?_
   refine q08 rfl rfl rfl trivial ?_
   rw [q26, if_pos (.inl hn)]
 | true =>
   refine go 800 rfl ?_
   refine q0j rfl ?_
   refine go 800 rfl ?_
   rw [List.length_map]
   refine q02 rfl (fun g => ?_) (fun g => ?_)
   ·rw [q12] at g
    refine go 800 rfl ?_
    refine q08 rfl rfl rfl trivial ?_
    rw [q26, if_pos (.inr (by omega))]
   rw [q1a] at g
   have hc1 : ¬ (q1L s.name = false ∨ s.sizes.length = 0) := by
    rintro (h | h)
    ·rw [hn] at h; cases h
    ·omega
   refine go 800 rfl ?_
   rw [List.length_map]
   refine q0q (S := fun k : Nat => ([.ptr 0 0 0, strs s.sizes, q00 s.sizes.length, q00 k], [some (.row [s.enc] 7), none, none, none], [0, 0, 0, 0])) (C := fun k => k ≤ s.sizes.length ∧ ∀ j (hj : j < s.sizes.length), j < k → sizeS s.sizes[j] = true) (m := fun k => s.sizes.length - k) 0 ⟨Nat.zero_le _, fun j _ h => by omega⟩ (by omega) ?_ ?_
   ·exact q03 rfl ⟨rfl, trivial⟩ rfl
   rintro k ⟨hk, hall⟩ N hN
   refine go 800 rfl ?_
   refine q02 rfl (fun e => ?_) (fun e => ?_)
   ·rw [q06] at e
    have hlt : k < s.sizes.length := by omega
    have w1 : IntKind.i64.wrap ((k : Int) + 1) = ((k + 1 : Nat) : Int) := wrap64 (by omega) (by omega)
    have hz := qhX s.sizes[k] (by have := hB.size _ (List.getElem_mem hlt); omega)
    refine go 800 rfl ?_
    refine q0k k rfl rfl rfl (q1J hlt) rfl ?_
    refine go 800 rfl ?_
    refine q01 rfl rfl hz ?_
    cases hv : sizeS s.sizes[k] with
    | false =>
      refine go 800 rfl ?_
      refine q0g rfl ?_
      refine go 800 rfl ?_
      refine q04 ?_
      refine go 800 rfl ?_
      refine q08 rfl rfl rfl trivial ?_
      rw [q26, if_neg hc1, if_pos (q3c hlt (by rw [hv]; rfl))]
    | true =>
      refine go 800 rfl ?_
      refine q0m rfl ?_
      refine go 800 rfl ?_
      refine q04 ?_
      refine hN (k + 1) ⟨hlt, fun j hj hjk => ?_⟩ (by omega) (q03 rfl ⟨rfl, trivial⟩ (by rw [w1]; rfl))
      by_cases ej : j = k
      ·subst ej; exact hv
      ·exact hall j hj (by omega)
   rw [q07] at e
   obtain rfl : k = s.sizes.length := by omega
   clear hN
   have hc2 : ¬ (s.sizes.any (fun x => !sizeS x)) = true := by rw [q2N fun j hj => by rw [hall j hj hj]; rfl]; decide
   refine go 800 rfl ?_
   refine q04 ?_
   refine go 800 rfl ?_
   rw [List.length_map, List.length_map]
   refine q05 rfl (fun g2 => ?_) (fun g2 => ?_)
   ·rw [q0z] at g2
    refine go 800 rfl ?_
    refine q0g rfl ?_
    refine go 800 rfl ?_
    refine q08 rfl rfl rfl trivial ?_
    rw [q26, if_neg hc1, if_neg hc2, if_pos (.inl (by omega))]
   rw [q0A] at g2
   have g2' : s.mults.length = s.sizes.length := by omega
   refine go 800 rfl ?_
   refine q01 rfl rfl (qhY s.mults 0 (by omega)) ?_
   cases hz : decide (0 ∈ s.mults) with
   | false =>
     have hz := of_decide_eq_false hz
     refine go 800 rfl ?_
     refine q0g rfl ?_
     refine go 800 rfl ?_
     refine q08 rfl rfl rfl trivial ?_
     rw [q26, if_neg hc1, if_neg hc2, if_pos (.inr hz)]
   | true =>
     have hz := of_decide_eq_true hz
     have hc3 : ¬ (s.mults.length ≠ s.sizes.length ∨ 0 ∉ s.mults) := by
      rintro (h | h)
      ·exact h g2'
      ·exact h hz
     refine go 800 rfl ?_
     refine q0m rfl ?_
     refine go 800 rfl ?_
     rw [List.length_map]
     refine q0q (S := fun k : Nat => ([.ptr 0 0 0, .mref 1, strs s.sizes, q00 s.sizes.length, q00 k], [some (.row [s.enc] 7), some (.mp ((q7b (s.sizes.take k)).map (·.1)) ((q7b (s.sizes.take k)).map (·.2))), none, none, none], [0, 0, 0, 0, 0])) (C := fun k => k ≤ s.sizes.length ∧ ∀ i, i < k → ((s.sizes.take i).any fun x => x.toList == (sz s.sizes i).toList) = false) (m := fun k => s.sizes.length - k) 0 ⟨Nat.zero_le _, fun j h => by omega⟩ (by omega) ?_ ?_
     ·exact qq2 (o := [.p _, .p _]) (kp := ([.ptr 0 0 0, .mref 1, strs s.sizes, q00 s.sizes.length, q00 0], [some (.row [s.enc] 7), some (.mp [] []), none, none, none], [0, 0, 0, 0, 0])) [none] rfl ⟨rfl, rfl, trivial⟩ rfl
     rintro k ⟨hk, htw⟩ N hN
     refine go 800 rfl ?_
     refine q02 rfl (fun e => ?_) (fun e => ?_)
     ·rw [q06] at e
      have hlt : k < s.sizes.length := by omega
      have w1 : IntKind.i64.wrap ((k : Int) + 1) = ((k + 1 : Nat) : Int) := wrap64 (by omega) (by omega)
      have hst : q7b (s.sizes.take (k + 1)) = q7b (s.sizes.take k) ++ [(sz s.sizes k, .bool true)] := by
       rw [List.take_succ_eq_append_getElem hlt, qpy, qjK hlt]
      have hgt := qrR (s.sizes.take k) (sz s.sizes k)
      refine go 800 rfl ?_
      refine q0k k rfl rfl rfl (qpv hlt) rfl ?_
      refine go 800 rfl ?_
      refine quM (m := q7b (s.sizes.take k)) rfl rfl rfl (fun v hv => ?_) (fun hv => ?_)
      ·rw [hgt] at hv
       cases ha : ((s.sizes.take k).any fun x => x.toList == (sz s.sizes k).toList) with
       | true =>
         rw [ha] at hv
         cases hv
         refine go 800 rfl ?_
         refine q0g rfl ?_
         refine go 800 rfl ?_
         refine q04 ?_
         refine go 800 rfl ?_
         refine q08 rfl rfl rfl trivial ?_
         have ht : q4o s.sizes = true := by
          unfold q4o
          rw [List.any_eq_true]
          exact ⟨k, List.mem_range.2 hlt, ha⟩
         rw [q26, if_neg hc1, if_neg hc2, if_neg hc3, if_pos ht]
       | false => rw [ha] at hv; cases hv
      ·have ha : ((s.sizes.take k).any fun x => x.toList == (sz s.sizes k).toList) = false := by
        rw [hgt] at hv
        cases ha : ((s.sizes.take k).any fun x => x.toList == (sz s.sizes k).toList) with
        | true => rw [ha] at hv; cases hv
        | false => rfl
       refine go 800 rfl ?_
       refine q0m rfl ?_
       refine go 800 rfl ?_
       refine atPut (m := q7b (s.sizes.take k)) rfl rfl rfl rfl hv ?_
       refine go 800 rfl ?_
       refine q04 ?_
       refine hN (k + 1) ⟨hlt, fun i hi => ?_⟩ (by omega) (qq2 (o := [.p [s.enc], .p ((q7b (s.sizes.take k) ++ [(sz s.sizes k, D.bool true)] : List (ByteArray × D)).map (·.2))]) (kp := ([.ptr 0 0 0, .mref 1, strs s.sizes, q00 s.sizes.length, .int .i64 (IntKind.i64.wrap ((k : Int) + 1))], [some (.row [s.enc] 7), some (.mp ((q7b (s.sizes.take k) ++ [(sz s.sizes k, D.bool true)] : List (ByteArray × D)).map (·.1)) ((q7b (s.sizes.take k) ++ [(sz s.sizes k, D.bool true)] : List (ByteArray × D)).map (·.2))), none, none, none], [0, 0, 0, 0, 0])) [none] rfl ⟨rfl, ?_, trivial⟩ ?_)
       ·by_cases ei : i = k
        ·subst ei; exact ha
        ·exact htw i (by omega)
       ·show List.all ((q7b (s.sizes.take k) ++ [(sz s.sizes k, D.bool true)] : List (ByteArray × D)).map (·.2)) _ = true
        rw [← hst]; exact qob _
       ·rw [w1, hst]; rfl
     rw [q07] at e
     obtain rfl : k = s.sizes.length := by omega
     clear hN
     have hc4 : ¬ q4o s.sizes = true := by
      unfold q4o
      rw [List.any_eq_true]
      rintro ⟨i, hi, h⟩
      rw [htw i (List.mem_range.1 hi)] at h; cases h
     have hw : q26 s = if 12 < s.sizes.length ∨ 12 < s.pieces.length ∨ 12 < s.uses.length then 5
      else if 24 < s.seams.length ∨ 16 < s.ops.length then 5
      else if s.mults.any (fun m => decide (m < -100) || decide (100 < m)) then 3 else 0 := by
      rw [q26, if_neg hc1, if_neg hc2, if_neg hc3, if_neg hc4]
     rw [hw]
     refine go 800 rfl ?_
     refine q04 ?_
     refine go 800 rfl ?_
     rw [List.length_map]
     refine q05 rfl (fun g3 => ?_) (fun g3 => ?_)
     ·rw [q06] at g3
      refine go 800 rfl ?_
      refine q0e rfl ?_
      refine go 800 rfl ?_
      refine q0g rfl ?_
      refine go 800 rfl ?_
      refine q08 rfl rfl rfl trivial ?_
      rw [if_pos (.inl (by omega))]
     rw [q07] at g3
     refine go 800 rfl ?_
     rw [List.length_map]
     refine q05 rfl (fun g4 => ?_) (fun g4 => ?_)
     ·rw [q06] at g4
      refine go 800 rfl ?_
      refine q0g rfl ?_
      refine go 800 rfl ?_
      refine q08 rfl rfl rfl trivial ?_
      rw [if_pos (.inr (.inl (by omega)))]
     rw [q07] at g4
     refine go 800 rfl ?_
     rw [List.length_map]
     refine q02 rfl (fun g5 => ?_) (fun g5 => ?_)
     ·rw [q06] at g5
      refine go 800 rfl ?_
      refine q08 rfl rfl rfl trivial ?_
      rw [if_pos (.inr (.inr (by omega)))]
     rw [q07] at g5
     rw [if_neg (by omega)]
     refine go 800 rfl ?_
     rw [List.length_map]
     refine q05 rfl (fun g6 => ?_) (fun g6 => ?_)
     ·rw [q06] at g6
      refine go 800 rfl ?_
      refine q0g rfl ?_
      refine go 800 rfl ?_
      refine q08 rfl rfl rfl trivial ?_
      rw [if_pos (.inl (by omega))]
     rw [q07] at g6
     refine go 800 rfl ?_
     rw [List.length_map]
     refine q02 rfl (fun g7 => ?_) (fun g7 => ?_)
     ·rw [q06] at g7
      refine go 800 rfl ?_
      refine q08 rfl rfl rfl trivial ?_
      rw [if_pos (.inr (by omega))]
     rw [q07] at g7
     rw [if_neg (by omega)]
     refine go 800 rfl ?_
     rw [List.length_map]
     refine q0q (S := fun k : Nat => ([ints s.mults, q00 s.mults.length, q00 k], [none, none, none], [0, 0, 0])) (C := fun k => k ≤ s.mults.length ∧ ∀ j (hj : j < s.mults.length), j < k → (decide (s.mults[j] < -100) || decide (100 < s.mults[j])) = false) (m := fun k => s.mults.length - k) 0 ⟨Nat.zero_le _, fun j _ h => by omega⟩ (by omega) ?_ ?_
     ·exact q03 rfl trivial rfl
     rintro k ⟨hk, hm⟩ N hN
     refine go 800 rfl ?_
     refine q02 rfl (fun e => ?_) (fun e => ?_)
     ·rw [q06] at e
      have hlt : k < s.mults.length := by omega
      have w1 : IntKind.i64.wrap ((k : Int) + 1) = ((k + 1 : Nat) : Int) := wrap64 (by omega) (by omega)
      have bad : (decide (s.mults[k] < -100) || decide (100 < s.mults[k])) = true → (s.mults.any fun m => decide (m < -100) || decide (100 < m)) = true := fun h => q3c hlt h
      have hx : (s.mults.map q00)[k]? = some (.int .i64 s.mults[k]) := q1J hlt
      refine go 800 rfl ?_
      refine q0k k rfl rfl rfl hx rfl ?_
      refine go 800 rfl ?_
      refine q05 rfl (fun f1 => ?_) (fun f1 => ?_)
      ·rw [q06] at f1
       refine go 800 rfl ?_
       refine q0g rfl ?_
       refine go 800 rfl ?_
       refine q04 ?_
       refine go 800 rfl ?_
       refine q08 rfl rfl rfl trivial ?_
       rw [if_pos (bad (by simp; omega))]
      rw [q07] at f1
      refine go 800 rfl ?_
      refine q02 rfl (fun f2 => ?_) (fun f2 => ?_)
      ·rw [q06] at f2
       refine go 800 rfl ?_
       refine q04 ?_
       refine go 800 rfl ?_
       refine q08 rfl rfl rfl trivial ?_
       rw [if_pos (bad (by simp; omega))]
      rw [q07] at f2
      refine go 800 rfl ?_
      refine q04 ?_
      refine hN (k + 1) ⟨hlt, fun j hj hjk => ?_⟩ (by omega) (q03 rfl trivial (by rw [w1]; rfl))
      by_cases ej : j = k
      ·subst ej; simp; omega
      ·exact hm j hj (by omega)
     rw [q07] at e
     obtain rfl : k = s.mults.length := by omega
     rw [if_neg (by rw [q2N fun j hj => hm j hj hj]; decide)]
     refine go 800 rfl ?_
     refine q04 ?_
     refine go 800 rfl ?_
     exact q08 rfl rfl rfl trivial rfl
end Go.F

namespace Go.F
attribute [local irreducible] IntKind.wrap wpM
def q3W (b : List Piece) (p : Piece) : Int :=
 if q1L p.name = false then 1
 else if p.grain ≠ 1 ∧ p.grain ≠ 2 ∧ p.grain ≠ 4 then 1
 else if (b.any fun o => o.name.toList == p.name.toList) then 7
 else if (q0B p 0).2 ≠ 0 then (q0B p 0).2
 else if (q29 p 0).2 ≠ 0 then (q29 p 0).2
 else if p.widths.length ≠ p.edges.length then 1
 else if p.widths.any q2t then 3 else 0
set_option maxHeartbeats 8000000 in
theorem qkm (b : List Piece) (p : Piece) (hb : b.length ≤ 1000) (h1 : p.corners.length ≤ 1000) (h2 : p.widths.length ≤ 1000) : PU q8x [Go.F.pieces b, p.enc] = some (.int .i64 (q3W b p)) := by
 refine q0h (fn := q5b) rfl (q0c ?_)
 refine go 800 rfl ?_
 refine q01 rfl rfl (qbA p.name) ?_
 cases hn : q1L p.name with
 | false =>
   refine go 800 rfl ?_
   refine q0g rfl ?_
   refine go 800 rfl ?_
   refine q08 rfl rfl rfl trivial ?_
   rw [q3W, if_pos hn]
 | true =>
   have hc1 : ¬ q1L p.name = false := by rw [hn]; decide
   refine go 800 rfl ?_
   refine q0m rfl ?_
   refine go 800 rfl ?_
   refine q05 rfl (fun g1 => ?_) (fun g1 => ?_)
   ·rw [q0z] at g1
    refine go 800 rfl ?_
    refine q05 rfl (fun g2 => ?_) (fun g2 => ?_)
    ·rw [q0z] at g2
     refine go 800 rfl ?_
     refine q02 rfl (fun g3 => ?_) (fun g3 => ?_)
     ·rw [q0z] at g3
      refine go 800 rfl ?_
      refine q08 rfl rfl rfl trivial ?_
      rw [q3W, if_neg hc1, if_pos ⟨g1, g2, g3⟩]
     ·rw [q0A] at g3
      have hc2 : ¬ (p.grain ≠ 1 ∧ p.grain ≠ 2 ∧ p.grain ≠ 4) := fun h => h.2.2 g3
      refine go 800 rfl ?_
      rw [List.length_map]
      refine q0q (S := fun k : Nat => ([.ptr 0 0 0, Go.F.pieces b, q00 b.length, q00 k], [some (.row [p.enc] 7), none, none, none], [0, 0, 0, 0])) (C := fun k => k ≤ b.length ∧ ∀ j (hj : j < b.length), j < k → (b[j].name.toList == p.name.toList) = false) (m := fun k => b.length - k) 0 ⟨Nat.zero_le _, fun j _ h => by omega⟩ (by omega) ?_ ?_
      ·exact q03 rfl ⟨rfl, trivial⟩ rfl
      rintro k ⟨hk, hno⟩ N hN
      refine go 800 rfl ?_
      refine q02 rfl (fun e => ?_) (fun e => ?_)
      ·rw [q06] at e
       have hlt : k < b.length := by omega
       have w1 : IntKind.i64.wrap ((k : Int) + 1) = ((k + 1 : Nat) : Int) := wrap64 (by omega) (by omega)
       refine go 800 rfl ?_
       refine q0k k rfl rfl rfl (q1J hlt) rfl ?_
       refine go 800 rfl ?_
       refine q02 rfl (fun f => ?_) (fun f => ?_)
       ·refine go 800 rfl ?_
        refine q04 ?_
        refine go 800 rfl ?_
        refine q08 rfl rfl rfl trivial ?_
        rw [q3W, if_neg hc1, if_neg hc2, if_pos (q3c hlt f)]
       ·refine go 800 rfl ?_
        refine q04 ?_
        refine hN (k + 1) ⟨hlt, fun j hj hjk => ?_⟩ (by omega) (q03 rfl ⟨rfl, trivial⟩ (by rw [w1]; rfl))
        by_cases ej : j = k
        ·subst ej; exact f
        ·exact hno j hj (by omega)
      rw [q07] at e
      obtain rfl : k = b.length := by omega
      clear hN
      have hc3 : ¬ (b.any fun o => o.name.toList == p.name.toList) = true := by rw [q2N fun j hj => hno j hj hj]; decide
      have hw : q3W b p = if (q0B p 0).2 ≠ 0 then (q0B p 0).2
       else if (q29 p 0).2 ≠ 0 then (q29 p 0).2
       else if p.widths.length ≠ p.edges.length then 1
       else if p.widths.any q2t then 3 else 0 := by rw [q3W, if_neg hc1, if_neg hc2, if_neg hc3]
      rw [hw]
      refine go 800 rfl ?_
      refine q04 ?_
      refine go 800 rfl ?_
      refine q01 rfl rfl (q7R p 0 (by omega)) ?_
      refine go 800 rfl ?_
      refine q02 rfl (fun f => ?_) (fun f => ?_)
      ·rw [q0z] at f
       refine go 800 rfl ?_
       refine q08 rfl rfl rfl trivial ?_
       rw [if_pos f]
      rw [q0A] at f
      rw [if_neg (by simp [f])]
      refine go 800 rfl ?_
      refine q01 rfl rfl (qgp p 0 (by omega)) ?_
      refine go 800 rfl ?_
      refine q02 rfl (fun f2 => ?_) (fun f2 => ?_)
      ·rw [q0z] at f2
       refine go 800 rfl ?_
       refine q08 rfl rfl rfl trivial ?_
       rw [if_pos f2]
      rw [q0A] at f2
      rw [if_neg (by simp [f2])]
      refine go 800 rfl ?_
      rw [List.length_map, List.length_map]
      refine q02 rfl (fun f3 => ?_) (fun f3 => ?_)
      ·rw [q0z] at f3
       refine go 800 rfl ?_
       refine q08 rfl rfl rfl trivial ?_
       rw [if_pos (by omega)]
      rw [q0A] at f3
      rw [if_neg (by omega)]
      refine go 800 rfl ?_
      rw [List.length_map]
      refine q0q (S := fun k : Nat => ([ints p.widths, q00 p.widths.length, q00 k], [none, none, none], [0, 0, 0])) (C := fun k => k ≤ p.widths.length ∧ ∀ j (hj : j < p.widths.length), j < k → q2t p.widths[j] = false) (m := fun k => p.widths.length - k) 0 ⟨Nat.zero_le _, fun j _ h => by omega⟩ (by omega) ?_ ?_
      ·exact q03 rfl trivial rfl
      rintro k ⟨hk, hm⟩ N hN
      refine go 800 rfl ?_
      refine q02 rfl (fun e => ?_) (fun e => ?_)
      ·rw [q06] at e
       have hlt : k < p.widths.length := by omega
       have w1 : IntKind.i64.wrap ((k : Int) + 1) = ((k + 1 : Nat) : Int) := wrap64 (by omega) (by omega)
       have bad : q2t p.widths[k] = true → p.widths.any q2t = true := fun h => q3c hlt h
       have hx : (p.widths.map q00)[k]? = some (.int .i64 p.widths[k]) := q1J hlt
       refine go 800 rfl ?_
       refine q0k k rfl rfl rfl hx rfl ?_
       refine go 800 rfl ?_
       refine q05 rfl (fun f1 => ?_) (fun f1 => ?_)
       ·rw [q06] at f1
        refine go 800 rfl ?_
        refine q0g rfl ?_
        refine go 800 rfl ?_
        refine q04 ?_
        refine go 800 rfl ?_
        refine q08 rfl rfl rfl trivial ?_
        rw [if_pos (bad (by simp [q2t]; omega))]
       rw [q07] at f1
       refine go 800 rfl ?_
       refine q02 rfl (fun f2 => ?_) (fun f2 => ?_)
       ·rw [q06] at f2
        refine go 800 rfl ?_
        refine q04 ?_
        refine go 800 rfl ?_
        refine q08 rfl rfl rfl trivial ?_
        rw [if_pos (bad (by simp [q2t]; omega))]
       rw [q07] at f2
       refine go 800 rfl ?_
       refine q04 ?_
       refine hN (k + 1) ⟨hlt, fun j hj hjk => ?_⟩ (by omega) (q03 rfl trivial (by rw [w1]; rfl))
       by_cases ej : j = k
       ·subst ej; simp [q2t]; omega
       ·exact hm j hj (by omega)
      rw [q07] at e
      obtain rfl : k = p.widths.length := by omega
      rw [if_neg (by rw [q2N fun j hj => hm j hj hj]; decide)]
      refine go 800 rfl ?_
      refine q04 ?_
      refine go 800 rfl ?_
      exact q08 rfl rfl rfl trivial rfl
    ·rw [q0A] at g2
     have hc2 : ¬ (p.grain ≠ 1 ∧ p.grain ≠ 2 ∧ p.grain ≠ 4) := fun h => h.2.1 g2
     refine go 800 rfl ?_
     refine q0m rfl ?_
     refine go 800 rfl ?_
     rw [List.length_map]
     refine q0q (S := fun k : Nat => ([.ptr 0 0 0, Go.F.pieces b, q00 b.length, q00 k], [some (.row [p.enc] 7), none, none, none], [0, 0, 0, 0])) (C := fun k => k ≤ b.length ∧ ∀ j (hj : j < b.length), j < k → (b[j].name.toList == p.name.toList) = false) (m := fun k => b.length - k) 0 ⟨Nat.zero_le _, fun j _ h => by omega⟩ (by omega) ?_ ?_
     ·exact q03 rfl ⟨rfl, trivial⟩ rfl
     rintro k ⟨hk, hno⟩ N hN
     refine go 800 rfl ?_
     refine q02 rfl (fun e => ?_) (fun e => ?_)
     ·rw [q06] at e
      have hlt : k < b.length := by omega
      have w1 : IntKind.i64.wrap ((k : Int) + 1) = ((k + 1 : Nat) : Int) := wrap64 (by omega) (by omega)
      refine go 800 rfl ?_
      refine q0k k rfl rfl rfl (q1J hlt) rfl ?_
      refine go 800 rfl ?_
      refine q02 rfl (fun f => ?_) (fun f => ?_)
      ·refine go 800 rfl ?_
       refine q04 ?_
       refine go 800 rfl ?_
       refine q08 rfl rfl rfl trivial ?_
       rw [q3W, if_neg hc1, if_neg hc2, if_pos (q3c hlt f)]
      ·refine go 800 rfl ?_
       refine q04 ?_
       refine hN (k + 1) ⟨hlt, fun j hj hjk => ?_⟩ (by omega) (q03 rfl ⟨rfl, trivial⟩ (by rw [w1]; rfl))
       by_cases ej : j = k
       ·subst ej; exact f
       ·exact hno j hj (by omega)
     rw [q07] at e
     obtain rfl : k = b.length := by omega
     clear hN
     have hc3 : ¬ (b.any fun o => o.name.toList == p.name.toList) = true := by rw [q2N fun j hj => hno j hj hj]; decide
     have hw : q3W b p = if (q0B p 0).2 ≠ 0 then (q0B p 0).2
      else if (q29 p 0).2 ≠ 0 then (q29 p 0).2
      else if p.widths.length ≠ p.edges.length then 1
      else if p.widths.any q2t then 3 else 0 := by rw [q3W, if_neg hc1, if_neg hc2, if_neg hc3]
     rw [hw]
     refine go 800 rfl ?_
     refine q04 ?_
     refine go 800 rfl ?_
     refine q01 rfl rfl (q7R p 0 (by omega)) ?_
     refine go 800 rfl ?_
     refine q02 rfl (fun f => ?_) (fun f => ?_)
     ·rw [q0z] at f
      refine go 800 rfl ?_
      refine q08 rfl rfl rfl trivial ?_
      rw [if_pos f]
     rw [q0A] at f
     rw [if_neg (by simp [f])]
     refine go 800 rfl ?_
     refine q01 rfl rfl (qgp p 0 (by omega)) ?_
     refine go 800 rfl ?_
     refine q02 rfl (fun f2 => ?_) (fun f2 => ?_)
     ·rw [q0z] at f2
      refine go 800 rfl ?_
      refine q08 rfl rfl rfl trivial ?_
      rw [if_pos f2]
     rw [q0A] at f2
     rw [if_neg (by simp [f2])]
     refine go 800 rfl ?_
     rw [List.length_map, List.length_map]
     refine q02 rfl (fun f3 => ?_) (fun f3 => ?_)
     ·rw [q0z] at f3
      refine go 800 rfl ?_
      refine q08 rfl rfl rfl trivial ?_
      rw [if_pos (by omega)]
     rw [q0A] at f3
     rw [if_neg (by omega)]
     refine go 800 rfl ?_
     rw [List.length_map]
     refine q0q (S := fun k : Nat => ([ints p.widths, q00 p.widths.length, q00 k], [none, none, none], [0, 0, 0])) (C := fun k => k ≤ p.widths.length ∧ ∀ j (hj : j < p.widths.length), j < k → q2t p.widths[j] = false) (m := fun k => p.widths.length - k) 0 ⟨Nat.zero_le _, fun j _ h => by omega⟩ (by omega) ?_ ?_
     ·exact q03 rfl trivial rfl
     rintro k ⟨hk, hm⟩ N hN
     refine go 800 rfl ?_
     refine q02 rfl (fun e => ?_) (fun e => ?_)
     ·rw [q06] at e
      have hlt : k < p.widths.length := by omega
      have w1 : IntKind.i64.wrap ((k : Int) + 1) = ((k + 1 : Nat) : Int) := wrap64 (by omega) (by omega)
      have bad : q2t p.widths[k] = true → p.widths.any q2t = true := fun h => q3c hlt h
      have hx : (p.widths.map q00)[k]? = some (.int .i64 p.widths[k]) := q1J hlt
      refine go 800 rfl ?_
      refine q0k k rfl rfl rfl hx rfl ?_
      refine go 800 rfl ?_
      refine q05 rfl (fun f1 => ?_) (fun f1 => ?_)
      ·rw [q06] at f1
       refine go 800 rfl ?_
       refine q0g rfl ?_
       refine go 800 rfl ?_
       refine q04 ?_
       refine go 800 rfl ?_
       refine q08 rfl rfl rfl trivial ?_
       rw [if_pos (bad (by simp [q2t]; omega))]
      rw [q07] at f1
      refine go 800 rfl ?_
      refine q02 rfl (fun f2 => ?_) (fun f2 => ?_)
      ·rw [q06] at f2
       refine go 800 rfl ?_
       refine q04 ?_
       refine go 800 rfl ?_
       refine q08 rfl rfl rfl trivial ?_
       rw [if_pos (bad (by simp [q2t]; omega))]
      rw [q07] at f2
      refine go 800 rfl ?_
      refine q04 ?_
      refine hN (k + 1) ⟨hlt, fun j hj hjk => ?_⟩ (by omega) (q03 rfl trivial (by rw [w1]; rfl))
      by_cases ej : j = k
      ·subst ej; simp [q2t]; omega
      ·exact hm j hj (by omega)
     rw [q07] at e
     obtain rfl : k = p.widths.length := by omega
     rw [if_neg (by rw [q2N fun j hj => hm j hj hj]; decide)]
     refine go 800 rfl ?_
     refine q04 ?_
     refine go 800 rfl ?_
     exact q08 rfl rfl rfl trivial rfl
   ·rw [q0A] at g1
    have hc2 : ¬ (p.grain ≠ 1 ∧ p.grain ≠ 2 ∧ p.grain ≠ 4) := fun h => h.1 g1
    refine go 800 rfl ?_
    refine q0j rfl ?_
    refine go 800 rfl ?_
    refine q0m rfl ?_
    refine go 800 rfl ?_
    rw [List.length_map]
    refine q0q (S := fun k : Nat => ([.ptr 0 0 0, Go.F.pieces b, q00 b.length, q00 k], [some (.row [p.enc] 7), none, none, none], [0, 0, 0, 0])) (C := fun k => k ≤ b.length ∧ ∀ j (hj : j < b.length), j < k → (b[j].name.toList == p.name.toList) = false) (m := fun k => b.length - k) 0 ⟨Nat.zero_le _, fun j _ h => by omega⟩ (by omega) ?_ ?_
    ·exact q03 rfl ⟨rfl, trivial⟩ rfl
    rintro k ⟨hk, hno⟩ N hN
    refine go 800 rfl ?_
    refine q02 rfl (fun e => ?_) (fun e => ?_)
    ·rw [q06] at e
     have hlt : k < b.length := by omega
     have w1 : IntKind.i64.wrap ((k : Int) + 1) = ((k + 1 : Nat) : Int) := wrap64 (by omega) (by omega)
     refine go 800 rfl ?_
     refine q0k k rfl rfl rfl (q1J hlt) rfl ?_
     refine go 800 rfl ?_
     refine q02 rfl (fun f => ?_) (fun f => ?_)
     ·refine go 800 rfl ?_
      refine q04 ?_
      refine go 800 rfl ?_
      refine q08 rfl rfl rfl trivial ?_
      rw [q3W, if_neg hc1, if_neg hc2, if_pos (q3c hlt f)]
     ·refine go 800 rfl ?_
      refine q04 ?_
      refine hN (k + 1) ⟨hlt, fun j hj hjk => ?_⟩ (by omega) (q03 rfl ⟨rfl, trivial⟩ (by rw [w1]; rfl))
      by_cases ej : j = k
      ·subst ej; exact f
      ·exact hno j hj (by omega)
    rw [q07] at e
    obtain rfl : k = b.length := by omega
    clear hN
    have hc3 : ¬ (b.any fun o => o.name.toList == p.name.toList) = true := by rw [q2N fun j hj => hno j hj hj]; decide
    have hw : q3W b p = if (q0B p 0).2 ≠ 0 then (q0B p 0).2
     else if (q29 p 0).2 ≠ 0 then (q29 p 0).2
     else if p.widths.length ≠ p.edges.length then 1
     else if p.widths.any q2t then 3 else 0 := by rw [q3W, if_neg hc1, if_neg hc2, if_neg hc3]
    rw [hw]
    refine go 800 rfl ?_
    refine q04 ?_
    refine go 800 rfl ?_
    refine q01 rfl rfl (q7R p 0 (by omega)) ?_
    refine go 800 rfl ?_
    refine q02 rfl (fun f => ?_) (fun f => ?_)
    ·rw [q0z] at f
     refine go 800 rfl ?_
     refine q08 rfl rfl rfl trivial ?_
     rw [if_pos f]
    rw [q0A] at f
    rw [if_neg (by simp [f])]
    refine go 800 rfl ?_
    refine q01 rfl rfl (qgp p 0 (by omega)) ?_
    refine go 800 rfl ?_
    refine q02 rfl (fun f2 => ?_) (fun f2 => ?_)
    ·rw [q0z] at f2
     refine go 800 rfl ?_
     refine q08 rfl rfl rfl trivial ?_
     rw [if_pos f2]
    rw [q0A] at f2
    rw [if_neg (by simp [f2])]
    refine go 800 rfl ?_
    rw [List.length_map, List.length_map]
    refine q02 rfl (fun f3 => ?_) (fun f3 => ?_)
    ·rw [q0z] at f3
     refine go 800 rfl ?_
     refine q08 rfl rfl rfl trivial ?_
     rw [if_pos (by omega)]
    rw [q0A] at f3
    rw [if_neg (by omega)]
    refine go 800 rfl ?_
    rw [List.length_map]
    refine q0q (S := fun k : Nat => ([ints p.widths, q00 p.widths.length, q00 k], [none, none, none], [0, 0, 0])) (C := fun k => k ≤ p.widths.length ∧ ∀ j (hj : j < p.widths.length), j < k → q2t p.widths[j] = false) (m := fun k => p.widths.length - k) 0 ⟨Nat.zero_le _, fun j _ h => by omega⟩ (by omega) ?_ ?_
    ·exact q03 rfl trivial rfl
    rintro k ⟨hk, hm⟩ N hN
    refine go 800 rfl ?_
    refine q02 rfl (fun e => ?_) (fun e => ?_)
    ·rw [q06] at e
     have hlt : k < p.widths.length := by omega
     have w1 : IntKind.i64.wrap ((k : Int) + 1) = ((k + 1 : Nat) : Int) := wrap64 (by omega) (by omega)
     have bad : q2t p.widths[k] = true → p.widths.any q2t = true := fun h => q3c hlt h
     have hx : (p.widths.map q00)[k]? = some (.int .i64 p.widths[k]) := q1J hlt
     refine go 800 rfl ?_
     refine q0k k rfl rfl rfl hx rfl ?_
     refine go 800 rfl ?_
     refine q05 rfl (fun f1 => ?_) (fun f1 => ?_)
     ·rw [q06] at f1
      refine go 800 rfl ?_
      refine q0g rfl ?_
      refine go 800 rfl ?_
      refine q04 ?_
      refine go 800 rfl ?_
      refine q08 rfl rfl rfl trivial ?_
      rw [if_pos (bad (by simp [q2t]; omega))]
     rw [q07] at f1
     refine go 800 rfl ?_
     refine q02 rfl (fun f2 => ?_) (fun f2 => ?_)
     ·rw [q06] at f2
      refine go 800 rfl ?_
      refine q04 ?_
      refine go 800 rfl ?_
      refine q08 rfl rfl rfl trivial ?_
      rw [if_pos (bad (by simp [q2t]; omega))]
     rw [q07] at f2
     refine go 800 rfl ?_
     refine q04 ?_
     refine hN (k + 1) ⟨hlt, fun j hj hjk => ?_⟩ (by omega) (q03 rfl trivial (by rw [w1]; rfl))
     by_cases ej : j = k
     ·subst ej; simp [q2t]; omega
     ·exact hm j hj (by omega)
    rw [q07] at e
    obtain rfl : k = p.widths.length := by omega
    rw [if_neg (by rw [q2N fun j hj => hm j hj hj]; decide)]
    refine go 800 rfl ?_
    refine q04 ?_
    refine go 800 rfl ?_
    exact q08 rfl rfl rfl trivial rfl
def q4Q (s : Sty) (p e : Int) : Bool := decide (0 ≤ p) && (decide (p < s.pieces.length) && (decide (0 ≤ e) && decide (e < (pc s.pieces p.toNat).edges.length)))
theorem qlb (s : Sty) (p e : Int) : PU q8y [s.enc, .int .i64 p, .int .i64 e] = some (.bool (q4Q s p e)) := by
 refine q0h (fn := q84) rfl (q0c ?_)
 refine go 800 rfl ?_
 refine q05 rfl (fun g1 => ?_) (fun g1 => ?_)
 ·rw [q0D] at g1
  refine go 800 rfl ?_
  rw [List.length_map]
  refine q05 rfl (fun g2 => ?_) (fun g2 => ?_)
  ·rw [q06] at g2
   refine go 800 rfl ?_
   refine q05 rfl (fun g3 => ?_) (fun g3 => ?_)
   ·rw [q0D] at g3
    refine go 800 rfl ?_
    refine q0k p.toNat rfl rfl (by omega) (qeL (by omega)) rfl ?_
    refine go 800 rfl ?_
    refine q08 rfl rfl rfl trivial ?_
    rw [q4Q, decide_eq_true g1, decide_eq_true g2, decide_eq_true g3, q1H, List.length_map]; rfl
   ·rw [q0E] at g3
    refine go 800 rfl ?_
    refine q08 rfl rfl rfl trivial ?_
    rw [q4Q, decide_eq_false (show ¬ 0 ≤ e by omega)]; simp
  ·rw [q07] at g2
   refine go 800 rfl ?_
   refine q0j rfl ?_
   refine go 800 rfl ?_
   refine q08 rfl rfl rfl trivial ?_
   rw [q4Q, decide_eq_false (show ¬ p < s.pieces.length by omega)]; simp
 ·rw [q0E] at g1
  refine go 800 rfl ?_
  refine q0j rfl ?_
  refine go 800 rfl ?_
  refine q0j rfl ?_
  refine go 800 rfl ?_
  refine q08 rfl rfl rfl trivial ?_
  rw [q4Q, decide_eq_false (show ¬ 0 ≤ p by omega)]; rfl
def q2C (n : Nat) (u : Use) : Bool := decide (u.piece < 0) || (decide ((n : Int) ≤ u.piece) || (decide (u.count < 1) || decide (4 < u.count)))
def qe2 (s : Sty) (m : Sew) : Int := if q4Q s m.pa m.ea = false ∨ q4Q s m.pb m.eb = false then 3 else if m.ease < 0 then 1 else 0
def q38 (s : Sty) (i : Nat) : Int := q3W (s.pieces.take i) (pc s.pieces i)
def q7A (s : Sty) (i : Nat) : Int := qe2 s (sw s.seams i)
def q32 (s : Sty) : Int :=
 if q26 s ≠ 0 then q26 s
 else if q0F (q38 s) s.pieces.length ≠ 0 then q0F (q38 s) s.pieces.length
 else if s.uses.any (q2C s.pieces.length) then 3
 else q0F (q7A s) s.seams.length
set_option maxHeartbeats 8000000 in
theorem q1c (s : Sty) (hB : StyB s) : PU q0W [s.enc] = some (.int .i64 (q32 s)) := by
 have b1 := hB.pieces
 have b2 := hB.uses
 have b3 := hB.seams
 refine q0h (fn := q9j) rfl (q0c ?_)
 refine go 800 rfl ?_
 refine q01 rfl rfl (qkl s hB) ?_
 refine go 800 rfl ?_
 refine q02 rfl (fun g => ?_) (fun g => ?_)
 ·rw [q0z] at g
  refine go 800 rfl ?_
  refine q08 rfl rfl rfl trivial ?_
  rw [q32, if_pos g]
 have g : q26 s = 0 := q0A.1 g
 have hw : q32 s = if q0F (q38 s) s.pieces.length ≠ 0 then q0F (q38 s) s.pieces.length
  else if s.uses.any (q2C s.pieces.length) then 3
  else q0F (q7A s) s.seams.length := by rw [q32, if_neg (by simp [g])]
 rw [hw]
 refine go 800 rfl ?_
 rw [List.length_map]
 refine q0q (S := fun k : Nat => ([.ptr 0 0 0, Go.F.pieces s.pieces, q00 s.pieces.length, q00 k], [some (.row [s.enc] 7), none, none, none], [0, 0, 0, 0])) (C := fun k => k ≤ s.pieces.length ∧ q0F (q38 s) k = 0) (m := fun k => s.pieces.length - k) 0 ⟨Nat.zero_le _, rfl⟩ (by omega) ?_ ?_
 ·exact q03 rfl ⟨rfl, trivial⟩ rfl
 rintro k ⟨hk, h0⟩ N hN
 refine go 800 rfl ?_
 refine q02 rfl (fun e => ?_) (fun e => ?_)
 ·rw [q06] at e
  have hlt : k < s.pieces.length := by omega
  have w1 : IntKind.i64.wrap ((k : Int) + 1) = ((k + 1 : Nat) : Int) := wrap64 (by omega) (by omega)
  have hp := qkm (s.pieces.take k) (pc s.pieces k) (by rw [List.length_take]; omega) (hB.corners _ (qpu hlt)) (hB.widths _ (qpu hlt))
  refine go 800 rfl ?_
  refine q0k k rfl rfl rfl (qeL hlt) rfl ?_
  refine go 800 rfl ?_
  refine qdM k rfl (q1X (n := 7) (fun _ => rfl) _) ⟨_, _, rfl, rfl⟩ (by rw [List.length_map]; omega) ?_
  rw [← List.map_take]
  refine go 800 rfl ?_
  refine q01 rfl rfl hp ?_
  refine go 800 rfl ?_
  refine q02 rfl (fun f => ?_) (fun f => ?_)
  ·rw [q0z] at f
   refine go 800 rfl ?_
   refine q04 ?_
   refine go 800 rfl ?_
   refine q08 rfl rfl rfl trivial ?_
   have f' : q38 s k ≠ 0 := f
   have hf := q5C (f := q38 s) h0 f' hlt
   rw [hf, if_pos f']; rfl
  ·rw [q0A] at f
   refine go 800 rfl ?_
   refine q04 ?_
   exact hN (k + 1) ⟨hlt, q3L h0 f⟩ (by omega) (q03 rfl ⟨rfl, trivial⟩ (by rw [w1]; rfl))
 rw [q07] at e
 obtain rfl : k = s.pieces.length := by omega
 clear hN
 rw [if_neg (by simp [h0])]
 refine go 800 rfl ?_
 refine q04 ?_
 refine go 800 rfl ?_
 rw [List.length_map]
 refine q0q (S := fun k : Nat => ([.ptr 0 0 0, Go.F.uses s.uses, q00 s.uses.length, q00 k], [some (.row [s.enc] 7), none, none, none], [0, 0, 0, 0])) (C := fun k => k ≤ s.uses.length ∧ ∀ j (hj : j < s.uses.length), j < k → q2C s.pieces.length s.uses[j] = false) (m := fun k => s.uses.length - k) 0 ⟨Nat.zero_le _, fun j _ h => by omega⟩ (by omega) ?_ ?_
 ·exact q03 rfl ⟨rfl, trivial⟩ rfl
 rintro k ⟨hk, hu⟩ N hN
 refine go 800 rfl ?_
 refine q02 rfl (fun e => ?_) (fun e => ?_)
 ·rw [q06] at e
  have hlt : k < s.uses.length := by omega
  have w1 : IntKind.i64.wrap ((k : Int) + 1) = ((k + 1 : Nat) : Int) := wrap64 (by omega) (by omega)
  have hx : (s.uses.map Use.enc)[k]? = some s.uses[k].enc := q1J hlt
  have bad : q2C s.pieces.length s.uses[k] = true → s.uses.any (q2C s.pieces.length) = true := fun h => q3c hlt h
  have hnx : q2C s.pieces.length s.uses[k] = false → ∀ j (hj : j < s.uses.length), j < k + 1 → q2C s.pieces.length s.uses[j] = false := by
   intro h j hj hjk
   by_cases ej : j = k
   ·subst ej; exact h
   ·exact hu j hj (by omega)
  generalize s.uses[k] = u at *
  refine go 800 rfl ?_
  refine q0k k rfl rfl rfl hx rfl ?_
  refine go 800 rfl ?_
  refine q05 rfl (fun f1 => ?_) (fun f1 => ?_)
  ·rw [q06] at f1
   refine go 800 rfl ?_
   refine q0e rfl ?_
   refine go 800 rfl ?_
   refine q0e rfl ?_
   refine go 800 rfl ?_
   refine q0g rfl ?_
   refine go 800 rfl ?_
   refine q04 ?_
   refine go 800 rfl ?_
   refine q08 rfl rfl rfl trivial ?_
   rw [if_pos (bad (by simp [q2C]; omega))]
  rw [q07] at f1
  refine go 800 rfl ?_
  rw [List.length_map]
  refine q05 rfl (fun f2 => ?_) (fun f2 => ?_)
  ·rw [q0D] at f2
   refine go 800 rfl ?_
   refine q0e rfl ?_
   refine go 800 rfl ?_
   refine q0g rfl ?_
   refine go 800 rfl ?_
   refine q04 ?_
   refine go 800 rfl ?_
   refine q08 rfl rfl rfl trivial ?_
   rw [if_pos (bad (by simp [q2C]; omega))]
  rw [q0E] at f2
  refine go 800 rfl ?_
  refine q05 rfl (fun f3 => ?_) (fun f3 => ?_)
  ·rw [q06] at f3
   refine go 800 rfl ?_
   refine q0g rfl ?_
   refine go 800 rfl ?_
   refine q04 ?_
   refine go 800 rfl ?_
   refine q08 rfl rfl rfl trivial ?_
   rw [if_pos (bad (by simp [q2C]; omega))]
  rw [q07] at f3
  refine go 800 rfl ?_
  refine q02 rfl (fun f4 => ?_) (fun f4 => ?_)
  ·rw [q06] at f4
   refine go 800 rfl ?_
   refine q04 ?_
   refine go 800 rfl ?_
   refine q08 rfl rfl rfl trivial ?_
   rw [if_pos (bad (by simp [q2C]; omega))]
  rw [q07] at f4
  refine go 800 rfl ?_
  refine q04 ?_
  exact hN (k + 1) ⟨hlt, hnx (by simp [q2C]; omega)⟩ (by omega) (q03 rfl ⟨rfl, trivial⟩ (by rw [w1]; rfl))
 rw [q07] at e
 obtain rfl : k = s.uses.length := by omega
 clear hN
 rw [if_neg (by rw [q2N fun j hj => hu j hj hj]; decide)]
 refine go 800 rfl ?_
 refine q04 ?_
 refine go 800 rfl ?_
 rw [List.length_map]
 refine q0q (S := fun k : Nat => ([.ptr 0 0 0, sews s.seams, q00 s.seams.length, q00 k], [some (.row [s.enc] 7), none, none, none], [0, 0, 0, 0])) (C := fun k => k ≤ s.seams.length ∧ q0F (q7A s) k = 0) (m := fun k => s.seams.length - k) 0 ⟨Nat.zero_le _, rfl⟩ (by omega) ?_ ?_
 ·exact q03 rfl ⟨rfl, trivial⟩ rfl
 rintro k ⟨hk, h0⟩ N hN
 refine go 800 rfl ?_
 refine q02 rfl (fun e => ?_) (fun e => ?_)
 ·rw [q06] at e
  have hlt : k < s.seams.length := by omega
  have w1 : IntKind.i64.wrap ((k : Int) + 1) = ((k + 1 : Nat) : Int) := wrap64 (by omega) (by omega)
  have hx := qvv hlt
  have bad : ∀ x, qe2 s (sw s.seams k) = x → x ≠ 0 → q0F (q7A s) s.seams.length = x := by
   intro x h hx0
   have := q5C (f := q7A s) h0 (by show qe2 s (sw s.seams k) ≠ 0; rw [h]; exact hx0) hlt
   rw [this]; exact h
  have good : qe2 s (sw s.seams k) = 0 → q0F (q7A s) (k + 1) = 0 := fun h => q3L h0 h
  generalize sw s.seams k = m at *
  have e1 := qlb s m.pa m.ea
  have e2 := qlb s m.pb m.eb
  refine go 800 rfl ?_
  refine q0k k rfl rfl rfl hx rfl ?_
  refine go 800 rfl ?_
  refine q01 rfl rfl e1 ?_
  cases ha : q4Q s m.pa m.ea with
  | false =>
    refine go 800 rfl ?_
    refine q0e rfl ?_
    refine go 800 rfl ?_
    refine q0g rfl ?_
    refine go 800 rfl ?_
    refine q04 ?_
    refine go 800 rfl ?_
    refine q08 rfl rfl rfl trivial ?_
    rw [bad 3 (by rw [qe2, if_pos (.inl ha)]) (by decide)]
  | true =>
    refine go 800 rfl ?_
    refine q0j rfl ?_
    refine go 800 rfl ?_
    refine q01 rfl rfl e2 ?_
    cases hb : q4Q s m.pb m.eb with
    | false =>
      refine go 800 rfl ?_
      refine q0g rfl ?_
      refine go 800 rfl ?_
      refine q04 ?_
      refine go 800 rfl ?_
      refine q08 rfl rfl rfl trivial ?_
      rw [bad 3 (by rw [qe2, if_pos (.inr hb)]) (by decide)]
    | true =>
      have hn : ¬ (q4Q s m.pa m.ea = false ∨ q4Q s m.pb m.eb = false) := by rw [ha, hb]; simp
      refine go 800 rfl ?_
      refine q0m rfl ?_
      refine go 800 rfl ?_
      refine q02 rfl (fun f => ?_) (fun f => ?_)
      ·rw [q06] at f
       refine go 800 rfl ?_
       refine q04 ?_
       refine go 800 rfl ?_
       refine q08 rfl rfl rfl trivial ?_
       rw [bad 1 (by rw [qe2, if_neg hn, if_pos f]) (by decide)]
      ·rw [q07] at f
       refine go 800 rfl ?_
       refine q04 ?_
       exact hN (k + 1) ⟨hlt, good (by rw [qe2, if_neg hn, if_neg (by omega)])⟩ (by omega) (q03 rfl ⟨rfl, trivial⟩ (by rw [w1]; rfl))
 rw [q07] at e
 obtain rfl : k = s.seams.length := by omega
 refine go 800 rfl ?_
 refine q04 ?_
 refine go 800 rfl ?_
 refine q08 rfl rfl rfl trivial ?_
 rw [h0]
end Go.F

namespace Go.F
attribute [local irreducible] IntKind.wrap wpM
structure StyOk (s : Sty) : Prop where
 mults : s.mults.length = s.sizes.length
 size : 0 < s.sizes.length
 sizes : s.sizes.length ≤ 12
 pieces : s.pieces.length ≤ 12
 uses : s.uses.length ≤ 12
 seams : s.seams.length ≤ 24
 use : ∀ u ∈ s.uses, 0 ≤ u.piece ∧ u.piece < s.pieces.length ∧ 1 ≤ u.count ∧ u.count ≤ 4
 piece : ∀ i, i < s.pieces.length → q38 s i = 0
 mult : ∀ m ∈ s.mults, -100 ≤ m ∧ m ≤ 100
 base : 0 ∈ s.mults
theorem qdC {s : Sty} (h : q32 s = 0) : StyOk s := by
 unfold q32 at h
 split at h
 ·rename_i h1; exact absurd h h1
 ·rename_i h1
  split at h
  ·rename_i h2; exact absurd h h2
  ·rename_i h2
   split at h
   ·cases h
   ·rename_i h3
    have h1 : q26 s = 0 := by simpa using h1
    have h2 : q0F (q38 s) s.pieces.length = 0 := by simpa using h2
    unfold q26 at h1
    split at h1
    ·cases h1
    split at h1
    ·cases h1
    split at h1
    ·cases h1
    split at h1
    ·cases h1
    split at h1
    ·cases h1
    split at h1
    ·cases h1
    split at h1
    ·cases h1
    rename_i g1 g2 g3 g4 g5 g6 g7
    refine ⟨by omega, by omega, by omega, by omega, by omega, by omega, fun u hu => ?_, fun i hi => q1B h2 hi, fun m hm => ?_, ?_⟩
    ·have hb : q2C s.pieces.length u = false := by
      cases hb : q2C s.pieces.length u with
      | false => rfl
      | true => exact absurd (List.any_eq_true.2 ⟨u, hu, hb⟩) h3
     simp [q2C] at hb
     omega
    ·have hb : (decide (m < -100) || decide (100 < m)) = false := by
      cases hb : (decide (m < -100) || decide (100 < m)) with
      | false => rfl
      | true => exact absurd (List.any_eq_true.2 ⟨m, hm, hb⟩) g7
     simp at hb
     omega
    ·rcases Classical.em (0 ∈ s.mults) with h | h
     ·exact h
     ·exact absurd (.inr h) g3
def qbe (s : Sty) (size use : Int) : Prop := size < 0 ∨ (s.sizes.length : Int) ≤ size ∨ use < 0 ∨ (s.uses.length : Int) ≤ use
instance (s : Sty) (a b : Int) : Decidable (qbe s a b) := by unfold qbe; exact inferInstance
structure Plc where
 garment : Int
 use : Int
 copy : Int
 flip : Bool
 quarter : Int
 x : Int
 y : Int
 deriving DecidableEq
def Plc.enc (p : Plc) : D := .agg [.int .i64 p.garment, .int .i64 p.use, .int .i64 p.copy, .bool p.flip, .int .i64 p.quarter, .int .i64 p.x, .int .i64 p.y]
def qoc (l : List Plc) : D := .lst (l.map Plc.enc)
theorem qdD (p : Plc) : plain 4 p.enc = true := rfl
theorem quO (p : Plc) : dat 4 p.enc = true := rfl
def qbf (u : Use) (i k : Nat) : Plc := ⟨0, i, k, u.pair && decide (k % 2 = 1), 0, 0, 0⟩
def q1y (u : Use) (i n : Nat) : List Plc := (List.range n).map (qbf u i)
def q13 (l : List Use) : Nat → List Plc
 | 0 => []
 | i + 1 => q13 l i ++ q1y (us l i) i (us l i).count.toNat
def q7O (s : Sty) : List Plc := if q32 s ≠ 0 then [] else q13 s.uses s.uses.length
theorem qbg {l : List Use} (h : ∀ u ∈ l, u.count ≤ 4) : ∀ i, i ≤ l.length → (q13 l i).length ≤ 4 * i
 | 0, _ => by simp [q13]
 | i + 1, hi => by
   have h1 := qbg h i (by omega)
   have h2 := h (us l i) (by rw [q9Q (by omega)]; exact List.getElem_mem _)
   rw [q13, List.length_append]
   simp only [q1y, List.length_map, List.length_range]
   omega
theorem tmod2 (k : Nat) : ((k : Int)).tmod 2 = ((k % 2 : Nat) : Int) := by
 rw [Int.tmod_eq_emod_of_nonneg (by omega)]; omega
set_option maxHeartbeats 8000000 in
theorem qld (s : Sty) (hB : StyB s) : PU q5Y [s.enc] = some (qoc (q7O s)) := by
 refine q0h (fn := q81) rfl (q0c ?_)
 refine go 800 rfl ?_
 refine q01 rfl rfl (q1c s hB) ?_
 refine go 800 rfl ?_
 refine q02 rfl (fun g => ?_) (fun g => ?_)
 ·rw [q0z] at g
  refine go 800 rfl ?_
  refine q08 rfl rfl rfl trivial ?_
  rw [q7O, if_pos g]; rfl
 have g : q32 s = 0 := q0A.1 g
 have hok := qdC g
 have hlen := qbg (l := s.uses) (fun u hu => (hok.use u hu).2.2.2)
 have hu12 := hok.uses
 rw [q7O, if_neg (by simp [g])]
 refine go 800 rfl ?_
 rw [List.length_map]
 refine q0q (S := fun k : Nat => ([.ref 0 0 (q13 s.uses k).length, Go.F.uses s.uses, q00 s.uses.length, q00 k], [some (.row ((q13 s.uses k).map Plc.enc) 7), none, none, none], [0, 0, 0, 0])) (C := fun k => k ≤ s.uses.length) (m := fun k => s.uses.length - k) 0 (Nat.zero_le _) (by omega) ?_ ?_
 ·exact q03 rfl ⟨rfl, trivial⟩ rfl
 intro k hk N hN
 refine go 800 rfl ?_
 refine q02 rfl (fun e => ?_) (fun e => ?_)
 ·rw [q06] at e
  have hlt : k < s.uses.length := by omega
  have w1 : IntKind.i64.wrap ((k : Int) + 1) = ((k + 1 : Nat) : Int) := wrap64 (by omega) (by omega)
  have hx := qde hlt
  have huk := hok.use (us s.uses k) (by rw [q9Q hlt]; exact List.getElem_mem _)
  have hl0 := hlen k hk
  have hstep : q13 s.uses (k + 1) = q13 s.uses k ++ q1y (us s.uses k) k (us s.uses k).count.toNat := rfl
  generalize us s.uses k = u at *
  generalize q13 s.uses k = L at *
  have ec : u.count = ((u.count.toNat : Nat) : Int) := by omega
  refine go 800 rfl ?_
  refine q0k k rfl rfl rfl hx rfl ?_
  refine go 800 rfl ?_
  refine q0q (S := fun n : Nat => ([.ref 0 0 (L ++ q1y u k n).length, q00 k, .ptr 2 0 0, Go.F.uses s.uses, q00 s.uses.length, q00 k, .int .i64 u.count, q00 n], [some (.row ((L ++ q1y u k n).map Plc.enc) 7), none, some (.row [u.enc] 3), none, none, none, none, none], [0, 0, 0, 0, 0, 0, 0, 0])) (C := fun n => n ≤ u.count.toNat) (m := fun n => u.count.toNat - n) 0 (Nat.zero_le _) (by omega) ?_ ?_
  ·exact q03 rfl ⟨q0b qdD _, rfl, trivial⟩ (by simp [q1y, uses, q00, Use.enc])
  intro n hn N2 hN2
  refine go 800 rfl ?_
  refine q02 rfl (fun f => ?_) (fun f => ?_)
  ·rw [q06] at f
   have wn : IntKind.i64.wrap ((n : Int) + 1) = ((n + 1 : Nat) : Int) := wrap64 (by omega) (by omega)
   have hst : (L ++ q1y u k (n + 1)).map Plc.enc = (L ++ q1y u k n).map Plc.enc ++ [(qbf u k n).enc] := by
    simp [q1y, List.range_succ]
   refine go 800 rfl ?_
   refine q05 rfl (fun p1 => ?_) (fun p1 => ?_)
   ·have p1 : u.pair = true := p1
    have hcp : qbf u k n = ⟨0, k, n, decide (n % 2 = 1), 0, 0, 0⟩ := by rw [qbf, p1]; rfl
    have hbq : eqb ((n : Int).tmod 2) 1 = decide (n % 2 = 1) := by
     rw [tmod2, q2i]; apply decide_eq_decide.2; omega
    rw [hcp] at hst
    refine go 800 rfl ?_
    refine q4R rfl rfl (by decide) ?_
    refine go 800 rfl ?_
    rw [hbq]
    refine go 800 rfl ?_
    refine q1E rfl rfl rfl rfl rfl rfl (by simp [q1y]) (Nat.zero_le _) (by simp [q0U, q1y]; omega) ?_
    refine go 800 rfl ?_
    refine q04 ?_
    refine hN2 (n + 1) (by omega) (by omega) (q03 rfl ⟨?_, rfl, trivial⟩ ?_)
    ·rw [List.all_append, q0b qdD]; rfl
    ·rw [hst, wn]
     simp [q1y, uses, q00, Use.enc]
     exact ⟨by omega, rfl⟩
   ·have p1 : u.pair = false := p1
    have hcp : qbf u k n = ⟨0, k, n, false, 0, 0, 0⟩ := by rw [qbf, p1]; rfl
    rw [hcp] at hst
    refine go 800 rfl ?_
    refine q1E rfl rfl rfl rfl rfl rfl (by simp [q1y]) (Nat.zero_le _) (by simp [q0U, q1y]; omega) ?_
    refine go 800 rfl ?_
    refine q04 ?_
    refine hN2 (n + 1) (by omega) (by omega) (q03 rfl ⟨?_, rfl, trivial⟩ ?_)
    ·rw [List.all_append, q0b qdD]; rfl
    ·rw [hst, wn]
     simp [q1y, uses, q00, Use.enc]
     exact ⟨by omega, rfl⟩
  rw [q07] at f
  obtain rfl : n = u.count.toNat := by omega
  clear hN2
  refine go 800 rfl ?_
  refine q04 ?_
  refine go 800 rfl ?_
  refine q04 ?_
  refine hN (k + 1) hlt (by omega) (q03 rfl ⟨q0b qdD _, trivial⟩ ?_)
  rw [hstep, w1]; rfl
 rw [q07] at e
 obtain rfl : k = s.uses.length := by omega
 refine go 800 rfl ?_
 refine q04 ?_
 refine go 800 rfl ?_
 refine q08 rfl rfl rfl ⟨q3s (by simp) (q1t quO _), trivial⟩ ?_
 rw [q5n (by simp)]; rfl
def q6e (s : Sty) (sizes : List Int) : List Int × Int :=
 if q32 s ≠ 0 then ([], q32 s)
 else if (sizes.any fun z => decide (z < 0) || decide ((s.sizes.length : Int) ≤ z)) then ([], 3)
 else (s.uses.map fun u => u.count * sizes.length, 0)
set_option maxHeartbeats 8000000 in
theorem qod (s : Sty) (sizes : List Int) (hB : StyB s) (hz : sizes.length ≤ 1000) : PU q6T [s.enc, ints sizes] = some (.tup [ints (q6e s sizes).1, .int .i64 (q6e s sizes).2]) := by
 refine q0h (fn := q9k) rfl (q0c ?_)
 refine go 800 rfl ?_
 refine q01 rfl rfl (q1c s hB) ?_
 refine go 800 rfl ?_
 refine q02 rfl (fun g => ?_) (fun g => ?_)
 ·rw [q0z] at g
  refine go 800 rfl ?_
  refine q08 rfl rfl rfl trivial ?_
  rw [q6e, if_pos g]; rfl
 have g : q32 s = 0 := q0A.1 g
 have hok := qdC g
 have hu12 := hok.uses
 have hw : q6e s sizes = if (sizes.any fun z => decide (z < 0) || decide ((s.sizes.length : Int) ≤ z)) then (([], 3) : List Int × Int) else (s.uses.map fun u => u.count * (sizes.length : Int), 0) := by rw [q6e, if_neg (by simp [g])]
 rw [hw]
 refine go 800 rfl ?_
 rw [List.length_map]
 refine q0q (S := fun k : Nat => ([ints sizes, .ptr 1 0 0, ints sizes, q00 sizes.length, q00 k], [none, some (.row [s.enc] 7), none, none, none], [0, 0, 0, 0, 0])) (C := fun k => k ≤ sizes.length ∧ ∀ j (hj : j < sizes.length), j < k → (decide (sizes[j] < 0) || decide ((s.sizes.length : Int) ≤ sizes[j])) = false) (m := fun k => sizes.length - k) 0 ⟨Nat.zero_le _, fun j _ h => by omega⟩ (by omega) ?_ ?_
 ·exact q03 rfl ⟨rfl, trivial⟩ rfl
 rintro k ⟨hk, hm⟩ N hN
 refine go 800 rfl ?_
 refine q02 rfl (fun e => ?_) (fun e => ?_)
 ·rw [q06] at e
  have hlt : k < sizes.length := by omega
  have w1 : IntKind.i64.wrap ((k : Int) + 1) = ((k + 1 : Nat) : Int) := wrap64 (by omega) (by omega)
  have bad : (decide (sizes[k] < 0) || decide ((s.sizes.length : Int) ≤ sizes[k])) = true → (sizes.any fun z => decide (z < 0) || decide ((s.sizes.length : Int) ≤ z)) = true := fun h => q3c hlt h
  have hx : (sizes.map q00)[k]? = some (.int .i64 sizes[k]) := q1J hlt
  refine go 800 rfl ?_
  refine q0k k rfl rfl rfl hx rfl ?_
  refine go 800 rfl ?_
  refine q05 rfl (fun f1 => ?_) (fun f1 => ?_)
  ·rw [q06] at f1
   refine go 800 rfl ?_
   refine q0g rfl ?_
   refine go 800 rfl ?_
   refine q04 ?_
   refine go 800 rfl ?_
   refine q08 rfl rfl rfl trivial ?_
   rw [if_pos (bad (by simp; omega))]; rfl
  rw [q07] at f1
  refine go 800 rfl ?_
  rw [List.length_map]
  refine q02 rfl (fun f2 => ?_) (fun f2 => ?_)
  ·rw [q0D] at f2
   refine go 800 rfl ?_
   refine q04 ?_
   refine go 800 rfl ?_
   refine q08 rfl rfl rfl trivial ?_
   rw [if_pos (bad (by simp; omega))]; rfl
  rw [q0E] at f2
  refine go 800 rfl ?_
  refine q04 ?_
  refine hN (k + 1) ⟨hlt, fun j hj hjk => ?_⟩ (by omega) (q03 rfl ⟨rfl, trivial⟩ (by rw [w1]; rfl))
  by_cases ej : j = k
  ·subst ej; simp; omega
  ·exact hm j hj (by omega)
 rw [q07] at e
 obtain rfl : k = sizes.length := by omega
 clear hN
 rw [if_neg (by rw [q2N fun j hj => hm j hj hj]; decide)]
 refine go 800 rfl ?_
 refine q04 ?_
 refine go 800 rfl ?_
 rw [List.length_map]
 refine q0q (S := fun k : Nat => ([ints sizes, .ref 1 0 k, Go.F.uses s.uses, q00 s.uses.length, q00 k], [none, some (.row (((s.uses.take k).map fun u => u.count * (sizes.length : Int)).map q00) 1), none, none, none], [0, 0, 0, 0, 0])) (C := fun k => k ≤ s.uses.length) (m := fun k => s.uses.length - k) 0 (Nat.zero_le _) (by omega) ?_ ?_
 ·exact q03 rfl ⟨rfl, trivial⟩ rfl
 intro k hk N hN
 refine go 800 rfl ?_
 refine q02 rfl (fun e => ?_) (fun e => ?_)
 ·rw [q06] at e
  have hlt : k < s.uses.length := by omega
  have w1 : IntKind.i64.wrap ((k : Int) + 1) = ((k + 1 : Nat) : Int) := wrap64 (by omega) (by omega)
  have huk := hok.use (us s.uses k) (by rw [q9Q hlt]; exact List.getElem_mem _)
  have hst : (((s.uses.take (k + 1)).map fun u => u.count * (sizes.length : Int)).map q00) = ((s.uses.take k).map fun u => u.count * (sizes.length : Int)).map q00 ++ [q00 ((us s.uses k).count * sizes.length)] := by
   rw [List.take_succ_eq_append_getElem hlt, List.map_append, List.map_append, q9Q hlt]; rfl
  have hp : (us s.uses k).count * (sizes.length : Int) ≤ 4 * 1000 := Int.mul_le_mul (by omega) (by omega) (by omega) (by omega)
  have hp0 : 0 ≤ (us s.uses k).count * (sizes.length : Int) := Int.mul_nonneg (by omega) (by omega)
  have w2 : IntKind.i64.wrap ((us s.uses k).count * (((sizes.map q00).length : Nat) : Int)) = (us s.uses k).count * (sizes.length : Int) := by rw [List.length_map]; exact wrap64 (by omega) (by omega)
  refine go 800 rfl ?_
  refine q0k k rfl rfl rfl (qde hlt) rfl ?_
  refine go 800 rfl ?_
  rw [w2]
  refine q1E rfl rfl rfl rfl rfl rfl (by simp; omega) (Nat.zero_le _) (by simp [q0U]; omega) ?_
  refine go 800 rfl ?_
  refine q04 ?_
  refine hN (k + 1) hlt (by omega) (q03 rfl ⟨?_, trivial⟩ ?_)
  ·rw [List.all_append, q0b q9W]; rfl
  ·rw [hst, w1]; rfl
 rw [q07] at e
 obtain rfl : k = s.uses.length := by omega
 rw [List.take_length]
 refine go 800 rfl ?_
 refine q04 ?_
 refine go 800 rfl ?_
 refine q08 rfl rfl rfl ⟨q3s (by simp) (q1t qln _), trivial⟩ ?_
 rw [q5n (by simp)]; rfl
end Go.F
