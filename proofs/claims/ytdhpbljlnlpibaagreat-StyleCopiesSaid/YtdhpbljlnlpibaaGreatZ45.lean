/- Parts of the proof, part 45: RG5, RG6, SCop. -/
import Derived.Test.YtdhpbljlnlpibaaGreatZ44
set_option linter.all false
namespace Go.F
attribute [local irreducible] IntKind.wrap wpM
theorem qvh (p : Piece) (h2 : p.widths.length ≤ 1000) : PU qlE [p.enc] = some (.int .i64 (qvt p)) := by
 refine q0h (fn := qeY) rfl (q0c ?_)
 refine gg rfl ?_
 rw [List.length_map, List.length_map]
 refine q02 rfl (fun f3 => ?_) (fun f3 => ?_)
 ·rw [q0z] at f3
  refine gg rfl (q08 rfl rfl rfl trivial ?_)
  rw [qvt, if_pos (by omega)]
 rw [q0A] at f3
 rw [qvt, if_neg (by omega)]
 refine gg rfl (q0q (S := fun k : Nat => ([.ptr 0 0 0, q00 k], [some (.row [p.enc] 7), none], [0, 0])) (C := fun k => k ≤ p.widths.length ∧ ∀ j (hj : j < p.widths.length), j < k → q2t p.widths[j] = false) (m := fun k => p.widths.length - k) 0 ⟨Nat.zero_le _, fun j _ h => by omega⟩ (by omega) ?_ ?_)
 ·exact q03 rfl ⟨rfl, trivial⟩ rfl
 rintro k ⟨hk, hm⟩ N hN
 refine gg rfl ?_
 rw [List.length_map]
 refine q02 rfl (fun e => ?_) (fun e => ?_)
 ·rw [q06] at e
  have hlt : k < p.widths.length := by omega
  have w1 := wS (n := k)
  have bad : q2t p.widths[k] = true → p.widths.any q2t = true := fun h => q3c hlt h
  have hx : (p.widths.map q00)[k]? = some (.int .i64 p.widths[k]) := q1J hlt
  refine gg rfl (q0k k rfl rfl rfl hx rfl (gg rfl (q05 rfl (fun f1 => ?_) (fun f1 => ?_))))
  ·rw [q06] at f1
   refine gg rfl (q0g rfl (gg rfl (q04 (gg rfl (q08 rfl rfl rfl trivial ?_)))))
   rw [if_pos (bad (by simp [q2t]; omega))]
  rw [q07] at f1
  refine gg rfl (q0k k rfl rfl rfl hx rfl (gg rfl (q02 rfl (fun f2 => ?_) (fun f2 => ?_))))
  ·rw [q06] at f2
   refine gg rfl (q04 (gg rfl (q08 rfl rfl rfl trivial ?_)))
   rw [if_pos (bad (by simp [q2t]; omega))]
  rw [q07] at f2
  refine gg rfl (q04 (hN (k + 1) ⟨hlt, fun j hj hjk => ?_⟩ (by omega) (q03 rfl ⟨rfl, trivial⟩ (by rw [w1]; rfl))))
  by_cases ej : j = k
  ·subst ej; simp [q2t]; omega
  exact hm j hj (by omega)
 rw [q07] at e
 obtain rfl : k = p.widths.length := by omega
 clear hN
 refine gg rfl (q04 (gg rfl (q08 rfl rfl rfl trivial ?_)))
 rw [if_neg (by rw [q2N fun j hj => hm j hj hj]; decide)]
set_option maxHeartbeats 8000000 in
theorem qvm (b : List Piece) (p : Piece) (hb : b.length ≤ 1000) (h1 : p.corners.length ≤ 1000) (h2 : p.widths.length ≤ 1000) : PU qmZ [Go.F.pieces b, p.enc] = some (.int .i64 (q3W b p)) := by
 refine q0h (fn := qgU) rfl (q0c ?_)
 refine gg rfl (q01 rfl rfl (qh0 p.name) ?_)
 cases hn : q1L p.name with
 | false =>
   refine gg rfl (q0e rfl (gg rfl (q0g rfl (gg rfl (q08 rfl rfl rfl trivial ?_)))))
   rw [q3W, if_pos hn]
 | true =>
   have hc1 : ¬ q1L p.name = false := by rw [hn]; decide
   refine gg rfl (q0j rfl (gg rfl (q05 rfl (fun g1 => ?_) (fun g1 => ?_))))
   ·rw [q0z] at g1
    refine gg rfl (q05 rfl (fun g2 => ?_) (fun g2 => ?_))
    ·rw [q0z] at g2
     refine gg rfl (q02 rfl (fun g3 => ?_) (fun g3 => ?_))
     ·rw [q0z] at g3
      refine gg rfl (q08 rfl rfl rfl trivial ?_)
      rw [q3W, if_neg hc1, if_pos ⟨g1, g2, g3⟩]
     rw [q0A] at g3
     have hc2 : ¬ (p.grain ≠ 1 ∧ p.grain ≠ 2 ∧ p.grain ≠ 4) := fun h => h.2.2 g3
     refine gg rfl (q0q (S := fun k : Nat => ([Go.F.pieces b, .ptr 1 0 0, q00 k], [none, some (.row [p.enc] 7), none], [0, 0, 0])) (C := fun k => k ≤ b.length ∧ ∀ j (hj : j < b.length), j < k → (b[j].name.toList == p.name.toList) = false) (m := fun k => b.length - k) 0 ⟨Nat.zero_le _, fun j _ h => by omega⟩ (by omega) ?_ ?_)
     ·exact q03 rfl ⟨rfl, trivial⟩ rfl
     rintro k ⟨hk, hno⟩ N hN
     refine gg rfl ?_
     rw [List.length_map]
     refine q02 rfl (fun e => ?_) (fun e => ?_)
     ·rw [q06] at e
      have hlt : k < b.length := by omega
      have w1 := wS (n := k)
      have hx : (b.map Piece.enc)[k]? = some b[k].enc := q1J hlt
      refine gg rfl (q0k k rfl rfl rfl hx rfl (gg rfl (q02 rfl (fun f => ?_) (fun f => ?_))))
      ·refine gg rfl (q04 (gg rfl (q08 rfl rfl rfl trivial ?_)))
       rw [q3W, if_neg hc1, if_neg hc2, if_pos (q3c hlt f)]
      refine gg rfl (q04 (hN (k + 1) ⟨hlt, fun j hj hjk => ?_⟩ (by omega) (q03 rfl ⟨rfl, trivial⟩ (by rw [w1]; rfl))))
      by_cases ej : j = k
      ·subst ej; exact f
      exact hno j hj (by omega)
     rw [q07] at e
     obtain rfl : k = b.length := by omega
     clear hN
     have hc3 : ¬ (b.any fun o => o.name.toList == p.name.toList) = true := by rw [q2N fun j hj => hno j hj hj]; decide
     have hw : q3W b p = if (q0B p 0).2 ≠ 0 then (q0B p 0).2
      else if (q29 p 0).2 ≠ 0 then (q29 p 0).2
      else qvt p := by rw [q3W, if_neg hc1, if_neg hc2, if_neg hc3]; rfl
     rw [hw]
     refine gg rfl (q04 (gg rfl (q01 rfl rfl (qtU p 0 (by omega)) ?_)))
     refine gg rfl (q02 rfl (fun f => ?_) (fun f => ?_))
     ·rw [q0z] at f
      refine gg rfl (q08 rfl rfl rfl trivial ?_)
      rw [if_pos f]
     rw [q0A] at f
     rw [if_neg (by simp [f])]
     refine gg rfl (q01 rfl rfl (qvg p 0 (by omega)) ?_)
     refine gg rfl (q02 rfl (fun f2 => ?_) (fun f2 => ?_))
     ·rw [q0z] at f2
      refine gg rfl (q08 rfl rfl rfl trivial ?_)
      rw [if_pos f2]
     rw [q0A] at f2
     rw [if_neg (by simp [f2])]
     exact gg rfl (q01 rfl rfl (qvh p h2) (gg rfl (q08 rfl rfl rfl trivial rfl)))
    rw [q0A] at g2
    have hc2 : ¬ (p.grain ≠ 1 ∧ p.grain ≠ 2 ∧ p.grain ≠ 4) := fun h => h.2.1 g2
    refine gg rfl (q0m rfl (gg rfl (q0q (S := fun k : Nat => ([Go.F.pieces b, .ptr 1 0 0, q00 k], [none, some (.row [p.enc] 7), none], [0, 0, 0])) (C := fun k => k ≤ b.length ∧ ∀ j (hj : j < b.length), j < k → (b[j].name.toList == p.name.toList) = false) (m := fun k => b.length - k) 0 ⟨Nat.zero_le _, fun j _ h => by omega⟩ (by omega) ?_ ?_)))
    ·exact q03 rfl ⟨rfl, trivial⟩ rfl
    rintro k ⟨hk, hno⟩ N hN
    refine gg rfl ?_
    rw [List.length_map]
    refine q02 rfl (fun e => ?_) (fun e => ?_)
    ·rw [q06] at e
     have hlt : k < b.length := by omega
     have w1 := wS (n := k)
     have hx : (b.map Piece.enc)[k]? = some b[k].enc := q1J hlt
     refine gg rfl (q0k k rfl rfl rfl hx rfl (gg rfl (q02 rfl (fun f => ?_) (fun f => ?_))))
     ·refine gg rfl (q04 (gg rfl (q08 rfl rfl rfl trivial ?_)))
      rw [q3W, if_neg hc1, if_neg hc2, if_pos (q3c hlt f)]
     refine gg rfl (q04 (hN (k + 1) ⟨hlt, fun j hj hjk => ?_⟩ (by omega) (q03 rfl ⟨rfl, trivial⟩ (by rw [w1]; rfl))))
     by_cases ej : j = k
     ·subst ej; exact f
     exact hno j hj (by omega)
    rw [q07] at e
    obtain rfl : k = b.length := by omega
    clear hN
    have hc3 : ¬ (b.any fun o => o.name.toList == p.name.toList) = true := by rw [q2N fun j hj => hno j hj hj]; decide
    have hw : q3W b p = if (q0B p 0).2 ≠ 0 then (q0B p 0).2
     else if (q29 p 0).2 ≠ 0 then (q29 p 0).2
     else qvt p := by rw [q3W, if_neg hc1, if_neg hc2, if_neg hc3]; rfl
    rw [hw]
    refine gg rfl (q04 (gg rfl (q01 rfl rfl (qtU p 0 (by omega)) ?_)))
    refine gg rfl (q02 rfl (fun f => ?_) (fun f => ?_))
    ·rw [q0z] at f
     refine gg rfl (q08 rfl rfl rfl trivial ?_)
     rw [if_pos f]
    rw [q0A] at f
    rw [if_neg (by simp [f])]
    refine gg rfl (q01 rfl rfl (qvg p 0 (by omega)) ?_)
    refine gg rfl (q02 rfl (fun f2 => ?_) (fun f2 => ?_))
    ·rw [q0z] at f2
     refine gg rfl (q08 rfl rfl rfl trivial ?_)
     rw [if_pos f2]
    rw [q0A] at f2
    rw [if_neg (by simp [f2])]
    exact gg rfl (q01 rfl rfl (qvh p h2) (gg rfl (q08 rfl rfl rfl trivial rfl)))
   rw [q0A] at g1
   have hc2 : ¬ (p.grain ≠ 1 ∧ p.grain ≠ 2 ∧ p.grain ≠ 4) := fun h => h.1 g1
   refine gg rfl (q0j rfl (gg rfl (q0m rfl (gg rfl (q0q (S := fun k : Nat => ([Go.F.pieces b, .ptr 1 0 0, q00 k], [none, some (.row [p.enc] 7), none], [0, 0, 0])) (C := fun k => k ≤ b.length ∧ ∀ j (hj : j < b.length), j < k → (b[j].name.toList == p.name.toList) = false) (m := fun k => b.length - k) 0 ⟨Nat.zero_le _, fun j _ h => by omega⟩ (by omega) ?_ ?_)))))
   ·exact q03 rfl ⟨rfl, trivial⟩ rfl
   rintro k ⟨hk, hno⟩ N hN
   refine gg rfl ?_
   rw [List.length_map]
   refine q02 rfl (fun e => ?_) (fun e => ?_)
   ·rw [q06] at e
    have hlt : k < b.length := by omega
    have w1 := wS (n := k)
    have hx : (b.map Piece.enc)[k]? = some b[k].enc := q1J hlt
    refine gg rfl (q0k k rfl rfl rfl hx rfl (gg rfl (q02 rfl (fun f => ?_) (fun f => ?_))))
    ·refine gg rfl (q04 (gg rfl (q08 rfl rfl rfl trivial ?_)))
     rw [q3W, if_neg hc1, if_neg hc2, if_pos (q3c hlt f)]
    refine gg rfl (q04 (hN (k + 1) ⟨hlt, fun j hj hjk => ?_⟩ (by omega) (q03 rfl ⟨rfl, trivial⟩ (by rw [w1]; rfl))))
    by_cases ej : j = k
    ·subst ej; exact f
    exact hno j hj (by omega)
   rw [q07] at e
   obtain rfl : k = b.length := by omega
   clear hN
   have hc3 : ¬ (b.any fun o => o.name.toList == p.name.toList) = true := by rw [q2N fun j hj => hno j hj hj]; decide
   have hw : q3W b p = if (q0B p 0).2 ≠ 0 then (q0B p 0).2
    else if (q29 p 0).2 ≠ 0 then (q29 p 0).2
    else qvt p := by rw [q3W, if_neg hc1, if_neg hc2, if_neg hc3]; rfl
   rw [hw]
   refine gg rfl (q04 (gg rfl (q01 rfl rfl (qtU p 0 (by omega)) ?_)))
   refine gg rfl (q02 rfl (fun f => ?_) (fun f => ?_))
   ·rw [q0z] at f
    refine gg rfl (q08 rfl rfl rfl trivial ?_)
    rw [if_pos f]
   rw [q0A] at f
   rw [if_neg (by simp [f])]
   refine gg rfl (q01 rfl rfl (qvg p 0 (by omega)) ?_)
   refine gg rfl (q02 rfl (fun f2 => ?_) (fun f2 => ?_))
   ·rw [q0z] at f2
    refine gg rfl (q08 rfl rfl rfl trivial ?_)
    rw [if_pos f2]
   rw [q0A] at f2
   rw [if_neg (by simp [f2])]
   exact gg rfl (q01 rfl rfl (qvh p h2) (gg rfl (q08 rfl rfl rfl trivial rfl)))
def qvn (s : Sty) : Int := if s.uses.any (q2C s.pieces.length) then 3 else q0F (q7A s) s.seams.length
set_option maxHeartbeats 8000000 in
theorem qvk (s : Sty) (hB : StyB s) : PU qlC [s.enc] = some (.int .i64 (qvn s)) := by
 have b1 := hB.pieces
 have b2 := hB.uses
 have b3 := hB.seams
 unfold qvn
 refine q0h (fn := qeV) rfl (q0c ?_)
 refine gg rfl (q0q (S := fun k : Nat => ([.ptr 0 0 0, q00 k], [some (.row [s.enc] 7), none], [0, 0])) (C := fun k => k ≤ s.uses.length ∧ ∀ j (hj : j < s.uses.length), j < k → q2C s.pieces.length s.uses[j] = false) (m := fun k => s.uses.length - k) 0 ⟨Nat.zero_le _, fun j _ h => by omega⟩ (by omega) ?_ ?_)
 ·exact q03 rfl ⟨rfl, trivial⟩ rfl
 rintro k ⟨hk, hu⟩ N hN
 refine gg rfl ?_
 rw [List.length_map]
 refine q02 rfl (fun e => ?_) (fun e => ?_)
 ·rw [q06] at e
  have hlt : k < s.uses.length := by omega
  have w1 := wS (n := k)
  have hx : (s.uses.map Use.enc)[k]? = some s.uses[k].enc := q1J hlt
  have bad : q2C s.pieces.length s.uses[k] = true → s.uses.any (q2C s.pieces.length) = true := fun h => q3c hlt h
  have hnx : q2C s.pieces.length s.uses[k] = false → ∀ j (hj : j < s.uses.length), j < k + 1 → q2C s.pieces.length s.uses[j] = false := by
   intro h j hj hjk
   by_cases ej : j = k
   ·subst ej; exact h
   exact hu j hj (by omega)
  generalize s.uses[k] = u at *
  refine gg rfl (q0k k rfl rfl rfl hx rfl (gg rfl (q05 rfl (fun f1 => ?_) (fun f1 => ?_))))
  ·rw [q06] at f1
   refine gg rfl (q0e rfl (gg rfl (q0e rfl (gg rfl (q0g rfl (gg rfl (q04 (gg rfl (q08 rfl rfl rfl trivial ?_)))))))))
   rw [if_pos (bad (by simp [q2C]; omega))]
  rw [q07] at f1
  refine gg rfl ?_
  rw [List.length_map]
  refine q05 rfl (fun f2 => ?_) (fun f2 => ?_)
  ·rw [q0D] at f2
   refine gg rfl (q0e rfl (gg rfl (q0g rfl (gg rfl (q04 (gg rfl (q08 rfl rfl rfl trivial ?_)))))))
   rw [if_pos (bad (by simp [q2C]; omega))]
  rw [q0E] at f2
  refine gg rfl (q05 rfl (fun f3 => ?_) (fun f3 => ?_))
  ·rw [q06] at f3
   refine gg rfl (q0g rfl (gg rfl (q04 (gg rfl (q08 rfl rfl rfl trivial ?_)))))
   rw [if_pos (bad (by simp [q2C]; omega))]
  rw [q07] at f3
  refine gg rfl (q02 rfl (fun f4 => ?_) (fun f4 => ?_))
  ·rw [q06] at f4
   refine gg rfl (q04 (gg rfl (q08 rfl rfl rfl trivial ?_)))
   rw [if_pos (bad (by simp [q2C]; omega))]
  rw [q07] at f4
  exact gg rfl (q04 (hN (k + 1) ⟨hlt, hnx (by simp [q2C]; omega)⟩ (by omega) (q03 rfl ⟨rfl, trivial⟩ (by rw [w1]; rfl))))
 rw [q07] at e
 obtain rfl : k = s.uses.length := by omega
 clear hN
 rw [if_neg (by rw [q2N fun j hj => hu j hj hj]; decide)]
 refine gg rfl (q04 (gg rfl (q0q (S := fun k : Nat => ([.ptr 0 0 0, q00 k], [some (.row [s.enc] 7), none], [0, 0])) (C := fun k => k ≤ s.seams.length ∧ q0F (q7A s) k = 0) (m := fun k => s.seams.length - k) 0 ⟨Nat.zero_le _, rfl⟩ (by omega) ?_ ?_)))
 ·exact q03 rfl ⟨rfl, trivial⟩ rfl
 rintro k ⟨hk, h0⟩ N hN
 refine gg rfl ?_
 rw [List.length_map]
 refine q02 rfl (fun e => ?_) (fun e => ?_)
 ·rw [q06] at e
  have hlt : k < s.seams.length := by omega
  have w1 := wS (n := k)
  have hx := qvv hlt
  have bad : ∀ x, qe2 s (sw s.seams k) = x → x ≠ 0 → q0F (q7A s) s.seams.length = x := by
   intro x h hx0
   have := q5C (f := q7A s) h0 (by show qe2 s (sw s.seams k) ≠ 0; rw [h]; exact hx0) hlt
   rw [this]; exact h
  have good : qe2 s (sw s.seams k) = 0 → q0F (q7A s) (k + 1) = 0 := fun h => q3L h0 h
  generalize sw s.seams k = m at *
  have e1 := qtV s m.pa m.ea
  have e2 := qtV s m.pb m.eb
  refine gg rfl (q0k k rfl rfl rfl hx rfl (gg rfl (q01 rfl rfl e1 ?_)))
  cases ha : q4Q s m.pa m.ea with
  | false =>
    refine gg rfl (q0e rfl (gg rfl (q0g rfl (gg rfl (q04 (gg rfl (q08 rfl rfl rfl trivial ?_)))))))
    rw [bad 3 (by rw [qe2, if_pos (.inl ha)]) (by decide)]
  | true =>
    refine gg rfl (q0j rfl (gg rfl (q01 rfl rfl e2 ?_)))
    cases hb : q4Q s m.pb m.eb with
    | false =>
      refine gg rfl (q0g rfl (gg rfl (q04 (gg rfl (q08 rfl rfl rfl trivial ?_)))))
      rw [bad 3 (by rw [qe2, if_pos (.inr hb)]) (by decide)]
    | true =>
      have hn : ¬ (q4Q s m.pa m.ea = false ∨ q4Q s m.pb m.eb = false) := by rw [ha, hb]; simp
      refine gg rfl (q0m rfl (gg rfl (q02 rfl (fun f => ?_) (fun f => ?_))))
      ·rw [q06] at f
       refine gg rfl (q04 (gg rfl (q08 rfl rfl rfl trivial ?_)))
       rw [bad 1 (by rw [qe2, if_neg hn, if_pos f]) (by decide)]
      rw [q07] at f
      exact gg rfl (q04 (hN (k + 1) ⟨hlt, good (by rw [qe2, if_neg hn, if_neg (by omega)])⟩ (by omega) (q03 rfl ⟨rfl, trivial⟩ (by rw [w1]; rfl))))
 rw [q07] at e
 obtain rfl : k = s.seams.length := by omega
 clear hN
 refine gg rfl (q04 (gg rfl (q08 rfl rfl rfl trivial ?_)))
 rw [h0]
theorem qvp {s : Sty} (h : sizedB s = false) : q26 s = 1 := by
 unfold sizedB at h
 have h := of_decide_eq_false h
 unfold q26
 by_cases c1 : q1L s.name = false ∨ s.sizes.length = 0
 ·rw [if_pos c1]
 rw [if_neg c1]
 by_cases c2 : s.sizes.any (fun x => !sizeS x) = true
 ·rw [if_pos c2]
 rw [if_neg c2]
 by_cases c3 : s.mults.length ≠ s.sizes.length ∨ 0 ∉ s.mults
 ·rw [if_pos c3]
 exfalso
 refine h ⟨?_, fun e => c1 (.inr e), by simpa using c2, ?_, ?_⟩
 ·cases hn : q1L s.name with
  | true => rfl
  | false => exact absurd (.inl hn) c1
 ·by_cases e : 0 ∈ s.mults
  ·exact e
  exact absurd (.inr e) c3
 by_cases e : s.mults.length = s.sizes.length
 ·exact e
 exact absurd (.inl e) c3
theorem qvr {s : Sty} (h : sizedB s = true) : q26 s = if q4o s.sizes then 7 else if ql1 s then 5 else if s.mults.any (fun m => decide (m < -100) || decide (100 < m)) then 3 else 0 := by
 unfold sizedB at h
 obtain ⟨h1, h2, h3, h4, h5⟩ := of_decide_eq_true h
 unfold q26
 rw [if_neg (by rintro (e | e); rw [h1] at e; cases e; exact h2 e), if_neg (by rw [h3]; decide), if_neg (by rintro (e | e); exact e h5; exact e h4)]
 by_cases c : q4o s.sizes = true
 ·rw [if_pos c, if_pos c]
 rw [if_neg c, if_neg c]
 unfold ql1
 by_cases d1 : 12 < s.sizes.length ∨ 12 < s.pieces.length ∨ 12 < s.uses.length
 ·rw [if_pos d1, if_pos (decide_eq_true (by omega))]
 rw [if_neg d1]
 by_cases d2 : 24 < s.seams.length ∨ 16 < s.ops.length
 ·rw [if_pos d2, if_pos (decide_eq_true (by omega))]
 have d3 : ¬ decide (12 < s.sizes.length ∨ 12 < s.pieces.length ∨ 24 < s.seams.length ∨ 16 < s.ops.length ∨ 12 < s.uses.length) = true := by rw [decide_eq_true_eq]; omega
 rw [if_neg d2, if_neg d3]
set_option maxHeartbeats 8000000 in
theorem qvw (s : Sty) (hB : StyB s) : PU q94 [s.enc] = some (.int .i64 (q32 s)) := by
 have b1 := hB.pieces
 have b2 := hB.mults
 refine q0h (fn := qgR) rfl (q0c ?_)
 refine gg rfl (q01 rfl rfl (quq s hB) ?_)
 cases hsz : sizedB s with
 | false =>
   refine gg rfl (q0g rfl (gg rfl (q08 rfl rfl rfl trivial ?_)))
   rw [q32, qvp hsz]; rfl
 | true =>
   have hw := qvr hsz
   refine gg rfl (q0m rfl (gg rfl (q01 rfl rfl (qur s.sizes hB.sizes) ?_)))
   cases ht : q4o s.sizes with
   | true =>
     refine gg rfl (q0g rfl (gg rfl (q08 rfl rfl rfl trivial ?_)))
     rw [ht] at hw
     rw [q32, hw]; rfl
   | false =>
     rw [if_neg (by rw [ht]; decide)] at hw
     refine gg rfl (q0m rfl (gg rfl (q01 rfl rfl (quZ s) ?_)))
     cases hlg : ql1 s with
     | true =>
       refine gg rfl (q0g rfl (gg rfl (q08 rfl rfl rfl trivial ?_)))
       rw [hlg] at hw
       rw [q32, hw]; rfl
     | false =>
       rw [if_neg (by rw [hlg]; decide)] at hw
       refine gg rfl (q0m rfl (gg rfl (q0q (S := fun k : Nat => ([.ptr 0 0 0, q00 k], [some (.row [s.enc] 7), none], [0, 0])) (C := fun k => k ≤ s.mults.length ∧ ∀ j (hj : j < s.mults.length), j < k → (decide (s.mults[j] < -100) || decide (100 < s.mults[j])) = false) (m := fun k => s.mults.length - k) 0 ⟨Nat.zero_le _, fun j _ h => by omega⟩ (by omega) ?_ ?_)))
       ·exact q03 rfl ⟨rfl, trivial⟩ rfl
       rintro k ⟨hk, hm⟩ N hN
       refine gg rfl ?_
       rw [List.length_map]
       refine q02 rfl (fun e => ?_) (fun e => ?_)
       ·rw [q06] at e
        have hlt : k < s.mults.length := by omega
        have w1 := wS (n := k)
        have bad : (decide (s.mults[k] < -100) || decide (100 < s.mults[k])) = true → q32 s = 3 := by
         intro h
         have ha : s.mults.any (fun m => decide (m < -100) || decide (100 < m)) = true := q3c hlt h
         rw [if_pos ha] at hw
         rw [q32, hw]; rfl
        have hx : (s.mults.map q00)[k]? = some (.int .i64 s.mults[k]) := q1J hlt
        refine gg rfl (q0k k rfl rfl rfl hx rfl (gg rfl (q05 rfl (fun f1 => ?_) (fun f1 => ?_))))
        ·rw [q06] at f1
         refine gg rfl (q0g rfl (gg rfl (q04 (gg rfl (q08 rfl rfl rfl trivial ?_)))))
         rw [bad (by simp; omega)]
        rw [q07] at f1
        refine gg rfl (q0k k rfl rfl rfl hx rfl (gg rfl (q02 rfl (fun f2 => ?_) (fun f2 => ?_))))
        ·rw [q06] at f2
         refine gg rfl (q04 (gg rfl (q08 rfl rfl rfl trivial ?_)))
         rw [bad (by simp; omega)]
        rw [q07] at f2
        refine gg rfl (q04 (hN (k + 1) ⟨hlt, fun j hj hjk => ?_⟩ (by omega) (q03 rfl ⟨rfl, trivial⟩ (by rw [w1]; rfl))))
        by_cases ej : j = k
        ·subst ej; simp; omega
        exact hm j hj (by omega)
       rw [q07] at e
       obtain rfl : k = s.mults.length := by omega
       clear hN
       rw [if_neg (by rw [q2N fun j hj => hm j hj hj]; decide)] at hw
       have hw2 : q32 s = if q0F (q38 s) s.pieces.length ≠ 0 then q0F (q38 s) s.pieces.length else qvn s := by
        rw [q32, if_neg (by simp [hw])]; rfl
       rw [hw2]
       refine gg rfl (q04 (gg rfl (q0q (S := fun k : Nat => ([.ptr 0 0 0, q00 k], [some (.row [s.enc] 7), none], [0, 0])) (C := fun k => k ≤ s.pieces.length ∧ q0F (q38 s) k = 0) (m := fun k => s.pieces.length - k) 0 ⟨Nat.zero_le _, rfl⟩ (by omega) ?_ ?_)))
       ·exact q03 rfl ⟨rfl, trivial⟩ rfl
       rintro k ⟨hk, h0⟩ N hN
       refine gg rfl ?_
       rw [List.length_map]
       refine q02 rfl (fun e => ?_) (fun e => ?_)
       ·rw [q06] at e
        have hlt : k < s.pieces.length := by omega
        have w1 := wS (n := k)
        have hp := qvm (s.pieces.take k) (pc s.pieces k) (by rw [List.length_take]; omega) (hB.corners _ (qpu hlt)) (hB.widths _ (qpu hlt))
        refine gg rfl (qdM k rfl (q1X (n := 7) (fun _ => rfl) _) ⟨_, _, rfl, rfl⟩ (by rw [List.length_map]; omega) ?_)
        rw [← List.map_take]
        refine gg rfl (q0k k rfl rfl rfl (qeL hlt) rfl (gg rfl (q01 rfl rfl hp (gg rfl (q02 rfl (fun f => ?_) (fun f => ?_))))))
        ·rw [q0z] at f
         refine gg rfl (q04 (gg rfl (q08 rfl rfl rfl trivial ?_)))
         have f' : q38 s k ≠ 0 := f
         have hf := q5C (f := q38 s) h0 f' hlt
         rw [hf, if_pos f']; rfl
        rw [q0A] at f
        exact gg rfl (q04 (hN (k + 1) ⟨hlt, q3L h0 f⟩ (by omega) (q03 rfl ⟨rfl, trivial⟩ (by rw [w1]; rfl))))
       rw [q07] at e
       obtain rfl : k = s.pieces.length := by omega
       clear hN
       rw [if_neg (by simp [h0])]
       exact gg rfl (q04 (gg rfl (q01 rfl rfl (qvk s hB) (gg rfl (q08 rfl rfl rfl trivial rfl)))))
end Go.F

namespace Go.F
attribute [local irreducible] IntKind.wrap wpM
set_option maxHeartbeats 8000000 in
theorem qvz (s : Sty) (hB : StyB s) : PU qlB [s.enc] = some (qoc (q7O s)) := by
 refine q0h (fn := qeU) rfl (q0c ?_)
 refine gg rfl (q01 rfl rfl (qvw s hB) (gg rfl (q02 rfl (fun g => ?_) (fun g => ?_))))
 ·rw [q0z] at g
  refine gg rfl (q08 rfl rfl rfl trivial ?_)
  rw [q7O, if_pos g]; rfl
 have g : q32 s = 0 := q0A.1 g
 have hok := qdC g
 have hlen := qbg (l := s.uses) (fun u hu => (hok.use u hu).2.2.2)
 have hu12 := hok.uses
 rw [q7O, if_neg (by simp [g])]
 refine gg rfl (q0q (S := fun k : Nat => ([.ptr 0 0 0, .ref 1 0 (q13 s.uses k).length, q00 k], [some (.row [s.enc] 7), some (.row ((q13 s.uses k).map Plc.enc) 7), none], [0, 0, 0])) (C := fun k => k ≤ s.uses.length) (m := fun k => s.uses.length - k) 0 (Nat.zero_le _) (by omega) ?_ ?_)
 ·exact q03 rfl ⟨rfl, rfl, trivial⟩ rfl
 intro k hk N hN
 refine gg rfl ?_
 rw [List.length_map]
 refine q02 rfl (fun e => ?_) (fun e => ?_)
 ·rw [q06] at e
  have hlt : k < s.uses.length := by omega
  have w1 := wS (n := k)
  have hx := qde hlt
  have huk := hok.use (us s.uses k) (by rw [q9Q hlt]; exact List.getElem_mem _)
  have hl0 := hlen k hk
  have hstep : q13 s.uses (k + 1) = q13 s.uses k ++ q1y (us s.uses k) k (us s.uses k).count.toNat := rfl
  generalize us s.uses k = u at *
  generalize q13 s.uses k = L at *
  have ec : u.count = ((u.count.toNat : Nat) : Int) := by omega
  refine gg rfl (q0q (S := fun n : Nat => ([.ptr 0 0 0, .ref 1 0 (L ++ q1y u k n).length, q00 k, q00 n], [some (.row [s.enc] 7), some (.row ((L ++ q1y u k n).map Plc.enc) 7), none, none], [0, 0, 0, 0])) (C := fun n => n ≤ u.count.toNat) (m := fun n => u.count.toNat - n) 0 (Nat.zero_le _) (by omega) ?_ ?_)
  ·exact q03 rfl ⟨rfl, q0b qdD _, trivial⟩ (by simp [q1y, q00])
  intro n hn N2 hN2
  refine gg rfl (q0k k rfl rfl rfl hx rfl (gg rfl (q02 rfl (fun f => ?_) (fun f => ?_))))
  ·rw [q06] at f
   have wn := wS (n := n)
   have hst : (L ++ q1y u k (n + 1)).map Plc.enc = (L ++ q1y u k n).map Plc.enc ++ [(qbf u k n).enc] := by
    simp [q1y, List.range_succ]
   refine gg rfl (q0k k rfl rfl rfl hx rfl (gg rfl (q05 rfl (fun p1 => ?_) (fun p1 => ?_))))
   ·have p1 : u.pair = true := p1
    have hcp : qbf u k n = ⟨0, k, n, decide (n % 2 = 1), 0, 0, 0⟩ := by rw [qbf, p1]; rfl
    have hbq : eqb ((n : Int).tmod 2) 1 = decide (n % 2 = 1) := by
     rw [tmod2, q2i]; apply decide_eq_decide.2; omega
    rw [hcp] at hst
    refine gg rfl (q4R rfl rfl (by decide) ?_)
    refine gg rfl ?_
    rw [hbq]
    refine gg rfl (q1E rfl rfl rfl rfl rfl rfl (by simp [q1y]) (Nat.zero_le _) (by simp [q0U, q1y]; omega) ?_)
    refine gg rfl (q04 (hN2 (n + 1) (by omega) (by omega) (q03 rfl ⟨rfl, ?_, trivial⟩ ?_)))
    ·rw [List.all_append, q0b qdD]; rfl
    rw [hst, wn]
    simp [q1y, q00]
    exact ⟨by omega, rfl⟩
   have p1 : u.pair = false := p1
   have hcp : qbf u k n = ⟨0, k, n, false, 0, 0, 0⟩ := by rw [qbf, p1]; rfl
   rw [hcp] at hst
   refine gg rfl (q1E rfl rfl rfl rfl rfl rfl (by simp [q1y]) (Nat.zero_le _) (by simp [q0U, q1y]; omega) ?_)
   refine gg rfl (q04 (hN2 (n + 1) (by omega) (by omega) (q03 rfl ⟨rfl, ?_, trivial⟩ ?_)))
   ·rw [List.all_append, q0b qdD]; rfl
   rw [hst, wn]
   simp [q1y, q00]
   exact ⟨by omega, rfl⟩
  rw [q07] at f
  obtain rfl : n = u.count.toNat := by omega
  clear hN2
  refine gg rfl (q04 (gg rfl (q04 (hN (k + 1) hlt (by omega) (q03 rfl ⟨rfl, q0b qdD _, trivial⟩ ?_)))))
  rw [hstep, w1]; rfl
 rw [q07] at e
 obtain rfl : k = s.uses.length := by omega
 refine gg rfl (q04 (gg rfl (q08 rfl rfl rfl ⟨q3s (by simp) (q1t quO _), trivial⟩ ?_)))
 rw [q5n (by simp)]; rfl
set_option maxHeartbeats 8000000 in
theorem qvA (s : Sty) (sizes : List Int) (hB : StyB s) (hz : sizes.length ≤ 1000) : PU qmY [s.enc, ints sizes] = some (.tup [ints (q6e s sizes).1, .int .i64 (q6e s sizes).2]) := by
 refine q0h (fn := qgS) rfl (q0c ?_)
 refine gg rfl (q01 rfl rfl (qvw s hB) (gg rfl (q02 rfl (fun g => ?_) (fun g => ?_))))
 ·rw [q0z] at g
  refine gg rfl (q08 rfl rfl rfl trivial ?_)
  rw [q6e, if_pos g]; rfl
 have g : q32 s = 0 := q0A.1 g
 have hok := qdC g
 have hu12 := hok.uses
 have hw : q6e s sizes = if (sizes.any fun z => decide (z < 0) || decide ((s.sizes.length : Int) ≤ z)) then (([], 3) : List Int × Int) else (s.uses.map fun u => u.count * (sizes.length : Int), 0) := by rw [q6e, if_neg (by simp [g])]
 rw [hw]
 refine gg rfl (q0q (S := fun k : Nat => ([ints sizes, .ptr 1 0 0, q00 k], [none, some (.row [s.enc] 7), none], [0, 0, 0])) (C := fun k => k ≤ sizes.length ∧ ∀ j (hj : j < sizes.length), j < k → (decide (sizes[j] < 0) || decide ((s.sizes.length : Int) ≤ sizes[j])) = false) (m := fun k => sizes.length - k) 0 ⟨Nat.zero_le _, fun j _ h => by omega⟩ (by omega) ?_ ?_)
 ·exact q03 rfl ⟨rfl, trivial⟩ rfl
 rintro k ⟨hk, hm⟩ N hN
 refine gg rfl ?_
 rw [List.length_map]
 refine q02 rfl (fun e => ?_) (fun e => ?_)
 ·rw [q06] at e
  have hlt : k < sizes.length := by omega
  have w1 := wS (n := k)
  have bad : (decide (sizes[k] < 0) || decide ((s.sizes.length : Int) ≤ sizes[k])) = true → (sizes.any fun z => decide (z < 0) || decide ((s.sizes.length : Int) ≤ z)) = true := fun h => q3c hlt h
  have hx : (sizes.map q00)[k]? = some (.int .i64 sizes[k]) := q1J hlt
  refine gg rfl (q0k k rfl rfl rfl hx rfl (gg rfl (q05 rfl (fun f1 => ?_) (fun f1 => ?_))))
  ·rw [q06] at f1
   refine gg rfl (q0g rfl (gg rfl (q04 (gg rfl (q08 rfl rfl rfl trivial ?_)))))
   rw [if_pos (bad (by simp; omega))]; rfl
  rw [q07] at f1
  refine gg rfl (q0k k rfl rfl rfl hx rfl (gg rfl ?_))
  rw [List.length_map]
  refine q02 rfl (fun f2 => ?_) (fun f2 => ?_)
  ·rw [q0D] at f2
   refine gg rfl (q04 (gg rfl (q08 rfl rfl rfl trivial ?_)))
   rw [if_pos (bad (by simp; omega))]; rfl
  rw [q0E] at f2
  refine gg rfl (q04 (hN (k + 1) ⟨hlt, fun j hj hjk => ?_⟩ (by omega) (q03 rfl ⟨rfl, trivial⟩ (by rw [w1]; rfl))))
  by_cases ej : j = k
  ·subst ej; simp; omega
  exact hm j hj (by omega)
 rw [q07] at e
 obtain rfl : k = sizes.length := by omega
 clear hN
 rw [if_neg (by rw [q2N fun j hj => hm j hj hj]; decide)]
 refine gg rfl (q04 (gg rfl (q0q (S := fun k : Nat => ([ints sizes, .ptr 1 0 0, .ref 2 0 k, q00 k], [none, some (.row [s.enc] 7), some (.row (((s.uses.take k).map fun u => u.count * (sizes.length : Int)).map q00) 1), none], [0, 0, 0, 0])) (C := fun k => k ≤ s.uses.length) (m := fun k => s.uses.length - k) 0 (Nat.zero_le _) (by omega) ?_ ?_)))
 ·exact q03 rfl ⟨rfl, rfl, trivial⟩ rfl
 intro k hk N hN
 refine gg rfl ?_
 rw [List.length_map]
 refine q02 rfl (fun e => ?_) (fun e => ?_)
 ·rw [q06] at e
  have hlt : k < s.uses.length := by omega
  have w1 := wS (n := k)
  have huk := hok.use (us s.uses k) (by rw [q9Q hlt]; exact List.getElem_mem _)
  have hst : (((s.uses.take (k + 1)).map fun u => u.count * (sizes.length : Int)).map q00) = ((s.uses.take k).map fun u => u.count * (sizes.length : Int)).map q00 ++ [q00 ((us s.uses k).count * sizes.length)] := by
   rw [List.take_succ_eq_append_getElem hlt, List.map_append, List.map_append, q9Q hlt]; rfl
  have hp : (us s.uses k).count * (sizes.length : Int) ≤ 4 * 1000 := Int.mul_le_mul (by omega) (by omega) (by omega) (by omega)
  have hp0 : 0 ≤ (us s.uses k).count * (sizes.length : Int) := Int.mul_nonneg (by omega) (by omega)
  have w2 : IntKind.i64.wrap ((us s.uses k).count * (((sizes.map q00).length : Nat) : Int)) = (us s.uses k).count * (sizes.length : Int) := by rw [List.length_map]; exact wrap64 (by omega) (by omega)
  refine gg rfl (q0k k rfl rfl rfl (qde hlt) rfl (gg rfl ?_))
  rw [w2]
  refine q1E rfl rfl rfl rfl rfl rfl (by simp; omega) (Nat.zero_le _) (by simp [q0U]; omega) ?_
  refine gg rfl (q04 (hN (k + 1) hlt (by omega) (q03 rfl ⟨rfl, ?_, trivial⟩ ?_)))
  ·rw [List.all_append, q0b q9W]; rfl
  rw [hst, w1]; rfl
 rw [q07] at e
 obtain rfl : k = s.uses.length := by omega
 rw [List.take_length]
 refine gg rfl (q04 (gg rfl (q08 rfl rfl rfl ⟨q3s (by simp) (q1t qln _), trivial⟩ ?_)))
 rw [q5n (by simp)]; rfl
end Go.F

namespace Go.F
attribute [local irreducible] IntKind.wrap wpM
def pl (l : List Plc) (i : Nat) : Plc := l.getD i ⟨0, 0, 0, false, 0, 0, 0⟩
theorem qvF {l : List Plc} {i : Nat} (h : i < l.length) : (l.map Plc.enc)[i]? = some (pl l i).enc := by simp [pl, h]
theorem qvB (p : List Plc) (hp : p.length ≤ 1000000) : PU qoG [qoc p, qoc p] = some (.bool true) := by
 have hn : ∀ {x : Int} {P : Prop}, nqb x x = true → P := fun h => absurd rfl (q0z.1 h)
 refine q0h (fn := qil) rfl (q0c ?_)
 refine gg rfl (q02 rfl hn (fun _ => ?_))
 refine gg rfl (q0q (S := fun k : Nat => ([qoc p, qoc p, q00 k], [none, none, none], [0, 0, 0])) (C := fun k => k ≤ p.length) (m := fun k => p.length - k) 0 (Nat.zero_le _) (by omega) ?_ ?_)
 ·exact q03 rfl trivial rfl
 intro k hk N hN
 refine gg rfl ?_
 rw [List.length_map]
 refine q02 rfl (fun g1 => ?_) (fun g1 => ?_)
 ·rw [q06] at g1
  have hlt : k < p.length := by omega
  have w1 := wS (n := k)
  refine gg rfl (q0k k rfl rfl rfl (qvF hlt) rfl (gg rfl (q0k k rfl rfl rfl (qvF hlt) rfl (gg rfl (q02 rfl (fun h => ?_) (fun _ => ?_))))))
  ·exfalso; simp [q12.2 rfl] at h
  exact gg rfl (q04 (hN (k + 1) hlt (by omega) (q03 rfl trivial (by rw [w1]; rfl))))
 rw [q07] at g1
 exact gg rfl (q04 (gg rfl (q08 rfl rfl rfl trivial rfl)))
theorem qvC (s : Sty) : (q7O s).length ≤ 1000 := by
 unfold q7O
 split
 ·simp
 rename_i g
 have g : q32 s = 0 := by simpa using g
 have hok := qdC g
 have h1 := qbg (l := s.uses) (fun u hu => (hok.use u hu).2.2.2) s.uses.length (Nat.le_refl _)
 have := hok.uses
 omega
theorem qvE (s : Sty) (z : List Int) : (q6e s z).1.length ≤ 1000 := by
 unfold q6e
 split
 ·simp
 rename_i g
 have g : q32 s = 0 := by simpa using g
 have := (qdC g).uses
 split
 ·simp
 simp; omega
set_option maxRecDepth 100000 in
set_option maxHeartbeats 8000000 in
theorem qvH (s : Sty) (sizes : List Int) : PU qpS [s.enc, ints sizes] = some (.bool true) := by
 obtain ⟨b, hb, hbs⟩ := qaY s
 have he : ∀ {x : Int} {P : Prop}, eqb x x = false → P := fun h => absurd rfl (q1a.1 h)
 refine q0h (fn := q8Y) rfl (q0c ?_)
 refine gg rfl (q01 rfl rfl hb ?_)
 cases b with
 | false =>
   exact gg rfl (q0e rfl (gg rfl (q0g rfl (gg rfl (q01 rfl rfl q22 (gg rfl (q08 rfl rfl rfl trivial rfl)))))))
 | true =>
   have hB := (hbs rfl).B
   refine gg rfl (q0j rfl (gg rfl ?_))
   rw [List.length_map]
   refine q02 rfl (fun f1 => ?_) (fun f1 => ?_)
   ·exact gg rfl (q01 rfl rfl q22 (gg rfl (q08 rfl rfl rfl trivial rfl)))
   rw [q07] at f1
   have hsm := qvB (q7O s) (by have := qvC s; omega)
   have hsi := qhG (q6e s sizes).1 (q6e s sizes).1 (by have := qvE s sizes; omega)
   rw [decide_eq_true rfl] at hsi
   refine gg rfl (q01 rfl rfl (qld s hB) (gg rfl (q01 rfl rfl (qvz s hB) (gg rfl (q01 rfl rfl (qod s sizes hB (by omega)) ?_)))))
   refine gg rfl (q01 rfl rfl (qvA s sizes hB (by omega)) ?_)
   refine gg rfl (q01 rfl rfl hsm (gg rfl (q0e rfl (gg rfl (q01 rfl rfl hsi (gg rfl (q0e rfl (gg rfl (q05 rfl (fun _ => ?_) he)))))))))
   exact gg rfl (q01 rfl rfl q22 (gg rfl (q08 rfl rfl rfl trivial rfl)))
end Go.F
