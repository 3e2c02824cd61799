/- Parts of the proof, part 42: Nat11, Nat12, Int1, Rat1, Rat2, Rat3, Pt1, All3, All4, All5, All6, Ex1, Ex2, Sml, Zero. -/
import Derived.Test.YtjjkgfikkihokaaZ41
import Derived.KernelRfl
set_option linter.all false
/- Natural numbers: one digit of a quotient, the walk. -/
namespace Go.F
attribute [local irreducible] IntKind.wrap wpM

theorem sub_digit {x y b : Nat} {d : Int} (hx : x < 4294967296) (hy : y < 4294967296) (hb : b ≤ 1) (hd : d = ((x : Int) - y - b) % 18446744073709551616) :
    ∃ u c : Nat, IntKind.u32.wrap d = u ∧ d = ((d.toNat : Nat) : Int) ∧ d.toNat / 2 ^ 63 = c ∧ u < 4294967296 ∧ c ≤ 1 ∧ u + (b + y) = x + 4294967296 * c := by
  rw [wrapU32i]
  refine ⟨(d % 4294967296).toNat, d.toNat / 2 ^ 63, by omega, by omega, rfl, by omega, by omega, by omega⟩

set_option maxHeartbeats 8000000 in
theorem digit_wp (pre w post v Q : List Nat) (n : Nat) (T : Trial w v n) (hn : n ≤ 2000000000) {h : Heap} {z : Frz} {K : D → Heap → Frz → Nat → Prop} (hold : Old (pre ++ w ++ post) v Q h z)
    (hk : ∀ (w' : List Nat) (h' : Heap) (z' : Frz) (nx' : Nat), (nx' = 356 ∨ nx' = 401) → w'.length = n + 1 → LOk w' → val w' = val w % val (v.take n) → Old (pre ++ w' ++ post) v Q h' z' → K (.int .u32 (val w / val (v.take n) : Nat)) h' z' nx') :
    wpM TT (shr TT 5) 206 [.code k_natural_digit.code] .normal (enter [.ref 2 pre.length (n + 1), .ref 3 0 n]) h z 206 (wend k_natural_digit K) := by
  obtain ⟨⟨h0, rfl⟩, z0, rfl⟩ := hold
  have hn2 := T.n2
  have hwl := T.wl
  have hvl := T.vl
  have hhi := T.hi
  have hqlt := T.qlt
  have hv1 := dg_lt T.vo (n - 1)
  have hv2 := dg_lt T.vo (n - 2)
  have hw0 := dg_lt T.wo n
  have hw1 := dg_lt T.wo (n - 1)
  have hw2 := dg_lt T.wo (n - 2)
  have hfl := T.first_le
  have wn1 : IntKind.i64.wrap ((n : Int) - 1) = ((n - 1 : Nat) : Int) := by rw [wrap64 (by omega) (by omega)]; omega
  have wn2 : IntKind.i64.wrap ((n : Int) - 2) = ((n - 2 : Nat) : Int) := by rw [wrap64 (by omega) (by omega)]; omega
  have c0 : IntKind.u64.wrap (dg w n : Int) = (dg w n : Int) := wrapU64 (by omega)
  have c1 : IntKind.u64.wrap (dg w (n - 1) : Int) = (dg w (n - 1) : Int) := wrapU64 (by omega)
  have c2 : IntKind.u64.wrap (dg w (n - 2) : Int) = (dg w (n - 2) : Int) := wrapU64 (by omega)
  have d1 : IntKind.u64.wrap (dg v (n - 1) : Int) = (dg v (n - 1) : Int) := wrapU64 (by omega)
  have d2 : IntKind.u64.wrap (dg v (n - 2) : Int) = (dg v (n - 2) : Int) := wrapU64 (by omega)
  refine go 800 rfl ?_
  refine atIdxR n rfl rfl rfl rfl rfl (by omega) ?_
  refine go 800 rfl ?_
  refine atLoadM pre w post n rfl rfl rfl (by omega) ?_
  refine go 800 rfl ?_
  refine atShlN (dg w n) 32 rfl rfl c0 rfl (by decide) (wrapU64 (by omega)) ?_
  refine go 800 rfl ?_
  refine atIdxR (n - 1) rfl rfl rfl rfl wn1 (by omega) ?_
  refine go 800 rfl ?_
  refine atLoadM pre w post (n - 1) rfl rfl rfl (by omega) ?_
  refine go 800 rfl ?_
  rw [c1, orU64 hw0 hw1]
  refine atIdxR (n - 1) rfl rfl rfl rfl wn1 (by omega) ?_
  refine go 800 rfl ?_
  refine atLoad32 v (n - 1) rfl (Nat.zero_add _) rfl (by omega) ?_
  refine go 800 rfl ?_
  rw [d1]
  generalize htop : dg w n * 4294967296 + dg w (n - 1) = top
  rw [htop] at hfl
  have htl : top < 18446744073709551616 := by omega
  have hql := hfl.1
  refine atQuoN top (dg v (n - 1)) rfl rfl rfl rfl (by omega) (wrapU64 (by omega)) ?_
  refine go 800 rfl ?_
  refine atRemN top (dg v (n - 1)) rfl rfl rfl rfl (by omega) ?_
  refine go 800 rfl ?_
  refine atLoopN (S := fun x : Nat × Nat => ([.ref 2 pre.length (n + 1), .ref 3 0 n, encInt n, .int .u64 (dg v (n - 1)), .int .u64 x.1, .int .u64 x.2], [none, none, none, none, none, none], [0, 0, 0, 0, 0, 0]))
    (O := fun _ ho zo => Old (pre ++ w ++ post) v Q ho zo)
    (C := fun x => x.1 * dg v (n - 1) + x.2 = top ∧ val w / val (v.take n) ≤ x.1 ∧ x.1 ≤ 4294967297 ∧ x.2 < 8589934592) (m := fun x => x.1) (top / dg v (n - 1), top % dg v (n - 1))
    ⟨by simp only; rw [Nat.mul_comm]; exact Nat.div_add_mod _ _, by rw [← htop]; exact T.first, hql, by have := Nat.mod_lt top (show 0 < dg v (n - 1) by omega); simp only; omega⟩ (by simp only; omega) ?_ ?_
  · exact settleN rfl ⟨all_plain u32_plain _, all_plain u32_plain _, trivial⟩ ⟨by simp [encInt], Old.old rfl rfl rfl rfl rfl rfl⟩
  rintro ⟨q, r⟩ ⟨hqr, hq1, hq2, hr⟩ ho zo hold N hN
  obtain ⟨⟨h1, rfl⟩, z1, rfl⟩ := hold
  simp only at hqr hq1 hq2 hr
  have next : q ≠ 0 → r < 4294967296 → val w / val (v.take n) < q → ∀ {t : Tmps} {h : Heap} {z : Frz} {nx : Nat}, (wsettle 206 [(0, 0), (1, 0), (5, 0), (7, 0), (8, 0), (9, 0)] t h z nx fun h z kp => kp = ([.ref 2 pre.length (n + 1), .ref 3 0 n, encInt n, .int .u64 (dg v (n - 1)), .int .u64 (q - 1 : Nat), .int .u64 (r + dg v (n - 1) : Nat)], [none, none, none, none, none, none], [0, 0, 0, 0, 0, 0]) ∧ Old (pre ++ w ++ post) v Q (oldBlk h) z) → N t h z nx := by
    intro hq0 hrl hlt t h z nx hst
    refine hN (q - 1, r + dg v (n - 1)) ⟨?_, by simp only; omega, by simp only; omega, by simp only; omega⟩ (by simp only; omega) hst
    simp only
    obtain ⟨k, rfl⟩ : ∃ k, q = k + 1 := ⟨q - 1, by omega⟩
    rw [Nat.add_mul, Nat.one_mul] at hqr
    simp only [Nat.add_sub_cancel]
    omega
  clear hN
  have s1 : q ≠ 0 → IntKind.u64.wrap ((q : Int) - 1) = ((q - 1 : Nat) : Int) := fun _ => by rw [wrapU64i]; omega
  have s2 : IntKind.u64.wrap ((r : Int) + (dg v (n - 1) : Int)) = ((r + dg v (n - 1) : Nat) : Int) := by rw [wrapU64i]; omega
  have after : q < 4294967296 → q ≤ val w / val (v.take n) + 1 → True := fun _ _ => trivial
  refine go 800 rfl ?_
  refine atGuard rfl (fun g1 => ?_) (fun g1 => ?_)
  · rw [ltb_iff] at g1
    simp only at g1
    refine go 800 rfl ?_
    refine atGuard rfl (fun g2 => ?_) (fun g2 => ?_)
    · rw [leb_iff] at g2
      simp only at g2
      refine go 800 rfl ?_
      refine atCondT rfl ?_
      refine go 800 rfl ?_
      refine atEnd ?_
      refine next (by omega) (by omega) (by omega) (settleN rfl ⟨all_plain u32_plain _, all_plain u32_plain _, trivial⟩ ⟨?_, Old.old rfl rfl rfl rfl rfl rfl⟩)
      simp [encInt, s1 (by omega), s2]
    · rw [leb_not] at g2
      simp only at g2
      have hq3 : q < 4294967296 := by omega
      have hqv := mul_lt32 hq3 hv2
      have em : IntKind.u64.wrap ((q : Int) * IntKind.u64.wrap (dg v (n - 2) : Int)) = ((q * dg v (n - 2) : Nat) : Int) := by
        rw [d2, show (q : Int) * (dg v (n - 2) : Int) = ((q * dg v (n - 2) : Nat) : Int) by simp]
        exact wrapU64 (by omega)
      refine go 800 rfl ?_
      refine atIdxR (n - 2) rfl rfl rfl rfl wn2 (by omega) ?_
      refine go 800 rfl ?_
      refine atLoad32 v (n - 2) rfl (Nat.zero_add _) rfl (by omega) ?_
      refine go 800 rfl ?_
      refine atShlN r 32 rfl rfl rfl rfl (by decide) (wrapU64 (by omega)) ?_
      refine go 800 rfl ?_
      refine atIdxR (n - 2) rfl rfl rfl rfl wn2 (by omega) ?_
      refine go 800 rfl ?_
      refine atLoadM pre w post (n - 2) rfl rfl rfl (by omega) ?_
      refine go 800 rfl ?_
      rw [c2, orU64 (by omega) hw2, em]
      refine atCond rfl (fun g3 => ?_) (fun g3 => ?_)
      · rw [ltb_iff] at g3
        have g3' : r * 4294967296 + dg w (n - 2) < q * dg v (n - 2) := by omega
        have hq0 : q ≠ 0 := by rintro rfl; omega
        refine go 800 rfl ?_
        refine atEnd ?_
        refine next hq0 (by omega) (T.less (by rw [hqr, htop]) g3') (settleN rfl ⟨all_plain u32_plain _, all_plain u32_plain _, trivial⟩ ⟨?_, Old.old rfl rfl rfl rfl rfl rfl⟩)
        simp [encInt, s1 hq0, s2]
      · rw [ltb_not] at g3
        have hq4 := T.end (q := q) (r := r) (by rw [hqr, htop]) hq3 (.inr (by omega))
        refine go 800 rfl ?_
        refine atEnd ?_
        refine go 800 rfl ?_
        refine atLoopN (S := fun x : Nat × List Nat × Nat × Nat => ([.ref 2 pre.length (n + 1), .ref 3 0 n, encInt n, .int .u64 q, .int .u64 x.2.2.1, .int .u64 x.2.2.2, .ref 3 0 n, encInt n, encInt x.1], [none, none, none, none, none, none, none, none, none], [0, 0, 0, 0, 0, 0, 0, 0, 0]))
          (O := fun x ho zo => Old (pre ++ x.2.1 ++ post) v Q ho zo)
          (C := fun x => x.1 ≤ n ∧ x.2.1.length = n + 1 ∧ LOk x.2.1 ∧ x.2.2.1 < 4294967296 ∧ x.2.2.2 ≤ 1 ∧ val (x.2.1.take x.1) + q * val (v.take x.1) = val (w.take x.1) + 4294967296 ^ x.1 * (x.2.2.2 + x.2.2.1) ∧ ∀ j, x.1 ≤ j → dg x.2.1 j = dg w j) (m := fun x => n - x.1) (0, w, 0, 0)
          ⟨Nat.zero_le _, hwl, T.wo, by simp, by simp, by simp [val], fun j _ => rfl⟩ (by simp only; omega) ?_ ?_
        · exact settleN rfl ⟨all_plain u32_plain _, all_plain u32_plain _, all_plain u32_plain _, trivial⟩ ⟨by simp [encInt], Old.old rfl rfl rfl rfl rfl rfl⟩
        rintro ⟨k, w', c, b⟩ ⟨hk1, hl', ho', hc, hb, hinv, hsame⟩ ho zo hold N hN
        obtain ⟨⟨h2, rfl⟩, z2, rfl⟩ := hold
        simp only at hk1 hl' ho' hc hb hinv hsame
        refine go 800 rfl ?_
        refine atCond rfl (fun e1 => ?_) (fun e1 => ?_)
        · rw [ltb_iff] at e1
          simp only at e1
          have hkn : k < n := by omega
          have hvk := dg_lt T.vo k
          have hwk := dg_lt ho' k
          have hqv := mul_lt32 hq3 hvk
          have wk1 : IntKind.i64.wrap ((k : Int) + 1) = ((k + 1 : Nat) : Int) := wrap64 (by omega) (by omega)
          have ee : ((q * dg v k : Nat) : Int) = (q : Int) * (dg v k : Int) := by simp
          have ec : IntKind.u64.wrap ((c : Int) + IntKind.u64.wrap ((q : Int) * IntKind.u64.wrap (dg v k : Int))) = ((c + q * dg v k : Nat) : Int) := by
            rw [wrapU64 (n := dg v k) (by omega), ← ee, wrapU64 (n := q * dg v k) (by omega)]
            simp only [wrapU64i]; omega
          refine go 800 rfl ?_
          refine atIdxR k rfl rfl rfl rfl rfl hkn ?_
          refine go 800 rfl ?_
          refine atLoad32 v k rfl (Nat.zero_add _) rfl (by omega) ?_
          refine go 800 rfl ?_
          rw [ec]
          refine atIdxR k rfl rfl rfl rfl rfl (by omega) ?_
          refine go 800 rfl ?_
          refine atLoadM pre w' post k rfl rfl rfl (by omega) ?_
          refine go 800 rfl ?_
          rw [wrapU32]
          obtain ⟨u, b', g1, g2, g3, g4, g5, g6⟩ := sub_digit (d := IntKind.u64.wrap (IntKind.u64.wrap (IntKind.u64.wrap (dg w' k : Int) - IntKind.u64.wrap (((c + q * dg v k) % 4294967296 : Nat) : Int)) - (b : Int))) hwk (Nat.mod_lt (c + q * dg v k) (by decide)) hb (by simp only [wrapU64i]; omega)
          generalize IntKind.u64.wrap (IntKind.u64.wrap (IntKind.u64.wrap (dg w' k : Int) - IntKind.u64.wrap (((c + q * dg v k) % 4294967296 : Nat) : Int)) - (b : Int)) = d at *
          rw [g1]
          refine atIdxR k rfl rfl rfl rfl rfl (by omega) ?_
          refine go 800 rfl ?_
          refine atStoreM pre w' post k u rfl rfl rfl rfl rfl rfl (by omega) ?_
          refine go 800 rfl ?_
          refine atShrN d.toNat 63 rfl rfl g2 rfl (by decide) ?_
          rw [g3]
          refine go 800 rfl ?_
          refine atShrN (c + q * dg v k) 32 rfl rfl rfl rfl (by decide) ?_
          refine go 800 rfl ?_
          refine atEnd ?_
          refine hN (k + 1, w'.set k u, (c + q * dg v k) / 2 ^ 32, b') ⟨hkn, by simp [hl'], ho'.set _ g4, by simp only; omega, g5, ?_, ?_⟩ (by simp only; omega) (settleN rfl ⟨all_plain u32_plain _, all_plain u32_plain _, all_plain u32_plain _, trivial⟩ ⟨by simp [encInt, wk1], Old.old rfl rfl rfl rfl rfl rfl⟩)
          · simp only
            rw [val_take_set (by omega), val_take v, val_take w, show (2 : Nat) ^ 32 = 4294967296 by decide, Nat.pow_succ]
            have hs := hsame k (Nat.le_refl _)
            rw [hs] at g6
            have hdm := Nat.div_add_mod (c + q * dg v k) 4294967296
            generalize (c + q * dg v k) / 4294967296 = c' at *
            generalize (c + q * dg v k) % 4294967296 = lo at *
            generalize 4294967296 ^ k = P at *
            have e5 : P * u + P * (q * dg v k) + P * (b + c) = P * dg w k + P * (4294967296 * (b' + c')) := by
              rw [← Nat.mul_add, ← Nat.mul_add, ← Nat.mul_add]; congr 1; omega
            rw [Nat.mul_add q, Nat.mul_left_comm q P, Nat.mul_assoc P 4294967296]
            omega
          · intro j hj
            simp only at hj ⊢
            rw [dg_set, if_neg (by omega)]
            exact hsame j (by omega)
        rw [ltb_not] at e1
        simp only at e1
        obtain rfl : k = n := by omega
        clear hN
        obtain ⟨se1, se2⟩ := sub_end T hq1 hq4 hl' ho' hc hb hinv
        have hdn := hsame k (Nat.le_refl _)
        have cn : IntKind.u64.wrap (dg w' k : Int) = (dg w' k : Int) := wrapU64 (by rw [hdn]; omega)
        refine go 800 rfl ?_
        refine atEnd ?_
        refine go 800 rfl ?_
        refine atIdxR k rfl rfl rfl rfl rfl (by omega) ?_
        refine go 800 rfl ?_
        refine atLoadM pre w' post k rfl rfl rfl (by omega) ?_
        refine go 800 rfl ?_
        by_cases hcase : c + b ≤ dg w k
        · obtain ⟨f1, f2⟩ := se1 hcase
          have ed : IntKind.u64.wrap (IntKind.u64.wrap (IntKind.u64.wrap (dg w' k : Int) - (c : Int)) - (b : Int)) = ((dg w k - c - b : Nat) : Int) := by rw [hdn]; simp only [wrapU64i]; omega
          have ed2 : IntKind.u32.wrap ((dg w k - c - b : Nat) : Int) = ((dg w k - c - b : Nat) : Int) := by rw [wrapU32]; omega
          have eq2 : IntKind.u32.wrap (q : Int) = (q : Int) := by rw [wrapU32]; omega
          rw [ed, ed2]
          refine atIdxR k rfl rfl rfl rfl rfl (by omega) ?_
          refine go 800 rfl ?_
          refine atStoreM pre w' post k (dg w k - c - b) rfl rfl rfl rfl rfl rfl (by omega) ?_
          refine go 800 rfl ?_
          refine atShrN (dg w k - c - b) 63 rfl rfl rfl rfl (by decide) ?_
          refine go 800 rfl ?_
          refine atCond rfl (fun y1 => ?_) (fun y1 => ?_)
          · refine go 800 rfl ?_
            rw [eq2]
            have hk' : ∀ h' z', Old (pre ++ w'.set k (dg w k - c - b) ++ post) v Q h' z' → K (.int .u32 q) h' z' 356 := fun h' z' hol => by
              rw [f1]; exact hk (w'.set k (dg w k - c - b)) h' z' 356 (.inl rfl) (by simp [hl']) (ho'.set _ (by omega)) f2 hol
            exact finS rfl rfl (hk' _ _ (Old.of rfl rfl rfl rfl rfl rfl))
          · rw [eqb_not] at y1
            exact absurd (by omega) y1
        · obtain ⟨f1, f0, f2⟩ := se2 (by omega)
          have ed : IntKind.u64.wrap (IntKind.u64.wrap (IntKind.u64.wrap (dg w' k : Int) - (c : Int)) - (b : Int)) = ((18446744073709551616 + dg w k - c - b : Nat) : Int) := by rw [hdn]; simp only [wrapU64i]; omega
          have ed2 : IntKind.u32.wrap ((18446744073709551616 + dg w k - c - b : Nat) : Int) = ((dg w k + 4294967296 - c - b : Nat) : Int) := by rw [wrapU32]; omega
          rw [ed, ed2]
          refine atIdxR k rfl rfl rfl rfl rfl (by omega) ?_
          refine go 800 rfl ?_
          refine atStoreM pre w' post k (dg w k + 4294967296 - c - b) rfl rfl rfl rfl rfl rfl (by omega) ?_
          refine go 800 rfl ?_
          refine atShrN (18446744073709551616 + dg w k - c - b) 63 rfl rfl rfl rfl (by decide) ?_
          refine go 800 rfl ?_
          refine atCond rfl (fun y1 => ?_) (fun y1 => ?_)
          · rw [eqb_iff] at y1
            omega
          refine go 800 rfl ?_
          have hl1 : (w'.set k (dg w k + 4294967296 - c - b)).length = k + 1 := by simp [hl']
          have ho1 : LOk (w'.set k (dg w k + 4294967296 - c - b)) := ho'.set _ f0
          generalize w'.set k (dg w k + 4294967296 - c - b) = x1 at *
          refine atLoopN (S := fun x : Nat × List Nat × Nat => ([.ref 2 pre.length (k + 1), encInt k, .int .u64 q, .int .u64 x.2.2, .ref 3 0 k, encInt k, encInt x.1], [none, none, none, none, none, none, none], [0, 0, 0, 0, 0, 0, 0]))
            (O := fun x ho zo => Old (pre ++ x.2.1 ++ post) v Q ho zo)
            (C := fun x => x.1 ≤ k ∧ x.2.1.length = k + 1 ∧ LOk x.2.1 ∧ x.2.2 ≤ 1 ∧ val (x.2.1.take x.1) + 4294967296 ^ x.1 * x.2.2 = val (x1.take x.1) + val (v.take x.1) ∧ ∀ j, x.1 ≤ j → dg x.2.1 j = dg x1 j) (m := fun x => k - x.1) (0, x1, 0)
            ⟨Nat.zero_le _, hl1, ho1, by simp, by simp [val], fun j _ => rfl⟩ (by simp only; omega) ?_ ?_
          · exact settleN rfl ⟨all_plain u32_plain _, all_plain u32_plain _, trivial⟩ ⟨by simp [encInt], Old.old rfl rfl rfl rfl rfl rfl⟩
          rintro ⟨i, x2, c2'⟩ ⟨hi1, hl2, ho2, hc2, hinv2, hsame2⟩ ho zo hold N hN
          obtain ⟨⟨h3, rfl⟩, z3, rfl⟩ := hold
          simp only at hi1 hl2 ho2 hc2 hinv2 hsame2
          refine go 800 rfl ?_
          refine atCond rfl (fun e2 => ?_) (fun e2 => ?_)
          · rw [ltb_iff] at e2
            simp only at e2
            have hik : i < k := by omega
            have hvi := dg_lt T.vo i
            have hxi := dg_lt ho2 i
            have wi1 : IntKind.i64.wrap ((i : Int) + 1) = ((i + 1 : Nat) : Int) := wrap64 (by omega) (by omega)
            have es : IntKind.u64.wrap ((c2' : Int) + IntKind.u64.wrap (IntKind.u64.wrap (dg x2 i : Int) + IntKind.u64.wrap (dg v i : Int))) = ((c2' + dg x2 i + dg v i : Nat) : Int) := by simp only [wrapU64i]; omega
            refine go 800 rfl ?_
            refine atIdxR i rfl rfl rfl rfl rfl hik ?_
            refine go 800 rfl ?_
            refine atLoad32 v i rfl (Nat.zero_add _) rfl (by omega) ?_
            refine go 800 rfl ?_
            refine atIdxR i rfl rfl rfl rfl rfl (by omega) ?_
            refine go 800 rfl ?_
            refine atLoadM pre x2 post i rfl rfl rfl (by omega) ?_
            refine go 800 rfl ?_
            rw [es, wrapU32]
            refine atIdxR i rfl rfl rfl rfl rfl (by omega) ?_
            refine go 800 rfl ?_
            refine atStoreM pre x2 post i ((c2' + dg x2 i + dg v i) % 4294967296) rfl rfl rfl rfl rfl rfl (by omega) ?_
            refine go 800 rfl ?_
            refine atShrN (c2' + dg x2 i + dg v i) 32 rfl rfl rfl rfl (by decide) ?_
            refine go 800 rfl ?_
            refine atEnd ?_
            refine hN (i + 1, x2.set i ((c2' + dg x2 i + dg v i) % 4294967296), (c2' + dg x2 i + dg v i) / 2 ^ 32) ⟨hik, by simp [hl2], ho2.set _ (Nat.mod_lt _ (by decide)), by simp only; omega, ?_, ?_⟩ (by simp only; omega) (settleN rfl ⟨all_plain u32_plain _, all_plain u32_plain _, trivial⟩ ⟨by simp [encInt, wi1], Old.old rfl rfl rfl rfl rfl rfl⟩)
            · simp only
              rw [val_take_set (by omega), val_take x1, val_take v, show (2 : Nat) ^ 32 = 4294967296 by decide, Nat.pow_succ, Nat.add_assoc, carry_eq, Nat.mul_add, Nat.mul_add, hsame2 i (Nat.le_refl _)]
              omega
            · intro j hj
              simp only at hj ⊢
              rw [dg_set, if_neg (by omega)]
              exact hsame2 j (by omega)
          rw [ltb_not] at e2
          simp only at e2
          obtain rfl : i = k := by omega
          clear hN
          have hdx := hsame2 i (Nat.le_refl _)
          have hx1 := dg_lt ho1 i
          have fin := add_end T f1 hl1 ho1 hl2 ho2 hc2 hdx f2 hinv2
          have ec2 : IntKind.u32.wrap (c2' : Int) = (c2' : Int) := by rw [wrapU32]; omega
          have ea2 : IntKind.u32.wrap ((dg x2 i : Int) + (c2' : Int)) = (((dg x1 i + c2') % 4294967296 : Nat) : Int) := by rw [hdx, wrapU32i]; omega
          have eq3 : IntKind.u32.wrap (IntKind.u64.wrap ((q : Int) - 1)) = ((val w / val (v.take i) : Nat) : Int) := by
            have a1 := f1
            have a2 := hqlt
            generalize val w / val (v.take i) = Qt at a1 a2 ⊢
            rw [wrapU64i, wrapU32i]
            clear hinv hinv2 hqr hq1 hq2 hql f2 fin
            omega
          refine go 800 rfl ?_
          refine atEnd ?_
          refine go 800 rfl ?_
          refine atIdxR i rfl rfl rfl rfl rfl (by omega) ?_
          refine go 800 rfl ?_
          refine atLoadM pre x2 post i rfl rfl rfl (by omega) ?_
          refine go 800 rfl ?_
          rw [ec2, ea2]
          refine atIdxR i rfl rfl rfl rfl rfl (by omega) ?_
          refine go 800 rfl ?_
          refine atStoreM pre x2 post i ((dg x1 i + c2') % 4294967296) rfl rfl rfl rfl rfl rfl (by omega) ?_
          refine go 800 rfl ?_
          rw [eq3]
          refine finS rfl rfl ?_
          exact hk (x2.set i ((dg x1 i + c2') % 4294967296)) _ _ 401 (.inr rfl) (by simp [hl2]) (ho2.set _ (Nat.mod_lt _ (by decide))) fin (Old.of rfl rfl rfl rfl rfl rfl)
  · rw [ltb_not] at g1
    simp only at g1
    have hq3 : q < 4294967296 := by
      have h5 := hfl.2
      have h6 : q * dg v (n - 1) < 4294967296 * dg v (n - 1) := by omega
      exact Nat.lt_of_mul_lt_mul_right h6
    have hq4 := T.end (q := q) (r := r) (by rw [hqr, htop]) hq3 (.inl (by omega))
    refine go 800 rfl ?_
    refine atCondF rfl ?_
    refine go 800 rfl ?_
    refine atEnd ?_
    refine go 800 rfl ?_
    refine atLoopN (S := fun x : Nat × List Nat × Nat × Nat => ([.ref 2 pre.length (n + 1), .ref 3 0 n, encInt n, .int .u64 q, .int .u64 x.2.2.1, .int .u64 x.2.2.2, .ref 3 0 n, encInt n, encInt x.1], [none, none, none, none, none, none, none, none, none], [0, 0, 0, 0, 0, 0, 0, 0, 0]))
      (O := fun x ho zo => Old (pre ++ x.2.1 ++ post) v Q ho zo)
      (C := fun x => x.1 ≤ n ∧ x.2.1.length = n + 1 ∧ LOk x.2.1 ∧ x.2.2.1 < 4294967296 ∧ x.2.2.2 ≤ 1 ∧ val (x.2.1.take x.1) + q * val (v.take x.1) = val (w.take x.1) + 4294967296 ^ x.1 * (x.2.2.2 + x.2.2.1) ∧ ∀ j, x.1 ≤ j → dg x.2.1 j = dg w j) (m := fun x => n - x.1) (0, w, 0, 0)
      ⟨Nat.zero_le _, hwl, T.wo, by simp, by simp, by simp [val], fun j _ => rfl⟩ (by simp only; omega) ?_ ?_
    · exact settleN rfl ⟨all_plain u32_plain _, all_plain u32_plain _, all_plain u32_plain _, trivial⟩ ⟨by simp [encInt], Old.old rfl rfl rfl rfl rfl rfl⟩
    rintro ⟨k, w', c, b⟩ ⟨hk1, hl', ho', hc, hb, hinv, hsame⟩ ho zo hold N hN
    obtain ⟨⟨h2, rfl⟩, z2, rfl⟩ := hold
    simp only at hk1 hl' ho' hc hb hinv hsame
    refine go 800 rfl ?_
    refine atCond rfl (fun e1 => ?_) (fun e1 => ?_)
    · rw [ltb_iff] at e1
      simp only at e1
      have hkn : k < n := by omega
      have hvk := dg_lt T.vo k
      have hwk := dg_lt ho' k
      have hqv := mul_lt32 hq3 hvk
      have wk1 : IntKind.i64.wrap ((k : Int) + 1) = ((k + 1 : Nat) : Int) := wrap64 (by omega) (by omega)
      have ee : ((q * dg v k : Nat) : Int) = (q : Int) * (dg v k : Int) := by simp
      have ec : IntKind.u64.wrap ((c : Int) + IntKind.u64.wrap ((q : Int) * IntKind.u64.wrap (dg v k : Int))) = ((c + q * dg v k : Nat) : Int) := by
        rw [wrapU64 (n := dg v k) (by omega), ← ee, wrapU64 (n := q * dg v k) (by omega)]
        simp only [wrapU64i]; omega
      refine go 800 rfl ?_
      refine atIdxR k rfl rfl rfl rfl rfl hkn ?_
      refine go 800 rfl ?_
      refine atLoad32 v k rfl (Nat.zero_add _) rfl (by omega) ?_
      refine go 800 rfl ?_
      rw [ec]
      refine atIdxR k rfl rfl rfl rfl rfl (by omega) ?_
      refine go 800 rfl ?_
      refine atLoadM pre w' post k rfl rfl rfl (by omega) ?_
      refine go 800 rfl ?_
      rw [wrapU32]
      obtain ⟨u, b', g1, g2, g3, g4, g5, g6⟩ := sub_digit (d := IntKind.u64.wrap (IntKind.u64.wrap (IntKind.u64.wrap (dg w' k : Int) - IntKind.u64.wrap (((c + q * dg v k) % 4294967296 : Nat) : Int)) - (b : Int))) hwk (Nat.mod_lt (c + q * dg v k) (by decide)) hb (by simp only [wrapU64i]; omega)
      generalize IntKind.u64.wrap (IntKind.u64.wrap (IntKind.u64.wrap (dg w' k : Int) - IntKind.u64.wrap (((c + q * dg v k) % 4294967296 : Nat) : Int)) - (b : Int)) = d at *
      rw [g1]
      refine atIdxR k rfl rfl rfl rfl rfl (by omega) ?_
      refine go 800 rfl ?_
      refine atStoreM pre w' post k u rfl rfl rfl rfl rfl rfl (by omega) ?_
      refine go 800 rfl ?_
      refine atShrN d.toNat 63 rfl rfl g2 rfl (by decide) ?_
      rw [g3]
      refine go 800 rfl ?_
      refine atShrN (c + q * dg v k) 32 rfl rfl rfl rfl (by decide) ?_
      refine go 800 rfl ?_
      refine atEnd ?_
      refine hN (k + 1, w'.set k u, (c + q * dg v k) / 2 ^ 32, b') ⟨hkn, by simp [hl'], ho'.set _ g4, by simp only; omega, g5, ?_, ?_⟩ (by simp only; omega) (settleN rfl ⟨all_plain u32_plain _, all_plain u32_plain _, all_plain u32_plain _, trivial⟩ ⟨by simp [encInt, wk1], Old.old rfl rfl rfl rfl rfl rfl⟩)
      · simp only
        rw [val_take_set (by omega), val_take v, val_take w, show (2 : Nat) ^ 32 = 4294967296 by decide, Nat.pow_succ]
        have hs := hsame k (Nat.le_refl _)
        rw [hs] at g6
        have hdm := Nat.div_add_mod (c + q * dg v k) 4294967296
        generalize (c + q * dg v k) / 4294967296 = c' at *
        generalize (c + q * dg v k) % 4294967296 = lo at *
        generalize 4294967296 ^ k = P at *
        have e5 : P * u + P * (q * dg v k) + P * (b + c) = P * dg w k + P * (4294967296 * (b' + c')) := by
          rw [← Nat.mul_add, ← Nat.mul_add, ← Nat.mul_add]; congr 1; omega
        rw [Nat.mul_add q, Nat.mul_left_comm q P, Nat.mul_assoc P 4294967296]
        omega
      · intro j hj
        simp only at hj ⊢
        rw [dg_set, if_neg (by omega)]
        exact hsame j (by omega)
    rw [ltb_not] at e1
    simp only at e1
    obtain rfl : k = n := by omega
    clear hN
    obtain ⟨se1, se2⟩ := sub_end T hq1 hq4 hl' ho' hc hb hinv
    have hdn := hsame k (Nat.le_refl _)
    have cn : IntKind.u64.wrap (dg w' k : Int) = (dg w' k : Int) := wrapU64 (by rw [hdn]; omega)
    refine go 800 rfl ?_
    refine atEnd ?_
    refine go 800 rfl ?_
    refine atIdxR k rfl rfl rfl rfl rfl (by omega) ?_
    refine go 800 rfl ?_
    refine atLoadM pre w' post k rfl rfl rfl (by omega) ?_
    refine go 800 rfl ?_
    by_cases hcase : c + b ≤ dg w k
    · obtain ⟨f1, f2⟩ := se1 hcase
      have ed : IntKind.u64.wrap (IntKind.u64.wrap (IntKind.u64.wrap (dg w' k : Int) - (c : Int)) - (b : Int)) = ((dg w k - c - b : Nat) : Int) := by rw [hdn]; simp only [wrapU64i]; omega
      have ed2 : IntKind.u32.wrap ((dg w k - c - b : Nat) : Int) = ((dg w k - c - b : Nat) : Int) := by rw [wrapU32]; omega
      have eq2 : IntKind.u32.wrap (q : Int) = (q : Int) := by rw [wrapU32]; omega
      rw [ed, ed2]
      refine atIdxR k rfl rfl rfl rfl rfl (by omega) ?_
      refine go 800 rfl ?_
      refine atStoreM pre w' post k (dg w k - c - b) rfl rfl rfl rfl rfl rfl (by omega) ?_
      refine go 800 rfl ?_
      refine atShrN (dg w k - c - b) 63 rfl rfl rfl rfl (by decide) ?_
      refine go 800 rfl ?_
      refine atCond rfl (fun y1 => ?_) (fun y1 => ?_)
      · refine go 800 rfl ?_
        rw [eq2]
        have hk' : ∀ h' z', Old (pre ++ w'.set k (dg w k - c - b) ++ post) v Q h' z' → K (.int .u32 q) h' z' 356 := fun h' z' hol => by
          rw [f1]; exact hk (w'.set k (dg w k - c - b)) h' z' 356 (.inl rfl) (by simp [hl']) (ho'.set _ (by omega)) f2 hol
        exact finS rfl rfl (hk' _ _ (Old.of rfl rfl rfl rfl rfl rfl))
      · rw [eqb_not] at y1
        exact absurd (by omega) y1
    · obtain ⟨f1, f0, f2⟩ := se2 (by omega)
      have ed : IntKind.u64.wrap (IntKind.u64.wrap (IntKind.u64.wrap (dg w' k : Int) - (c : Int)) - (b : Int)) = ((18446744073709551616 + dg w k - c - b : Nat) : Int) := by rw [hdn]; simp only [wrapU64i]; omega
      have ed2 : IntKind.u32.wrap ((18446744073709551616 + dg w k - c - b : Nat) : Int) = ((dg w k + 4294967296 - c - b : Nat) : Int) := by rw [wrapU32]; omega
      rw [ed, ed2]
      refine atIdxR k rfl rfl rfl rfl rfl (by omega) ?_
      refine go 800 rfl ?_
      refine atStoreM pre w' post k (dg w k + 4294967296 - c - b) rfl rfl rfl rfl rfl rfl (by omega) ?_
      refine go 800 rfl ?_
      refine atShrN (18446744073709551616 + dg w k - c - b) 63 rfl rfl rfl rfl (by decide) ?_
      refine go 800 rfl ?_
      refine atCond rfl (fun y1 => ?_) (fun y1 => ?_)
      · rw [eqb_iff] at y1
        omega
      refine go 800 rfl ?_
      have hl1 : (w'.set k (dg w k + 4294967296 - c - b)).length = k + 1 := by simp [hl']
      have ho1 : LOk (w'.set k (dg w k + 4294967296 - c - b)) := ho'.set _ f0
      generalize w'.set k (dg w k + 4294967296 - c - b) = x1 at *
      refine atLoopN (S := fun x : Nat × List Nat × Nat => ([.ref 2 pre.length (k + 1), encInt k, .int .u64 q, .int .u64 x.2.2, .ref 3 0 k, encInt k, encInt x.1], [none, none, none, none, none, none, none], [0, 0, 0, 0, 0, 0, 0]))
        (O := fun x ho zo => Old (pre ++ x.2.1 ++ post) v Q ho zo)
        (C := fun x => x.1 ≤ k ∧ x.2.1.length = k + 1 ∧ LOk x.2.1 ∧ x.2.2 ≤ 1 ∧ val (x.2.1.take x.1) + 4294967296 ^ x.1 * x.2.2 = val (x1.take x.1) + val (v.take x.1) ∧ ∀ j, x.1 ≤ j → dg x.2.1 j = dg x1 j) (m := fun x => k - x.1) (0, x1, 0)
        ⟨Nat.zero_le _, hl1, ho1, by simp, by simp [val], fun j _ => rfl⟩ (by simp only; omega) ?_ ?_
      · exact settleN rfl ⟨all_plain u32_plain _, all_plain u32_plain _, trivial⟩ ⟨by simp [encInt], Old.old rfl rfl rfl rfl rfl rfl⟩
      rintro ⟨i, x2, c2'⟩ ⟨hi1, hl2, ho2, hc2, hinv2, hsame2⟩ ho zo hold N hN
      obtain ⟨⟨h3, rfl⟩, z3, rfl⟩ := hold
      simp only at hi1 hl2 ho2 hc2 hinv2 hsame2
      refine go 800 rfl ?_
      refine atCond rfl (fun e2 => ?_) (fun e2 => ?_)
      · rw [ltb_iff] at e2
        simp only at e2
        have hik : i < k := by omega
        have hvi := dg_lt T.vo i
        have hxi := dg_lt ho2 i
        have wi1 : IntKind.i64.wrap ((i : Int) + 1) = ((i + 1 : Nat) : Int) := wrap64 (by omega) (by omega)
        have es : IntKind.u64.wrap ((c2' : Int) + IntKind.u64.wrap (IntKind.u64.wrap (dg x2 i : Int) + IntKind.u64.wrap (dg v i : Int))) = ((c2' + dg x2 i + dg v i : Nat) : Int) := by simp only [wrapU64i]; omega
        refine go 800 rfl ?_
        refine atIdxR i rfl rfl rfl rfl rfl hik ?_
        refine go 800 rfl ?_
        refine atLoad32 v i rfl (Nat.zero_add _) rfl (by omega) ?_
        refine go 800 rfl ?_
        refine atIdxR i rfl rfl rfl rfl rfl (by omega) ?_
        refine go 800 rfl ?_
        refine atLoadM pre x2 post i rfl rfl rfl (by omega) ?_
        refine go 800 rfl ?_
        rw [es, wrapU32]
        refine atIdxR i rfl rfl rfl rfl rfl (by omega) ?_
        refine go 800 rfl ?_
        refine atStoreM pre x2 post i ((c2' + dg x2 i + dg v i) % 4294967296) rfl rfl rfl rfl rfl rfl (by omega) ?_
        refine go 800 rfl ?_
        refine atShrN (c2' + dg x2 i + dg v i) 32 rfl rfl rfl rfl (by decide) ?_
        refine go 800 rfl ?_
        refine atEnd ?_
        refine hN (i + 1, x2.set i ((c2' + dg x2 i + dg v i) % 4294967296), (c2' + dg x2 i + dg v i) / 2 ^ 32) ⟨hik, by simp [hl2], ho2.set _ (Nat.mod_lt _ (by decide)), by simp only; omega, ?_, ?_⟩ (by simp only; omega) (settleN rfl ⟨all_plain u32_plain _, all_plain u32_plain _, trivial⟩ ⟨by simp [encInt, wi1], Old.old rfl rfl rfl rfl rfl rfl⟩)
        · simp only
          rw [val_take_set (by omega), val_take x1, val_take v, show (2 : Nat) ^ 32 = 4294967296 by decide, Nat.pow_succ, Nat.add_assoc, carry_eq, Nat.mul_add, Nat.mul_add, hsame2 i (Nat.le_refl _)]
          omega
        · intro j hj
          simp only at hj ⊢
          rw [dg_set, if_neg (by omega)]
          exact hsame2 j (by omega)
      rw [ltb_not] at e2
      simp only at e2
      obtain rfl : i = k := by omega
      clear hN
      have hdx := hsame2 i (Nat.le_refl _)
      have hx1 := dg_lt ho1 i
      have fin := add_end T f1 hl1 ho1 hl2 ho2 hc2 hdx f2 hinv2
      have ec2 : IntKind.u32.wrap (c2' : Int) = (c2' : Int) := by rw [wrapU32]; omega
      have ea2 : IntKind.u32.wrap ((dg x2 i : Int) + (c2' : Int)) = (((dg x1 i + c2') % 4294967296 : Nat) : Int) := by rw [hdx, wrapU32i]; omega
      have eq3 : IntKind.u32.wrap (IntKind.u64.wrap ((q : Int) - 1)) = ((val w / val (v.take i) : Nat) : Int) := by
        have a1 := f1
        have a2 := hqlt
        generalize val w / val (v.take i) = Qt at a1 a2 ⊢
        rw [wrapU64i, wrapU32i]
        clear hinv hinv2 hqr hq1 hq2 hql f2 fin
        omega
      refine go 800 rfl ?_
      refine atEnd ?_
      refine go 800 rfl ?_
      refine atIdxR i rfl rfl rfl rfl rfl (by omega) ?_
      refine go 800 rfl ?_
      refine atLoadM pre x2 post i rfl rfl rfl (by omega) ?_
      refine go 800 rfl ?_
      rw [ec2, ea2]
      refine atIdxR i rfl rfl rfl rfl rfl (by omega) ?_
      refine go 800 rfl ?_
      refine atStoreM pre x2 post i ((dg x1 i + c2') % 4294967296) rfl rfl rfl rfl rfl rfl (by omega) ?_
      refine go 800 rfl ?_
      rw [eq3]
      refine finS rfl rfl ?_
      exact hk (x2.set i ((dg x1 i + c2') % 4294967296)) _ _ 401 (.inr rfl) (by simp [hl2]) (ho2.set _ (Nat.mod_lt _ (by decide))) fin (Old.of rfl rfl rfl rfl rfl rfl)
end Go.F

/- Natural numbers: DivMod, Gcd. -/
namespace Go.F
attribute [local irreducible] IntKind.wrap wpM

/- a row's window -/
theorem windowN {U : List Nat} {i n : Nat} (h : i + n + 1 ≤ U.length) : U = U.take i ++ (U.drop i).take (n + 1) ++ U.drop (i + n + 1) ∧ (U.take i).length = i ∧ ((U.drop i).take (n + 1)).length = n + 1 := by
  refine ⟨?_, by simp; omega, by simp; omega⟩
  rw [List.append_assoc, show U.drop (i + n + 1) = (U.drop i).drop (n + 1) by rw [List.drop_drop]; congr 1, List.take_append_drop, List.take_append_drop]

theorem val_zero_high {l : List Nat} {n : Nat} (h : val l < 4294967296 ^ n) : val (l.drop n) = 0 ∧ val (l.take n) = val l := by
  have := val_split l n
  have hz : val (l.drop n) = 0 := by
    by_cases h0 : val (l.drop n) = 0
    · exact h0
    · have : 4294967296 ^ n * 1 ≤ 4294967296 ^ n * val (l.drop n) := Nat.mul_le_mul_left _ (by omega)
      omega
  rw [hz] at this
  exact ⟨hz, by omega⟩

/- the state of the division -/
structure Dv (r v U Q : List Nat) (n m j : Nat) : Prop where
  jm : j ≤ m
  ul : U.length = m + n
  uo : LOk U
  ql : Q.length = m
  qo : LOk Q
  lt : val (U.drop j) < val (v.take n)
  eq : val r = val U + val (v.take n) * (4294967296 ^ j * val (Q.drop j))

theorem Dv.trial {r v U Q : List Nat} {n m j : Nat} (h : Dv r v U Q n m (j + 1)) (n2 : 2 ≤ n) (vo : LOk v) (vl : n ≤ v.length) (hi : 2147483648 ≤ dg v (n - 1)) :
    Trial ((U.drop j).take (n + 1)) v n ∧ val ((U.drop j).take (n + 1)) = val (U.drop j) := by
  have hl := h.ul
  have hj := h.jm
  have hV := val_take_lt vo n
  have hlt := h.lt
  have e1 : val (U.drop j) < 4294967296 * val (v.take n) := by
    rw [val_drop]
    have := dg_lt h.uo j
    omega
  have e2 : val (U.drop j) < 4294967296 ^ (n + 1) := by
    rw [Nat.pow_succ]
    have : 4294967296 * val (v.take n) ≤ 4294967296 * 4294967296 ^ n := Nat.mul_le_mul_left _ (by omega)
    omega
  have e3 := (val_zero_high e2).2
  exact ⟨⟨n2, by simp; omega, (h.uo.drop j).take _, vo, vl, hi, by rw [e3]; exact e1⟩, e3⟩

theorem Dv.next {r v U Q w' : List Nat} {n m j : Nat} (h : Dv r v U Q n m (j + 1)) (T : Trial ((U.drop j).take (n + 1)) v n) (hw : val ((U.drop j).take (n + 1)) = val (U.drop j)) (hl' : w'.length = n + 1) (ho' : LOk w') (hv' : val w' = val ((U.drop j).take (n + 1)) % val (v.take n)) :
    Dv r v (U.take j ++ w' ++ U.drop (j + n + 1)) (Q.set j (val ((U.drop j).take (n + 1)) / val (v.take n))) n m j := by
  have hl := h.ul
  have hj := h.jm
  have hpos := T.pos.2
  have hq := T.qlt
  obtain ⟨w1, w2, w3⟩ := windowN (U := U) (i := j) (n := n) (by omega)
  have hpz : val (U.drop (j + n + 1)) = 0 := by
    have := val_split (U.drop j) (n + 1)
    rw [hw, List.drop_drop, show j + (n + 1) = j + n + 1 by omega] at this
    have hp : 0 < 4294967296 ^ (n + 1) := Nat.pow_pos (by decide)
    have h0 : 4294967296 ^ (n + 1) * val (U.drop (j + n + 1)) = 0 := by omega
    rcases Nat.mul_eq_zero.1 h0 with h1 | h1
    · omega
    · exact h1
  refine ⟨by omega, by simp [hl']; omega, ((h.uo.take j).append ho').append (h.uo.drop _), by simp [h.ql], h.qo.set _ hq, ?_, ?_⟩
  · rw [List.append_assoc, List.drop_left' w2, val_append, hpz, hv']
    have := Nat.mod_lt (val ((U.drop j).take (n + 1))) hpos
    omega
  · have heq := h.eq
    have e1 : val (U.take j ++ w' ++ U.drop (j + n + 1)) = val (U.take j) + 4294967296 ^ j * val w' := by
      rw [List.append_assoc, val_append, val_append, w2, hpz]; simp
    have e2 : val U = val (U.take j) + 4294967296 ^ j * val (U.drop j) := val_split U j
    rw [e1, val_drop, dg_set, if_pos ⟨rfl, by rw [h.ql]; omega⟩, List.drop_set_of_lt (by omega), hv', hw]
    rw [heq, e2, Nat.pow_succ]
    have hdm := Nat.div_add_mod (val (U.drop j)) (val (v.take n))
    generalize val (v.take n) = V at *
    generalize val (U.drop j) / V = q at *
    generalize val (U.drop j) % V = R at *
    rw [← hdm]
    generalize val (Q.drop (j + 1)) = X
    generalize 4294967296 ^ j = P
    grind

set_option maxHeartbeats 8000000 in
theorem DivMod_PU (a b : List Nat) [ha : LOk a] [hb : LOk b] (hla : a.length ≤ 900000000) (hlb : b.length ≤ 900000000) :
    PU f_natural_DivMod [nat a, nat b] = some (if val b = 0 then .tup [nat [], nat [], .bool false] else .tup [nat (limbs (val a / val b)), nat (limbs (val a % val b)), .bool true]) := by
  have ea : val (limbs (val a)) = val a := val_limbs _
  have eb : val (limbs (val b)) = val b := val_limbs _
  have hla' := limbs_len_of ha
  have hlb' := limbs_len_of hb
  refine PU_of (fn := k_natural_DivMod) rfl (startI ?_)
  refine go 800 rfl ?_
  refine atCall rfl rfl (trim_PU a (by omega)) ?_
  refine go 800 rfl ?_
  refine atCall rfl rfl (trim_PU b (by omega)) ?_
  refine go 800 rfl ?_
  have hAo : LOk (limbs (val a)) := limbs_ok _
  have hBo : LOk (limbs (val b)) := limbs_ok _
  have hb0 : (limbs (val b)).length = 0 ↔ val b = 0 := by rw [List.length_eq_zero_iff]; exact limbs_nil
  have hbtop : val b ≠ 0 → dg (limbs (val b)) ((limbs (val b)).length - 1) ≠ 0 := limbs_top
  have hlen : val b ≤ val a → (limbs (val b)).length ≤ (limbs (val a)).length := fun h => limbs_len.2 (Nat.lt_of_le_of_lt h (limbs_len.1 (Nat.le_refl _)))
  generalize limbs (val a) = A at *
  generalize limbs (val b) = B at *
  rw [List.length_map]
  refine atCond rfl (fun h1 => ?_) (fun h1 => ?_)
  · rw [eqb_iff] at h1
    refine go 800 rfl ?_
    refine finI rfl rfl rfl trivial ?_
    rw [if_pos (hb0.1 (by omega))]; rfl
  rw [eqb_not] at h1
  have hvb : val b ≠ 0 := fun h => h1 (by have := hb0.2 h; omega)
  rw [if_neg hvb]
  refine go 800 rfl ?_
  refine atCall rfl rfl (Cmp_PU A B (by omega) (by omega)) ?_
  refine go 800 rfl ?_
  rw [ea, eb]
  refine atCond rfl (fun h2 => ?_) (fun h2 => ?_)
  · rw [ltb_iff] at h2
    have hlt : val a < val b := by
      unfold cmpS at h2
      split at h2
      · omega
      · split at h2 <;> omega
    refine go 800 rfl ?_
    refine atCall rfl rfl (natural_Norm_PU A (by omega)) ?_
    refine go 800 rfl ?_
    refine finI rfl rfl rfl trivial ?_
    rw [Nat.div_eq_of_lt hlt, Nat.mod_eq_of_lt hlt, ea]; rfl
  rw [ltb_not] at h2
  have hle : val b ≤ val a := by
    unfold cmpS at h2
    split at h2
    · omega
    · omega
  have hlen := hlen hle
  refine go 800 rfl ?_
  rw [List.length_map]
  refine atCond rfl (fun h3 => ?_) (fun h3 => ?_)
  · rw [eqb_iff] at h3
    have hB1 : B.length = 1 := by omega
    have hd := dg_lt hBo 0
    have ev : val B = dg B 0 := by
      have := val_take B 0
      rw [List.take_of_length_le (by omega)] at this
      simpa [val] using this
    have hd0 : dg B 0 ≠ 0 := by rw [← ev, eb]; exact hvb
    have w0 : IntKind.u64.wrap ((val A % dg B 0 : Nat) : Int) = ((val A % dg B 0 : Nat) : Int) := wrapU64 (by have := Nat.mod_lt (val A) (show 0 < dg B 0 by omega); omega)
    refine go 800 rfl ?_
    refine atIdx 0 rfl rfl rfl (dg_enc (by omega)) rfl ?_
    refine go 800 rfl ?_
    refine atCall rfl rfl (short_PU A (dg B 0) (by omega) hd0 hd) ?_
    refine go 800 rfl ?_
    rw [w0]
    refine atCall rfl rfl (natural_Of_PU (val A % dg B 0) (by have := Nat.mod_lt (val A) (show 0 < dg B 0 by omega); omega)) ?_
    refine go 800 rfl ?_
    refine finI rfl rfl rfl trivial ?_
    rw [← eb, ← ea, ev]
    rfl
  rw [eqb_not] at h3
  have hn2 : 2 ≤ B.length := by omega
  generalize hn : B.length = n at *
  have wn1 : IntKind.i64.wrap ((n : Int) - 1) = ((n - 1 : Nat) : Int) := by rw [wrap64 (by omega) (by omega)]; omega
  obtain ⟨s, hs1, hs2, hs3, hs4⟩ := LeadingZeros32_PU (dg B (n - 1)) (dg_lt hBo _) (hbtop hvb)
  refine go 800 rfl ?_
  rw [List.length_map, hn]
  refine atIdx (n - 1) rfl rfl wn1 (dg_enc (by omega)) rfl ?_
  refine go 800 rfl ?_
  refine atCall rfl rfl hs1 ?_
  refine go 800 rfl ?_
  refine atShr' rfl rfl ?_
  refine left1 A s (by omega) hs2 trivial fun r h' z' hr hro hrv hh' hz' _ => ?_
  refine go 800 rfl ?_
  refine atShr' rfl rfl ?_
  refine left2 B s (by omega) hs2 r ⟨hh', hz'⟩ fun v h'' z'' hv hvo hvv hh'' hz'' hold => ?_
  obtain ⟨h0, rfl⟩ : ∃ h0 : Heap, h'' = upd (upd h0 80 (some (.row (r.map u32) 1))) 131 (some (.row (v.map u32) 1)) := ⟨h'', by rw [upd_id (f := h'') hold.1, upd_id (f := h'') hh'']⟩
  obtain ⟨z0, rfl⟩ : ∃ z0 : Frz, z'' = upd (upd z0 80 0) 131 0 := ⟨z'', by rw [upd_id (f := z'') hold.2, upd_id (f := z'') hz'']⟩
  rw [hn] at hv
  refine go 800 rfl ?_
  refine atSlR0 n rfl rfl rfl ⟨_, _, rfl, rfl⟩ (by omega) ?_
  refine go 800 rfl ?_
  have wm : IntKind.i64.wrap (((A.length + 1 : Nat) : Int) - (n : Int)) = ((A.length + 1 - n : Nat) : Int) := by rw [wrap64 (by omega) (by omega)]; omega
  rw [wm]
  refine atMake (A.length + 1 - n) rfl rfl rfl (by simp [limit]; omega) ?_
  rw [zeros32]
  refine go 800 rfl ?_
  have wm1 : IntKind.i64.wrap (((A.length + 1 - n : Nat) : Int) - 1) = ((A.length + 1 - n : Nat) : Int) - 1 := wrap64 (by omega) (by omega)
  generalize hm : A.length + 1 - n = m at *
  have hAl : A.length + 1 = m + n := by omega
  rw [hAl] at hr
  have hvV : val (v.take n) = val b * 2 ^ s := by
    have h5 : val v < 4294967296 ^ n := by
      rw [hvv]
      have e1 := val_take B (n - 1)
      rw [Nat.sub_add_cancel (by omega), List.take_of_length_le (by omega)] at e1
      have e2 := val_take_lt hBo (n - 1)
      have e3 : val B < 4294967296 ^ (n - 1) * (dg B (n - 1) + 1) := by rw [e1, Nat.mul_add]; omega
      have e4 : 4294967296 ^ n = 4294967296 ^ (n - 1) * 4294967296 := by rw [← Nat.pow_succ]; congr 1; omega
      calc val B * 2 ^ s < 4294967296 ^ (n - 1) * (dg B (n - 1) + 1) * 2 ^ s := Nat.mul_lt_mul_of_pos_right e3 (Nat.two_pow_pos s)
        _ = 4294967296 ^ (n - 1) * ((dg B (n - 1) + 1) * 2 ^ s) := Nat.mul_assoc _ _ _
        _ ≤ 4294967296 ^ (n - 1) * 4294967296 := Nat.mul_le_mul_left _ hs4
        _ = 4294967296 ^ n := e4.symm
    rw [(val_zero_high h5).2, hvv, eb]
  have hvtop : 2147483648 ≤ dg v (n - 1) := by
    rw [dg_val hvo, hvv]
    have e1 := val_take B (n - 1)
    rw [Nat.sub_add_cancel (by omega), List.take_of_length_le (by omega)] at e1
    have e2 : dg B (n - 1) * 2 ^ s ≤ val B * 2 ^ s / 4294967296 ^ (n - 1) := by
      rw [Nat.le_div_iff_mul_le (Nat.pow_pos (by decide)), e1, Nat.mul_right_comm]
      refine Nat.mul_le_mul_right _ ?_
      rw [Nat.mul_comm]; omega
    have e3 : val B * 2 ^ s / 4294967296 ^ (n - 1) < 4294967296 := by
      rw [Nat.div_lt_iff_lt_mul (Nat.pow_pos (by decide)), Nat.mul_comm 4294967296, ← Nat.pow_succ, show (n - 1).succ = n by omega, eb, ← hvV]
      exact val_take_lt hvo n
    rw [Nat.mod_eq_of_lt e3]
    omega
  have hstart : Dv r v r (List.replicate m 0) n m m := by
    refine ⟨Nat.le_refl _, hr, hro, by simp, zeros_ok _, ?_, by simp [val]⟩
    have e1 := val_split r m
    have e2 : val r < 4294967296 ^ m * (4294967296 ^ (n - 1) * 2 ^ s) := by
      rw [hrv, ← Nat.mul_assoc, ← Nat.pow_add, show m + (n - 1) = A.length by omega]
      exact Nat.mul_lt_mul_of_pos_right (val_lt hAo) (Nat.two_pow_pos s)
    have e3 : val (r.drop m) < 4294967296 ^ (n - 1) * 2 ^ s := by
      refine Nat.lt_of_mul_lt_mul_left (a := 4294967296 ^ m) ?_
      omega
    have e4 : 4294967296 ^ (n - 1) * dg v (n - 1) ≤ val (v.take n) := by
      have := val_take v (n - 1)
      rw [Nat.sub_add_cancel (by omega)] at this
      omega
    have e5 : 2 ^ s ≤ 2147483648 := by simpa using Nat.pow_le_pow_right (n := 2) (by decide) hs2
    have e6 : 4294967296 ^ (n - 1) * 2 ^ s ≤ 4294967296 ^ (n - 1) * dg v (n - 1) := Nat.mul_le_mul_left _ (by omega)
    omega
  refine atLoop (S := fun x : Nat × List Nat × List Nat => ([encInt n, encInt s, .ref 2 0 (m + n), .ref 3 0 n, .ref 4 0 m, encInt ((x.1 : Int) - 1)], [none, none, some (.row (x.2.1.map u32) 1), some (.row (v.map u32) 1), some (.row (x.2.2.map u32) 1), none], [0, 0, 0, 0, 0, 0]))
    (C := fun x => Dv r v x.2.1 x.2.2 n m x.1) (m := fun x => x.1) (m, r, List.replicate m 0) hstart (by simp only; omega) ?_ ?_
  · exact settleI rfl ⟨all_plain u32_plain _, all_plain u32_plain _, all_plain u32_plain _, trivial⟩ (by simp [encInt, wm1, hAl])
  rintro ⟨j, U, Q⟩ hD N hN
  simp only at hD
  have hul := hD.ul
  have hql := hD.ql
  have hjm := hD.jm
  refine go 800 rfl ?_
  refine atCond rfl (fun g1 => ?_) (fun g1 => ?_)
  · rw [leb_iff] at g1
    simp only at g1
    obtain ⟨i, rfl⟩ : ∃ i, j = i + 1 := ⟨j - 1, by omega⟩
    obtain ⟨T, hT⟩ := hD.trial hn2 hvo (by omega) hvtop
    obtain ⟨w1, w2, w3⟩ := windowN (U := U) (i := i) (n := n) (by omega)
    have ei : ((i + 1 : Nat) : Int) - 1 = (i : Int) := by omega
    have wi : IntKind.i64.wrap (IntKind.i64.wrap ((i : Int) + (n : Int)) + 1) = ((i + n + 1 : Nat) : Int) := by rw [wrap64 (x := (i : Int) + n) (by omega) (by omega), wrap64 (by omega) (by omega)]; omega
    refine go 800 rfl ?_
    rw [ei]
    refine atSlR i (i + n + 1) rfl rfl rfl ⟨_, _, rfl, rfl⟩ ⟨_, _, rfl, wi⟩ (by omega) ?_
    have esl : (if i = 0 then D.ref 2 0 (i + n + 1) else if i = i + n + 1 then D.lst [] else D.ref 2 (0 + i) (i + n + 1 - i)) = D.ref 2 (U.take i).length (n + 1) := by
      rw [w2]
      by_cases hi0 : i = 0
      · subst hi0; simp
      · rw [if_neg hi0, if_neg (by omega)]; congr 1 <;> omega
    rw [esl]
    refine go 800 rfl ?_
    refine atShr' rfl rfl ?_
    refine digit_wp (U.take i) ((U.drop i).take (n + 1)) (U.drop (i + n + 1)) v Q n T (by omega) (Old.of (by rw [← w1]; rfl) rfl rfl rfl rfl rfl) fun w' h' z' nx' hnx hl' ho' hv' hold => ?_
    obtain ⟨⟨h1, rfl⟩, z1, rfl⟩ := hold
    have hD' := hD.next T hT hl' ho' hv'
    generalize U.take i ++ w' ++ U.drop (i + n + 1) = U' at *
    have hq := T.qlt
    generalize val ((U.drop i).take (n + 1)) / val (v.take n) = qd at *
    have wj : IntKind.i64.wrap ((i : Int) - 1) = (i : Int) - 1 := wrap64 (by omega) (by omega)
    rcases hnx with rfl | rfl
    · refine go 800 rfl ?_
      refine atIdxR i rfl rfl rfl rfl rfl (by omega) ?_
      refine go 800 rfl ?_
      refine atStore32 Q i qd rfl rfl (Nat.zero_add _) rfl rfl (Nat.zero_le _) (by omega) ?_
      refine go 800 rfl ?_
      refine atEnd ?_
      exact hN (i, U', Q.set i qd) hD' (by simp only; omega) (settleI rfl ⟨all_plain u32_plain _, all_plain u32_plain _, all_plain u32_plain _, trivial⟩ (by simp [encInt, wj]))
    · refine go 800 rfl ?_
      refine atIdxR i rfl rfl rfl rfl rfl (by omega) ?_
      refine go 800 rfl ?_
      refine atStore32 Q i qd rfl rfl (Nat.zero_add _) rfl rfl (Nat.zero_le _) (by omega) ?_
      refine go 800 rfl ?_
      refine atEnd ?_
      exact hN (i, U', Q.set i qd) hD' (by simp only; omega) (settleI rfl ⟨all_plain u32_plain _, all_plain u32_plain _, all_plain u32_plain _, trivial⟩ (by simp [encInt, wj]))
  · rw [leb_not] at g1
    simp only at g1
    obtain rfl : j = 0 := by omega
    have heq := hD.eq
    have hlt := hD.lt
    simp only [Nat.pow_zero, Nat.one_mul, List.drop_zero] at heq hlt
    have hU : val U < 4294967296 ^ n := Nat.lt_trans hlt (val_take_lt hvo n)
    have hUt := (val_zero_high hU).2
    have hpos : 0 < val (v.take n) := by omega
    have hQ : val Q = val a / val b := by
      have : val Q = val r / val (v.take n) := by rw [heq, Nat.add_mul_div_left _ _ hpos, Nat.div_eq_of_lt hlt, Nat.zero_add]
      rw [this, hrv, hvV, ea, Nat.mul_div_mul_right _ _ (Nat.two_pow_pos s)]
    have hR : val (U.take n) / 2 ^ s = val a % val b := by
      have : val U = val r % val (v.take n) := by rw [heq, Nat.add_mul_mod_self_left, Nat.mod_eq_of_lt hlt]
      rw [hUt, this, hrv, hvV, ea, Nat.mul_mod_mul_right, Nat.mul_div_cancel _ (Nat.two_pow_pos s)]
    have hQo := hD.qo
    have hUo : LOk (U.take n) := hD.uo.take n
    have hp := trim_PU Q (by omega)
    rw [hQ] at hp
    have hp2 := natural_right_PU (U.take n) s (by simp; omega) hs2
    rw [hR] at hp2
    have hrow : D.lst ((U.map u32).take n) = nat (U.take n) := by rw [nat, List.map_take]
    refine go 800 rfl ?_
    refine atEnd ?_
    refine go 800 rfl ?_
    refine atCallR rfl rfl ⟨datNat (l := Q) hql.symm, trivial⟩ (by rw [rowNat (l := Q) hql.symm]; exact hp) fun z => ?_
    refine go 800 rfl ?_
    refine atSlR0 n rfl rfl rfl ⟨_, _, rfl, rfl⟩ (by omega) ?_
    refine go 800 rfl ?_
    refine atCallR rfl rfl ⟨⟨by simp; omega, ?_⟩, trivial⟩ (by rw [hrow]; exact hp2) fun z => ?_
    · rw [List.drop_zero, ← List.map_take]; exact all_dat u32_dat _
    refine go 800 rfl ?_
    exact finI rfl rfl rfl trivial rfl

/- the number of binary digits -/
def bl (n : Nat) : Nat := if n = 0 then 0 else n.log2 + 1

theorem bl_le {n k : Nat} (h : n < 4294967296 ^ k) : bl n ≤ 32 * k := by
  unfold bl
  split
  · omega
  · rename_i h0
    rw [show (4294967296 : Nat) = 2 ^ 32 by decide, ← Nat.pow_mul] at h
    exact (Nat.log2_lt h0).2 h

theorem bl_mod {x y : Nat} (hy : y ≠ 0) (h : y ≤ x) : bl (x % y) < bl x := by
  have hx : x ≠ 0 := by omega
  unfold bl
  rw [if_neg hx]
  split
  · omega
  · rename_i h0
    have h2 : 2 * (x % y) ≤ x := by
      have hm := Nat.mod_lt x (show 0 < y by omega)
      have hd := Nat.div_add_mod x y
      have hq : 1 ≤ x / y := (Nat.le_div_iff_mul_le (by omega)).2 (by omega)
      have : y * 1 ≤ y * (x / y) := Nat.mul_le_mul_left _ hq
      omega
    have h3 : (x % y).log2 + 1 ≤ x.log2 := by
      have := (Nat.le_log2 hx (k := (x % y).log2 + 1)).2 (by
        have := Nat.log2_self_le h0
        rw [Nat.pow_succ]; omega)
      exact this
    omega

theorem gcd_le_size {x y k : Nat} (hx : x < 4294967296 ^ k) (hy : y < 4294967296 ^ k) : Nat.gcd x y < 4294967296 ^ k := by
  by_cases h : x = 0
  · subst h; rw [Nat.gcd_zero_left]; exact hy
  · exact Nat.lt_of_le_of_lt (Nat.gcd_le_left _ (by omega)) hx

theorem Gcd_PU (a b : List Nat) [ha : LOk a] [hb : LOk b] (hla : a.length ≤ 900000000) (hlb : b.length ≤ 900000000) : PU f_natural_Gcd [nat a, nat b] = some (nat (limbs (Nat.gcd (val a) (val b)))) := by
  refine PU_of (fn := k_natural_Gcd) rfl (startI ?_)
  refine go 800 rfl ?_
  refine atCall rfl rfl (natural_Norm_PU a (by omega)) ?_
  refine go 800 rfl ?_
  refine atCall rfl rfl (natural_Norm_PU b (by omega)) ?_
  refine go 800 rfl ?_
  obtain ⟨K, hK⟩ : ∃ K : Nat, K = 900000000 := ⟨_, rfl⟩
  rw [← hK] at hla hlb
  have hA := Nat.lt_of_lt_of_le (val_lt ha) (Nat.pow_le_pow_right (show 0 < 4294967296 by decide) hla)
  have hB := Nat.lt_of_lt_of_le (val_lt hb) (Nat.pow_le_pow_right (show 0 < 4294967296 by decide) hlb)
  refine atLoop (S := fun x : Nat × Nat => ([nat (limbs x.1), nat (limbs x.2)], [none, none], [0, 0])) (C := fun x => x.1 < 4294967296 ^ K ∧ x.2 < 4294967296 ^ K ∧ Nat.gcd x.1 x.2 = Nat.gcd (val a) (val b)) (m := fun x => 2 * (bl x.1 + bl x.2) + if x.1 < x.2 then 1 else 0) (val a, val b) ⟨hA, hB, rfl⟩ ?_ ?_ ?_
  · simp only
    have h1 := bl_le hA
    have h2 := bl_le hB
    split <;> omega
  · exact settleI rfl trivial (by simp [nat])
  rintro ⟨x, y⟩ ⟨hx, hy, hg⟩ N hN
  simp only at hx hy hg
  refine go 800 rfl ?_
  rw [List.length_map]
  refine atCond rfl (fun h1 => ?_) (fun h1 => ?_)
  · rw [ltb_iff] at h1
    have hy0 : y ≠ 0 := limbs_len_pos.1 (by simp only at h1; omega)
    have hp := DivMod_PU (limbs x) (limbs y) (hK ▸ limbs_len.2 hx) (hK ▸ limbs_len.2 hy)
    rw [val_limbs, val_limbs, if_neg hy0] at hp
    refine go 800 rfl ?_
    refine atCall rfl rfl hp ?_
    refine go 800 rfl ?_
    refine atEnd ?_
    refine hN (y, x % y) ⟨hy, Nat.lt_of_le_of_lt (Nat.mod_le _ _) hx, ?_⟩ ?_ (settleI rfl trivial (by simp [nat]))
    · simp only
      rw [← hg, Nat.gcd_comm x y, Nat.gcd_rec y x, Nat.gcd_comm]
    · simp only
      have hm := Nat.mod_lt x (show 0 < y by omega)
      by_cases hxy : x < y
      · rw [if_pos hxy, Nat.mod_eq_of_lt hxy, if_neg (by omega)]; omega
      · have := bl_mod hy0 (Nat.le_of_not_lt hxy)
        rw [if_neg hxy, if_neg (by omega)]; omega
  · rw [ltb_not] at h1
    have hy0 : y = 0 := by
      by_cases h : y = 0
      · exact h
      · have := limbs_len_pos.2 h; simp only at h1; omega
    refine go 800 rfl ?_
    refine atEnd ?_
    refine go 800 rfl ?_
    refine finI rfl rfl rfl trivial ?_
    rw [← hg, hy0, Nat.gcd_zero_right]; rfl
end Go.F

/- Integers. -/
namespace Go.F
attribute [local irreducible] IntKind.wrap wpM

/- a list of limbs, not too long -/
class Sz (l : List Nat) (k : outParam Nat) : Prop where
  ok : LOk l
  len : l.length ≤ k

instance {l : List Nat} {k : Nat} [h : Sz l k] : LOk l := h.ok

/- a number that is not too great -/
class NB (n : Nat) (k : outParam Nat) : Prop where
  lt : n < 4294967296 ^ k

instance szLimbs {n k : Nat} [h : NB n k] : Sz (limbs n) k := ⟨limbs_ok _, limbs_len.2 h.lt⟩
instance nbVal {l : List Nat} {k : Nat} [h : Sz l k] : NB (val l) k := ⟨Nat.lt_of_lt_of_le (val_lt h.ok) (Nat.pow_le_pow_right (by decide) h.len)⟩

theorem pow_mono {j k : Nat} (h : j ≤ k) : 4294967296 ^ j ≤ 4294967296 ^ k := Nat.pow_le_pow_right (by decide) h

theorem pow_pos' (k : Nat) : 0 < 4294967296 ^ k := Nat.pow_pos (by decide)

theorem nb_le {m n k : Nat} (h : m ≤ n) (hn : n < 4294967296 ^ k) : m < 4294967296 ^ k := Nat.lt_of_le_of_lt h hn

theorem nb_add {m n j k : Nat} (h1 : m < 4294967296 ^ j) (h2 : n < 4294967296 ^ k) : m + n < 4294967296 ^ (j + k + 1) := by
  have a := pow_mono (show j ≤ j + k by omega)
  have b := pow_mono (show k ≤ j + k by omega)
  rw [Nat.pow_succ]
  omega

theorem nb_mul {m n j k : Nat} (h1 : m < 4294967296 ^ j) (h2 : n < 4294967296 ^ k) : m * n < 4294967296 ^ (j + k) := by
  rw [Nat.pow_add]
  exact Nat.mul_lt_mul'' h1 h2

structure RI where
  neg : Bool
  mag : List Nat

def RI.enc (a : RI) : D := .agg [.bool a.neg, nat a.mag]
def RI.v (a : RI) : Int := if a.neg then -(val a.mag : Int) else val a.mag
def RI.of (z : Int) : RI := ⟨decide (z < 0), limbs z.natAbs⟩
def encI (z : Int) : D := (RI.of z).enc

theorem RI.of_v (z : Int) : (RI.of z).v = z := by
  unfold RI.of RI.v
  simp only [val_limbs]
  by_cases h : z < 0
  · rw [decide_eq_true h]; simp; omega
  · rw [decide_eq_false h]; simp; omega

theorem RI.of_neg (z : Int) : (RI.of z).neg = decide (z < 0) := rfl

theorem RI.v_abs (a : RI) : a.v.natAbs = val a.mag := by
  unfold RI.v; split <;> omega

theorem encI_eq (z : Int) {neg : Bool} {n : Nat} (h1 : neg = decide (z < 0)) (h2 : n = z.natAbs) : D.agg [.bool neg, nat (limbs n)] = encI z := by
  subst h1; subst h2; rfl

theorem signed_PU (neg : Bool) (l : List Nat) {k : Nat} [h : Sz l k] (hk : k ≤ 500000000) : PU f_integer_signed [.bool neg, nat l] = some (encI (RI.v ⟨neg, l⟩)) := by
  have hl := h.len
  have e : ∀ n : Nat, n = (limbs (val l)).length → ltb 0 (n : Int) = decide (val l ≠ 0) := by
    rintro n rfl
    rw [ltb_eq, decide_eq_decide]
    have := @limbs_len_pos (val l)
    omega
  refine PU_of (fn := k_integer_signed) rfl (startI ?_)
  refine go 800 rfl ?_
  refine atCall rfl rfl (natural_Norm_PU l (by omega)) ?_
  refine go 800 rfl ?_
  refine atGuard rfl (fun h1 => ?_) (fun h1 => ?_)
  · refine go 800 rfl ?_
    refine finI rfl rfl rfl trivial ?_
    subst h1
    refine encI_eq _ ?_ ?_
    · rw [List.length_map, e _ rfl]
      simp only [RI.v]
      rw [decide_eq_decide]; simp; omega
    · simp [RI.v]
  · refine go 800 rfl ?_
    refine finI rfl rfl rfl trivial ?_
    subst h1
    refine encI_eq _ ?_ ?_
    · simp only [RI.v]
      rw [eq_comm, decide_eq_false_iff_not, if_neg (by decide)]; omega
    · simp [RI.v]

theorem integer_Of_PU (n : Int) (h1 : -9223372036854775808 ≤ n) (h2 : n ≤ 9223372036854775807) : PU f_integer_Of [.int .i64 n] = some (encI n) := by
  have nb : NB n.natAbs 2 := ⟨by show n.natAbs < 18446744073709551616; omega⟩
  refine PU_of (fn := k_integer_Of) rfl (startI ?_)
  refine go 800 rfl ?_
  refine atCond rfl (fun g1 => ?_) (fun g1 => ?_)
  · rw [ltb_iff] at g1
    have e : IntKind.u64.wrap (0 - IntKind.u64.wrap n) = ((n.natAbs : Nat) : Int) := by simp only [wrapU64i]; omega
    refine go 800 rfl ?_
    rw [e]
    refine atCall rfl rfl (natural_Of_PU n.natAbs (by omega)) ?_
    refine go 800 rfl ?_
    refine atCall rfl rfl (signed_PU true (limbs n.natAbs) (by decide)) ?_
    refine go 800 rfl ?_
    refine finI rfl rfl rfl trivial ?_
    have : RI.v ⟨true, limbs n.natAbs⟩ = n := by rw [RI.v, if_pos rfl, val_limbs]; omega
    rw [this]; rfl
  · rw [ltb_not] at g1
    have e : IntKind.u64.wrap n = ((n.natAbs : Nat) : Int) := by simp only [wrapU64i]; omega
    refine go 800 rfl ?_
    rw [e]
    refine atCall rfl rfl (natural_Of_PU n.natAbs (by omega)) ?_
    refine go 800 rfl ?_
    refine atCall rfl rfl (signed_PU false (limbs n.natAbs) (by decide)) ?_
    refine go 800 rfl ?_
    refine finI rfl rfl rfl trivial ?_
    have : RI.v ⟨false, limbs n.natAbs⟩ = n := by rw [RI.v, if_neg (by simp), val_limbs]; omega
    rw [this]; rfl

theorem integer_Norm_PU (a : RI) {k : Nat} [h : Sz a.mag k] (hk : k ≤ 500000000) : PU f_integer_Norm [a.enc] = some (encI a.v) := by
  refine PU_of (fn := k_integer_Norm) rfl (startI ?_)
  refine go 800 rfl ?_
  refine atCall rfl rfl (signed_PU a.neg a.mag hk) ?_
  refine go 800 rfl ?_
  exact finI rfl rfl rfl trivial rfl

theorem integer_Neg_PU (a : RI) {k : Nat} [h : Sz a.mag k] (hk : k ≤ 500000000) : PU f_integer_Neg [a.enc] = some (encI (-a.v)) := by
  refine PU_of (fn := k_integer_Neg) rfl (startI ?_)
  refine go 800 rfl ?_
  refine atCall rfl rfl (signed_PU (!a.neg) a.mag hk) ?_
  refine go 800 rfl ?_
  refine finI rfl rfl rfl trivial ?_
  have : RI.v ⟨!a.neg, a.mag⟩ = -a.v := by unfold RI.v; cases a.neg <;> simp
  rw [this]; rfl

theorem cmpS_neg (a b : Int) : cmpS (-a) (-b) = cmpS b a := by
  unfold cmpS
  by_cases h : b < a
  · rw [if_pos (by omega), if_pos h]
  · by_cases h2 : a < b
    · rw [if_neg (by omega), if_pos (by omega), if_neg h, if_pos h2]
    · rw [if_neg (by omega), if_neg (by omega), if_neg h, if_neg h2]

theorem integer_Cmp_PU (a b : RI) {j k : Nat} [ha : Sz a.mag j] [hb : Sz b.mag k] (hj : j ≤ 500000000) (hk : k ≤ 500000000) : PU f_integer_Cmp [a.enc, b.enc] = some (.int .i64 (cmpS a.v b.v)) := by
  have la : (limbs a.v.natAbs).length ≤ 500000000 := by rw [RI.v_abs]; exact Nat.le_trans (limbs_len_of ha.ok) (Nat.le_trans ha.len hj)
  have lb : (limbs b.v.natAbs).length ≤ 500000000 := by rw [RI.v_abs]; exact Nat.le_trans (limbs_len_of hb.ok) (Nat.le_trans hb.len hk)
  have c1 := Cmp_PU (limbs a.v.natAbs) (limbs b.v.natAbs) (by omega) (by omega)
  have c2 := Cmp_PU (limbs b.v.natAbs) (limbs a.v.natAbs) (by omega) (by omega)
  rw [val_limbs, val_limbs] at c1 c2
  refine PU_of (fn := k_integer_Cmp) rfl (startI ?_)
  refine go 800 rfl ?_
  refine atCall rfl rfl (integer_Norm_PU a hj) ?_
  refine go 800 rfl ?_
  refine atCall rfl rfl (integer_Norm_PU b hk) ?_
  repeat' (first
    | (refine goP 800 rfl rfl ?_)
    | (show wpM _ _ _ (Fr.ops _ _ (KOper.mk _ _ (some _) _ _ :: _) :: _) Ex.normal _ _ _ _ _; first | refine atGuardT rfl ?_ | refine atGuardF rfl ?_ | refine atGuard rfl (fun _ => ?_) (fun _ => ?_))
    | (show wpM _ _ _ (Fr.code (K.cond _ _ _) :: _) Ex.normal _ _ _ _ _; first | refine atCondT rfl ?_ | refine atCondF rfl ?_ | refine atCond rfl (fun _ => ?_) (fun _ => ?_))
    | (show wpM _ _ _ (Fr.ops _ _ (KOper.mk _ _ none _ (KOp.pick _ _ _) :: _) :: _) Ex.normal _ _ _ _ _; refine atPick rfl (fun _ => ?_) (fun _ => ?_))
    | (show wpM _ _ _ [] _ _ _ _ _ _; refine finI rfl rfl rfl trivial ?_)
    | (show wpM _ _ _ (Fr.ops _ _ (KOper.mk _ _ none _ (KOp.callF f_natural_Cmp _) :: _) :: _) Ex.normal _ _ _ _ _; refine atCall rfl rfl (c1) ?_)
    | (show wpM _ _ _ (Fr.ops _ _ (KOper.mk _ _ none _ (KOp.callF f_natural_Cmp _) :: _) :: _) Ex.normal _ _ _ _ _; refine atCall rfl rfl (c2) ?_))
  all_goals simp only [RI.of_neg, decide_eq_true_eq, decide_eq_false_iff_not, Bool.not_eq_true', Bool.not_eq_false', decide_eq_true_eq, decide_eq_false_iff_not] at *
  all_goals congr 1
  all_goals unfold cmpS
  all_goals grind

theorem integer_Add_PU (a b : RI) {j k : Nat} [ha : Sz a.mag j] [hb : Sz b.mag k] (hj : j ≤ 100000000) (hk : k ≤ 100000000) : PU f_integer_Add [a.enc, b.enc] = some (encI (a.v + b.v)) := by
  have la := ha.len
  have lb := hb.len
  have nba : NB (val a.mag) j := inferInstance
  have nbb : NB (val b.mag) k := inferInstance
  have sAdd : Sz (limbs (val a.mag + val b.mag)) (j + k + 1) := ⟨limbs_ok _, limbs_len.2 (nb_add nba.lt nbb.lt)⟩
  have sSub : Sz (limbs (val a.mag - val b.mag)) j := ⟨limbs_ok _, limbs_len.2 (nb_le (Nat.sub_le _ _) nba.lt)⟩
  have sSub' : Sz (limbs (val b.mag - val a.mag)) k := ⟨limbs_ok _, limbs_len.2 (nb_le (Nat.sub_le _ _) nbb.lt)⟩
  have s1 := Sub_PU a.mag b.mag (by omega) (by omega)
  have s2 := Sub_PU b.mag a.mag (by omega) (by omega)
  refine PU_of (fn := k_integer_Add) rfl (startI ?_)
  refine go 800 rfl ?_
  refine atCond rfl (fun g1 => ?_) (fun g1 => ?_)
  · refine go 800 rfl ?_
    refine atCall rfl rfl (Add_PU a.mag b.mag (by omega) (by omega)) ?_
    refine go 800 rfl ?_
    refine atCall rfl rfl (signed_PU a.neg _ (by omega)) ?_
    refine go 800 rfl ?_
    refine finI rfl rfl rfl trivial ?_
    have g : a.neg = b.neg := by simpa using g1
    have : RI.v ⟨a.neg, limbs (val a.mag + val b.mag)⟩ = a.v + b.v := by
      unfold RI.v; simp only [val_limbs, ← g]; split <;> omega
    rw [this]; rfl
  have g : b.neg = !a.neg := by revert g1; cases a.neg <;> cases b.neg <;> simp
  refine go 800 rfl ?_
  by_cases hlt : val a.mag < val b.mag
  · rw [if_pos hlt] at s1
    rw [if_neg (by omega)] at s2
    refine atCall rfl rfl s1 ?_
    refine go 800 rfl ?_
    refine atCondF rfl ?_
    refine go 800 rfl ?_
    refine atCall rfl rfl s2 ?_
    refine go 800 rfl ?_
    refine atCall rfl rfl (signed_PU b.neg _ (by omega)) ?_
    refine go 800 rfl ?_
    refine finI rfl rfl rfl trivial ?_
    have : RI.v ⟨b.neg, limbs (val b.mag - val a.mag)⟩ = a.v + b.v := by
      unfold RI.v; simp only [val_limbs, g]; cases a.neg <;> simp <;> omega
    rw [this]; rfl
  · rw [if_neg hlt] at s1
    refine atCall rfl rfl s1 ?_
    refine go 800 rfl ?_
    refine atCondT rfl ?_
    refine go 800 rfl ?_
    refine atCall rfl rfl (signed_PU a.neg _ (by omega)) ?_
    refine go 800 rfl ?_
    refine finI rfl rfl rfl trivial ?_
    have : RI.v ⟨a.neg, limbs (val a.mag - val b.mag)⟩ = a.v + b.v := by
      unfold RI.v; simp only [val_limbs, g]; cases a.neg <;> simp <;> omega
    rw [this]; rfl

instance szOf {z : Int} {k : Nat} [h : NB z.natAbs k] : Sz (RI.of z).mag k := ⟨limbs_ok _, limbs_len.2 h.lt⟩

theorem integer_Mul_PU (a b : RI) {j k : Nat} [ha : Sz a.mag j] [hb : Sz b.mag k] (hj : j ≤ 100000000) (hk : k ≤ 100000000) : PU f_integer_Mul [a.enc, b.enc] = some (encI (a.v * b.v)) := by
  have la := ha.len
  have lb := hb.len
  have nba : NB (val a.mag) j := inferInstance
  have nbb : NB (val b.mag) k := inferInstance
  have sM : Sz (limbs (val a.mag * val b.mag)) (j + k) := ⟨limbs_ok _, limbs_len.2 (nb_mul nba.lt nbb.lt)⟩
  refine PU_of (fn := k_integer_Mul) rfl (startI ?_)
  refine go 800 rfl ?_
  refine atCall rfl rfl (Mul_PU a.mag b.mag (by omega) (by omega)) ?_
  refine go 800 rfl ?_
  refine atCall rfl rfl (signed_PU _ _ (by omega)) ?_
  refine go 800 rfl ?_
  refine finI rfl rfl rfl trivial ?_
  have : RI.v ⟨!(a.neg == b.neg), limbs (val a.mag * val b.mag)⟩ = a.v * b.v := by
    unfold RI.v; simp only [val_limbs]; cases a.neg <;> cases b.neg <;> simp [Int.mul_neg, Int.neg_mul]
  rw [this]; rfl

theorem orU64g {a b m : Nat} (hm : m ≤ 64) (ha : a < 2 ^ m) (hb : b * 2 ^ m < 18446744073709551616) : IntKind.u64.wrap ((BitVec.ofInt IntKind.u64.bits (a : Int) ||| BitVec.ofInt IntKind.u64.bits ((b * 2 ^ m : Nat) : Int)).toNat : Int) = ((a + b * 2 ^ m : Nat) : Int) := by
  have hp : 2 ^ m ≤ 18446744073709551616 := by simpa using Nat.pow_le_pow_right (n := 2) (by decide) hm
  rw [BitVec.or_comm, ofInt_nat, ofInt_nat, BitVec.toNat_or, BitVec.toNat_ofNat, BitVec.toNat_ofNat]
  have e : IntKind.u64.bits = 64 := rfl
  rw [e, Nat.mod_eq_of_lt (show b * 2 ^ m < 2 ^ 64 by omega), Nat.mod_eq_of_lt (show a < 2 ^ 64 by omega), Nat.mul_comm b, ← Nat.two_pow_add_eq_or_of_lt ha]
  have : 2 ^ m * b + a < 18446744073709551616 := by
    have h1 : 2 ^ m * b < 2 ^ m * 2 ^ (64 - m) := by rw [← Nat.pow_add, show m + (64 - m) = 64 by omega, Nat.mul_comm]; omega
    have h2 : b + 1 ≤ 2 ^ (64 - m) := Nat.lt_of_mul_lt_mul_left h1
    have h3 := Nat.mul_le_mul_left (2 ^ m) h2
    rw [← Nat.pow_add, show m + (64 - m) = 64 by omega, Nat.mul_add] at h3
    omega
  rw [wrapU64 this, Nat.add_comm]

def smallS (z : Int) : D := if -9223372036854775808 ≤ z ∧ z ≤ 9223372036854775807 then .tup [.int .i64 z, .bool true] else .tup [.int .i64 0, .bool false]

set_option maxHeartbeats 1000000 in
theorem Small_PU (a : RI) {k : Nat} [ha : Sz a.mag k] (hk : k ≤ 500000000) : PU f_integer_Small [a.enc] = some (smallS a.v) := by
  refine PU_of (fn := k_integer_Small) rfl (startI ?_)
  refine go 800 rfl ?_
  refine atCall rfl rfl (integer_Norm_PU a hk) ?_
  refine go 800 rfl ?_
  have hMo : LOk (limbs a.v.natAbs) := limbs_ok _
  have hMv : val (limbs a.v.natAbs) = a.v.natAbs := val_limbs _
  have hlen : (limbs a.v.natAbs).length ≤ 2 ↔ a.v.natAbs < 18446744073709551616 := by rw [limbs_len]
  have hneg : (RI.of a.v).neg = decide (a.v < 0) := rfl
  have hmag : (RI.of a.v).mag = limbs a.v.natAbs := rfl
  rw [hmag] at *
  generalize limbs a.v.natAbs = M at *
  rw [List.length_map]
  refine atCond rfl (fun h1 => ?_) (fun h1 => ?_)
  · rw [ltb_iff] at h1
    refine go 800 rfl ?_
    refine finI rfl rfl rfl trivial ?_
    rw [smallS, if_neg (by omega)]
  rw [ltb_not] at h1
  have h2 := hlen.1 (by omega)
  refine go 800 rfl ?_
  refine atLoop (S := fun x : Nat => ([.ptr 0 0 0, .int .u64 (val (M.take x)), nat M, encInt M.length, encInt x], [some (.row [.agg [.bool (decide (a.v < 0)), nat M]] 2), none, none, none, none], [0, 0, 0, 0, 0])) (C := fun x => x ≤ M.length) (m := fun x => M.length - x) 0 (Nat.zero_le _) (by omega) ?_ ?_
  · exact settleI rfl ⟨rfl, trivial⟩ (by simp [nat, encInt, val, hneg])
  intro i hi N hN
  refine go 800 rfl ?_
  refine atCond rfl (fun g1 => ?_) (fun g1 => ?_)
  · rw [ltb_iff] at g1
    have hlt : i < M.length := by omega
    have hx := dg_lt hMo i
    have wi : IntKind.i64.wrap ((i : Int) + 1) = ((i + 1 : Nat) : Int) := wrap64 (by omega) (by omega)
    have w3 : IntKind.i64.wrap (32 * (i : Int)) = ((32 * i : Nat) : Int) := by rw [wrap64 (by omega) (by omega)]; omega
    have wx : IntKind.u64.wrap (dg M i : Int) = (dg M i : Int) := wrapU64 (by omega)
    have hb : dg M i * 2 ^ (32 * i) < 18446744073709551616 := by
      have : i = 0 ∨ i = 1 := by omega
      rcases this with rfl | rfl <;> simp <;> omega
    have hv := val_take_lt hMo i
    have ho := orU64g (a := val (M.take i)) (b := dg M i) (m := 32 * i) (by omega) (by rw [Nat.pow_mul]; exact hv) hb
    refine go 800 rfl ?_
    refine atIdx i rfl rfl rfl (dg_enc hlt) rfl ?_
    refine go 800 rfl ?_
    refine atShlN (dg M i) (32 * i) rfl rfl wx w3 (by show 32 * i ≤ 64; omega) (wrapU64 hb) ?_
    refine go 800 rfl ?_
    rw [ho]
    refine atEnd ?_
    refine hN (i + 1) hlt (by omega) (settleI rfl ⟨rfl, trivial⟩ ?_)
    have e : val (M.take (i + 1)) = val (M.take i) + dg M i * 2 ^ (32 * i) := by rw [val_take, Nat.pow_mul, Nat.mul_comm]
    simp [nat, encInt, wi, e]
  rw [ltb_not] at g1
  obtain rfl : i = M.length := by omega
  have e1 : IntKind.i64.wrap (IntKind.u64.wrap (0 - (a.v.natAbs : Int))) = -(a.v.natAbs : Int) ∨ 9223372036854775808 < a.v.natAbs := by
    by_cases h : a.v.natAbs ≤ 9223372036854775808
    · left
      rw [wrapU64i]
      simp [IntKind.wrap, IntKind.bits, IntKind.signed]
      omega
    · right; omega
  have e2 : IntKind.i64.wrap (a.v.natAbs : Int) = (a.v.natAbs : Int) ∨ 9223372036854775808 ≤ a.v.natAbs := by
    by_cases h : a.v.natAbs < 9223372036854775808
    · left; exact wrap64 (by omega) (by omega)
    · right; omega
  rw [List.take_length, hMv] at *
  clear hN
  refine go 800 rfl ?_
  refine atEnd ?_
  repeat' (first
    | (refine goP 800 rfl rfl ?_)
    | (show wpM _ _ _ (Fr.ops _ _ (KOper.mk _ _ (some _) _ _ :: _) :: _) Ex.normal _ _ _ _ _; first | refine atGuardT rfl ?_ | refine atGuardF rfl ?_ | refine atGuard rfl (fun _ => ?_) (fun _ => ?_))
    | (show wpM _ _ _ (Fr.code (K.cond _ _ _) :: _) Ex.normal _ _ _ _ _; first | refine atCondT rfl ?_ | refine atCondF rfl ?_ | refine atCond rfl (fun _ => ?_) (fun _ => ?_))
    | (show wpM _ _ _ (Fr.ops _ _ (KOper.mk _ _ none _ (KOp.pick _ _ _) :: _) :: _) Ex.normal _ _ _ _ _; refine atPick rfl (fun _ => ?_) (fun _ => ?_))
    | (show wpM _ _ _ [] _ _ _ _ _ _; refine finI rfl rfl rfl trivial ?_))
  all_goals simp only [ltb_eq, leb_eq, decide_eq_true_eq, decide_eq_false_iff_not, Bool.not_eq_true', Bool.not_eq_false'] at *
  all_goals unfold smallS
  all_goals (rcases e1 with e1 | e1 <;> rcases e2 with e2 | e2 <;> (try rw [e1]) <;> (try rw [e2]) <;> split <;> first | (exfalso; omega) | rfl | (simp; omega) | trace_state)
end Go.F

/- Ratios: plain facts. -/
namespace Go.F

structure RR where
  neg : Bool
  mag : List Nat
  den : List Nat

def RR.num (a : RR) : RI := ⟨a.neg, a.mag⟩
def RR.enc (a : RR) : D := .agg [.bool a.neg, nat a.mag, nat a.den]
def RR.v (a : RR) : Rat := mkRat a.num.v (val a.den)
def RR.of (q : Rat) : RR := ⟨decide (q.num < 0), limbs q.num.natAbs, limbs q.den⟩
def encQ (q : Rat) : D := (RR.of q).enc

theorem RR.of_v (q : Rat) : (RR.of q).v = q := by
  show mkRat (RI.of q.num).v (val (limbs q.den)) = q
  rw [RI.of_v, val_limbs, Rat.mkRat_self]

theorem RR.of_num (q : Rat) : (RR.of q).num = RI.of q.num := rfl
theorem RR.of_den (q : Rat) : val (RR.of q).den = q.den := val_limbs _

class SzR (a : RR) (k : outParam Nat) : Prop where
  mag : Sz a.mag k
  den : Sz a.den k

instance szRm {a : RR} {k : Nat} [h : SzR a k] : Sz a.mag k := h.mag
instance szRd {a : RR} {k : Nat} [h : SzR a k] : Sz a.den k := h.den
instance szRn {a : RR} {k : Nat} [h : SzR a k] : Sz a.num.mag k := h.mag

class QB (q : Rat) (k : outParam Nat) : Prop where
  num : q.num.natAbs < 4294967296 ^ k
  den : q.den < 4294967296 ^ k

instance szROf {q : Rat} {k : Nat} [h : QB q k] : SzR (RR.of q) k := ⟨⟨limbs_ok _, limbs_len.2 h.num⟩, ⟨limbs_ok _, limbs_len.2 h.den⟩⟩

theorem num_abs_div {n : Int} {g : Nat} (hg : g ∣ n.natAbs) : (n / (g : Int)).natAbs = n.natAbs / g := by
  have : (g : Int) ∣ n := Int.dvd_natAbs.1 (Int.natCast_dvd_natCast.2 hg)
  rw [Int.natAbs_ediv_of_dvd this]; simp

theorem qb_mk {n : Int} {d : Nat} {j : Nat} (hn : n.natAbs < 4294967296 ^ j) (hd : d < 4294967296 ^ j) (hd0 : d ≠ 0) : QB (mkRat n d) j := by
  constructor
  · rw [Rat.num_mkRat, if_neg hd0, num_abs_div (Nat.gcd_dvd_right _ _)]
    exact nb_le (Nat.div_le_self _ _) hn
  · rw [Rat.den_mkRat, if_neg hd0]
    exact nb_le (Nat.div_le_self _ _) hd

theorem qb_pos {q : Rat} {k : Nat} [h : QB q k] : 1 ≤ k := by
  have := h.den
  have h1 := q.den_pos
  cases k with
  | zero => simp at this; omega
  | succ k => omega

instance qbAdd {a b : Rat} {j k : Nat} [ha : QB a j] [hb : QB b k] : QB (a + b) (j + k + 1) := by
  rw [Rat.add_def']
  refine qb_mk ?_ ?_ (Nat.mul_ne_zero a.den_nz b.den_nz)
  · have h1 := nb_mul ha.num hb.den
    have h2 := nb_mul hb.num ha.den
    rw [Nat.add_comm k j] at h2
    have : (a.num * b.den + b.num * a.den).natAbs ≤ a.num.natAbs * b.den + b.num.natAbs * a.den := by
      refine Nat.le_trans (Int.natAbs_add_le _ _) ?_
      rw [Int.natAbs_mul, Int.natAbs_mul]; simp
    rw [Nat.pow_succ]
    omega
  · exact nb_le (Nat.le_refl _) (Nat.lt_of_lt_of_le (nb_mul ha.den hb.den) (pow_mono (by omega)))

instance qbMul {a b : Rat} {j k : Nat} [ha : QB a j] [hb : QB b k] : QB (a * b) (j + k) := by
  rw [Rat.mul_def']
  refine qb_mk ?_ (nb_mul ha.den hb.den) (Nat.mul_ne_zero a.den_nz b.den_nz)
  rw [Int.natAbs_mul]; exact nb_mul ha.num hb.num

instance qbNeg {a : Rat} {k : Nat} [h : QB a k] : QB (-a) k := ⟨by rw [Rat.neg_num, Int.natAbs_neg]; exact h.num, by rw [Rat.neg_den]; exact h.den⟩

instance qbSub {a b : Rat} {j k : Nat} [ha : QB a j] [hb : QB b k] : QB (a - b) (j + k + 1) := by
  rw [Rat.sub_eq_add_neg]; exact qbAdd

theorem sign_le (n : Int) : n.sign.natAbs ≤ 1 := by
  rcases Int.lt_trichotomy n 0 with h | h | h
  · rw [Int.sign_eq_neg_one_of_neg h]; decide
  · subst h; decide
  · rw [Int.sign_eq_one_of_pos h]; decide

instance qbInv {a : Rat} {k : Nat} [h : QB a k] : QB a⁻¹ k := by
  constructor
  · rw [Rat.num_inv, Int.natAbs_mul]
    have h1 := sign_le a.num
    refine nb_le ?_ h.den
    calc a.num.sign.natAbs * ((a.den : Int)).natAbs ≤ 1 * a.den := Nat.mul_le_mul h1 (by simp)
      _ = a.den := Nat.one_mul _
  · rw [Rat.den_inv]
    split
    · exact nb_le a.den_pos h.den
    · exact h.num

instance qbDiv {a b : Rat} {j k : Nat} [ha : QB a j] [hb : QB b k] : QB (a / b) (j + k) := by
  rw [Rat.div_def]; exact qbMul

theorem qb_int {z : Int} (h1 : -9223372036854775808 ≤ z) (h2 : z ≤ 9223372036854775807) : QB (z : Rat) 2 := by
  constructor
  · rw [Rat.num_intCast]; show z.natAbs < 18446744073709551616; omega
  · rw [Rat.den_intCast]; decide

/- rounding: halves away from zero -/
def rnd (n : Int) (d : Nat) : Int := if n < 0 then -(((2 * n.natAbs + d) / (2 * d) : Nat) : Int) else ((2 * n.natAbs + d) / (2 * d) : Nat)

def roundQ (q : Rat) : Int := rnd q.num q.den

theorem rnd_mul (n : Int) (d k : Nat) (hk : k ≠ 0) : rnd (n * k) (d * k) = rnd n d := by
  unfold rnd
  have e : (2 * (n * (k : Int)).natAbs + d * k) / (2 * (d * k)) = (2 * n.natAbs + d) / (2 * d) := by
    rw [Int.natAbs_mul]
    simp only [Int.natAbs_natCast]
    rw [← Nat.mul_assoc, ← Nat.add_mul, ← Nat.mul_assoc, Nat.mul_div_mul_right _ _ (Nat.pos_of_ne_zero hk)]
  have hs : n * (k : Int) < 0 ↔ n < 0 := by
    have hk' : (0 : Int) < k := by omega
    constructor
    · intro h
      by_cases hn : n < 0
      · exact hn
      · have := Int.mul_nonneg (show 0 ≤ n by omega) (Int.le_of_lt hk'); omega
    · intro h; exact Int.mul_neg_of_neg_of_pos h hk'
  rw [e]
  by_cases h : n < 0
  · rw [if_pos h, if_pos (hs.2 h)]
  · rw [if_neg h, if_neg (fun h' => h (hs.1 h'))]

theorem rnd_mkRat (n : Int) {d : Nat} (hd : d ≠ 0) : roundQ (mkRat n d) = rnd n d := by
  obtain ⟨k, hk, h1, h2⟩ := Rat.normalize_num_den' n d hd
  rw [Rat.normalize_eq_mkRat] at h1 h2
  show rnd (mkRat n d).num (mkRat n d).den = rnd n d
  rw [← rnd_mul _ _ k hk, ← h1, ← h2]

/- comparing -/
def cmpQ (a b : Rat) : Int := if a < b then -1 else if b < a then 1 else 0

theorem mkRat_le {n m : Int} {c d : Nat} (hc : c ≠ 0) (hd : d ≠ 0) : mkRat n c ≤ mkRat m d ↔ n * d ≤ m * c := by
  rw [Rat.le_iff_sub_nonneg, ← Rat.divInt_ofNat, ← Rat.divInt_ofNat, Rat.divInt_sub_divInt _ _ (by omega) (by omega), Rat.divInt_nonneg_iff_of_pos_right]
  · omega
  · have : 0 < d * c := Nat.mul_pos (by omega) (by omega)
    rw [← Int.natCast_mul]; omega

theorem mkRat_lt {n m : Int} {c d : Nat} (hc : c ≠ 0) (hd : d ≠ 0) : mkRat n c < mkRat m d ↔ n * d < m * c := by
  rw [← Rat.not_le, mkRat_le hd hc]; omega

theorem cmp_mkRat {n m : Int} {c d : Nat} (hc : c ≠ 0) (hd : d ≠ 0) : cmpS (n * d) (m * c) = cmpQ (mkRat n c) (mkRat m d) := by
  unfold cmpS cmpQ
  simp only [mkRat_lt hc hd, mkRat_lt hd hc]

/- the parts of a reduced fraction -/
theorem encQ_mk {n : Int} {d : Nat} (hd : d ≠ 0) : encQ (mkRat n d) = .agg [.bool (decide (n < 0)), nat (limbs (n.natAbs / Nat.gcd n.natAbs d)), nat (limbs (d / Nat.gcd n.natAbs d))] := by
  have e1 : (mkRat n d).num.natAbs = n.natAbs / Nat.gcd n.natAbs d := by
    rw [Rat.num_mkRat, if_neg hd, num_abs_div (Nat.gcd_dvd_right _ _), Nat.gcd_comm]
  have e2 : (mkRat n d).den = d / Nat.gcd n.natAbs d := by
    rw [Rat.den_mkRat, if_neg hd, Nat.gcd_comm]
  have e3 : (mkRat n d).num < 0 ↔ n < 0 := by
    have h1 : 0 ≤ (mkRat n d).num ↔ 0 ≤ n := by
      rw [Rat.num_nonneg, ← Rat.divInt_ofNat, Rat.divInt_nonneg_iff_of_pos_right (by omega)]
    omega
  unfold encQ RR.of RR.enc
  simp only [e1, e2]
  rw [show decide ((mkRat n d).num < 0) = decide (n < 0) from by simp only [e3]]

def RR.fix (a : RR) : RR := if val a.den = 0 then ⟨false, [], [1]⟩ else a

theorem RR.fix_v (a : RR) : a.fix.v = a.v := by
  unfold RR.fix
  split
  · rename_i h
    simp only [RR.v, h, Rat.mkRat_zero]
    rfl
  · rfl

theorem RR.fix_den (a : RR) : val a.fix.den ≠ 0 := by
  unfold RR.fix
  split
  · simp [val]
  · assumption

instance szFix {a : RR} {k : Nat} [h : SzR a k] : SzR a.fix (k + 1) := by
  have h1 := h.mag.len
  have h2 := h.den.len
  unfold RR.fix
  split
  · exact ⟨⟨⟨by simp⟩, by simp⟩, ⟨⟨by simp⟩, by simp⟩⟩
  · exact ⟨⟨h.mag.ok, by omega⟩, ⟨h.den.ok, by omega⟩⟩

theorem limbs_one : limbs 1 = [1] := rfl

end Go.F

/- Ratios. -/
namespace Go.F
attribute [local irreducible] IntKind.wrap wpM

theorem zero_PU (l : List Nat) {k : Nat} [h : Sz l k] (hk : k ≤ 100000000) : PU f_ratio_zero [nat l] = some (.bool (decide (val l = 0))) := by
  have hl := h.len
  refine PU_of (fn := k_ratio_zero) rfl (startI ?_)
  refine go 800 rfl ?_
  refine atCall rfl rfl (Cmp_PU l [] (by omega) (by simp)) ?_
  refine go 800 rfl ?_
  refine finI rfl rfl rfl trivial ?_
  congr 1
  rw [eqb_eq, decide_eq_decide]
  have e : cmpS (val l : Int) (val ([] : List Nat) : Int) = if val l = 0 then 0 else 1 := by
    show cmpS (val l : Int) 0 = _
    unfold cmpS
    by_cases h0 : val l = 0
    · simp [h0]
    · rw [if_neg (by omega), if_pos (by omega), if_neg h0]
  rw [e]
  by_cases h0 : val l = 0 <;> simp [h0]

theorem positive_PU (l : List Nat) : PU f_ratio_positive [nat l] = some (RI.enc ⟨false, l⟩) := by
  refine PU_of (fn := k_ratio_positive) rfl (startI ?_)
  refine go 800 rfl ?_
  exact finI rfl rfl rfl trivial rfl

theorem value_PU (a : RR) {k : Nat} [h : SzR a k] (hk : k ≤ 100000000) : PU f_ratio_value [a.enc] = some a.fix.enc := by
  refine PU_of (fn := k_ratio_value) rfl (startI ?_)
  refine go 800 rfl ?_
  refine atCall rfl rfl (zero_PU a.den hk) ?_
  refine go 800 rfl ?_
  refine atCond rfl (fun g => ?_) (fun g => ?_)
  · refine go 800 rfl ?_
    refine atCall rfl rfl (natural_Of_PU 1 (by decide)) ?_
    refine go 800 rfl ?_
    refine finI rfl rfl rfl trivial ?_
    rw [RR.fix, if_pos (by simpa using g)]; rfl
  · refine go 800 rfl ?_
    refine finI rfl rfl rfl trivial ?_
    rw [RR.fix, if_neg (by simpa using g)]; rfl

theorem reduce_PU (n : RI) (d : List Nat) {j k : Nat} [hn : Sz n.mag j] [hd : Sz d k] (hj : j ≤ 100000000) (hk : k ≤ 100000000) (hd0 : val d ≠ 0) : PU f_ratio_reduce [n.enc, nat d] = some (encQ (mkRat n.v (val d))) := by
  have ln := hn.len
  have ld := hd.len
  have nbn : NB (val n.mag) j := inferInstance
  have nbd : NB (val d) k := inferInstance
  have hg0 : Nat.gcd (val n.mag) (val d) ≠ 0 := by
    have := Nat.gcd_pos_of_pos_right (val n.mag) (show 0 < val d by omega); omega
  have lg : (limbs (Nat.gcd (val n.mag) (val d))).length ≤ k := limbs_len.2 (nb_le (Nat.gcd_le_right _ (by omega)) nbd.lt)
  have d1 := DivMod_PU n.mag (limbs (Nat.gcd (val n.mag) (val d))) (by omega) (by omega)
  have d2 := DivMod_PU d (limbs (Nat.gcd (val n.mag) (val d))) (by omega) (by omega)
  rw [val_limbs, if_neg hg0] at d1 d2
  have s1 : Sz (limbs (val n.mag / Nat.gcd (val n.mag) (val d))) j := ⟨limbs_ok _, limbs_len.2 (nb_le (Nat.div_le_self _ _) nbn.lt)⟩
  refine PU_of (fn := k_ratio_reduce) rfl (startI ?_)
  refine go 800 rfl ?_
  refine atCall rfl rfl (Gcd_PU n.mag d (by omega) (by omega)) ?_
  refine go 800 rfl ?_
  refine atCall rfl rfl d1 ?_
  refine go 800 rfl ?_
  refine atCall rfl rfl d2 ?_
  refine go 800 rfl ?_
  refine atCall rfl rfl (integer_Norm_PU ⟨n.neg, limbs (val n.mag / Nat.gcd (val n.mag) (val d))⟩ (by omega)) ?_
  refine go 800 rfl ?_
  refine finI rfl rfl rfl trivial ?_
  rw [encQ_mk hd0, RI.v_abs]
  have e1 : RI.v ⟨n.neg, limbs (val n.mag / Nat.gcd (val n.mag) (val d))⟩ = if n.neg then -((val n.mag / Nat.gcd (val n.mag) (val d) : Nat) : Int) else (val n.mag / Nat.gcd (val n.mag) (val d) : Nat) := by
    rw [RI.v, val_limbs]
  have hdv := Nat.div_mul_cancel (Nat.gcd_dvd_left (val n.mag) (val d))
  have e2 : decide (RI.v ⟨n.neg, limbs (val n.mag / Nat.gcd (val n.mag) (val d))⟩ < 0) = decide (n.v < 0) := by
    rw [e1, decide_eq_decide, RI.v]
    have hz : val n.mag / Nat.gcd (val n.mag) (val d) = 0 ↔ val n.mag = 0 := by
      constructor
      · intro h; rw [h] at hdv; omega
      · intro h; rw [h]; simp
    generalize val n.mag / Nat.gcd (val n.mag) (val d) = x at *
    split <;> omega
  have e3 : (RI.v ⟨n.neg, limbs (val n.mag / Nat.gcd (val n.mag) (val d))⟩).natAbs = val n.mag / Nat.gcd (val n.mag) (val d) := by
    rw [RI.v_abs, val_limbs]
  show D.agg [.bool (decide (RI.v ⟨n.neg, limbs (val n.mag / Nat.gcd (val n.mag) (val d))⟩ < 0)), nat (limbs (RI.v ⟨n.neg, limbs (val n.mag / Nat.gcd (val n.mag) (val d))⟩).natAbs), nat (limbs (val d / Nat.gcd (val n.mag) (val d)))] = _
  rw [e2, e3]

theorem ratio_Of_PU (n d : Int) (h1 : -9223372036854775808 ≤ n) (h2 : n ≤ 9223372036854775807) (h3 : 0 < d) (h4 : d ≤ 9223372036854775807) : PU f_ratio_Of [.int .i64 n, .int .i64 d] = some (.tup [encQ (mkRat n d.toNat), .bool true]) := by
  have nb : NB n.natAbs 2 := ⟨by show n.natAbs < 18446744073709551616; omega⟩
  have nb2 : NB d.natAbs 2 := ⟨by show d.natAbs < 18446744073709551616; omega⟩
  have hneg : (RI.of d).neg = false := by show decide (d < 0) = false; simp; omega
  have hr := reduce_PU (RI.of n) (limbs d.natAbs) (by decide) (by decide) (by rw [val_limbs]; omega)
  rw [RI.of_v, val_limbs] at hr
  have hdn : d.natAbs = d.toNat := by omega
  rw [← hdn]
  refine PU_of (fn := k_ratio_Of) rfl (startI ?_)
  refine go 800 rfl ?_
  refine atCond rfl (fun g => ?_) (fun g => ?_)
  · rw [eqb_iff] at g; omega
  refine go 800 rfl ?_
  refine atCall rfl rfl (integer_Of_PU n (by omega) (by omega)) ?_
  refine go 800 rfl ?_
  refine atCall rfl rfl (integer_Of_PU d (by omega) (by omega)) ?_
  refine go 800 rfl ?_
  have e : (!((RI.of n).neg == (RI.of d).neg)) = (RI.of n).neg := by rw [hneg]; cases (RI.of n).neg <;> rfl
  rw [e]
  refine atCall rfl rfl hr ?_
  refine go 800 rfl ?_
  exact finI rfl rfl rfl trivial rfl

theorem ratio_Neg_PU (a : RR) {k : Nat} [h : SzR a k] (hk : k ≤ 10000000) : PU f_ratio_Neg [a.enc] = some (encQ (-a.v)) := by
  have h0 := a.fix_den
  have hv := a.fix_v
  have sn : Sz (RI.of (-a.fix.num.v)).mag (k + 1) := ⟨limbs_ok _, limbs_len.2 (by rw [Int.natAbs_neg, RI.v_abs]; exact (nbVal (l := a.fix.num.mag)).lt)⟩
  have hr := reduce_PU (RI.of (-a.fix.num.v)) a.fix.den (by omega) (by omega) h0
  rw [RI.of_v, ← Rat.neg_mkRat] at hr
  refine PU_of (fn := k_ratio_Neg) rfl (startI ?_)
  refine go 800 rfl ?_
  refine atCall rfl rfl (value_PU a (by omega)) ?_
  refine go 800 rfl ?_
  refine atCall rfl rfl (integer_Neg_PU a.fix.num (by omega)) ?_
  refine go 800 rfl ?_
  refine atCall rfl rfl hr ?_
  refine go 800 rfl ?_
  refine finI rfl rfl rfl trivial ?_
  rw [← hv]; rfl

theorem pos_v (l : List Nat) : RI.v ⟨false, l⟩ = val l := by simp [RI.v]

theorem ratio_Add_PU (a b : RR) {j k : Nat} [ha : SzR a j] [hb : SzR b k] (hj : j ≤ 10000000) (hk : k ≤ 10000000) : PU f_ratio_Add [a.enc, b.enc] = some (encQ (a.v + b.v)) := by
  have ha0 := a.fix_den
  have hb0 := b.fix_den
  have hva := a.fix_v
  have hvb := b.fix_v
  have na := (nbVal (l := a.fix.num.mag)).lt
  have nad := (nbVal (l := a.fix.den)).lt
  have nb := (nbVal (l := b.fix.num.mag)).lt
  have nbd := (nbVal (l := b.fix.den)).lt
  have s1 : Sz (RI.of (a.fix.num.v * val b.fix.den)).mag ((j + 1) + (k + 1)) := ⟨limbs_ok _, limbs_len.2 (by rw [Int.natAbs_mul, RI.v_abs]; exact nb_mul na nbd)⟩
  have s2 : Sz (RI.of (b.fix.num.v * val a.fix.den)).mag ((k + 1) + (j + 1)) := ⟨limbs_ok _, limbs_len.2 (by rw [Int.natAbs_mul, RI.v_abs]; exact nb_mul nb nad)⟩
  have s3 : Sz (RI.of (a.fix.num.v * val b.fix.den + b.fix.num.v * val a.fix.den)).mag (((j + 1) + (k + 1)) + ((k + 1) + (j + 1)) + 1) :=
    ⟨limbs_ok _, limbs_len.2 (nb_le (Int.natAbs_add_le _ _) (nb_add (by rw [Int.natAbs_mul, RI.v_abs]; exact nb_mul na nbd) (by rw [Int.natAbs_mul, RI.v_abs]; exact nb_mul nb nad)))⟩
  have s4 : Sz (limbs (val a.fix.den * val b.fix.den)) ((j + 1) + (k + 1)) := ⟨limbs_ok _, limbs_len.2 (nb_mul nad nbd)⟩
  have sp1 : Sz (RI.mag ⟨false, b.fix.den⟩) (k + 1) := (szFix (a := b)).den
  have sp2 : Sz (RI.mag ⟨false, a.fix.den⟩) (j + 1) := (szFix (a := a)).den
  have lad := (szFix (a := a)).den.len
  have lbd := (szFix (a := b)).den.len
  have m1 := integer_Mul_PU a.fix.num ⟨false, b.fix.den⟩ (by omega) (by omega)
  have m2 := integer_Mul_PU b.fix.num ⟨false, a.fix.den⟩ (by omega) (by omega)
  rw [pos_v] at m1 m2
  have a1 := integer_Add_PU (RI.of (a.fix.num.v * val b.fix.den)) (RI.of (b.fix.num.v * val a.fix.den)) (by omega) (by omega)
  rw [RI.of_v, RI.of_v] at a1
  have r1 := reduce_PU (RI.of (a.fix.num.v * val b.fix.den + b.fix.num.v * val a.fix.den)) (limbs (val a.fix.den * val b.fix.den)) (by omega) (by omega) (by rw [val_limbs]; exact Nat.mul_ne_zero ha0 hb0)
  rw [RI.of_v, val_limbs, ← Rat.mkRat_add_mkRat _ _ ha0 hb0] at r1
  refine PU_of (fn := k_ratio_Add) rfl (startI ?_)
  refine go 800 rfl ?_
  refine atCall rfl rfl (value_PU a (by omega)) ?_
  refine go 800 rfl ?_
  refine atCall rfl rfl (value_PU b (by omega)) ?_
  refine go 800 rfl ?_
  refine atCall rfl rfl (positive_PU b.fix.den) ?_
  refine go 800 rfl ?_
  refine atCall rfl rfl m1 ?_
  refine go 800 rfl ?_
  refine atCall rfl rfl (positive_PU a.fix.den) ?_
  refine go 800 rfl ?_
  refine atCall rfl rfl m2 ?_
  refine go 800 rfl ?_
  refine atCall rfl rfl a1 ?_
  refine go 800 rfl ?_
  refine atCall rfl rfl (Mul_PU a.fix.den b.fix.den (by omega) (by omega)) ?_
  refine go 800 rfl ?_
  refine atCall rfl rfl r1 ?_
  refine go 800 rfl ?_
  refine finI rfl rfl rfl trivial ?_
  rw [← hva, ← hvb]; rfl
end Go.F

/- Ratios: Sub, Mul, Div, Round, Cmp. -/
namespace Go.F
attribute [local irreducible] IntKind.wrap wpM

instance qbV {a : RR} {k : Nat} [h : SzR a k] : QB a.v (k + 1) := by
  by_cases h0 : val a.den = 0
  · have e : a.v = 0 := by rw [RR.v, h0, Rat.mkRat_zero]
    rw [e]
    refine ⟨?_, ?_⟩
    · show 0 < _; exact pow_pos' _
    · show 1 < _
      have := pow_mono (show 1 ≤ k + 1 by omega)
      omega
  · have h1 := (nbVal (l := a.num.mag)).lt
    have h2 := (nbVal (l := a.den)).lt
    have := pow_mono (show k ≤ k + 1 by omega)
    exact qb_mk (by rw [RI.v_abs]; omega) (by omega) h0

theorem ratio_Sub_PU (a b : RR) {j k : Nat} [ha : SzR a j] [hb : SzR b k] (hj : j ≤ 1000000) (hk : k ≤ 1000000) : PU f_ratio_Sub [a.enc, b.enc] = some (encQ (a.v - b.v)) := by
  have h1 := ratio_Add_PU a (RR.of (-b.v)) (by omega) (by omega)
  rw [RR.of_v, ← Rat.sub_eq_add_neg] at h1
  refine PU_of (fn := k_ratio_Sub) rfl (startI ?_)
  refine go 800 rfl ?_
  refine atCall rfl rfl (ratio_Neg_PU b (by omega)) ?_
  refine go 800 rfl ?_
  refine atCall rfl rfl h1 ?_
  refine go 800 rfl ?_
  exact finI rfl rfl rfl trivial rfl

theorem ratio_Mul_PU (a b : RR) {j k : Nat} [ha : SzR a j] [hb : SzR b k] (hj : j ≤ 10000000) (hk : k ≤ 10000000) : PU f_ratio_Mul [a.enc, b.enc] = some (encQ (a.v * b.v)) := by
  have ha0 := a.fix_den
  have hb0 := b.fix_den
  have hva := a.fix_v
  have hvb := b.fix_v
  have na := (nbVal (l := a.fix.num.mag)).lt
  have nad := (nbVal (l := a.fix.den)).lt
  have nb := (nbVal (l := b.fix.num.mag)).lt
  have nbd := (nbVal (l := b.fix.den)).lt
  have lad := (szFix (a := a)).den.len
  have lbd := (szFix (a := b)).den.len
  have s1 : Sz (RI.of (a.fix.num.v * b.fix.num.v)).mag ((j + 1) + (k + 1)) := ⟨limbs_ok _, limbs_len.2 (by rw [Int.natAbs_mul, RI.v_abs, RI.v_abs]; exact nb_mul na nb)⟩
  have s4 : Sz (limbs (val a.fix.den * val b.fix.den)) ((j + 1) + (k + 1)) := ⟨limbs_ok _, limbs_len.2 (nb_mul nad nbd)⟩
  have r1 := reduce_PU (RI.of (a.fix.num.v * b.fix.num.v)) (limbs (val a.fix.den * val b.fix.den)) (by omega) (by omega) (by rw [val_limbs]; exact Nat.mul_ne_zero ha0 hb0)
  rw [RI.of_v, val_limbs, ← Rat.mkRat_mul_mkRat] at r1
  refine PU_of (fn := k_ratio_Mul) rfl (startI ?_)
  refine go 800 rfl ?_
  refine atCall rfl rfl (value_PU a (by omega)) ?_
  refine go 800 rfl ?_
  refine atCall rfl rfl (value_PU b (by omega)) ?_
  refine go 800 rfl ?_
  refine atCall rfl rfl (integer_Mul_PU a.fix.num b.fix.num (by omega) (by omega)) ?_
  refine go 800 rfl ?_
  refine atCall rfl rfl (Mul_PU a.fix.den b.fix.den (by omega) (by omega)) ?_
  refine go 800 rfl ?_
  refine atCall rfl rfl r1 ?_
  refine go 800 rfl ?_
  refine finI rfl rfl rfl trivial ?_
  rw [← hva, ← hvb]; rfl

theorem div_mk (a b : RR) (ha : val a.den ≠ 0) (hb : val b.den ≠ 0) (hbm : val b.mag ≠ 0) : mkRat (RI.v ⟨!(a.neg == b.neg), limbs (val a.mag * val b.den)⟩) (val a.den * val b.mag) = a.v / b.v := by
  have hbv : b.v ≠ 0 := by
    rw [RR.v, Rat.mkRat_ne_zero hb]
    intro h
    have := RI.v_abs b.num
    rw [h] at this
    exact hbm (by simpa [RR.num] using this.symm)
  have e : mkRat (RI.v ⟨!(a.neg == b.neg), limbs (val a.mag * val b.den)⟩) (val a.den * val b.mag) * b.v = a.v := by
    rw [RR.v, RR.v, Rat.mkRat_mul_mkRat, Rat.mkRat_eq_iff (Nat.mul_ne_zero (Nat.mul_ne_zero ha hbm) hb) ha]
    unfold RI.v RR.num
    simp only [val_limbs]
    cases a.neg <;> cases b.neg <;> simp <;> grind
  rw [← e, Rat.mul_div_cancel hbv]

theorem ratio_Div_PU (a b : RR) {j k : Nat} [ha : SzR a j] [hb : SzR b k] (hj : j ≤ 10000000) (hk : k ≤ 10000000) : PU f_ratio_Div [a.enc, b.enc] = some (if b.v = 0 then .tup [RR.enc ⟨false, [], []⟩, .bool false] else .tup [encQ (a.v / b.v), .bool true]) := by
  have ha0 := a.fix_den
  have hb0 := b.fix_den
  have hva := a.fix_v
  have hvb := b.fix_v
  have na := (nbVal (l := a.fix.mag)).lt
  have nad := (nbVal (l := a.fix.den)).lt
  have nb := (nbVal (l := b.fix.mag)).lt
  have nbd := (nbVal (l := b.fix.den)).lt
  have lad := (szFix (a := a)).den.len
  have lbd := (szFix (a := b)).den.len
  have lam := (szFix (a := a)).mag.len
  have lbm := (szFix (a := b)).mag.len
  have hz : b.v = 0 ↔ val b.fix.mag = 0 := by
    rw [← hvb, RR.v, Rat.mkRat_eq_zero hb0]
    have := RI.v_abs b.fix.num
    constructor
    · intro h; rw [h] at this; exact this.symm
    · intro h; have h2 : b.fix.num.v.natAbs = 0 := by rw [this]; exact h
      exact Int.natAbs_eq_zero.1 h2
  have s1 : Sz (limbs (val a.fix.mag * val b.fix.den)) ((j + 1) + (k + 1)) := ⟨limbs_ok _, limbs_len.2 (nb_mul na nbd)⟩
  have s1' : Sz (RI.mag ⟨!(a.fix.neg == b.fix.neg), limbs (val a.fix.mag * val b.fix.den)⟩) ((j + 1) + (k + 1)) := s1
  have s4 : Sz (limbs (val a.fix.den * val b.fix.mag)) ((j + 1) + (k + 1)) := ⟨limbs_ok _, limbs_len.2 (nb_mul nad nb)⟩
  refine PU_of (fn := k_ratio_Div) rfl (startI ?_)
  refine go 800 rfl ?_
  refine atCall rfl rfl (value_PU a (by omega)) ?_
  refine go 800 rfl ?_
  refine atCall rfl rfl (value_PU b (by omega)) ?_
  refine go 800 rfl ?_
  refine atCall rfl rfl (zero_PU b.fix.mag (by omega)) ?_
  refine go 800 rfl ?_
  refine atCond rfl (fun g => ?_) (fun g => ?_)
  · have g : val b.fix.mag = 0 := by simpa using g
    refine go 800 rfl ?_
    refine finI rfl rfl rfl trivial ?_
    rw [if_pos (hz.2 g)]; rfl
  · have g : val b.fix.mag ≠ 0 := by simpa using g
    have r1 := reduce_PU ⟨!(a.fix.neg == b.fix.neg), limbs (val a.fix.mag * val b.fix.den)⟩ (limbs (val a.fix.den * val b.fix.mag)) (by omega) (by omega) (by rw [val_limbs]; exact Nat.mul_ne_zero ha0 g)
    rw [val_limbs, div_mk a.fix b.fix ha0 hb0 g, hva, hvb] at r1
    refine go 800 rfl ?_
    refine atCall rfl rfl (Mul_PU a.fix.mag b.fix.den (by omega) (by omega)) ?_
    refine go 800 rfl ?_
    refine atCall rfl rfl (Mul_PU a.fix.den b.fix.mag (by omega) (by omega)) ?_
    refine go 800 rfl ?_
    refine atCall rfl rfl r1 ?_
    refine go 800 rfl ?_
    refine finI rfl rfl rfl trivial ?_
    rw [if_neg (fun h => g (hz.1 h))]; rfl

theorem round_mk (a : RR) (ha : val a.den ≠ 0) : RI.v ⟨a.neg, limbs ((val a.mag + val a.mag + val a.den) / (val a.den + val a.den))⟩ = roundQ a.v := by
  rw [RR.v, rnd_mkRat _ ha]
  unfold rnd
  rw [RI.v_abs]
  simp only [RR.num, val_limbs, RI.v]
  rw [← Nat.two_mul, ← Nat.two_mul]
  by_cases h0 : val a.mag = 0
  · have : (2 * val a.mag + val a.den) / (2 * val a.den) = 0 := by rw [h0]; exact Nat.div_eq_of_lt (by omega)
    rw [this]; simp [h0]
  · by_cases hn : a.neg = true
    · simp only [hn, if_true]; rw [if_pos (by omega)]
    · simp only [hn, if_false]; rw [if_neg (by simp), if_neg (by rw [if_neg (by simp)]; omega)]

theorem round_abs (q : Rat) : (roundQ q).natAbs ≤ 2 * q.num.natAbs + q.den := by
  unfold roundQ rnd
  have := Nat.div_le_self (2 * q.num.natAbs + q.den) (2 * q.den)
  generalize (2 * q.num.natAbs + q.den) / (2 * q.den) = x at *
  split <;> omega

instance nbRound {q : Rat} {k : Nat} [h : QB q k] : NB (roundQ q).natAbs (k + 1) := by
  refine ⟨nb_le (round_abs q) ?_⟩
  have h1 := h.num
  have h2 := h.den
  rw [Nat.pow_succ]
  omega

theorem ratio_Round_PU (a : RR) {k : Nat} [h : SzR a k] (hk : k ≤ 1000000) : PU f_ratio_Round [a.enc] = some (encI (roundQ a.v)) := by
  have ha0 := a.fix_den
  have hva := a.fix_v
  have na := (nbVal (l := a.fix.mag)).lt
  have nad := (nbVal (l := a.fix.den)).lt
  have lad := (szFix (a := a)).den.len
  have lam := (szFix (a := a)).mag.len
  have n2 := nb_add na na
  have n3 := nb_add n2 nad
  have n4 := nb_add nad nad
  have l2 := limbs_len.2 n2
  have l3 := limbs_len.2 n3
  have l4 := limbs_len.2 n4
  have a2 := Add_PU (limbs (val a.fix.mag + val a.fix.mag)) a.fix.den (by omega) (by omega)
  rw [val_limbs] at a2
  have d1 := DivMod_PU (limbs (val a.fix.mag + val a.fix.mag + val a.fix.den)) (limbs (val a.fix.den + val a.fix.den)) (by omega) (by omega)
  rw [val_limbs, val_limbs, if_neg (by omega)] at d1
  have s5 : Sz (RI.mag ⟨a.fix.neg, limbs ((val a.fix.mag + val a.fix.mag + val a.fix.den) / (val a.fix.den + val a.fix.den))⟩) _ := ⟨limbs_ok _, limbs_len.2 (nb_le (Nat.div_le_self _ _) n3)⟩
  have nrm := integer_Norm_PU ⟨a.fix.neg, limbs ((val a.fix.mag + val a.fix.mag + val a.fix.den) / (val a.fix.den + val a.fix.den))⟩ (by omega)
  rw [round_mk a.fix ha0, hva] at nrm
  refine PU_of (fn := k_ratio_Round) rfl (startI ?_)
  refine go 800 rfl ?_
  refine atCall rfl rfl (value_PU a (by omega)) ?_
  refine go 800 rfl ?_
  refine atCall rfl rfl (Add_PU a.fix.mag a.fix.mag (by omega) (by omega)) ?_
  refine go 800 rfl ?_
  refine atCall rfl rfl a2 ?_
  refine go 800 rfl ?_
  refine atCall rfl rfl (Add_PU a.fix.den a.fix.den (by omega) (by omega)) ?_
  refine go 800 rfl ?_
  refine atCall rfl rfl d1 ?_
  refine go 800 rfl ?_
  refine atCall rfl rfl nrm ?_
  refine go 800 rfl ?_
  exact finI rfl rfl rfl trivial rfl

theorem ratio_Cmp_PU (a b : RR) {j k : Nat} [ha : SzR a j] [hb : SzR b k] (hj : j ≤ 10000000) (hk : k ≤ 10000000) : PU f_ratio_Cmp [a.enc, b.enc] = some (.int .i64 (cmpQ a.v b.v)) := by
  have ha0 := a.fix_den
  have hb0 := b.fix_den
  have hva := a.fix_v
  have hvb := b.fix_v
  have na := (nbVal (l := a.fix.num.mag)).lt
  have nad := (nbVal (l := a.fix.den)).lt
  have nb := (nbVal (l := b.fix.num.mag)).lt
  have nbd := (nbVal (l := b.fix.den)).lt
  have s1 : Sz (RI.of (a.fix.num.v * val b.fix.den)).mag ((j + 1) + (k + 1)) := ⟨limbs_ok _, limbs_len.2 (by rw [Int.natAbs_mul, RI.v_abs]; exact nb_mul na nbd)⟩
  have s2 : Sz (RI.of (b.fix.num.v * val a.fix.den)).mag ((k + 1) + (j + 1)) := ⟨limbs_ok _, limbs_len.2 (by rw [Int.natAbs_mul, RI.v_abs]; exact nb_mul nb nad)⟩
  have sp1 : Sz (RI.mag ⟨false, b.fix.den⟩) (k + 1) := (szFix (a := b)).den
  have sp2 : Sz (RI.mag ⟨false, a.fix.den⟩) (j + 1) := (szFix (a := a)).den
  have m1 := integer_Mul_PU a.fix.num ⟨false, b.fix.den⟩ (by omega) (by omega)
  have m2 := integer_Mul_PU b.fix.num ⟨false, a.fix.den⟩ (by omega) (by omega)
  rw [pos_v] at m1 m2
  have c1 := integer_Cmp_PU (RI.of (a.fix.num.v * val b.fix.den)) (RI.of (b.fix.num.v * val a.fix.den)) (by omega) (by omega)
  rw [RI.of_v, RI.of_v, cmp_mkRat ha0 hb0] at c1
  refine PU_of (fn := k_ratio_Cmp) rfl (startI ?_)
  refine go 800 rfl ?_
  refine atCall rfl rfl (value_PU a (by omega)) ?_
  refine go 800 rfl ?_
  refine atCall rfl rfl (value_PU b (by omega)) ?_
  refine go 800 rfl ?_
  refine atCall rfl rfl (positive_PU b.fix.den) ?_
  refine go 800 rfl ?_
  refine atCall rfl rfl m1 ?_
  refine go 800 rfl ?_
  refine atCall rfl rfl (positive_PU a.fix.den) ?_
  refine go 800 rfl ?_
  refine atCall rfl rfl m2 ?_
  refine go 800 rfl ?_
  refine atCall rfl rfl c1 ?_
  refine go 800 rfl ?_
  refine finI rfl rfl rfl trivial ?_
  rw [← hva, ← hvb]; rfl
end Go.F

/- Points. -/
namespace Go.F
attribute [local irreducible] IntKind.wrap wpM

structure RP where
  x : RR
  y : RR

structure QP where
  x : Rat
  y : Rat
  deriving DecidableEq

def RP.enc (p : RP) : D := .agg [.bool p.x.neg, nat p.x.mag, nat p.x.den, .bool p.y.neg, nat p.y.mag, nat p.y.den]
def RP.v (p : RP) : QP := ⟨p.x.v, p.y.v⟩
def RP.of (q : QP) : RP := ⟨RR.of q.x, RR.of q.y⟩
def encP (q : QP) : D := (RP.of q).enc

theorem RP.of_v (q : QP) : (RP.of q).v = q := by
  unfold RP.of RP.v; simp only [RR.of_v]

class SzP (p : RP) (k : outParam Nat) : Prop where
  x : SzR p.x k
  y : SzR p.y k

instance szPx {p : RP} {k : Nat} [h : SzP p k] : SzR p.x k := h.x
instance szPy {p : RP} {k : Nat} [h : SzP p k] : SzR p.y k := h.y

class QPB (q : QP) (k : outParam Nat) : Prop where
  x : QB q.x k
  y : QB q.y k

instance qpX {q : QP} {k : Nat} [h : QPB q k] : QB q.x k := h.x
instance qpY {q : QP} {k : Nat} [h : QPB q k] : QB q.y k := h.y
instance szPOf {q : QP} {k : Nat} [h : QPB q k] : SzP (RP.of q) k := ⟨szROf (h := h.x), szROf (h := h.y)⟩
instance qpV {p : RP} {k : Nat} [h : SzP p k] : QPB p.v (k + 1) := ⟨qbV (h := h.x), qbV (h := h.y)⟩

def addP (a b : QP) : QP := ⟨a.x + b.x, a.y + b.y⟩
def subP (a b : QP) : QP := ⟨a.x - b.x, a.y - b.y⟩
def scaleP (a : QP) (r : Rat) : QP := ⟨a.x * r, a.y * r⟩
def crossP (a b : QP) : Rat := a.x * b.y - a.y * b.x
def onP (a b : QP) (t : Rat) : QP := addP a (scaleP (subP b a) t)

instance qpAdd {a b : QP} {j k : Nat} [QPB a j] [QPB b k] : QPB (addP a b) (j + k + 1) := ⟨qbAdd, qbAdd⟩
instance qpSub {a b : QP} {j k : Nat} [QPB a j] [QPB b k] : QPB (subP a b) (j + k + 1) := ⟨qbSub, qbSub⟩
instance qpScale {a : QP} {r : Rat} {j k : Nat} [QPB a j] [QB r k] : QPB (scaleP a r) (j + k) := ⟨qbMul, qbMul⟩
instance qbCross {a b : QP} {j k : Nat} [QPB a j] [QPB b k] : QB (crossP a b) ((j + k) + (j + k) + 1) := qbSub
instance qpOn {a b : QP} {t : Rat} {i j k : Nat} [QPB a i] [QPB b j] [QB t k] : QPB (onP a b t) (i + ((j + i + 1) + k) + 1) := qpAdd

theorem mkRat_toNat1 (n : Int) : mkRat n (1 : Int).toNat = (n : Rat) := Rat.mkRat_one n

theorem point_Of_PU (x y : Int) (hx1 : -9223372036854775808 ≤ x) (hx2 : x ≤ 9223372036854775807) (hy1 : -9223372036854775808 ≤ y) (hy2 : y ≤ 9223372036854775807) : PU f_point_Of [.int .i64 x, .int .i64 y] = some (encP ⟨x, y⟩) := by
  have r1 := ratio_Of_PU x 1 hx1 hx2 (by decide) (by decide)
  have r2 := ratio_Of_PU y 1 hy1 hy2 (by decide) (by decide)
  rw [mkRat_toNat1] at r1 r2
  refine PU_of (fn := k_point_Of) rfl (startI ?_)
  refine go 800 rfl ?_
  refine atCall rfl rfl r1 ?_
  refine go 800 rfl ?_
  refine atCall rfl rfl r2 ?_
  refine go 800 rfl ?_
  exact finI rfl rfl rfl trivial rfl

theorem point_Add_PU (a b : RP) {j k : Nat} [ha : SzP a j] [hb : SzP b k] (hj : j ≤ 1000000) (hk : k ≤ 1000000) : PU f_point_Add [a.enc, b.enc] = some (encP (addP a.v b.v)) := by
  refine PU_of (fn := k_point_Add) rfl (startI ?_)
  refine go 800 rfl ?_
  refine atCall rfl rfl (ratio_Add_PU a.x b.x (by omega) (by omega)) ?_
  refine go 800 rfl ?_
  refine atCall rfl rfl (ratio_Add_PU a.y b.y (by omega) (by omega)) ?_
  refine go 800 rfl ?_
  exact finI rfl rfl rfl trivial rfl

theorem point_Sub_PU (a b : RP) {j k : Nat} [ha : SzP a j] [hb : SzP b k] (hj : j ≤ 1000000) (hk : k ≤ 1000000) : PU f_point_Sub [a.enc, b.enc] = some (encP (subP a.v b.v)) := by
  refine PU_of (fn := k_point_Sub) rfl (startI ?_)
  refine go 800 rfl ?_
  refine atCall rfl rfl (ratio_Sub_PU a.x b.x (by omega) (by omega)) ?_
  refine go 800 rfl ?_
  refine atCall rfl rfl (ratio_Sub_PU a.y b.y (by omega) (by omega)) ?_
  refine go 800 rfl ?_
  exact finI rfl rfl rfl trivial rfl

theorem point_Scale_PU (a : RP) (r : RR) {j k : Nat} [ha : SzP a j] [hb : SzR r k] (hj : j ≤ 1000000) (hk : k ≤ 1000000) : PU f_point_Scale [a.enc, r.enc] = some (encP (scaleP a.v r.v)) := by
  refine PU_of (fn := k_point_Scale) rfl (startI ?_)
  refine go 800 rfl ?_
  refine atCall rfl rfl (ratio_Mul_PU a.x r (by omega) (by omega)) ?_
  refine go 800 rfl ?_
  refine atCall rfl rfl (ratio_Mul_PU a.y r (by omega) (by omega)) ?_
  refine go 800 rfl ?_
  exact finI rfl rfl rfl trivial rfl

theorem point_Cross_PU (a b : RP) {j k : Nat} [ha : SzP a j] [hb : SzP b k] (hj : j ≤ 100000) (hk : k ≤ 100000) : PU f_point_Cross [a.enc, b.enc] = some (encQ (crossP a.v b.v)) := by
  have s := ratio_Sub_PU (RR.of (a.x.v * b.y.v)) (RR.of (a.y.v * b.x.v)) (by omega) (by omega)
  rw [RR.of_v, RR.of_v] at s
  refine PU_of (fn := k_point_Cross) rfl (startI ?_)
  refine go 800 rfl ?_
  refine atCall rfl rfl (ratio_Mul_PU a.x b.y (by omega) (by omega)) ?_
  refine go 800 rfl ?_
  refine atCall rfl rfl (ratio_Mul_PU a.y b.x (by omega) (by omega)) ?_
  refine go 800 rfl ?_
  refine atCall rfl rfl s ?_
  refine go 800 rfl ?_
  exact finI rfl rfl rfl trivial rfl

theorem point_On_PU (a b : RP) (t : RR) {i j k : Nat} [ha : SzP a i] [hb : SzP b j] [ht : SzR t k] (hi : i ≤ 10000) (hj : j ≤ 10000) (hk : k ≤ 10000) : PU f_point_On [a.enc, b.enc, t.enc] = some (encP (onP a.v b.v t.v)) := by
  have s := point_Scale_PU (RP.of (subP b.v a.v)) t (by omega) (by omega)
  rw [RP.of_v] at s
  have d := point_Add_PU a (RP.of (scaleP (subP b.v a.v) t.v)) (by omega) (by omega)
  rw [RP.of_v] at d
  refine PU_of (fn := k_point_On) rfl (startI ?_)
  refine go 800 rfl ?_
  refine atCall rfl rfl (point_Sub_PU b a (by omega) (by omega)) ?_
  refine go 800 rfl ?_
  refine atCall rfl rfl s ?_
  refine go 800 rfl ?_
  refine atCall rfl rfl d ?_
  refine go 800 rfl ?_
  exact finI rfl rfl rfl trivial rfl

/- the point that two lines have in common -/
def meetQ (a b c d : QP) : Option QP :=
  if crossP (subP b a) (subP d c) = 0 then none else some (onP a b (crossP (subP c a) (subP d c) / crossP (subP b a) (subP d c)))

def encMeet : Option QP → D
  | none => .tup [RP.enc ⟨⟨false, [], []⟩, ⟨false, [], []⟩⟩, .int .i64 10]
  | some p => .tup [encP p, .int .i64 0]

theorem point_Meet_PU (a b c d : RP) {k : Nat} [ha : SzP a k] [hb : SzP b k] [hc : SzP c k] [hd : SzP d k] (hk : k ≤ 100) : PU f_point_Meet [a.enc, b.enc, c.enc, d.enc] = some (encMeet (meetQ a.v b.v c.v d.v)) := by
  have c1 := point_Cross_PU (RP.of (subP c.v a.v)) (RP.of (subP d.v c.v)) (by omega) (by omega)
  have c2 := point_Cross_PU (RP.of (subP b.v a.v)) (RP.of (subP d.v c.v)) (by omega) (by omega)
  rw [RP.of_v, RP.of_v] at c1 c2
  have dv := ratio_Div_PU (RR.of (crossP (subP c.v a.v) (subP d.v c.v))) (RR.of (crossP (subP b.v a.v) (subP d.v c.v))) (by omega) (by omega)
  rw [RR.of_v, RR.of_v] at dv
  refine PU_of (fn := k_point_Meet) rfl (startI ?_)
  refine go 800 rfl ?_
  refine atCall rfl rfl (point_Sub_PU d c (by omega) (by omega)) ?_
  refine go 800 rfl ?_
  refine atCall rfl rfl (point_Sub_PU c a (by omega) (by omega)) ?_
  refine go 800 rfl ?_
  refine atCall rfl rfl c1 ?_
  refine go 800 rfl ?_
  refine atCall rfl rfl (point_Sub_PU b a (by omega) (by omega)) ?_
  refine go 800 rfl ?_
  refine atCall rfl rfl c2 ?_
  refine go 800 rfl ?_
  by_cases h0 : crossP (subP b.v a.v) (subP d.v c.v) = 0
  · rw [if_pos h0] at dv
    refine atCall rfl rfl dv ?_
    refine go 800 rfl ?_
    refine atCondT rfl ?_
    refine go 800 rfl ?_
    refine finI rfl rfl rfl trivial ?_
    rw [meetQ, if_pos h0]; rfl
  · rw [if_neg h0] at dv
    have o := point_On_PU a b (RR.of (crossP (subP c.v a.v) (subP d.v c.v) / crossP (subP b.v a.v) (subP d.v c.v))) (by omega) (by omega) (by omega)
    rw [RR.of_v] at o
    refine atCall rfl rfl dv ?_
    refine go 800 rfl ?_
    refine atCondF rfl ?_
    refine go 800 rfl ?_
    refine atCall rfl rfl o ?_
    refine go 800 rfl ?_
    refine finI rfl rfl rfl trivial ?_
    rw [meetQ, if_neg h0]; rfl

def inGrid (z : Int) : Bool := decide (-1048576 ≤ z) && decide (z ≤ 1048576)

theorem coordinate_PU (r : RR) {k : Nat} [h : SzR r k] (hk : k ≤ 100000) : PU f_point_coordinate [r.enc] = some (.tup [.int .i64 (if -9223372036854775808 ≤ roundQ r.v ∧ roundQ r.v ≤ 9223372036854775807 then roundQ r.v else 0), .bool (inGrid (roundQ r.v))]) := by
  have s := Small_PU (RI.of (roundQ r.v)) (by omega)
  rw [RI.of_v] at s
  refine PU_of (fn := k_point_coordinate) rfl (startI ?_)
  refine go 800 rfl ?_
  refine atCall rfl rfl (ratio_Round_PU r (by omega)) ?_
  refine go 800 rfl ?_
  by_cases h1 : -9223372036854775808 ≤ roundQ r.v ∧ roundQ r.v ≤ 9223372036854775807
  · rw [smallS, if_pos h1] at s
    rw [if_pos h1]
    refine atCall rfl rfl s ?_
    repeat' (first
      | (refine goP 800 rfl rfl ?_)
      | (show wpM _ _ _ (Fr.ops _ _ (KOper.mk _ _ (some _) _ _ :: _) :: _) Ex.normal _ _ _ _ _; first | refine atGuardT rfl ?_ | refine atGuardF rfl ?_ | refine atGuard rfl (fun _ => ?_) (fun _ => ?_))
      | (show wpM _ _ _ (Fr.code (K.cond _ _ _) :: _) Ex.normal _ _ _ _ _; first | refine atCondT rfl ?_ | refine atCondF rfl ?_ | refine atCond rfl (fun _ => ?_) (fun _ => ?_))
      | (show wpM _ _ _ (Fr.ops _ _ (KOper.mk _ _ none _ (KOp.pick _ _ _) :: _) :: _) Ex.normal _ _ _ _ _; refine atPick rfl (fun _ => ?_) (fun _ => ?_))
      | (show wpM _ _ _ [] _ _ _ _ _ _; refine finI rfl rfl rfl trivial ?_))
    all_goals simp only [ltb_eq, leb_eq, decide_eq_true_eq, decide_eq_false_iff_not] at *
    all_goals simp only [inGrid]
    all_goals simp_all
    all_goals omega
  · rw [smallS, if_neg h1] at s
    rw [if_neg h1]
    refine atCall rfl rfl s ?_
    repeat' (first
      | (refine goP 800 rfl rfl ?_)
      | (show wpM _ _ _ (Fr.ops _ _ (KOper.mk _ _ (some _) _ _ :: _) :: _) Ex.normal _ _ _ _ _; first | refine atGuardT rfl ?_ | refine atGuardF rfl ?_ | refine atGuard rfl (fun _ => ?_) (fun _ => ?_))
      | (show wpM _ _ _ (Fr.code (K.cond _ _ _) :: _) Ex.normal _ _ _ _ _; first | refine atCondT rfl ?_ | refine atCondF rfl ?_ | refine atCond rfl (fun _ => ?_) (fun _ => ?_))
      | (show wpM _ _ _ (Fr.ops _ _ (KOper.mk _ _ none _ (KOp.pick _ _ _) :: _) :: _) Ex.normal _ _ _ _ _; refine atPick rfl (fun _ => ?_) (fun _ => ?_))
      | (show wpM _ _ _ [] _ _ _ _ _ _; refine finI rfl rfl rfl trivial ?_))
    all_goals simp only [inGrid]
    all_goals (simp; omega)

def gridQ (p : QP) : Spot × Int := if inGrid (roundQ p.x) && inGrid (roundQ p.y) then (⟨roundQ p.x, roundQ p.y⟩, 0) else (⟨0, 0⟩, 3)

theorem inGrid_iff {z : Int} : inGrid z = true ↔ -1048576 ≤ z ∧ z ≤ 1048576 := by simp [inGrid]

theorem Grid_PU (p : RP) {k : Nat} [h : SzP p k] (hk : k ≤ 100000) : PU f_point_Grid [p.enc] = some (.tup [(gridQ p.v).1.enc, .int .i64 (gridQ p.v).2]) := by
  have ex : p.v.x = p.x.v := rfl
  have ey : p.v.y = p.y.v := rfl
  refine PU_of (fn := k_point_Grid) rfl (startI ?_)
  refine go 800 rfl ?_
  refine atCall rfl rfl (coordinate_PU p.x hk) ?_
  refine go 800 rfl ?_
  refine atCall rfl rfl (coordinate_PU p.y hk) ?_
  refine go 800 rfl ?_
  refine atGuard rfl (fun g1 => ?_) (fun g1 => ?_)
  · repeat' (first
      | (refine goP 800 rfl rfl ?_)
      | (show wpM _ _ _ (Fr.ops _ _ (KOper.mk _ _ (some _) _ _ :: _) :: _) Ex.normal _ _ _ _ _; first | refine atGuardT rfl ?_ | refine atGuardF rfl ?_ | refine atGuard rfl (fun _ => ?_) (fun _ => ?_))
      | (show wpM _ _ _ (Fr.code (K.cond _ _ _) :: _) Ex.normal _ _ _ _ _; first | refine atCondT rfl ?_ | refine atCondF rfl ?_ | refine atCond rfl (fun _ => ?_) (fun _ => ?_))
      | (show wpM _ _ _ (Fr.ops _ _ (KOper.mk _ _ none _ (KOp.pick _ _ _) :: _) :: _) Ex.normal _ _ _ _ _; refine atPick rfl (fun _ => ?_) (fun _ => ?_))
      | (show wpM _ _ _ [] _ _ _ _ _ _; refine finI rfl rfl rfl trivial ?_))
    simp only [Bool.not_eq_true', Bool.not_eq_false'] at g1
    rw [gridQ, ex, ey, g1]; rfl
  · simp only [Bool.not_eq_true', Bool.not_eq_false'] at g1
    repeat' (first
      | (refine goP 800 rfl rfl ?_)
      | (show wpM _ _ _ (Fr.ops _ _ (KOper.mk _ _ (some _) _ _ :: _) :: _) Ex.normal _ _ _ _ _; first | refine atGuardT rfl ?_ | refine atGuardF rfl ?_ | refine atGuard rfl (fun _ => ?_) (fun _ => ?_))
      | (show wpM _ _ _ (Fr.code (K.cond _ _ _) :: _) Ex.normal _ _ _ _ _; first | refine atCondT rfl ?_ | refine atCondF rfl ?_ | refine atCond rfl (fun _ => ?_) (fun _ => ?_))
      | (show wpM _ _ _ (Fr.ops _ _ (KOper.mk _ _ none _ (KOp.pick _ _ _) :: _) :: _) Ex.normal _ _ _ _ _; refine atPick rfl (fun _ => ?_) (fun _ => ?_))
      | (show wpM _ _ _ [] _ _ _ _ _ _; refine finI rfl rfl rfl trivial ?_))
    · rename_i g2
      simp only [Bool.not_eq_true', Bool.not_eq_false'] at g2
      rw [gridQ, ex, ey, g1, g2]; rfl
    · rename_i g2
      simp only [Bool.not_eq_true', Bool.not_eq_false'] at g2
      have g1' := inGrid_iff.1 g1
      have g2' := inGrid_iff.1 g2
      rw [gridQ, ex, ey, g1, g2, if_pos (by omega), if_pos (by omega)]; rfl
end Go.F

/- Allowances: the root, the shifts. -/
namespace Go.F
attribute [local irreducible] IntKind.wrap wpM

set_option maxRecDepth 100000 in
theorem sqrt_none : (prog.funcs[f_math_sqrt]?).map (fun fn => fn.body.isNone && fn.name == "math.sqrt") = some true := by kernel_rfl

theorem sqrtX_PU {x y : Nat} (h : FloatKind.f64.format.sqrt x = some y) : PU f_math_sqrt [.float .f64 x] = some (.float .f64 y) := by
  refine run_PU (n := 1) ?_
  have h0 := sqrt_none
  cases hf : prog.funcs[f_math_sqrt]? with
  | none => rw [hf] at h0; simp at h0
  | some fn =>
    rw [hf] at h0
    simp only [Option.map_some, Option.some.injEq, Bool.and_eq_true] at h0
    obtain ⟨h1, h2⟩ := h0
    have hb : fn.body = none := by simpa using h1
    simp only [run, env, hf, hb, h2, if_true, sqrtF, h]
    rfl

theorem Sqrt_PU {x y : Nat} (h : FloatKind.f64.format.sqrt x = some y) : PU f_math_Sqrt [.float .f64 x] = some (.float .f64 y) := by
  refine PU_of (fn := k_math_Sqrt) rfl (startI ?_)
  refine go 800 rfl ?_
  refine atCall rfl rfl (sqrtX_PU h) ?_
  refine go 800 rfl ?_
  exact finI rfl rfl rfl trivial rfl

section
variable {T : Tab} {sh : Shr} {nx0 : Nat} {s : List Fr} {t : Tmps} {h : Heap} {z : Frz} {nx : Nat} {q : Ex → Tmps → Heap → Frz → Nat → Prop}
variable {base i : Nat} {res : List Nat} {dst : Nat} {g : Gd} {rest : List KOper}

/- a float's whole part -/
theorem atCvF {k : IntKind} {x : X} {b : Nat} {n : Int} (hx : x.ev t = .float .f64 b) (hd : (FloatKind.f64.decode b).toInt .zero = some n) (hb : k.min ≤ n ∧ n ≤ k.max)
    (hk : wpM T sh nx0 (.ops base res rest :: s) .normal (upd t dst (.int k n)) h z nx q) :
    wpM T sh nx0 (.ops base res (⟨i, some dst, none, g, .conv (.int k) x⟩ :: rest) :: s) .normal t h z nx q := by
  refine atOp ?_
  simp only [kop, kconv, hx]
  exact wo_of hd (wneed_of hb hk)
end

/- the square root, rounded down -/
def isqF (n : Nat) : Nat → Nat → Nat
  | 0, r => r
  | k + 1, r => if (r + 2 ^ k) * (r + 2 ^ k) ≤ n then isqF n k (r + 2 ^ k) else isqF n k r

def isq (n : Nat) : Nat := isqF n 27 0

theorem isqF_spec (n : Nat) : ∀ (k r : Nat), r * r ≤ n → n < (r + 2 ^ k) * (r + 2 ^ k) → isqF n k r * isqF n k r ≤ n ∧ n < (isqF n k r + 1) * (isqF n k r + 1) := by
  intro k
  induction k with
  | zero => intro r h1 h2; simp only [isqF]; exact ⟨h1, by simpa using h2⟩
  | succ k ih =>
    intro r h1 h2
    rw [isqF]
    rw [Nat.pow_succ] at h2
    split
    · rename_i h; exact ih _ h (by rw [show r + 2 ^ k + 2 ^ k = r + 2 ^ k * 2 by omega]; exact h2)
    · rename_i h; exact ih _ h1 (by omega)

theorem isq_spec {n : Nat} (h : n < 2 ^ 54) : isq n * isq n ≤ n ∧ n < (isq n + 1) * (isq n + 1) :=
  isqF_spec n 27 0 (Nat.zero_le _) (by simp; omega)

theorem sq_lt {a b : Nat} (h : a * a < b * b) : a < b := by
  by_cases hc : b ≤ a
  · exact absurd (Nat.mul_le_mul hc hc) (by omega)
  · omega

theorem isq_unique {n r : Nat} (h : n < 2 ^ 54) (h1 : r * r ≤ n) (h2 : n < (r + 1) * (r + 1)) : r = isq n := by
  obtain ⟨g1, g2⟩ := isq_spec h
  have := sq_lt (Nat.lt_of_le_of_lt h1 g2)
  have := sq_lt (Nat.lt_of_le_of_lt g1 h2)
  omega

set_option maxHeartbeats 1000000 in
theorem root_PU (n : Nat) (hn : n < 2 ^ 50) : PU f_allowance_root [.int .i64 n] = some (.int .i64 (isq n)) := by
  obtain ⟨y, r0, h1, h2, h3, h4⟩ := sqrt_near n (by omega)
  refine PU_of (fn := k_allowance_root) rfl (startI ?_)
  refine go 800 rfl ?_
  refine atCall rfl rfl (Sqrt_PU h1) ?_
  refine go 800 rfl ?_
  refine atCvF rfl h2 ⟨by have : IntKind.i64.min = -9223372036854775808 := rfl; omega, by have : IntKind.i64.max = 9223372036854775807 := rfl; omega⟩ ?_
  refine go 800 rfl ?_
  obtain ⟨a, rfl⟩ : ∃ a : Nat, r0 = a := ⟨r0.toNat, by omega⟩
  refine atLoop (S := fun r : Nat => ([encInt n, encInt r], [none, none], [0, 0])) (C := fun r => r ≤ 268435456) (m := fun r => r) a (by omega) (by omega) ?_ ?_
  · exact settleI rfl trivial (by simp [encInt])
  intro r hr N hN
  have wr : IntKind.i64.wrap ((r : Int) * r) = ((r * r : Nat) : Int) := by
    have hb : r * r ≤ 268435456 * 268435456 := Nat.mul_le_mul hr hr
    rw [← Int.natCast_mul]; exact wrap_nat (by omega)
  refine go 800 rfl ?_
  rw [wr]
  refine atCond rfl (fun g1 => ?_) (fun g1 => ?_)
  · rw [ltb_iff] at g1
    have hr0 : r ≠ 0 := by rintro rfl; simp at g1; omega
    have w1 : IntKind.i64.wrap ((r : Int) - 1) = ((r - 1 : Nat) : Int) := by rw [wrap64 (by omega) (by omega)]; omega
    refine go 800 rfl ?_
    refine atEnd ?_
    exact hN (r - 1) (by omega) (by omega) (settleI rfl trivial (by simp [encInt, w1]))
  rw [ltb_not] at g1
  have g1' : r * r ≤ n := by omega
  clear hN
  refine go 800 rfl ?_
  refine atEnd ?_
  refine go 800 rfl ?_
  refine atLoop (S := fun r : Nat => ([encInt n, encInt r], [none, none], [0, 0])) (C := fun r => r * r ≤ n) (m := fun r => n - r) r g1' (by omega) ?_ ?_
  · exact settleI rfl trivial (by simp [encInt])
  intro r hr N hN
  have hrl : r < 33554432 := sq_lt (by omega)
  have w1 : IntKind.i64.wrap ((r : Int) + 1) = ((r + 1 : Nat) : Int) := wrap64 (by omega) (by omega)
  have w2 : IntKind.i64.wrap (((r + 1 : Nat) : Int) * ((r + 1 : Nat) : Int)) = (((r + 1) * (r + 1) : Nat) : Int) := by
    have hb : (r + 1) * (r + 1) ≤ 33554432 * 33554432 := Nat.mul_le_mul hrl hrl
    rw [← Int.natCast_mul]; exact wrap_nat (by omega)
  refine go 800 rfl ?_
  rw [w1, w2]
  refine atCond rfl (fun g2 => ?_) (fun g2 => ?_)
  · rw [leb_iff] at g2
    have g2' : (r + 1) * (r + 1) ≤ n := by omega
    have hlt : r < n := by
      have : (r + 1) * 1 ≤ (r + 1) * (r + 1) := Nat.mul_le_mul_left _ (by omega)
      omega
    refine go 800 rfl ?_
    refine atEnd ?_
    exact hN (r + 1) g2' (by omega) (settleI rfl trivial (by simp [encInt, w1]))
  rw [leb_not] at g2
  refine go 800 rfl ?_
  refine atEnd ?_
  refine go 800 rfl ?_
  refine finI rfl rfl rfl trivial ?_
  rw [isq_unique (n := n) (r := r) (by omega) hr (by omega)]

end Go.F

/- Allowances: the shifts. -/
namespace Go.F
attribute [local irreducible] IntKind.wrap wpM

/- rows that are filled from the front -/
def fillL {α : Type} (d : α) (n : Nat) (f : Nat → α) (k : Nat) : List α := (List.range n).map fun i => if i < k then f i else d

theorem fill_zero {α : Type} (d : α) (n : Nat) (f : Nat → α) : fillL d n f 0 = List.replicate n d := by
  unfold fillL
  apply List.ext_getElem <;> simp

theorem fill_full {α : Type} (d : α) (n : Nat) (f : Nat → α) : fillL d n f n = (List.range n).map f := by
  unfold fillL
  refine List.map_congr_left fun i hi => ?_
  rw [if_pos (List.mem_range.1 hi)]

theorem fill_len {α : Type} (d : α) (n : Nat) (f : Nat → α) (k : Nat) : (fillL d n f k).length = n := by simp [fillL]

theorem fill_set {α : Type} (d : α) {n : Nat} (f : Nat → α) {k : Nat} (h : k < n) : (fillL d n f k).set k (f k) = fillL d n f (k + 1) := by
  unfold fillL
  apply List.ext_getElem
  · simp
  · intro i h1 h2
    simp only [List.length_set, List.length_map, List.length_range] at h1
    rw [List.getElem_set]
    by_cases hik : k = i
    · subst hik; simp
    · rw [if_neg hik]
      simp only [List.getElem_map, List.getElem_range]
      by_cases h3 : i < k
      · rw [if_pos h3, if_pos (by omega)]
      · rw [if_neg h3, if_neg (by omega)]

section
variable {T : Tab} {sh : Shr} {nx0 : Nat} {s : List Fr} {t : Tmps} {h : Heap} {z : Frz} {nx : Nat} {q : Ex → Tmps → Heap → Frz → Nat → Prop}
variable {base i : Nat} {res : List Nat} {g : Gd} {rest : List KOper}

/- an element of a row that is an aggregate -/
theorem atStoreE {α : Type} {enc : α → D} {hint : Bool} {a v : X} {dst : Option Nat} {id k' n : Nat} (L : List α) (k : Nat) (w : α) (ha : a.ev t = .ptr id k' 0) (hv : v.ev t = enc w) (hkk : k' = k)
    (hn : (Nat.beq (enc w).cells.length n && (enc w).sto) = true) (hs : ∀ x : α, dsetCells (enc x) 0 (enc w).cells = some (enc w))
    (hr : g.h base h id = some (.row (L.map enc) n)) (hz : g.z base z id ≤ k) (hl : k < L.length)
    (hk : wpM T sh nx0 (.ops base res rest :: s) .normal (put t dst (.tup [])) (upd h id (some (.row ((L.set k w).map enc) n))) z nx q) :
    wpM T sh nx0 (.ops base res (⟨i, dst, none, g, .store hint n a v⟩ :: rest) :: s) .normal t h z nx q := by
  subst hkk
  refine atStoreR (e := enc L[k']) (e' := enc w) ha (by rw [hv]; exact hn) hr hz (map_get hl) (by rw [hv]; exact hs _) ?_
  rw [← List.map_set]
  exact hk
end

/- the shift of a segment -/
def sqd (a b : Spot) : Nat := ((b.x - a.x) * (b.x - a.x) + (b.y - a.y) * (b.y - a.y)).toNat

def shiftS (a b : Spot) (w : Int) : Spot := ⟨rndI (w * (b.y - a.y)) (isq (sqd a b)), rndI (-w * (b.x - a.x)) (isq (sqd a b))⟩

def shiftAt (p : List Spot) (each : List Int) (sign : Int) (i : Nat) : Spot := shiftS (pt p i) (pt p ((i + 1) % p.length)) (sign * wd each i)

def shiftsL (p : List Spot) (each : List Int) (sign : Int) : List Spot := (List.range p.length).map (shiftAt p each sign)

def badW (w : Int) : Bool := decide (w < 0) || decide (500 < w)

def shiftsP (l : List Edge) (ws : List Int) : List Spot × Int :=
  if checkO l = 0 then
    if ws.length = l.length then
      if ws.any badW then ([], 3) else (shiftsL (verts l) (segW l ws l.length) (sgn (area2P (verts l))), 0)
    else ([], 1)
  else ([], checkO l)

def encRes (r : List Spot × Int) : D := .tup [spots r.1, .int .i64 r.2]

theorem sqd_eq (a b : Spot) : ((sqd a b : Nat) : Int) = (b.x - a.x) * (b.x - a.x) + (b.y - a.y) * (b.y - a.y) := by
  unfold sqd
  have h1 := sq_nonneg (b.x - a.x)
  have h2 := sq_nonneg (b.y - a.y)
  omega

theorem sqd_lt (a b : Spot) [OkS a] [OkS b] : sqd a b < 2 ^ 50 := by
  have e := sqd_eq a b
  have hb : Bd ((b.x - a.x) * (b.x - a.x) + (b.y - a.y) * (b.y - a.y)) _ := inferInstance
  have := hb.le
  omega

theorem sq_pos {x : Int} (h : x ≠ 0) : 0 < x * x := by
  rcases Int.lt_or_gt_of_ne h with h | h
  · have := Int.mul_pos (show 0 < -x by omega) (show 0 < -x by omega)
    rwa [Int.neg_mul_neg] at this
  · exact Int.mul_pos h h

theorem sqd_pos {a b : Spot} (h : a ≠ b) : 0 < sqd a b := by
  have e := sqd_eq a b
  have h1 := sq_nonneg (b.x - a.x)
  have h2 := sq_nonneg (b.y - a.y)
  by_cases hx : b.x - a.x = 0
  · have hy : b.y - a.y ≠ 0 := fun hy => h (by cases a; cases b; simp at hx hy ⊢; omega)
    have := sq_pos hy
    omega
  · have := sq_pos hx
    omega

theorem isq_pos {n : Nat} (h : n < 2 ^ 54) (h0 : 0 < n) : 0 < isq n := by
  obtain ⟨_, h2⟩ := isq_spec h
  by_cases hc : isq n = 0
  · rw [hc] at h2; omega
  · omega

theorem isq_le {n : Nat} (h : n < 2 ^ 50) : isq n < 33554432 := by
  obtain ⟨h1, _⟩ := isq_spec (n := n) (by omega)
  exact sq_lt (by omega)

theorem simple_ne {p : List Spot} (hs : SimpleP p) (h2 : 2 ≤ p.length) {i : Nat} (hi : i < p.length) : pt p i ≠ pt p ((i + 1) % p.length) := by
  intro he
  by_cases hl : i + 1 < p.length
  · rw [Nat.mod_eq_of_lt hl] at he
    refine hs.1 (i + 1) hl ?_
    rw [← he, pt_get hi]
    exact List.mem_iff_getElem.2 ⟨i, by simp; omega, by simp⟩
  · have : i + 1 = p.length := by omega
    rw [this, Nat.mod_self] at he
    refine hs.1 i hi ?_
    rw [he, pt_get (by omega)]
    exact List.mem_iff_getElem.2 ⟨0, by simp; omega, by simp⟩

theorem segW_mem (l : List Edge) (ws : List Int) : ∀ k, k ≤ ws.length → ∀ x ∈ segW l ws k, x ∈ ws := by
  intro k
  induction k with
  | zero => intro _ x hx; simp [segW] at hx
  | succ k ih =>
    intro hk x hx
    rw [segW, List.mem_append] at hx
    rcases hx with hx | hx
    · exact ih (by omega) x hx
    · rw [(List.mem_replicate.1 hx).2]
      have : wd ws k = ws[k] := by simp [wd, show k < ws.length by omega]
      rw [this]; exact List.getElem_mem _

theorem badW_not {w : Int} (h : badW w = false) : 0 ≤ w ∧ w ≤ 500 := by simp [badW] at h; omega

theorem rndI_bd {a b : Int} {m : Nat} (hb : 0 < b) (h1 : -(m : Int) ≤ a) (h2 : a ≤ m) : -(m : Int) ≤ rndI a b ∧ rndI a b ≤ m := by
  have key : ∀ x : Int, 0 ≤ x → x ≤ m → 0 ≤ (2 * x + b) / (2 * b) ∧ (2 * x + b) / (2 * b) ≤ m := by
    intro x h0 hx
    refine ⟨Int.ediv_nonneg (by omega) (by omega), ?_⟩
    by_cases hx0 : x = 0
    · subst hx0; rw [Int.ediv_eq_zero_of_lt (by omega) (by omega)]; omega
    · have h4 : 2 * x + b < (x + 1) * (2 * b) := by
        have : x * (2 * b) ≥ x * 2 := Int.mul_le_mul_of_nonneg_left (by omega) h0
        rw [Int.add_mul]; omega
      have := Int.ediv_lt_of_lt_mul (by omega) h4
      omega
  unfold rndI
  split
  · have := key (-a) (by omega) (by omega); omega
  · have := key a (by omega) (by omega); omega

set_option maxHeartbeats 4000000 in
theorem Shifts_PU (l : List Edge) (ws : List Int) :
    PU f_allowance_Shifts [edges l, ints ws] = some (encRes (shiftsP l ws)) := by
  have hpoly := outline_Polygon_PU l
  refine PU_of (fn := k_allowance_Shifts) rfl (startI ?_)
  refine go 800 rfl ?_
  by_cases hc : ¬ checkO l = 0
  · rw [polyO, if_neg hc] at hpoly
    refine atCall rfl rfl hpoly ?_
    refine go 800 rfl ?_
    refine atCond rfl (fun g => ?_) (fun g => ?_)
    · refine go 800 rfl ?_
      refine finI rfl rfl rfl trivial ?_
      rw [shiftsP, if_neg hc]; rfl
    · rw [nqb_not] at g; exact absurd g hc
  have hc : checkO l = 0 := Classical.byContradiction hc
  rw [polyO, if_pos hc] at hpoly
  rw [shiftsP, if_pos hc]
  obtain ⟨h2, h16, _, _, hchk⟩ := checkO_ok hc
  obtain ⟨v3, v40, vok, vin, vs⟩ := checkP_ok hchk
  have hl1 : ∀ e ∈ l, 1 ≤ e.line.length ∧ e.line.length ≤ 100000 := fun e he => by have := checkO_lines hc e he; omega
  refine atCall rfl rfl hpoly ?_
  refine go 800 rfl ?_
  refine atCond rfl (fun g => ?_) (fun g => ?_)
  · rw [nqb_iff] at g; exact absurd rfl g
  refine go 800 rfl ?_
  rw [List.length_map, List.length_map]
  refine atCond rfl (fun g => ?_) (fun g => ?_)
  · rw [nqb_iff] at g
    refine go 800 rfl ?_
    refine finI rfl rfl rfl trivial ?_
    rw [if_neg (by omega)]; rfl
  rw [nqb_not] at g
  have hwl : ws.length = l.length := by omega
  rw [if_pos hwl]
  refine go 800 rfl ?_
  refine atLoop (S := fun k : Nat => ([edges l, ints ws, spots (verts l), ints ws, encInt ws.length, encInt k], [none, none, none, none, none, none], [0, 0, 0, 0, 0, 0])) (C := fun k => k ≤ ws.length ∧ ∀ i (hi : i < ws.length), i < k → badW ws[i] = false) (m := fun k => ws.length - k) 0 ⟨Nat.zero_le _, fun i hi h => by omega⟩ (by omega) ?_ ?_
  · exact settleI rfl trivial (by simp [edges, ints, spots, encInt])
  intro k ⟨hk, hall⟩ N hN
  refine go 800 rfl ?_
  refine atCond rfl (fun g1 => ?_) (fun g1 => ?_)
  · rw [ltb_iff] at g1
    have hlt : k < ws.length := by omega
    have w1 : IntKind.i64.wrap ((k : Int) + 1) = ((k + 1 : Nat) : Int) := wrap64 (by omega) (by omega)
    have yes : badW ws[k] = false → ∀ {t : Tmps} {h : Heap} {z : Frz} {nx : Nat}, (wsettle 0 [(0, 0), (1, 0), (6, 0), (33, 0), (34, 0), (35, 0)] t h z nx fun _ _ kp => kp = ([edges l, ints ws, spots (verts l), ints ws, encInt ws.length, encInt ((k + 1 : Nat) : Int)], [none, none, none, none, none, none], [0, 0, 0, 0, 0, 0])) → N t h z nx := by
      intro hb t h z nx hst
      refine hN (k + 1) ⟨by omega, fun i hi hik => ?_⟩ (by omega) hst
      by_cases hik' : i < k
      · exact hall i hi hik'
      · obtain rfl : i = k := by omega
        exact hb
    have no : badW ws[k] = true → ws.any badW = true := fun hb => List.any_eq_true.2 ⟨_, List.getElem_mem hlt, hb⟩
    clear hN
    refine go 800 rfl ?_
    refine atIdx k rfl rfl rfl (map_get hlt) rfl ?_
    refine go 800 rfl ?_
    refine atGuard rfl (fun e1 => ?_) (fun e1 => ?_)
    · rw [ltb_iff] at e1
      refine go 800 rfl ?_
      refine atCondT rfl ?_
      refine go 800 rfl ?_
      refine atEnd ?_
      refine go 800 rfl ?_
      refine finI rfl rfl rfl trivial ?_
      rw [if_pos (no (by simp [badW, e1]))]; rfl
    · rw [ltb_not] at e1
      refine go 800 rfl ?_
      refine atCond rfl (fun e2 => ?_) (fun e2 => ?_)
      · rw [ltb_iff] at e2
        refine go 800 rfl ?_
        refine atEnd ?_
        refine go 800 rfl ?_
        refine finI rfl rfl rfl trivial ?_
        rw [if_pos (no (by simp [badW, e2]))]; rfl
      · rw [ltb_not] at e2
        refine go 800 rfl ?_
        refine atEnd ?_
        exact yes (by simp [badW]; omega) (settleI rfl trivial (by simp [edges, ints, spots, encInt, w1]))
  rw [ltb_not] at g1
  clear hN
  have hgood : ws.any badW = false := by
    rw [List.any_eq_false]
    intro x hx
    obtain ⟨i, hi, rfl⟩ := List.getElem_of_mem hx
    rw [hall i hi (by omega)]; decide
  rw [if_neg (by rw [hgood]; decide)]
  have hgood' : ∀ x ∈ ws, 0 ≤ x ∧ x ≤ 500 := fun x hx => badW_not (by
    cases hb : badW x with
    | false => rfl
    | true => rw [List.any_eq_true.2 ⟨x, hx, hb⟩] at hgood; cases hgood)
  have hseg := segW_len l ws l.length (Nat.le_refl _)
  rw [List.take_length] at hseg
  refine go 800 rfl ?_
  refine atEnd ?_
  refine go 800 rfl ?_
  refine atCall rfl rfl (orientation_PU (verts l)) ?_
  refine go 800 rfl ?_
  refine atCall rfl rfl (segmentWidths_PU l ws (by omega) hl1 (by omega) (by omega)) ?_
  refine go 800 rfl ?_
  have heb : ∀ i, 0 ≤ wd (segW l ws l.length) i ∧ wd (segW l ws l.length) i ≤ 500 := by
    intro i
    by_cases hi : i < (segW l ws l.length).length
    · have : wd (segW l ws l.length) i = (segW l ws l.length)[i] := by simp [wd, hi]
      rw [this]; exact hgood' _ (segW_mem l ws l.length (by omega) _ (List.getElem_mem _))
    · have : wd (segW l ws l.length) i = 0 := by simp [wd, List.getElem?_eq_none (Nat.le_of_not_lt hi)]
      rw [this]; decide
  generalize hv : verts l = v at *
  generalize segW l ws l.length = each at *
  have hsb : -1 ≤ sgn (area2P v) ∧ sgn (area2P v) ≤ 1 := by have := (sgn_bd (area2P v)).le; omega
  generalize sgn (area2P v) = sg at *
  rw [List.length_map]
  refine atMake v.length rfl rfl rfl (by simp [limit]; omega) ?_
  have ez : List.replicate v.length (D.agg [D.int IntKind.i64 0, D.int IntKind.i64 0]) = (fillL ⟨0, 0⟩ v.length (shiftAt v each sg) 0).map Spot.enc := by
    rw [fill_zero]; simp [Spot.enc]
  rw [ez]
  refine go 800 rfl ?_
  refine atLoop (S := fun k : Nat => ([spots v, .int .i64 sg, ints each, .ref 3 0 v.length, spots v, encInt v.length, encInt k], [none, none, none, some (.row ((fillL ⟨0, 0⟩ v.length (shiftAt v each sg) k).map Spot.enc) 2), none, none, none], [0, 0, 0, 0, 0, 0, 0])) (C := fun k => k ≤ v.length) (m := fun k => v.length - k) 0 (Nat.zero_le _) (by omega) ?_ ?_
  · exact settleI rfl ⟨all_plain spot_plain _, trivial⟩ (by simp [spots, ints, encInt])
  intro k hk N hN
  refine go 800 rfl ?_
  refine atCond rfl (fun g2 => ?_) (fun g2 => ?_)
  · rw [ltb_iff] at g2
    have hlt : k < v.length := by omega
    have w1 : IntKind.i64.wrap ((k : Int) + 1) = ((k + 1 : Nat) : Int) := wrap64 (by omega) (by omega)
    have hne := simple_ne vs (by omega) hlt
    have heb := heb k
    have hsq := sqd_lt (pt v k) (pt v ((k + 1) % v.length))
    have hsp := sqd_pos hne
    have hir := isq_pos (n := sqd (pt v k) (pt v ((k + 1) % v.length))) (by omega) hsp
    have hil := isq_le hsq
    have hse := sqd_eq (pt v k) (pt v ((k + 1) % v.length))
    have hset := fill_set ⟨0, 0⟩ (shiftAt v each sg) hlt
    have hsh : shiftAt v each sg k = ⟨rndI (sg * wd each k * ((pt v ((k + 1) % v.length)).y - (pt v k).y)) (isq (sqd (pt v k) (pt v ((k + 1) % v.length)))), rndI (-(sg * wd each k) * ((pt v ((k + 1) % v.length)).x - (pt v k).x)) (isq (sqd (pt v k) (pt v ((k + 1) % v.length))))⟩ := rfl
    have bx : Bd ((pt v ((k + 1) % v.length)).x - (pt v k).x) 8388608 := inferInstance
    have by' : Bd ((pt v ((k + 1) % v.length)).y - (pt v k).y) 8388608 := inferInstance
    have c1 : IntKind.i64.wrap ((pt v ((k + 1) % v.length)).x - (pt v k).x) = (pt v ((k + 1) % v.length)).x - (pt v k).x := wrap_bd (by decide)
    have c2 : IntKind.i64.wrap ((pt v ((k + 1) % v.length)).y - (pt v k).y) = (pt v ((k + 1) % v.length)).y - (pt v k).y := wrap_bd (by decide)
    have bw : Bd (wd each k) 500 := ⟨by omega⟩
    have bs : Bd sg 1 := ⟨by omega⟩
    have c3 : IntKind.i64.wrap (sg * wd each k) = sg * wd each k := wrap_bd (by decide)
    generalize hdx : (pt v ((k + 1) % v.length)).x - (pt v k).x = dx at *
    generalize hdy : (pt v ((k + 1) % v.length)).y - (pt v k).y = dy at *
    generalize hw' : sg * wd each k = w at *
    have bw' : Bd w 500 := by rw [← hw']; exact ⟨Nat.le_trans (bdMul (a := bs) (b := bw)).le (by decide)⟩
    have c4 : IntKind.i64.wrap (dx * dx) = dx * dx := wrap_bd (by decide)
    have c5 : IntKind.i64.wrap (dy * dy) = dy * dy := wrap_bd (by decide)
    have c6 : IntKind.i64.wrap (dx * dx + dy * dy) = ((sqd (pt v k) (pt v ((k + 1) % v.length)) : Nat) : Int) := by rw [hse]; exact wrap_bd (by decide)
    have c7 : IntKind.i64.wrap (w * dy) = w * dy := wrap_bd (by decide)
    have c8 : IntKind.i64.wrap (0 - w) = -w := by rw [wrap64 (by have := bw'.le; omega) (by have := bw'.le; omega)]; omega
    have c9 : IntKind.i64.wrap (-w * dx) = -w * dx := wrap_bd (by decide)
    have b7 : Bd (w * dy) _ := bdMul
    have b9 : Bd (-w * dx) _ := bdMul
    have l7 := b7.le
    have l9 := b9.le
    refine go 800 rfl ?_
    refine atIdx k rfl rfl rfl (pt_enc hlt) rfl ?_
    refine go 800 rfl ?_
    refine atRem rfl rfl (by rw [List.length_map]; omega) ?_
    refine go 800 rfl ?_
    refine atIdx ((k + 1) % v.length) rfl rfl (by rw [w1, List.length_map, tmod_nat]) (pt_enc (Nat.mod_lt _ (by omega))) rfl ?_
    refine go 800 rfl ?_
    refine atIdx k rfl rfl rfl (wd_enc (by omega)) rfl ?_
    refine go 800 rfl ?_
    rw [hdx, hdy, c1, c2, hw', c3, c4, c5, c6]
    refine atCall rfl rfl (root_PU _ hsq) ?_
    refine go 800 rfl ?_
    rw [c7]
    refine atCall rfl rfl (rounded_PU (w * dy) _ (by omega) (by omega) (by omega) (by omega)) ?_
    refine go 800 rfl ?_
    rw [c8, c9]
    refine atCall rfl rfl (rounded_PU (-w * dx) _ (by omega) (by omega) (by omega) (by omega)) ?_
    refine go 800 rfl ?_
    refine atIdxR k rfl rfl rfl rfl rfl hlt ?_
    refine go 800 rfl ?_
    refine atStoreE (enc := Spot.enc) (fillL ⟨0, 0⟩ v.length (shiftAt v each sg) k) k (shiftAt v each sg k) rfl (by rw [hsh]; rfl) (Nat.zero_add _) rfl (fun _ => rfl) rfl (Nat.zero_le _) (by rw [fill_len]; exact hlt) ?_
    rw [hset]
    refine go 800 rfl ?_
    refine atEnd ?_
    exact hN (k + 1) hlt (by omega) (settleI rfl ⟨all_plain spot_plain _, trivial⟩ (by simp [spots, ints, encInt, w1]))
  rw [ltb_not] at g2
  obtain rfl : k = v.length := by omega
  refine go 800 rfl ?_
  refine atEnd ?_
  refine go 800 rfl ?_
  refine finI rfl rfl rfl ⟨datRow (by simp [fill_len]) (all_dat spot_dat _), trivial⟩ ?_
  rw [rowAll (by simp [fill_len]), fill_full]; rfl
end Go.F

/- Allowances: corners. -/
namespace Go.F
attribute [local irreducible] IntKind.wrap wpM

def addS (a b : Spot) : Spot := ⟨a.x + b.x, a.y + b.y⟩
def qp (s : Spot) : QP := ⟨s.x, s.y⟩

/- coordinates that are no more than moderate -/
class MidS (s : Spot) : Prop where
  bx : s.x.natAbs ≤ 1099511627776
  byy : s.y.natAbs ≤ 1099511627776

instance midOk {s : Spot} [h : OkS s] : MidS s := ⟨by have := h.bx; omega, by have := h.byy; omega⟩
instance (priority := 100) midX {s : Spot} [h : MidS s] : Bd s.x 1099511627776 := ⟨h.bx⟩
instance (priority := 100) midY {s : Spot} [h : MidS s] : Bd s.y 1099511627776 := ⟨h.byy⟩

instance qbQx {s : Spot} [h : MidS s] : QPB (qp s) 2 := ⟨qb_int (by have := h.bx; omega) (by have := h.bx; omega), qb_int (by have := h.byy; omega) (by have := h.byy; omega)⟩

theorem exact_PU (s : Spot) [h : MidS s] : PU f_allowance_exact [s.enc] = some (encP (qp s)) := by
  have h1 := h.bx
  have h2 := h.byy
  refine PU_of (fn := k_allowance_exact) rfl (startI ?_)
  refine go 800 rfl ?_
  refine atCall rfl rfl (point_Of_PU s.x s.y (by omega) (by omega) (by omega) (by omega)) ?_
  refine go 800 rfl ?_
  exact finI rfl rfl rfl trivial rfl

theorem sum_PU (a b : Spot) [MidS a] [MidS b] : PU f_allowance_sum [a.enc, b.enc] = some (addS a b).enc := by
  have w1 : IntKind.i64.wrap (a.x + b.x) = a.x + b.x := wrap_bd (by decide)
  have w2 : IntKind.i64.wrap (a.y + b.y) = a.y + b.y := wrap_bd (by decide)
  refine PU_of (fn := k_allowance_sum) rfl (startI ?_)
  refine go 800 rfl ?_
  refine finI rfl rfl rfl trivial ?_
  rw [w1, w2]; rfl

theorem allowance_within_PU (s : Spot) (m : Int) (h0 : 0 ≤ m) (h1 : m ≤ 1099511627776) : PU f_allowance_within [s.enc, .int .i64 m] = some (.bool (withinS s m)) := by
  have w : IntKind.i64.wrap (0 - m) = -m := by rw [wrap64 (by omega) (by omega)]; omega
  refine PU_of (fn := k_allowance_within) rfl (startI ?_)
  refine go 800 rfl ?_
  rw [w]
  repeat' (first
    | (refine goP 800 rfl rfl ?_)
    | (show wpM _ _ _ (Fr.ops _ _ (KOper.mk _ _ (some _) _ _ :: _) :: _) Ex.normal _ _ _ _ _; first | refine atGuardT rfl ?_ | refine atGuardF rfl ?_ | refine atGuard rfl (fun _ => ?_) (fun _ => ?_))
    | (show wpM _ _ _ (Fr.code (K.cond _ _ _) :: _) Ex.normal _ _ _ _ _; first | refine atCondT rfl ?_ | refine atCondF rfl ?_ | refine atCond rfl (fun _ => ?_) (fun _ => ?_))
    | (show wpM _ _ _ (Fr.ops _ _ (KOper.mk _ _ none _ (KOp.pick _ _ _) :: _) :: _) Ex.normal _ _ _ _ _; refine atPick rfl (fun _ => ?_) (fun _ => ?_))
    | (show wpM _ _ _ [] _ _ _ _ _ _; refine finI rfl rfl rfl trivial ?_))
  all_goals simp only [w] at *
  all_goals ((try simp only [ltb_eq, leb_eq, eqb_eq, nqb_eq, decide_eq_true_eq, decide_eq_false_iff_not, Bool.not_eq_true, Bool.not_eq_false, Int.not_lt, Int.not_le] at *); first | (simp_all [withinS]; done) | (simp_all [withinS]; omega) | (rw [D.bool.injEq, Bool.eq_iff_iff]; simp [withinS]; omega) | (rw [D.bool.injEq, Bool.eq_iff_iff]; simp_all [withinS]; omega) | (simp [withinS]; split <;> (try split) <;> omega))

structure Seg where
  fr : Spot
  to : Spot
  w : Int

def Seg.enc (s : Seg) : D := .agg [.int .i64 s.fr.x, .int .i64 s.fr.y, .int .i64 s.to.x, .int .i64 s.to.y, .int .i64 s.w]

class SegOk (s : Seg) : Prop where
  fr : MidS s.fr
  to : MidS s.to
  w0 : 0 ≤ s.w
  w1 : s.w ≤ 500

instance {s : Seg} [h : SegOk s] : MidS s.fr := h.fr
instance {s : Seg} [h : SegOk s] : MidS s.to := h.to

def cornerS (v : Spot) (a b : Seg) : List Spot :=
  match meetQ (qp a.fr) (qp a.to) (qp b.fr) (qp b.to) with
  | none => [a.to, b.fr]
  | some m =>
    if (gridQ (subP m (qp v))).2 = 0 ∧ withinS (gridQ (subP m (qp v))).1 (4 * max a.w b.w + 4) = true then [addS v (gridQ (subP m (qp v))).1] else [a.to, b.fr]

theorem grid_mid (p : QP) : MidS (gridQ p).1 := by
  unfold gridQ
  split
  · rename_i h
    rw [Bool.and_eq_true, inGrid_iff, inGrid_iff] at h
    exact ⟨by simp only; omega, by simp only; omega⟩
  · exact ⟨by simp, by simp⟩

theorem datSpots {l : List Spot} {n : Nat} (hn : n = l.length) : 0 + n ≤ (l.map Spot.enc).length ∧ (((l.map Spot.enc).drop 0).take n).all (dat 4) = true := by
  subst hn
  refine ⟨by simp, ?_⟩
  rw [List.drop_zero, List.take_of_length_le (by simp)]
  exact all_dat spot_dat _

set_option maxHeartbeats 1000000 in
theorem corner_PU (v : Spot) (a b : Seg) [hv : MidS v] [ha : SegOk a] [hb : SegOk b] : PU f_allowance_corner [v.enc, a.enc, b.enc] = some (spots (cornerS v a b)) := by
  have hm := point_Meet_PU (RP.of (qp a.fr)) (RP.of (qp a.to)) (RP.of (qp b.fr)) (RP.of (qp b.to)) (by decide)
  rw [RP.of_v, RP.of_v, RP.of_v, RP.of_v] at hm
  have a0 := ha.w0
  have a1 := ha.w1
  have b0 := hb.w0
  have b1 := hb.w1
  refine PU_of (fn := k_allowance_corner) rfl (startI ?_)
  refine go 800 rfl ?_
  refine atCall rfl rfl (exact_PU a.fr) ?_
  refine go 800 rfl ?_
  refine atCall rfl rfl (exact_PU a.to) ?_
  refine go 800 rfl ?_
  refine atCall rfl rfl (exact_PU b.fr) ?_
  refine go 800 rfl ?_
  refine atCall rfl rfl (exact_PU b.to) ?_
  refine go 800 rfl ?_
  cases hq : meetQ (qp a.fr) (qp a.to) (qp b.fr) (qp b.to) with
  | none =>
    rw [hq] at hm
    refine atCall rfl rfl hm ?_
    refine go 800 rfl ?_
    refine atCond rfl (fun g => ?_) (fun g => ?_)
    · rw [eqb_iff] at g; cases g
    refine go 800 rfl ?_
    refine finI rfl rfl rfl ⟨datSpots (l := [a.to, b.fr]) rfl, trivial⟩ ?_
    rw [cornerS, hq]; rfl
  | some m =>
    rw [hq] at hm
    have hqm : QPB m 50 := by
      unfold meetQ at hq
      split at hq
      · cases hq
      · cases hq; exact inferInstance
    have hsub := point_Sub_PU (RP.of m) (RP.of (qp v)) (by decide) (by decide)
    rw [RP.of_v, RP.of_v] at hsub
    have hgr := Grid_PU (RP.of (subP m (qp v))) (by decide)
    rw [RP.of_v] at hgr
    have hgm := grid_mid (subP m (qp v))
    have hc : cornerS v a b = if (gridQ (subP m (qp v))).2 = 0 ∧ withinS (gridQ (subP m (qp v))).1 (4 * max a.w b.w + 4) = true then [addS v (gridQ (subP m (qp v))).1] else [a.to, b.fr] := by
      rw [cornerS, hq]
    rw [hc]
    generalize gridQ (subP m (qp v)) = gd at *
    have w1 : IntKind.i64.wrap (4 * max a.w b.w) = 4 * max a.w b.w := wrap64 (by omega) (by omega)
    have w2 : IntKind.i64.wrap (4 * max a.w b.w + 4) = 4 * max a.w b.w + 4 := wrap64 (by omega) (by omega)
    refine atCall rfl rfl hm ?_
    refine go 800 rfl ?_
    refine atCond rfl (fun _ => ?_) (fun g => absurd rfl (eqb_not.1 g))
    refine go 800 rfl ?_
    refine atCall rfl rfl (exact_PU v) ?_
    refine go 800 rfl ?_
    refine atCall rfl rfl hsub ?_
    refine go 800 rfl ?_
    refine atCall rfl rfl hgr ?_
    refine go 800 rfl ?_
    refine atGuard rfl (fun g1 => ?_) (fun g1 => ?_)
    · rw [eqb_iff] at g1
      refine go 800 rfl ?_
      rw [w1, w2]
      refine atCall rfl rfl (allowance_within_PU gd.1 (4 * max a.w b.w + 4) (by omega) (by omega)) ?_
      refine go 800 rfl ?_
      refine atCond rfl (fun g2 => ?_) (fun g2 => ?_)
      · refine go 800 rfl ?_
        refine atCall rfl rfl (sum_PU v gd.1) ?_
        refine go 800 rfl ?_
        refine finI rfl rfl rfl ⟨datSpots (l := [addS v gd.1]) rfl, trivial⟩ ?_
        rw [if_pos ⟨g1, g2⟩]; rfl
      · refine go 800 rfl ?_
        refine finI rfl rfl rfl ⟨datSpots (l := [a.to, b.fr]) rfl, trivial⟩ ?_
        rw [if_neg (fun h => by rw [h.2] at g2; cases g2)]; rfl
    · rw [eqb_not] at g1
      refine go 800 rfl ?_
      refine atCondF rfl ?_
      refine go 800 rfl ?_
      refine finI rfl rfl rfl ⟨datSpots (l := [a.to, b.fr]) rfl, trivial⟩ ?_
      rw [if_neg (fun h => g1 h.1)]; rfl
end Go.F

/- Allowances: Allow. -/
namespace Go.F
attribute [local irreducible] IntKind.wrap wpM

section
variable {T : Tab} {sh : Shr} {nx0 : Nat} {s : List Fr} {t : Tmps} {h : Heap} {z : Frz} {nx : Nat} {q : Ex → Tmps → Heap → Frz → Nat → Prop}
variable {base i : Nat} {res : List Nat} {g : Gd} {rest : List KOper}

theorem atLoadE {α : Type} {enc : α → D} {hint ag : Bool} {n : Nat} {a : X} {dst : Nat} {id k' esz : Nat} (L : List α) (k : Nat) (d : α) (ha : a.ev t = .ptr id k' 0) (hkk : k' = k) (hp : ∀ w : α, dpart ag n (enc w) 0 = some (enc w)) (hr : g.h base h id = some (.row (L.map enc) esz)) (hd : L[k]? = some d)
    (hk : wpM T sh nx0 (.ops base res rest :: s) .normal (upd t dst (enc d)) h z nx q) :
    wpM T sh nx0 (.ops base res (⟨i, some dst, none, g, .load hint ag n a⟩ :: rest) :: s) .normal t h z nx q := by
  subst hkk
  exact atLoadR ha hr (e := enc d) (by rw [List.getElem?_map, hd]; rfl) (hp d) hk
end

def segAt (v sh : List Spot) (each : List Int) (i : Nat) : Seg := ⟨addS (pt v i) (pt sh i), addS (pt v ((i + 1) % v.length)) (pt sh i), wd each i⟩

def cornerAt (v sh : List Spot) (each : List Int) (i : Nat) : List Spot := cornerS (pt v i) (segAt v sh each ((i + v.length - 1) % v.length)) (segAt v sh each i)

def cornersTo (v sh : List Spot) (each : List Int) : Nat → List Spot
  | 0 => []
  | k + 1 => cornersTo v sh each k ++ cornerAt v sh each k

def lastS (l : List Spot) : Spot := pt l (l.length - 1)

def pushS (out : List Spot) (p : Spot) : List Spot := if out.length = 0 ∨ lastS out ≠ p then out ++ [p] else out

def onceL (l : List Spot) : List Spot := l.foldl pushS []

def trimN (R : List Spot) : Nat → Nat
  | 0 => 0
  | j + 1 => if 1 ≤ j ∧ pt R j = pt R 0 then trimN R j else j + 1

def allowPts (v sh : List Spot) (each : List Int) : List Spot := (onceL (cornersTo v sh each v.length)).take (trimN (onceL (cornersTo v sh each v.length)) (onceL (cornersTo v sh each v.length)).length)

def allowQ (v q : List Spot) : List Spot × Int :=
  if q.any (fun s => !withinS s 1048576) then ([], 3)
  else if checkP q = 0 then if sgn (area2P q) = sgn (area2P v) then (q, 0) else ([], 11)
  else ([], checkP q)

def allowP (l : List Edge) (ws : List Int) : List Spot × Int :=
  if (shiftsP l ws).2 = 0 then allowQ (verts l) (allowPts (verts l) (shiftsP l ws).1 (segW l ws l.length)) else ([], (shiftsP l ws).2)

theorem seg_plain (s : Seg) : plain 4 s.enc = true := rfl

theorem cornerS_len (v : Spot) (a b : Seg) : (cornerS v a b).length ≤ 2 := by
  unfold cornerS
  split
  · simp
  · split <;> simp

theorem cornersTo_len (v sh : List Spot) (each : List Int) (k : Nat) : (cornersTo v sh each k).length ≤ 2 * k := by
  induction k with
  | zero => simp [cornersTo]
  | succ k ih =>
    have := cornerS_len (pt v k) (segAt v sh each ((k + v.length - 1) % v.length)) (segAt v sh each k)
    rw [cornersTo, List.length_append, cornerAt]; omega

theorem pushS_len (out : List Spot) (p : Spot) : (pushS out p).length ≤ out.length + 1 := by
  unfold pushS; split <;> simp

theorem foldl_len (l : List Spot) : ∀ out : List Spot, (l.foldl pushS out).length ≤ out.length + l.length := by
  induction l with
  | nil => intro out; simp
  | cons p l ih => intro out; have := ih (pushS out p); have := pushS_len out p; simp only [List.foldl_cons, List.length_cons]; omega

theorem trimN_le (R : List Spot) (j : Nat) : trimN R j ≤ j := by
  induction j with
  | zero => simp [trimN]
  | succ j ih => rw [trimN]; split <;> omega

theorem shiftsP_ok {l : List Edge} {ws : List Int} (h : (shiftsP l ws).2 = 0) : checkO l = 0 ∧ ws.length = l.length ∧ (∀ x ∈ ws, 0 ≤ x ∧ x ≤ 500) ∧ (shiftsP l ws).1 = shiftsL (verts l) (segW l ws l.length) (sgn (area2P (verts l))) := by
  unfold shiftsP at h ⊢
  split at h
  · rename_i h1
    split at h
    · rename_i h2
      split at h
      · cases h
      · rename_i h3
        refine ⟨h1, h2, fun x hx => badW_not ?_, by rw [if_pos h1, if_pos h2, if_neg h3]⟩
        cases hb : badW x with
        | false => rfl
        | true => exact absurd (List.any_eq_true.2 ⟨x, hx, hb⟩) h3
    · cases h
  · rename_i h1; exact absurd h h1

theorem segW_bd {l : List Edge} {ws : List Int} (hl : l.length ≤ ws.length) (hg : ∀ x ∈ ws, 0 ≤ x ∧ x ≤ 500) (i : Nat) : 0 ≤ wd (segW l ws l.length) i ∧ wd (segW l ws l.length) i ≤ 500 := by
  by_cases hi : i < (segW l ws l.length).length
  · have : wd (segW l ws l.length) i = (segW l ws l.length)[i] := by simp [wd, hi]
    rw [this]; exact hg _ (segW_mem l ws l.length hl _ (List.getElem_mem _))
  · have : wd (segW l ws l.length) i = 0 := by simp [wd, List.getElem?_eq_none (Nat.le_of_not_lt hi)]
    rw [this]; decide

/- shifts are no more than moderate -/
theorem shiftAt_bd {v : List Spot} [OkP v] {each : List Int} {sg : Int} (hs : -1 ≤ sg ∧ sg ≤ 1) (hw : ∀ i, 0 ≤ wd each i ∧ wd each i ≤ 500) (hsim : SimpleP v) (h2 : 2 ≤ v.length) {i : Nat} (hi : i < v.length) :
    (shiftAt v each sg i).x.natAbs ≤ 4294967296 ∧ (shiftAt v each sg i).y.natAbs ≤ 4294967296 := by
  have hne := simple_ne hsim h2 hi
  have hsq := sqd_lt (pt v i) (pt v ((i + 1) % v.length))
  have hir := isq_pos (n := sqd (pt v i) (pt v ((i + 1) % v.length))) (by omega) (sqd_pos hne)
  have hw := hw i
  have bw : Bd (wd each i) 500 := ⟨by omega⟩
  have bs : Bd sg 1 := ⟨by omega⟩
  have b1 : Bd (sg * wd each i * ((pt v ((i + 1) % v.length)).y - (pt v i).y)) _ := inferInstance
  have b2 : Bd (-(sg * wd each i) * ((pt v ((i + 1) % v.length)).x - (pt v i).x)) _ := inferInstance
  have l1 := b1.le
  have l2 := b2.le
  have r1 := rndI_bd (b := (isq (sqd (pt v i) (pt v ((i + 1) % v.length))) : Int)) (m := 4294967296) (by omega) (show -((4294967296 : Nat) : Int) ≤ sg * wd each i * ((pt v ((i + 1) % v.length)).y - (pt v i).y) by omega) (by omega)
  have r2 := rndI_bd (b := (isq (sqd (pt v i) (pt v ((i + 1) % v.length))) : Int)) (m := 4294967296) (by omega) (show -((4294967296 : Nat) : Int) ≤ -(sg * wd each i) * ((pt v ((i + 1) % v.length)).x - (pt v i).x) by omega) (by omega)
  exact ⟨by show (rndI _ _).natAbs ≤ _; omega, by show (rndI _ _).natAbs ≤ _; omega⟩

theorem pt_map {f : Nat → Spot} {n i : Nat} (h : i < n) : pt ((List.range n).map f) i = f i := by
  rw [pt_get (by simpa using h)]; simp

theorem take_pushS {c : List Spot} {j : Nat} (h : j < c.length) (out : List Spot) : (c.take (j + 1)).foldl pushS out = pushS ((c.take j).foldl pushS out) (pt c j) := by
  rw [List.take_succ_eq_append_getElem h, List.foldl_append, pt_get h]; rfl

set_option maxHeartbeats 8000000 in
theorem Allow_PU (l : List Edge) (ws : List Int) :
    PU f_allowance_Allow [edges l, ints ws] = some (encRes (allowP l ws)) := by
  have hpoly := outline_Polygon_PU l
  refine PU_of (fn := k_allowance_Allow) rfl (startI ?_)
  refine go 800 rfl ?_
  refine atCall rfl rfl (Shifts_PU l ws) ?_
  refine go 800 rfl ?_
  refine atCond rfl (fun g => ?_) (fun g => ?_)
  · rw [nqb_iff] at g
    refine go 800 rfl ?_
    refine finI rfl rfl rfl trivial ?_
    rw [allowP, if_neg g]; rfl
  rw [nqb_not] at g
  rw [allowP, if_pos g]
  obtain ⟨hc, hwl, hgood, hs1⟩ := shiftsP_ok g
  obtain ⟨h2, h16, _, _, hchk⟩ := checkO_ok hc
  obtain ⟨v3, v40, vok, vin, vs⟩ := checkP_ok hchk
  have hl1 : ∀ e ∈ l, 1 ≤ e.line.length ∧ e.line.length ≤ 100000 := fun e he => by have := checkO_lines hc e he; omega
  rw [polyO, if_pos hc] at hpoly
  have hseg := segW_len l ws l.length (Nat.le_refl _)
  rw [List.take_length] at hseg
  have heb := segW_bd (l := l) (by omega) hgood
  have hsw := segmentWidths_PU l ws (by omega) hl1 (by omega) (by omega)
  have hsb : -1 ≤ sgn (area2P (verts l)) ∧ sgn (area2P (verts l)) ≤ 1 := by have := (sgn_bd (area2P (verts l))).le; omega
  have hsl : (shiftsP l ws).1.length = (verts l).length := by rw [hs1]; simp [shiftsL]
  have hsb' : ∀ i, i < (verts l).length → (pt (shiftsP l ws).1 i).x.natAbs ≤ 4294967296 ∧ (pt (shiftsP l ws).1 i).y.natAbs ≤ 4294967296 := by
    intro i hi
    rw [hs1, shiftsL, pt_map hi]
    exact shiftAt_bd hsb heb vs (by omega) hi
  have hsm : ∀ i, i < (verts l).length → MidS (pt (shiftsP l ws).1 i) := by
    intro i hi
    rw [hs1, shiftsL, pt_map hi]
    have := shiftAt_bd hsb heb vs (by omega) hi
    exact ⟨by omega, by omega⟩
  generalize (shiftsP l ws).1 = sh at *
  generalize (shiftsP l ws).2 = e0 at *
  subst g
  refine go 800 rfl ?_
  refine atCall rfl rfl hpoly ?_
  refine go 800 rfl ?_
  refine atCond rfl (fun g => absurd rfl (nqb_iff.1 g)) (fun _ => ?_)
  refine go 800 rfl ?_
  refine atCall rfl rfl hsw ?_
  refine go 800 rfl ?_
  generalize segW l ws l.length = each at *
  generalize verts l = v at *
  have hok : ∀ i, i < v.length → SegOk (segAt v sh each i) := by
    intro i hi
    have hb := hsb' i hi
    have x1 := (okPt (p := v) (i := i)).bx
    have x2 := (okPt (p := v) (i := i)).byy
    have x3 := (okPt (p := v) (i := (i + 1) % v.length)).bx
    have x4 := (okPt (p := v) (i := (i + 1) % v.length)).byy
    refine ⟨⟨?_, ?_⟩, ⟨?_, ?_⟩, (heb i).1, (heb i).2⟩ <;> simp only [segAt, addS] <;> omega
  rw [List.length_map]
  refine atMake v.length rfl rfl rfl (by simp [limit]; omega) ?_
  have ez : List.replicate v.length (D.agg [D.int IntKind.i64 0, D.int IntKind.i64 0, D.int IntKind.i64 0, D.int IntKind.i64 0, D.int IntKind.i64 0]) = (fillL ⟨⟨0, 0⟩, ⟨0, 0⟩, 0⟩ v.length (segAt v sh each) 0).map Seg.enc := by
    rw [fill_zero]; simp [Seg.enc]
  rw [ez]
  refine go 800 rfl ?_
  refine atLoop (S := fun k : Nat => ([spots v, ints each, encInt v.length, .ref 3 0 v.length, spots sh, encInt v.length, encInt k], [none, none, none, some (.row ((fillL ⟨⟨0, 0⟩, ⟨0, 0⟩, 0⟩ v.length (segAt v sh each) k).map Seg.enc) 5), none, none, none], [0, 0, 0, 0, 0, 0, 0])) (C := fun k => k ≤ v.length) (m := fun k => v.length - k) 0 (Nat.zero_le _) (by omega) ?_ ?_
  · exact settleI rfl ⟨all_plain seg_plain _, trivial⟩ (by simp [spots, ints, encInt, hsl])
  intro k hk N hN
  refine go 800 rfl ?_
  refine atCond rfl (fun g2 => ?_) (fun g2 => ?_)
  · rw [ltb_iff] at g2
    have hlt : k < v.length := by omega
    have w1 : IntKind.i64.wrap ((k : Int) + 1) = ((k + 1 : Nat) : Int) := wrap64 (by omega) (by omega)
    have hset := fill_set ⟨⟨0, 0⟩, ⟨0, 0⟩, 0⟩ (segAt v sh each) hlt
    have hms := hsm k hlt
    refine go 800 rfl ?_
    refine atIdx k rfl rfl rfl (pt_enc (by omega)) rfl ?_
    refine go 800 rfl ?_
    refine atIdx k rfl rfl rfl (pt_enc hlt) rfl ?_
    refine go 800 rfl ?_
    refine atCall rfl rfl (sum_PU (pt v k) (pt sh k)) ?_
    refine go 800 rfl ?_
    refine atRem rfl rfl (by omega) ?_
    refine go 800 rfl ?_
    refine atIdx ((k + 1) % v.length) rfl rfl (by rw [w1, tmod_nat]) (pt_enc (Nat.mod_lt _ (by omega))) rfl ?_
    refine go 800 rfl ?_
    refine atCall rfl rfl (sum_PU (pt v ((k + 1) % v.length)) (pt sh k)) ?_
    refine go 800 rfl ?_
    refine atIdx k rfl rfl rfl (wd_enc (by omega)) rfl ?_
    refine go 800 rfl ?_
    refine atIdxR k rfl rfl rfl rfl rfl hlt ?_
    refine go 800 rfl ?_
    refine atStoreE (enc := Seg.enc) (fillL ⟨⟨0, 0⟩, ⟨0, 0⟩, 0⟩ v.length (segAt v sh each) k) k (segAt v sh each k) rfl rfl (Nat.zero_add _) rfl (fun _ => rfl) rfl (Nat.zero_le _) (by rw [fill_len]; exact hlt) ?_
    rw [hset]
    refine go 800 rfl ?_
    refine atEnd ?_
    exact hN (k + 1) hlt (by omega) (settleI rfl ⟨all_plain seg_plain _, trivial⟩ (by simp [spots, ints, encInt, w1]))
  rw [ltb_not] at g2
  obtain rfl : k = v.length := by omega
  clear hN
  refine go 800 rfl ?_
  refine atEnd ?_
  refine go 800 rfl ?_
  rw [fill_full]
  have hsgs : ∀ i, i < v.length → ((List.range v.length).map (segAt v sh each))[i]? = some (segAt v sh each i) := by
    intro i hi; simp [hi]
  have hseglen : ((List.range v.length).map (segAt v sh each)).length = v.length := by simp
  generalize hsg : (List.range v.length).map (segAt v sh each) = segs at *
  have hPlen : ∀ k, ((cornersTo v sh each k).foldl pushS []).length ≤ 2 * k := fun k => by
    have := foldl_len (cornersTo v sh each k) []
    have := cornersTo_len v sh each k
    simp at *; omega
  refine atLoop (S := fun k : Nat => ([spots v, encInt v.length, .ref 2 0 v.length, .ref 3 0 ((cornersTo v sh each k).foldl pushS []).length, spots v, encInt v.length, encInt k], [none, none, some (.row (segs.map Seg.enc) 5), some (.row (((cornersTo v sh each k).foldl pushS []).map Spot.enc) 2), none, none, none], [0, 0, 0, 0, 0, 0, 0])) (C := fun k => k ≤ v.length) (m := fun k => v.length - k) 0 (Nat.zero_le _) (by omega) ?_ ?_
  · exact settleI rfl ⟨all_plain seg_plain _, rfl, trivial⟩ (by simp [spots, encInt, cornersTo])
  intro k hk N hN
  refine go 800 rfl ?_
  refine atCond rfl (fun g3 => ?_) (fun g3 => ?_)
  · rw [ltb_iff] at g3
    have hlt : k < v.length := by omega
    have w1 : IntKind.i64.wrap ((k : Int) + 1) = ((k + 1 : Nat) : Int) := wrap64 (by omega) (by omega)
    have w2 : IntKind.i64.wrap (IntKind.i64.wrap ((k : Int) + v.length) - 1) = ((k + v.length - 1 : Nat) : Int) := by rw [wrap64 (x := (k : Int) + v.length) (by omega) (by omega), wrap64 (by omega) (by omega)]; omega
    have hm : (k + v.length - 1) % v.length < v.length := Nat.mod_lt _ (by omega)
    have ok1 := hok _ hm
    have ok2 := hok k hlt
    have hk1 := hPlen (k + 1)
    refine go 800 rfl ?_
    refine atIdx k rfl rfl rfl (pt_enc hlt) rfl ?_
    refine go 800 rfl ?_
    refine atRem rfl rfl (by omega) ?_
    refine go 800 rfl ?_
    refine atIdxR ((k + v.length - 1) % v.length) rfl rfl rfl rfl (by rw [w2, tmod_nat]) hm ?_
    refine go 800 rfl ?_
    refine atLoadE (enc := Seg.enc) segs ((k + v.length - 1) % v.length) (segAt v sh each ((k + v.length - 1) % v.length)) rfl (Nat.zero_add _) (fun _ => rfl) rfl (hsgs _ hm) ?_
    refine go 800 rfl ?_
    refine atIdxR k rfl rfl rfl rfl rfl hlt ?_
    refine go 800 rfl ?_
    refine atLoadE (enc := Seg.enc) segs k (segAt v sh each k) rfl (Nat.zero_add _) (fun _ => rfl) rfl (hsgs _ hlt) ?_
    refine go 800 rfl ?_
    refine atCall rfl rfl (corner_PU (pt v k) (segAt v sh each ((k + v.length - 1) % v.length)) (segAt v sh each k)) ?_
    refine go 800 rfl ?_
    have hcl : (cornerAt v sh each k).length ≤ 2 := cornerS_len _ _ _
    have hct : cornersTo v sh each (k + 1) = cornersTo v sh each k ++ cornerAt v sh each k := rfl
    have hPk := hPlen k
    change wpM _ _ _ _ _ (upd _ 100 _) _ _ _ _
    have hcd : cornerS (pt v k) (segAt v sh each ((k + v.length - 1) % v.length)) (segAt v sh each k) = cornerAt v sh each k := rfl
    rw [hcd]
    generalize cornerAt v sh each k = c at *
    generalize hP : (cornersTo v sh each k).foldl pushS [] = P at *
    have hfl : ∀ j, ((c.take j).foldl pushS P).length ≤ P.length + 2 := fun j => by
      have := foldl_len (c.take j) P
      simp at *; omega
    refine atLoop (S := fun j : Nat => ([spots v, encInt v.length, .ref 2 0 v.length, .ref 3 0 ((c.take j).foldl pushS P).length, spots v, encInt v.length, encInt k, spots c, encInt c.length, encInt j], [none, none, some (.row (segs.map Seg.enc) 5), some (.row (((c.take j).foldl pushS P).map Spot.enc) 2), none, none, none, none, none, none], [0, 0, 0, 0, 0, 0, 0, 0, 0, 0])) (C := fun j => j ≤ c.length) (m := fun j => c.length - j) 0 (Nat.zero_le _) (by omega) ?_ ?_
    · exact settleI rfl ⟨all_plain seg_plain _, all_plain spot_plain _, trivial⟩ (by simp [spots, encInt])
    intro j hj N2 hN2
    refine go 800 rfl ?_
    refine atCond rfl (fun g4 => ?_) (fun g4 => ?_)
    · rw [ltb_iff] at g4
      have hjl : j < c.length := by omega
      have wj : IntKind.i64.wrap ((j : Int) + 1) = ((j + 1 : Nat) : Int) := wrap64 (by omega) (by omega)
      have hstep := take_pushS hjl P
      have hfj := hfl j
      generalize hO : (c.take j).foldl pushS P = O at *
      have next : ∀ {t : Tmps} {h : Heap} {z : Frz} {nx : Nat}, (wsettle 0 [(8, 0), (10, 0), (11, 0), (14, 2), (77, 0), (78, 0), (79, 0), (98, 0), (99, 0), (100, 0)] t h z nx fun _ _ kp => kp = ([spots v, encInt v.length, .ref 2 0 v.length, .ref 3 0 (pushS O (pt c j)).length, spots v, encInt v.length, encInt k, spots c, encInt c.length, encInt ((j + 1 : Nat) : Int)], [none, none, some (.row (segs.map Seg.enc) 5), some (.row ((pushS O (pt c j)).map Spot.enc) 2), none, none, none, none, none, none], [0, 0, 0, 0, 0, 0, 0, 0, 0, 0])) → N2 t h z nx := by
        intro t h z nx hst
        refine hN2 (j + 1) hjl (by omega) ?_
        rw [hstep]; exact hst
      clear hN2
      have wl : O.length ≠ 0 → IntKind.i64.wrap ((O.length : Int) - 1) = ((O.length - 1 : Nat) : Int) := fun h => by rw [wrap64 (by omega) (by omega)]; omega
      refine go 800 rfl ?_
      refine atIdx j rfl rfl rfl (pt_enc hjl) rfl ?_
      refine go 800 rfl ?_
      refine atGuard rfl (fun e1 => ?_) (fun e1 => ?_)
      · rw [eqb_iff] at e1
        have hO0 : O.length = 0 := by omega
        have hpush : pushS O (pt c j) = O ++ [pt c j] := by rw [pushS, if_pos (.inl hO0)]
        refine go 800 rfl ?_
        refine atCondT rfl ?_
        refine go 800 rfl ?_
        refine atAppR rfl rfl rfl rfl rfl rfl (by simp) (Nat.zero_le _) (by simp [limit]; omega) ?_
        refine go 800 rfl ?_
        refine atEnd ?_
        refine next (settleI rfl ⟨all_plain seg_plain _, ?_, trivial⟩ ?_)
        · rw [List.all_append, all_plain spot_plain]; rfl
        · rw [hpush]; simp [spots, encInt, wj, Spot.enc]
      · rw [eqb_not] at e1
        have hO0 : O.length ≠ 0 := by omega
        have hlast : O[O.length - 1]? = some (lastS O) := by rw [lastS, pt_get (by omega)]; exact List.getElem?_eq_getElem (by omega)
        refine go 800 rfl ?_
        refine atIdxR (O.length - 1) rfl rfl rfl rfl (wl hO0) (by omega) ?_
        refine go 800 rfl ?_
        refine atLoadE (enc := Spot.enc) O (O.length - 1) (lastS O) rfl (Nat.zero_add _) (fun _ => rfl) rfl hlast ?_
        refine go 800 rfl ?_
        refine atCond rfl (fun e2 => ?_) (fun e2 => ?_)
        · rw [spot_eqb] at e2
          have hne : lastS O ≠ pt c j := by simpa using e2
          have hpush : pushS O (pt c j) = O ++ [pt c j] := by rw [pushS, if_pos (.inr hne)]
          refine go 800 rfl ?_
          refine atAppR rfl rfl rfl rfl rfl rfl (by simp) (Nat.zero_le _) (by simp [limit]; omega) ?_
          refine go 800 rfl ?_
          refine atEnd ?_
          refine next (settleI rfl ⟨all_plain seg_plain _, ?_, trivial⟩ ?_)
          · rw [List.all_append, all_plain spot_plain]; rfl
          · rw [hpush]; simp [spots, encInt, wj, Spot.enc]
        · rw [spot_eqb] at e2
          have heq : lastS O = pt c j := by simpa using e2
          have hpush : pushS O (pt c j) = O := by rw [pushS, if_neg (by intro h; rcases h with h | h; exact hO0 h; exact h heq)]
          refine go 800 rfl ?_
          refine atEnd ?_
          exact next (settleI rfl ⟨all_plain seg_plain _, all_plain spot_plain _, trivial⟩ (by rw [hpush]; simp [spots, encInt, wj]))
    rw [ltb_not] at g4
    obtain rfl : j = c.length := by omega
    clear hN2
    refine go 800 rfl ?_
    refine atEnd ?_
    refine go 800 rfl ?_
    refine atEnd ?_
    refine hN (k + 1) hlt (by omega) (settleI rfl ⟨all_plain seg_plain _, all_plain spot_plain _, trivial⟩ ?_)
    simp [spots, encInt, w1, hct, hP]
  rw [ltb_not] at g3
  obtain rfl : k = v.length := by omega
  clear hN
  have hR2 := hPlen v.length
  have hq : allowPts v sh each = (onceL (cornersTo v sh each v.length)).take (trimN (onceL (cornersTo v sh each v.length)) (onceL (cornersTo v sh each v.length)).length) := rfl
  rw [hq]
  change ((onceL (cornersTo v sh each v.length))).length ≤ _ at hR2
  refine go 800 rfl ?_
  refine atEnd ?_
  refine go 800 rfl ?_
  have hon : (cornersTo v sh each v.length).foldl pushS [] = onceL (cornersTo v sh each v.length) := rfl
  rw [hon]
  clear hq hPlen hon
  generalize onceL (cornersTo v sh each v.length) = R at *
  refine atLoop (S := fun j : Nat => ([spots v, .ref 1 0 j], [none, some (.row (R.map Spot.enc) 2)], [0, 0])) (C := fun j => j ≤ R.length ∧ trimN R j = trimN R R.length) (m := fun j => j) R.length ⟨Nat.le_refl _, rfl⟩ (by omega) ?_ ?_
  · exact settleI rfl ⟨all_plain spot_plain _, trivial⟩ (by simp [spots])
  rintro j ⟨hj, htr⟩ N hN
  have wl : j ≠ 0 → IntKind.i64.wrap ((j : Int) - 1) = ((j - 1 : Nat) : Int) := fun h => by rw [wrap64 (by omega) (by omega)]; omega
  have hstop : ¬ (2 ≤ j ∧ pt R (j - 1) = pt R 0) → trimN R R.length = j := by
    intro h
    rw [← htr]
    cases j with
    | zero => rfl
    | succ j => rw [trimN, if_neg (fun h' => h ⟨by omega, by simpa using h'.2⟩)]
  refine go 800 rfl ?_
  refine atGuard rfl (fun e1 => ?_) (fun e1 => ?_)
  · rw [leb_iff] at e1
    have hj2 : 2 ≤ j := by omega
    refine go 800 rfl ?_
    refine atIdxR (j - 1) rfl rfl rfl rfl (wl (by omega)) (by omega) ?_
    refine go 800 rfl ?_
    refine atLoadE (enc := Spot.enc) R (j - 1) (pt R (j - 1)) rfl (Nat.zero_add _) (fun _ => rfl) rfl (by rw [pt_get (by omega)]; exact List.getElem?_eq_getElem (by omega)) ?_
    refine go 800 rfl ?_
    refine atIdxR 0 rfl rfl rfl rfl rfl (by omega) ?_
    refine go 800 rfl ?_
    refine atLoadE (enc := Spot.enc) R 0 (pt R 0) rfl rfl (fun _ => rfl) rfl (by rw [pt_get (by omega)]; exact List.getElem?_eq_getElem (by omega)) ?_
    refine go 800 rfl ?_
    refine atCond rfl (fun e2 => ?_) (fun e2 => ?_)
    · rw [spot_eqb] at e2
      have heq : pt R (j - 1) = pt R 0 := by simpa using e2
      refine go 800 rfl ?_
      refine atSlR0 (j - 1) rfl rfl rfl ⟨_, _, rfl, wl (by omega)⟩ (by omega) ?_
      refine go 800 rfl ?_
      refine atEnd ?_
      refine hN (j - 1) ⟨by omega, ?_⟩ (by omega) (settleI rfl ⟨all_plain spot_plain _, trivial⟩ (by simp [spots]))
      rw [← htr]
      obtain ⟨i, rfl⟩ : ∃ i, j = i + 1 := ⟨j - 1, by omega⟩
      rw [trimN, if_pos ⟨by omega, by simpa using heq⟩]; rfl
    · rw [spot_eqb] at e2
      have hne : ¬ (2 ≤ j ∧ pt R (j - 1) = pt R 0) := fun h => by rw [h.2] at e2; simp at e2
      rw [hstop hne]
      clear hN
      refine go 800 rfl ?_
      refine atEnd ?_
      refine go 800 rfl ?_
      have hrow : D.lst ((R.map Spot.enc).take j) = spots (R.take j) := by rw [spots, List.map_take]
      have hdat : 0 + j ≤ (R.map Spot.enc).length ∧ (((R.map Spot.enc).drop 0).take j).all (dat 4) = true := by
        refine ⟨by simp; omega, ?_⟩
        rw [List.drop_zero, ← List.map_take]; exact all_dat spot_dat _
      have hql : (R.take j).length = j := by simp; omega
      refine atLoop (S := fun k : Nat => ([spots v, .ref 1 0 j, .ref 1 0 j, encInt j, encInt k], [none, some (.row (R.map Spot.enc) 2), none, none, none], [0, 0, 0, 0, 0])) (C := fun k => k ≤ j ∧ ∀ i, i < k → withinS (pt R i) 1048576 = true) (m := fun k => j - k) 0 ⟨Nat.zero_le _, fun i hi => by omega⟩ (by omega) ?_ ?_
      · exact settleI rfl ⟨all_plain spot_plain _, all_plain spot_plain _, trivial⟩ (by simp [spots, encInt])
      rintro k ⟨hk, hin⟩ N hN
      refine go 800 rfl ?_
      refine atCond rfl (fun f1 => ?_) (fun f1 => ?_)
      · rw [ltb_iff] at f1
        have hlt : k < j := by omega
        have w1 : IntKind.i64.wrap ((k : Int) + 1) = ((k + 1 : Nat) : Int) := wrap64 (by omega) (by omega)
        refine go 800 rfl ?_
        refine atIdxR k rfl rfl rfl rfl rfl hlt ?_
        refine go 800 rfl ?_
        refine atLoadE (enc := Spot.enc) R k (pt R k) rfl (Nat.zero_add _) (fun _ => rfl) rfl (by rw [pt_get (by omega)]; exact List.getElem?_eq_getElem (by omega)) ?_
        refine go 800 rfl ?_
        refine atCall rfl rfl (allowance_within_PU (pt R k) 1048576 (by decide) (by decide)) ?_
        refine go 800 rfl ?_
        refine atCond rfl (fun f2 => ?_) (fun f2 => ?_)
        · refine go 800 rfl ?_
          refine atEnd ?_
          refine go 800 rfl ?_
          refine finI rfl rfl rfl trivial ?_
          have : (R.take j).any (fun s => !withinS s 1048576) = true := by
            refine List.any_eq_true.2 ⟨pt R k, ?_, f2⟩
            rw [pt_get (by omega)]
            exact List.mem_iff_getElem.2 ⟨k, by omega, by simp⟩
          rw [allowQ, if_pos this]; rfl
        · refine go 800 rfl ?_
          refine atEnd ?_
          refine hN (k + 1) ⟨hlt, fun i hi => ?_⟩ (by omega) (settleI rfl ⟨all_plain spot_plain _, all_plain spot_plain _, trivial⟩ (by simp [spots, encInt, w1]))
          by_cases hik : i < k
          · exact hin i hik
          · obtain rfl : i = k := by omega
            simpa using f2
      rw [ltb_not] at f1
      clear hN
      have hany : (R.take j).any (fun s => !withinS s 1048576) = false := by
        rw [List.any_eq_false]
        intro s hs
        obtain ⟨i, hi, rfl⟩ := List.getElem_of_mem hs
        have := hin i (by omega)
        rw [pt_get (by omega)] at this
        simp [this]
      rw [allowQ, if_neg (by rw [hany]; decide)]
      refine go 800 rfl ?_
      refine atEnd ?_
      refine go 800 rfl ?_
      refine atCallI rfl rfl ⟨hdat, trivial⟩ (by rw [hrow]; exact polygon_Check_PU (R.take j)) rfl ?_
      refine go 800 rfl ?_
      refine atCond rfl (fun f3 => ?_) (fun f3 => ?_)
      · rw [nqb_iff] at f3
        refine go 800 rfl ?_
        refine finI rfl rfl rfl trivial ?_
        rw [if_neg f3]; rfl
      rw [nqb_not] at f3
      rw [if_pos f3]
      refine go 800 rfl ?_
      refine atCallI rfl rfl ⟨hdat, trivial⟩ (by rw [hrow]; exact orientation_PU (R.take j)) rfl ?_
      refine go 800 rfl ?_
      refine atCall rfl rfl (orientation_PU v) ?_
      refine go 800 rfl ?_
      refine atCond rfl (fun f4 => ?_) (fun f4 => ?_)
      · rw [nqb_iff] at f4
        refine go 800 rfl ?_
        refine finI rfl rfl rfl trivial ?_
        rw [if_neg f4]; rfl
      rw [nqb_not] at f4
      rw [if_pos f4]
      refine go 800 rfl ?_
      refine finI rfl rfl rfl ⟨hdat, trivial⟩ ?_
      rw [hrow]; rfl
  · rw [leb_not] at e1
    have hne : ¬ (2 ≤ j ∧ pt R (j - 1) = pt R 0) := fun h => by omega
    rw [hstop hne]
    clear hN
    refine go 800 rfl ?_
    refine atCondF rfl ?_
    refine go 800 rfl ?_
    refine atEnd ?_
    refine go 800 rfl ?_
    have hrow : D.lst ((R.map Spot.enc).take j) = spots (R.take j) := by rw [spots, List.map_take]
    have hdat : 0 + j ≤ (R.map Spot.enc).length ∧ (((R.map Spot.enc).drop 0).take j).all (dat 4) = true := by
      refine ⟨by simp; omega, ?_⟩
      rw [List.drop_zero, ← List.map_take]; exact all_dat spot_dat _
    have hql : (R.take j).length = j := by simp; omega
    refine atLoop (S := fun k : Nat => ([spots v, .ref 1 0 j, .ref 1 0 j, encInt j, encInt k], [none, some (.row (R.map Spot.enc) 2), none, none, none], [0, 0, 0, 0, 0])) (C := fun k => k ≤ j ∧ ∀ i, i < k → withinS (pt R i) 1048576 = true) (m := fun k => j - k) 0 ⟨Nat.zero_le _, fun i hi => by omega⟩ (by omega) ?_ ?_
    · exact settleI rfl ⟨all_plain spot_plain _, all_plain spot_plain _, trivial⟩ (by simp [spots, encInt])
    rintro k ⟨hk, hin⟩ N hN
    refine go 800 rfl ?_
    refine atCond rfl (fun f1 => ?_) (fun f1 => ?_)
    · rw [ltb_iff] at f1
      have hlt : k < j := by omega
      have w1 : IntKind.i64.wrap ((k : Int) + 1) = ((k + 1 : Nat) : Int) := wrap64 (by omega) (by omega)
      refine go 800 rfl ?_
      refine atIdxR k rfl rfl rfl rfl rfl hlt ?_
      refine go 800 rfl ?_
      refine atLoadE (enc := Spot.enc) R k (pt R k) rfl (Nat.zero_add _) (fun _ => rfl) rfl (by rw [pt_get (by omega)]; exact List.getElem?_eq_getElem (by omega)) ?_
      refine go 800 rfl ?_
      refine atCall rfl rfl (allowance_within_PU (pt R k) 1048576 (by decide) (by decide)) ?_
      refine go 800 rfl ?_
      refine atCond rfl (fun f2 => ?_) (fun f2 => ?_)
      · refine go 800 rfl ?_
        refine atEnd ?_
        refine go 800 rfl ?_
        refine finI rfl rfl rfl trivial ?_
        have : (R.take j).any (fun s => !withinS s 1048576) = true := by
          refine List.any_eq_true.2 ⟨pt R k, ?_, f2⟩
          rw [pt_get (by omega)]
          exact List.mem_iff_getElem.2 ⟨k, by omega, by simp⟩
        rw [allowQ, if_pos this]; rfl
      · refine go 800 rfl ?_
        refine atEnd ?_
        refine hN (k + 1) ⟨hlt, fun i hi => ?_⟩ (by omega) (settleI rfl ⟨all_plain spot_plain _, all_plain spot_plain _, trivial⟩ (by simp [spots, encInt, w1]))
        by_cases hik : i < k
        · exact hin i hik
        · obtain rfl : i = k := by omega
          simpa using f2
    rw [ltb_not] at f1
    clear hN
    have hany : (R.take j).any (fun s => !withinS s 1048576) = false := by
      rw [List.any_eq_false]
      intro s hs
      obtain ⟨i, hi, rfl⟩ := List.getElem_of_mem hs
      have := hin i (by omega)
      rw [pt_get (by omega)] at this
      simp [this]
    rw [allowQ, if_neg (by rw [hany]; decide)]
    refine go 800 rfl ?_
    refine atEnd ?_
    refine go 800 rfl ?_
    refine atCallI rfl rfl ⟨hdat, trivial⟩ (by rw [hrow]; exact polygon_Check_PU (R.take j)) rfl ?_
    refine go 800 rfl ?_
    refine atCond rfl (fun f3 => ?_) (fun f3 => ?_)
    · rw [nqb_iff] at f3
      refine go 800 rfl ?_
      refine finI rfl rfl rfl trivial ?_
      rw [if_neg f3]; rfl
    rw [nqb_not] at f3
    rw [if_pos f3]
    refine go 800 rfl ?_
    refine atCallI rfl rfl ⟨hdat, trivial⟩ (by rw [hrow]; exact orientation_PU (R.take j)) rfl ?_
    refine go 800 rfl ?_
    refine atCall rfl rfl (orientation_PU v) ?_
    refine go 800 rfl ?_
    refine atCond rfl (fun f4 => ?_) (fun f4 => ?_)
    · rw [nqb_iff] at f4
      refine go 800 rfl ?_
      refine finI rfl rfl rfl trivial ?_
      rw [if_neg f4]; rfl
    rw [nqb_not] at f4
    rw [if_pos f4]
    refine go 800 rfl ?_
    refine finI rfl rfl rfl ⟨hdat, trivial⟩ ?_
    rw [hrow]; rfl
end Go.F

/- The statements about allowances: outlines of polygons. -/
namespace Go.F
attribute [local irreducible] IntKind.wrap wpM

section
variable {T : Tab} {sh : Shr} {nx0 : Nat} {s : List Fr} {t : Tmps} {h : Heap} {z : Frz} {nx : Nat} {q : Ex → Tmps → Heap → Frz → Nat → Prop}
variable {base i : Nat} {res : List Nat} {dst : Nat} {g : Gd} {rest : List KOper}

/- bytes become a string -/
theorem atCvB {x : X} {id k : Nat} {es : List D} {esz : Nat} {bs : List UInt8} (hx : x.ev t = .ref id 0 k) (hr : g.h base h id = some (.row es esz)) (hk1 : k = es.length) (hc : es.all (fun d => d.cells.length == 1) = true) (hb : bytesIn es = some bs)
    (hk : wpM T sh nx0 (.ops base res rest :: s) .normal (upd t dst (.str ⟨bs.toArray⟩)) h z nx q) :
    wpM T sh nx0 (.ops base res (⟨i, some dst, none, g, .conv .bytes x⟩ :: rest) :: s) .normal t h z nx q := by
  refine atOp ?_
  subst hk1
  have e1 : ((es.drop 0).take es.length) = es := by simp
  simp only [kop, kconv, hx, wwindow, hr]
  refine wwin_of (by omega) (by rw [e1]; exact hc) ?_
  rw [e1]
  exact wo_of hb hk
end

def sideE (p : List Spot) (i : Nat) : Edge := ⟨⟨#[UInt8.ofNat (97 + i % 26)]⟩, [pt p i, pt p ((i + 1) % p.length)]⟩

def sides (p : List Spot) : List Edge := (List.range p.length).map (sideE p)

theorem sides_step (p : List Spot) (k : Nat) : ((List.range (k + 1)).map (sideE p)).map Edge.enc = ((List.range k).map (sideE p)).map Edge.enc ++ [(sideE p k).enc] := by
  rw [List.range_succ]; simp

theorem bytes1 (n : Nat) : bytesIn [D.int .u8 (n : Int)] = some [UInt8.ofNat n] := by
  simp [bytesIn]

set_option maxHeartbeats 2000000 in
theorem l24_edges_PU (p : List Spot) (hp : p.length ≤ 100000) : PU f_l24_edges [spots p] = some (edges (sides p)) := by
  refine PU_of (fn := k_l24_edges) rfl (startI ?_)
  refine go 800 rfl ?_
  refine atLoop (S := fun k : Nat => ([spots p, .ref 1 0 k, encInt p.length, encInt k], [none, some (.row (((List.range k).map (sideE p)).map Edge.enc) 2), none, none], [0, 0, 0, 0])) (C := fun k => k ≤ p.length) (m := fun k => p.length - k) 0 (Nat.zero_le _) (by omega) ?_ ?_
  · exact settleI rfl ⟨rfl, trivial⟩ (by simp [spots, encInt])
  intro k hk N hN
  refine go 800 rfl ?_
  refine atCond rfl (fun g1 => ?_) (fun g1 => ?_)
  · rw [ltb_iff] at g1
    have hlt : k < p.length := by omega
    have w1 : IntKind.i64.wrap ((k : Int) + 1) = ((k + 1 : Nat) : Int) := wrap64 (by omega) (by omega)
    have w2 : IntKind.u8.wrap ((k : Int).tmod 26) = ((k % 26 : Nat) : Int) := by
      rw [show (26 : Int) = ((26 : Nat) : Int) from rfl, tmod_nat]
      simp [IntKind.wrap, IntKind.bits, IntKind.signed]; omega
    have w3 : IntKind.u8.wrap (97 + ((k % 26 : Nat) : Int)) = ((97 + k % 26 : Nat) : Int) := by
      simp [IntKind.wrap, IntKind.bits, IntKind.signed]; omega
    refine go 800 rfl ?_
    refine atRem rfl rfl (by decide) ?_
    refine go 800 rfl ?_
    rw [w2, w3]
    refine atCvB rfl rfl rfl rfl (bytes1 (97 + k % 26)) ?_
    refine go 800 rfl ?_
    refine atIdx k rfl rfl rfl (pt_enc hlt) rfl ?_
    refine go 800 rfl ?_
    refine atRem rfl rfl (by rw [List.length_map]; omega) ?_
    refine go 800 rfl ?_
    refine atIdx ((k + 1) % p.length) rfl rfl (by rw [w1, List.length_map, tmod_nat]) (pt_enc (Nat.mod_lt _ (by omega))) rfl ?_
    refine go 800 rfl ?_
    refine atAppR rfl rfl rfl rfl rfl rfl (by simp) (Nat.zero_le _) (by simp [limit]; omega) ?_
    refine go 800 rfl ?_
    refine atEnd ?_
    refine hN (k + 1) hlt (by omega) (settleX [some (((List.range (k + 1)).map (sideE p)).map Edge.enc, [35])] rfl ⟨?_, trivial⟩ ?_)
    · rw [sides_step]
      exact obl_last (all_dat edge_dat _) (all_plain edge_plain _) rfl rfl rfl rfl
    · simp [spots, encInt, w1]
  rw [ltb_not] at g1
  obtain rfl : k = p.length := by omega
  refine go 800 rfl ?_
  refine atEnd ?_
  refine go 800 rfl ?_
  refine finI rfl rfl rfl ⟨datRow (by simp) (all_dat edge_dat _), trivial⟩ ?_
  rw [rowAll (by simp)]; rfl

def rectL (x y z w : Int) : List Spot := [⟨x, y⟩, ⟨z, y⟩, ⟨z, w⟩, ⟨x, w⟩]

theorem rect_PU (x y z w : Int) : PU f_l24_rect [.int .i64 x, .int .i64 y, .int .i64 z, .int .i64 w] = some (spots (rectL x y z w)) := by
  refine PU_of (fn := k_l24_rect) rfl (startI ?_)
  refine go 800 rfl ?_
  exact finI rfl rfl rfl ⟨datSpots (l := rectL x y z w) rfl, trivial⟩ rfl

/- the check of an outline, for evaluation -/
def nameC (s : ByteArray) : Bool :=
  !decide (s.size = 0) && (!decide (24 < s.size) && (!(s.data.toList == [109, 105, 110]) && (!(s.data.toList == [109, 97, 120]) && decide (∀ i, i < s.size → charS i (s.data.toList.getD i 0).toNat = true))))

theorem nameC_eq : nameS = nameC := by
  funext s
  unfold nameS nameC byteAt
  simp only [Go.ByteArray.toList_eq]

def edgeErrC (l : List Edge) (i : Nat) : Int :=
  if nameC (eg l i).name = false then 1 else if ((List.range i).any fun j => (eg l j).name.data.toList == (eg l i).name.data.toList) then 7 else checkL (eg l i).line

theorem edgeErrC_eq : edgeErr = edgeErrC := by
  funext l i
  unfold edgeErr edgeErrC namedB
  simp only [nameC_eq, Go.ByteArray.toList_eq]

def checkC (l : List Edge) : Int :=
  if 16 < l.length then 5 else if l.length < 2 then 11
  else if firstErr (edgeErrC l) l.length = 0 then
    if firstErr (joinErr l) l.length = 0 then checkP (verts l) else firstErr (joinErr l) l.length
  else firstErr (edgeErrC l) l.length

theorem checkC_eq : checkO = checkC := by
  funext l
  unfold checkO checkC
  simp only [edgeErrC_eq]

def ex1 : List Edge := sides (rectL 0 0 10 10)
def ex2 : List Edge := sides [⟨0, 0⟩, ⟨30, 0⟩, ⟨0, 40⟩]

theorem ex1_ok : checkO ex1 = 0 := by rw [checkC_eq]; decide +kernel
theorem ex2_ok : checkO ex2 = 0 := by rw [checkC_eq]; decide +kernel

theorem ex1_shifts : shiftsP ex1 [1, 2, 3, 4] = ([⟨0, -1⟩, ⟨2, 0⟩, ⟨0, 3⟩, ⟨-4, 0⟩], 0) := by
  unfold shiftsP
  rw [ex1_ok]
  decide +kernel

theorem ex1_allow : allowP ex1 [1, 2, 3, 4] = (rectL (-4) (-1) 12 13, 0) := by
  unfold allowP
  rw [ex1_shifts]
  decide +kernel

theorem ex2_shifts : shiftsP ex2 [0, 5, 0] = ([⟨0, 0⟩, ⟨4, 3⟩, ⟨0, 0⟩], 0) := by
  unfold shiftsP
  rw [ex2_ok]
  decide +kernel

theorem ex2_allow : allowP ex2 [0, 5, 0] = ([⟨0, 0⟩, ⟨36, 0⟩, ⟨0, 48⟩], 0) := by
  unfold allowP
  rw [ex2_shifts]
  decide +kernel

theorem ex1_short : allowP ex1 [1, 2, 3] = ([], 1) := by
  unfold allowP shiftsP
  rw [ex1_ok]
  decide +kernel

theorem ex1_wide : shiftsP ex1 [0, 0, 0, 501] = ([], 3) := by
  unfold shiftsP
  rw [ex1_ok]
  decide +kernel
end Go.F

/- The statements about allowances: the examples hold. -/
namespace Go.F
attribute [local irreducible] IntKind.wrap wpM

set_option maxHeartbeats 2000000 in
theorem exampleHolds_PU : PU f_l24_exampleHolds [] = some (.bool true) := by
  have s1 := Shifts_PU ex1 [1, 2, 3, 4]
  have s2 := Allow_PU ex1 [1, 2, 3, 4]
  have s3 := Allow_PU ex2 [0, 5, 0]
  have s4 := Allow_PU ex1 [1, 2, 3]
  have s5 := Shifts_PU ex1 [0, 0, 0, 501]
  rw [ex1_shifts] at s1
  rw [ex1_allow] at s2
  rw [ex2_allow] at s3
  rw [ex1_short] at s4
  rw [ex1_wide] at s5
  have hn : ∀ {x : Int} {P : Prop}, nqb x x = true → P := fun h => absurd rfl (nqb_iff.1 h)
  refine PU_of (fn := k_l24_exampleHolds) rfl (startI ?_)
  refine go 800 rfl ?_
  refine atCall rfl rfl (rect_PU 0 0 10 10) ?_
  refine go 800 rfl ?_
  refine atCall rfl rfl (l24_edges_PU (rectL 0 0 10 10) (by decide)) ?_
  refine go 800 rfl ?_
  refine atCallR rfl rfl ⟨⟨by decide, rfl⟩, trivial⟩ s1 fun z => ?_
  refine go 800 rfl ?_
  refine atCallR rfl rfl ⟨⟨by decide, rfl⟩, trivial⟩ s2 fun z => ?_
  refine go 800 rfl ?_
  refine atCallR rfl rfl ⟨⟨by decide, rfl⟩, trivial⟩ (l24_edges_PU [⟨0, 0⟩, ⟨30, 0⟩, ⟨0, 40⟩] (by decide)) fun z => ?_
  refine go 800 rfl ?_
  refine atCallR rfl rfl ⟨⟨by decide, rfl⟩, trivial⟩ s3 fun z => ?_
  refine go 800 rfl ?_
  refine atSlR0 3 rfl rfl rfl ⟨_, _, rfl, rfl⟩ (by decide) ?_
  refine go 800 rfl ?_
  refine atCallR rfl rfl ⟨⟨by decide, rfl⟩, trivial⟩ s4 fun z => ?_
  refine go 800 rfl ?_
  refine atCallR rfl rfl ⟨⟨by decide, rfl⟩, trivial⟩ s5 fun z => ?_
  refine go 800 rfl ?_
  refine atGuard rfl hn (fun _ => ?_)
  refine go 800 rfl ?_
  refine atGuard rfl hn (fun _ => ?_)
  refine go 800 rfl ?_
  refine atGuard rfl hn (fun _ => ?_)
  refine go 800 rfl ?_
  refine atGuard rfl hn (fun _ => ?_)
  refine go 800 rfl ?_
  refine atCond rfl hn (fun _ => ?_)
  refine go 800 rfl ?_
  refine atCallI rfl rfl ⟨⟨by decide, rfl⟩, trivial⟩ (r11_Same_PU [⟨0, -1⟩, ⟨2, 0⟩, ⟨0, 3⟩, ⟨-4, 0⟩] [⟨0, -1⟩, ⟨2, 0⟩, ⟨0, 3⟩, ⟨-4, 0⟩] (by decide)) rfl ?_
  refine go 800 rfl ?_
  refine atGuard rfl (fun _ => ?_) (fun h => absurd h (by decide))
  refine go 800 rfl ?_
  refine atCall rfl rfl (rect_PU (-4) (-1) 12 13) ?_
  refine go 800 rfl ?_
  refine atCall rfl rfl (r11_Same_PU (rectL (-4) (-1) 12 13) (rectL (-4) (-1) 12 13) (by decide)) ?_
  refine go 800 rfl ?_
  refine atGuard rfl (fun _ => ?_) (fun h => absurd h (by decide))
  refine go 800 rfl ?_
  refine atCallI rfl rfl ⟨⟨by decide, rfl⟩, trivial⟩ (r11_Same_PU [⟨0, 0⟩, ⟨36, 0⟩, ⟨0, 48⟩] [⟨0, 0⟩, ⟨36, 0⟩, ⟨0, 48⟩] (by decide)) rfl ?_
  refine go 800 rfl ?_
  refine finI rfl rfl rfl trivial ?_
  simp
end Go.F

/- The statements about allowances: small outlines. -/
namespace Go.F
attribute [local irreducible] IntKind.wrap wpM

def vcnt (l : List Edge) : Nat → Int
  | 0 => 0
  | k + 1 => min (IntKind.i64.wrap (IntKind.i64.wrap (vcnt l k + (eg l k).line.length) + 1)) (IntKind.i64.wrap (60 + 1))

set_option maxHeartbeats 1000000 in
theorem r24_Vertices_PU (l : List Edge) (hl : l.length ≤ 30) : ∃ n : Int, PU f_r24_Vertices [edges l, .int .i64 60] = some (.int .i64 n) := by
  obtain ⟨f, f0, fs⟩ : ∃ f : Nat → Int, f 0 = 0 ∧ ∀ k, f (k + 1) = min (IntKind.i64.wrap (IntKind.i64.wrap (f k + (eg l k).line.length) + 1)) (IntKind.i64.wrap (60 + 1)) := ⟨vcnt l, rfl, fun _ => rfl⟩
  have hex : ∃ k, k ≤ l.length ∧ (∀ i, i < k → f i ≤ 60) ∧ (k = l.length ∨ ¬ f k ≤ 60) := by
    have : ∀ m, m ≤ l.length → (∃ k, k ≤ l.length ∧ (∀ i, i < k → f i ≤ 60) ∧ (k = l.length ∨ ¬ f k ≤ 60)) ∨ ∀ i, i < m → f i ≤ 60 := by
      intro m
      induction m with
      | zero => intro _; right; intro i hi; omega
      | succ m ih =>
        intro hm
        rcases ih (by omega) with h | h
        · exact .inl h
        · by_cases hf : f m ≤ 60
          · right; intro i hi
            by_cases him : i < m
            · exact h i him
            · obtain rfl : i = m := by omega
              exact hf
          · exact .inl ⟨m, by omega, h, .inr hf⟩
    rcases this l.length (Nat.le_refl _) with h | h
    · exact h
    · exact ⟨l.length, Nat.le_refl _, h, .inl rfl⟩
  obtain ⟨K, hK, hlow, hend⟩ := hex
  refine ⟨f K, ?_⟩
  refine PU_of (fn := k_r24_Vertices) rfl (startI ?_)
  refine go 800 rfl ?_
  refine atLoop (S := fun k : Nat => ([edges l, .int .i64 60, .int .i64 (f k), encInt k], [none, none, none, none], [0, 0, 0, 0])) (C := fun k => k ≤ K) (m := fun k => K - k) 0 (Nat.zero_le _) (by omega) ?_ ?_
  · exact settleI rfl trivial (by simp [edges, encInt, f0])
  intro k hk N hN
  have done : ¬ (k < l.length ∧ f k ≤ 60) → k = K := by
    intro h
    by_cases hkK : k = K
    · exact hkK
    · exfalso
      exact h ⟨by omega, hlow k (by omega)⟩
  refine go 800 rfl ?_
  rw [List.length_map]
  refine atGuard rfl (fun g1 => ?_) (fun g1 => ?_)
  · rw [ltb_iff] at g1
    have hlt : k < l.length := by omega
    have w1 : IntKind.i64.wrap ((k : Int) + 1) = ((k + 1 : Nat) : Int) := wrap64 (by omega) (by omega)
    refine go 800 rfl ?_
    refine atCond rfl (fun g2 => ?_) (fun g2 => ?_)
    · rw [leb_iff] at g2
      have hkK : k < K := by
        by_cases h : k < K
        · exact h
        · obtain rfl : k = K := by omega
          rcases hend with h | h
          · omega
          · exact absurd g2 h
      refine go 800 rfl ?_
      refine atIdx k rfl rfl rfl (eg_enc hlt) rfl ?_
      refine go 800 rfl ?_
      refine atEnd ?_
      refine hN (k + 1) hkK (by omega) (settleI rfl trivial ?_)
      rw [fs, List.length_map]
      simp [edges, encInt, w1]
    · rw [leb_not] at g2
      obtain rfl := done (fun h => by omega)
      refine go 800 rfl ?_
      refine atEnd ?_
      refine go 800 rfl ?_
      exact finI rfl rfl rfl trivial rfl
  · rw [ltb_not] at g1
    obtain rfl := done (fun h => by omega)
    refine go 800 rfl ?_
    refine atCondF rfl ?_
    refine go 800 rfl ?_
    refine atEnd ?_
    refine go 800 rfl ?_
    exact finI rfl rfl rfl trivial rfl

set_option maxHeartbeats 1000000 in
theorem small_PU (l : List Edge) (ws : List Int) : ∃ b : Bool, PU f_l24_small [edges l, ints ws] = some (.bool b) ∧ (b = true → l.length ≤ 30 ∧ ws.length ≤ 20) := by
  by_cases hl : 30 < l.length
  · refine ⟨false, ?_, fun h => by cases h⟩
    refine PU_of (fn := k_l24_small) rfl (startI ?_)
    refine go 800 rfl ?_
    refine atGuard rfl (fun g => ?_) (fun g => ?_)
    · refine go 800 rfl ?_
      refine atGuardT rfl ?_
      refine go 800 rfl ?_
      refine atCondT rfl ?_
      refine go 800 rfl ?_
      exact finI rfl rfl rfl trivial rfl
    · rw [ltb_not, List.length_map] at g; omega
  by_cases hw : 20 < ws.length
  · refine ⟨false, ?_, fun h => by cases h⟩
    refine PU_of (fn := k_l24_small) rfl (startI ?_)
    refine go 800 rfl ?_
    refine atGuard rfl (fun g => ?_) (fun g => ?_)
    · rw [ltb_iff, List.length_map] at g; omega
    refine go 800 rfl ?_
    refine atGuard rfl (fun g => ?_) (fun g => ?_)
    · refine go 800 rfl ?_
      refine atCondT rfl ?_
      refine go 800 rfl ?_
      exact finI rfl rfl rfl trivial rfl
    · rw [ltb_not, List.length_map] at g; omega
  obtain ⟨n, hn⟩ := r24_Vertices_PU l (by omega)
  by_cases hn6 : 60 < n
  · refine ⟨false, ?_, fun h => by cases h⟩
    refine PU_of (fn := k_l24_small) rfl (startI ?_)
    refine go 800 rfl ?_
    refine atGuard rfl (fun g => ?_) (fun g => ?_)
    · rw [ltb_iff, List.length_map] at g; omega
    refine go 800 rfl ?_
    refine atGuard rfl (fun g => ?_) (fun g => ?_)
    · rw [ltb_iff, List.length_map] at g; omega
    refine go 800 rfl ?_
    refine atCall rfl rfl hn ?_
    refine go 800 rfl ?_
    refine atCond rfl (fun g => ?_) (fun g => ?_)
    · refine go 800 rfl ?_
      exact finI rfl rfl rfl trivial rfl
    · rw [ltb_not] at g; omega
  refine ⟨decide (∀ i, i < l.length → (eg l i).name.size ≤ 100), ?_, fun _ => ⟨by omega, by omega⟩⟩
  refine PU_of (fn := k_l24_small) rfl (startI ?_)
  refine go 800 rfl ?_
  refine atGuard rfl (fun g => ?_) (fun g => ?_)
  · rw [ltb_iff, List.length_map] at g; omega
  refine go 800 rfl ?_
  refine atGuard rfl (fun g => ?_) (fun g => ?_)
  · rw [ltb_iff, List.length_map] at g; omega
  refine go 800 rfl ?_
  refine atCall rfl rfl hn ?_
  refine go 800 rfl ?_
  refine atCond rfl (fun g => ?_) (fun g => ?_)
  · rw [ltb_iff] at g; omega
  refine go 800 rfl ?_
  refine atLoop (S := fun k : Nat => ([edges l, encInt l.length, encInt k], [none, none, none], [0, 0, 0])) (C := fun k => k ≤ l.length ∧ ∀ i, i < k → (eg l i).name.size ≤ 100) (m := fun k => l.length - k) 0 ⟨Nat.zero_le _, fun i hi => by omega⟩ (by omega) ?_ ?_
  · exact settleI rfl trivial (by simp [edges, encInt])
  rintro k ⟨hk, hall⟩ N hN
  refine go 800 rfl ?_
  refine atCond rfl (fun g1 => ?_) (fun g1 => ?_)
  · rw [ltb_iff] at g1
    have hlt : k < l.length := by omega
    have w1 : IntKind.i64.wrap ((k : Int) + 1) = ((k + 1 : Nat) : Int) := wrap64 (by omega) (by omega)
    refine go 800 rfl ?_
    refine atIdx k rfl rfl rfl (eg_enc hlt) rfl ?_
    refine go 800 rfl ?_
    refine atCond rfl (fun g2 => ?_) (fun g2 => ?_)
    · rw [ltb_iff] at g2
      refine go 800 rfl ?_
      refine atEnd ?_
      refine go 800 rfl ?_
      refine finI rfl rfl rfl trivial ?_
      rw [D.bool.injEq, eq_comm, decide_eq_false_iff_not]
      intro h
      have := h k hlt
      omega
    · rw [ltb_not] at g2
      refine go 800 rfl ?_
      refine atEnd ?_
      refine hN (k + 1) ⟨hlt, fun i hi => ?_⟩ (by omega) (settleI rfl trivial (by simp [edges, encInt, w1]))
      by_cases hik : i < k
      · exact hall i hik
      · obtain rfl : i = k := by omega
        omega
  rw [ltb_not] at g1
  refine go 800 rfl ?_
  refine atEnd ?_
  refine go 800 rfl ?_
  refine finI rfl rfl rfl trivial ?_
  rw [D.bool.injEq, eq_comm, decide_eq_true_iff]
  exact fun i hi => hall i (by omega)
end Go.F

/- With widths 0 nothing changes: the plain law. -/
namespace Go.F

theorem rndI_zero {b : Int} (hb : 0 < b) : rndI 0 b = 0 := by
  unfold rndI
  rw [if_neg (by omega)]
  exact Int.ediv_eq_zero_of_lt (by omega) (by omega)

theorem shiftS_zero {a b : Spot} [OkS a] [OkS b] (h : a ≠ b) : shiftS a b 0 = ⟨0, 0⟩ := by
  have hp := isq_pos (n := sqd a b) (by have := sqd_lt a b; omega) (sqd_pos h)
  unfold shiftS
  simp only [Int.neg_zero, Int.zero_mul]
  rw [rndI_zero (by omega)]

theorem addS_zero (a : Spot) : addS a ⟨0, 0⟩ = a := by cases a; simp [addS]

theorem roundQ_zero : roundQ 0 = 0 := by decide +kernel

theorem grid_zero : gridQ ⟨0, 0⟩ = (⟨0, 0⟩, 0) := by decide +kernel

/- two lines through a point -/
theorem meet_at (a v b : QP) : meetQ a v v b = none ∨ meetQ a v v b = some v := by
  unfold meetQ
  split
  · left; rfl
  · rename_i h
    right
    have e : crossP (subP v a) (subP b v) / crossP (subP v a) (subP b v) = 1 := by
      rw [Rat.div_def, Rat.mul_inv_cancel _ h]
    rw [e]
    have e2 : onP a v 1 = v := by
      unfold onP addP scaleP subP
      cases v
      simp only [Rat.mul_one, QP.mk.injEq]
      constructor <;> grind
    rw [e2]

theorem corner_zero (v a b : Spot) (wa wb : Int) (ha : 0 ≤ wa) (hb : 0 ≤ wb) : cornerS v ⟨a, v, wa⟩ ⟨v, b, wb⟩ = [v] ∨ cornerS v ⟨a, v, wa⟩ ⟨v, b, wb⟩ = [v, v] := by
  unfold cornerS
  rcases meet_at (qp a) (qp v) (qp b) with h | h
  · right; simp only [h]
  · left
    simp only [h]
    have e : subP (qp v) (qp v) = ⟨0, 0⟩ := by
      unfold subP; simp only [Rat.sub_self]
    rw [e, grid_zero]
    rw [if_pos]
    · rw [addS_zero]
    · refine ⟨rfl, ?_⟩
      rw [withinS_iff]
      simp only
      omega

theorem pushS_new {out : List Spot} {p : Spot} (h : out.length ≠ 0 → lastS out ≠ p) : pushS out p = out ++ [p] := by
  unfold pushS
  rw [if_pos]
  by_cases h0 : out.length = 0
  · exact .inl h0
  · exact .inr (h h0)

theorem pushS_old {out : List Spot} {p : Spot} : pushS (out ++ [p]) p = out ++ [p] := by
  unfold pushS
  rw [if_neg]
  rintro (h | h)
  · simp at h
  · apply h
    rw [lastS, pt_get (by simp)]
    simp

/- vertices that differ from the ones before them -/
theorem once_zero {v sh : List Spot} {each : List Int} (hc : ∀ i, i < v.length → cornerAt v sh each i = [pt v i] ∨ cornerAt v sh each i = [pt v i, pt v i]) (hne : ∀ i, i + 1 < v.length → pt v i ≠ pt v (i + 1)) :
    ∀ k, k ≤ v.length → onceL (cornersTo v sh each k) = v.take k := by
  intro k
  induction k with
  | zero => intro _; simp [cornersTo, onceL]
  | succ k ih =>
    intro hk
    have ih := ih (by omega)
    have hpush : pushS (v.take k) (pt v k) = v.take k ++ [pt v k] := by
      refine pushS_new fun h0 => ?_
      have hk0 : k ≠ 0 := by rintro rfl; simp at h0
      have e : lastS (v.take k) = pt v (k - 1) := by
        have hl : (v.take k).length = k := by simp; omega
        rw [lastS, hl, pt_get (by omega), pt_get (by omega)]
        simp
      rw [e]
      have := hne (k - 1) (by omega)
      rwa [Nat.sub_add_cancel (by omega)] at this
    have et : v.take (k + 1) = v.take k ++ [pt v k] := by
      rw [List.take_succ_eq_append_getElem (by omega), pt_get (by omega)]
    unfold onceL at ih ⊢
    rw [cornersTo, List.foldl_append, ih, et]
    rcases hc k (by omega) with h | h
    · rw [h]; simp only [List.foldl_cons, List.foldl_nil]; exact hpush
    · rw [h]; simp only [List.foldl_cons, List.foldl_nil]; rw [hpush]; exact pushS_old

theorem simple_distinct {p : List Spot} (hs : SimpleP p) {i j : Nat} (hi : i < j) (hj : j < p.length) : pt p i ≠ pt p j := by
  intro he
  refine hs.1 j hj ?_
  rw [← he, pt_get (by omega)]
  exact List.mem_iff_getElem.2 ⟨i, by simp; omega, by simp⟩

theorem trimN_stop {R : List Spot} {n : Nat} (h : 1 ≤ n → pt R n ≠ pt R 0) : trimN R (n + 1) = n + 1 := by
  rw [trimN, if_neg (fun h' => h h'.1 h'.2)]

/- without shifts the polygon stays -/
theorem allowPts_zero {v sh : List Spot} {each : List Int} (h3 : 3 ≤ v.length) (hs : SimpleP v) (hsh : ∀ i, i < v.length → pt sh i = ⟨0, 0⟩) (hw : ∀ i, 0 ≤ wd each i) : allowPts v sh each = v := by
  have hc : ∀ i, i < v.length → cornerAt v sh each i = [pt v i] ∨ cornerAt v sh each i = [pt v i, pt v i] := by
    intro i hi
    have hm : (i + v.length - 1) % v.length < v.length := Nat.mod_lt _ (by omega)
    have hn : ((i + v.length - 1) % v.length + 1) % v.length = i := by
      rw [Nat.mod_add_mod, show i + v.length - 1 + 1 = i + v.length by omega, Nat.add_mod_right, Nat.mod_eq_of_lt hi]
    unfold cornerAt
    have e1 : segAt v sh each ((i + v.length - 1) % v.length) = ⟨pt v ((i + v.length - 1) % v.length), pt v i, wd each ((i + v.length - 1) % v.length)⟩ := by
      unfold segAt; rw [hsh _ hm, addS_zero, addS_zero, hn]
    have e2 : segAt v sh each i = ⟨pt v i, pt v ((i + 1) % v.length), wd each i⟩ := by
      unfold segAt; rw [hsh _ hi, addS_zero, addS_zero]
    rw [e1, e2]
    exact corner_zero _ _ _ _ _ (hw _) (hw _)
  have ho := once_zero hc (fun i hi => simple_distinct hs (by omega) hi) v.length (Nat.le_refl _)
  rw [List.take_length] at ho
  unfold allowPts
  rw [ho]
  obtain ⟨n, hn⟩ : ∃ n, v.length = n + 1 := ⟨v.length - 1, by omega⟩
  rw [hn, trimN_stop (fun _ => (simple_distinct hs (by omega) (by omega)).symm), ← hn, List.take_length]

theorem wd_zeros (n i : Nat) : wd (List.replicate n 0) i = 0 := by
  unfold wd
  rw [List.getD_eq_getElem?_getD, List.getElem?_replicate]
  split <;> rfl

theorem segW_zeros (l : List Edge) (n : Nat) : ∀ k i, wd (segW l (List.replicate n 0) k) i = 0 := by
  have key : ∀ k, ∀ x ∈ segW l (List.replicate n 0) k, x = 0 := by
    intro k
    induction k with
    | zero => intro x hx; simp [segW] at hx
    | succ k ih =>
      intro x hx
      rw [segW, List.mem_append] at hx
      rcases hx with hx | hx
      · exact ih x hx
      · rw [(List.mem_replicate.1 hx).2, wd_zeros]
  intro k i
  by_cases hi : i < (segW l (List.replicate n 0) k).length
  · have : wd (segW l (List.replicate n 0) k) i = (segW l (List.replicate n 0) k)[i] := by simp [wd, hi]
    rw [this]; exact key k _ (List.getElem_mem _)
  · simp [wd, List.getElem?_eq_none (Nat.le_of_not_lt hi)]

theorem allow_zero (l : List Edge) : allowP l (List.replicate l.length 0) = if checkO l = 0 then (verts l, 0) else ([], checkO l) := by
  by_cases hc : checkO l = 0
  · rw [if_pos hc]
    obtain ⟨h2, h16, _, _, hchk⟩ := checkO_ok hc
    obtain ⟨v3, v40, vok, vin, vs⟩ := checkP_ok hchk
    have hb : (List.replicate l.length (0 : Int)).any badW = false := by
      rw [List.any_eq_false]; intro x hx; rw [(List.mem_replicate.1 hx).2]; decide
    have hs : shiftsP l (List.replicate l.length 0) = (shiftsL (verts l) (segW l (List.replicate l.length 0) l.length) (sgn (area2P (verts l))), 0) := by
      unfold shiftsP
      rw [if_pos hc, if_pos (by simp), if_neg (by rw [hb]; decide)]
    have hp : allowPts (verts l) (shiftsL (verts l) (segW l (List.replicate l.length 0) l.length) (sgn (area2P (verts l)))) (segW l (List.replicate l.length 0) l.length) = verts l := by
      refine allowPts_zero v3 vs (fun i hi => ?_) (fun i => by rw [segW_zeros]; omega)
      rw [shiftsL, pt_map hi, shiftAt, segW_zeros, Int.mul_zero]
      exact shiftS_zero (simple_ne vs (by omega) hi)
    unfold allowP
    rw [hs]
    simp only
    rw [if_pos trivial, hp]
    unfold allowQ
    rw [if_neg, if_pos hchk, if_pos rfl]
    rw [List.any_eq_true]
    rintro ⟨s, hs1, hs2⟩
    rw [vin s hs1] at hs2
    cases hs2
  · rw [if_neg hc]
    unfold allowP shiftsP
    rw [if_neg hc]
    simp only
    rw [if_neg hc]
end Go.F
