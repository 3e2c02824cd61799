/- Parts of the proof, part 43: Move, LMoves. -/
import Derived.Test.YtjjkgfikkihokaaZ42
/- Moving an outline moves the result: the plain law. -/
namespace Go.F

def moveL (d : Spot) (p : List Spot) : List Spot := p.map fun s => addS s d
def moveE (d : Spot) (e : Edge) : Edge := ⟨e.name, moveL d e.line⟩
def moveO (d : Spot) (l : List Edge) : List Edge := l.map (moveE d)

theorem moveL_len (d : Spot) (p : List Spot) : (moveL d p).length = p.length := by simp [moveL]

theorem addS_inj {a b d : Spot} (h : addS a d = addS b d) : a = b := by
  cases a; cases b; simp only [addS, Spot.mk.injEq] at h ⊢; omega

theorem pt_move {d : Spot} {p : List Spot} {i : Nat} (h : i < p.length) : pt (moveL d p) i = addS (pt p i) d := by
  rw [pt_get (by rw [moveL_len]; exact h), pt_get h]; simp [moveL]

theorem verts_move (d : Spot) (l : List Edge) : verts (moveO d l) = moveL d (verts l) := by
  unfold verts moveO moveL
  rw [List.flatMap_map, List.map_flatMap]
  congr 1
  funext e
  simp [moveE, moveL, List.map_dropLast]

theorem eg_move {d : Spot} {l : List Edge} {i : Nat} (h : i < l.length) : eg (moveO d l) i = moveE d (eg l i) := by
  rw [eg_get (by simpa [moveO] using h), eg_get h]; simp [moveO]

theorem segW_move (d : Spot) (l : List Edge) (ws : List Int) : ∀ k, k ≤ l.length → segW (moveO d l) ws k = segW l ws k := by
  intro k
  induction k with
  | zero => intro _; rfl
  | succ k ih =>
    intro hk
    rw [segW, segW, ih (by omega), eg_move (by omega)]
    simp [moveE, moveL]

/- the area -/
theorem area_move_to (d : Spot) (p : List Spot) : ∀ k, k ≤ p.length → areaTo (moveL d p) k = areaTo p k + d.x * ((pt p (k % p.length)).y - (pt p 0).y) - d.y * ((pt p (k % p.length)).x - (pt p 0).x) := by
  intro k
  induction k with
  | zero => intro _; simp [areaTo]
  | succ k ih =>
    intro hk
    have h0 : 0 < p.length := by omega
    rw [areaTo, areaTo, ih (by omega), moveL_len, pt_move (by omega), pt_move (Nat.mod_lt _ h0), Nat.mod_eq_of_lt (show k < p.length by omega)]
    unfold addS
    simp only
    generalize (pt p k).x = a
    generalize (pt p k).y = b
    generalize (pt p ((k + 1) % p.length)).x = e
    generalize (pt p ((k + 1) % p.length)).y = f
    generalize (pt p 0).x = g
    generalize (pt p 0).y = h
    grind

theorem area_move (d : Spot) (p : List Spot) : areaP (moveL d p) = areaP p := by
  unfold areaP
  rw [moveL_len, area_move_to d p p.length (Nat.le_refl _), Nat.mod_self]
  simp

theorem area2_move {d : Spot} {p : List Spot} (h1 : checkP p = 0) (h2 : checkP (moveL d p) = 0) : area2P (moveL d p) = area2P p := by
  unfold area2P
  rw [if_pos h1, if_pos h2, area_move]

/- shifts -/
theorem shiftS_move (d a b : Spot) (w : Int) : shiftS (addS a d) (addS b d) w = shiftS a b w := by
  have e1 : b.x + d.x - (a.x + d.x) = b.x - a.x := by omega
  have e2 : b.y + d.y - (a.y + d.y) = b.y - a.y := by omega
  unfold shiftS sqd addS
  simp only [e1, e2]

theorem shiftsL_move (d : Spot) (p : List Spot) (each : List Int) (sg : Int) : shiftsL (moveL d p) each sg = shiftsL p each sg := by
  unfold shiftsL
  rw [moveL_len]
  refine List.map_congr_left fun i hi => ?_
  have hi := List.mem_range.1 hi
  unfold shiftAt
  rw [moveL_len, pt_move hi, pt_move (Nat.mod_lt _ (by omega)), shiftS_move]

/- corners -/
theorem qp_add (a d : Spot) : qp (addS a d) = addP (qp a) (qp d) := by
  unfold qp addS addP; simp only [Rat.intCast_add]

theorem subP_move (a b d : QP) : subP (addP a d) (addP b d) = subP a b := by
  unfold subP addP; simp only [QP.mk.injEq]; constructor <;> grind

theorem onP_move (a b d : QP) (t : Rat) : onP (addP a d) (addP b d) t = addP (onP a b t) d := by
  unfold onP
  rw [subP_move]
  unfold addP; simp only [QP.mk.injEq]; constructor <;> grind

theorem meet_move (a b c e d : QP) : meetQ (addP a d) (addP b d) (addP c d) (addP e d) = (meetQ a b c e).map fun m => addP m d := by
  unfold meetQ
  simp only [subP_move, onP_move]
  split <;> rfl

def moveG (d : Spot) (s : Seg) : Seg := ⟨addS s.fr d, addS s.to d, s.w⟩

theorem addS_swap (a b d : Spot) : addS (addS a d) b = addS (addS a b) d := by
  unfold addS; simp only [Spot.mk.injEq]; omega

theorem corner_move (d v : Spot) (a b : Seg) : cornerS (addS v d) (moveG d a) (moveG d b) = moveL d (cornerS v a b) := by
  unfold cornerS moveG
  simp only [qp_add, meet_move]
  cases meetQ (qp a.fr) (qp a.to) (qp b.fr) (qp b.to) with
  | none => rfl
  | some m =>
    simp only [Option.map_some, subP_move]
    split
    · simp only [moveL, List.map_cons, List.map_nil, addS_swap]
    · rfl

theorem segAt_move (d : Spot) (v sh : List Spot) (each : List Int) {i : Nat} (h : i < v.length) : segAt (moveL d v) sh each i = moveG d (segAt v sh each i) := by
  unfold segAt moveG
  rw [moveL_len, pt_move h, pt_move (Nat.mod_lt _ (by omega))]
  simp only [addS_swap]

theorem cornersTo_move (d : Spot) (v sh : List Spot) (each : List Int) : ∀ k, k ≤ v.length → cornersTo (moveL d v) sh each k = moveL d (cornersTo v sh each k) := by
  intro k
  induction k with
  | zero => intro _; rfl
  | succ k ih =>
    intro hk
    rw [cornersTo, cornersTo, ih (by omega)]
    have : cornerAt (moveL d v) sh each k = moveL d (cornerAt v sh each k) := by
      unfold cornerAt
      rw [moveL_len, pt_move (by omega), segAt_move d v sh each (Nat.mod_lt _ (by omega)), segAt_move d v sh each (by omega), corner_move]
    rw [this]
    simp [moveL]

theorem pushS_move (d : Spot) (out : List Spot) (p : Spot) : pushS (moveL d out) (addS p d) = moveL d (pushS out p) := by
  unfold pushS
  by_cases h0 : out.length = 0
  · rw [if_pos (.inl (by rw [moveL_len]; exact h0)), if_pos (.inl h0)]
    simp [moveL]
  · have e : lastS (moveL d out) = addS (lastS out) d := by
      rw [lastS, lastS, moveL_len, pt_move (by omega)]
    rw [moveL_len, e]
    by_cases h1 : lastS out = p
    · rw [if_neg (by rintro (h | h); exact h0 h; exact h (by rw [h1])), if_neg (by rintro (h | h); exact h0 h; exact h h1)]
    · rw [if_pos (.inr fun h => h1 (addS_inj h)), if_pos (.inr h1)]
      simp [moveL]

theorem once_move (d : Spot) (l : List Spot) : onceL (moveL d l) = moveL d (onceL l) := by
  have key : ∀ (l out : List Spot), (moveL d l).foldl pushS (moveL d out) = moveL d (l.foldl pushS out) := by
    intro l
    induction l with
    | nil => intro out; rfl
    | cons p l ih =>
      intro out
      show (moveL d l).foldl pushS (pushS (moveL d out) (addS p d)) = _
      rw [pushS_move, ih]; rfl
  exact key l []

theorem trimN_move (d : Spot) (R : List Spot) : ∀ j, j ≤ R.length → trimN (moveL d R) j = trimN R j := by
  intro j
  induction j with
  | zero => intro _; rfl
  | succ j ih =>
    intro hj
    rw [trimN, trimN, ih (by omega), pt_move (by omega), pt_move (by omega)]
    by_cases h : pt R j = pt R 0
    · simp only [h]
    · have h' : ¬ addS (pt R j) d = addS (pt R 0) d := fun he => h (addS_inj he)
      rw [if_neg (fun x => h' x.2), if_neg (fun x => h x.2)]

theorem allowPts_move (d : Spot) (v sh : List Spot) (each : List Int) : allowPts (moveL d v) sh each = moveL d (allowPts v sh each) := by
  unfold allowPts
  rw [moveL_len, cornersTo_move d v sh each v.length (Nat.le_refl _), once_move, moveL_len, trimN_move d _ _ (Nat.le_refl _)]
  simp [moveL, List.map_take]

theorem allow_move {l : List Edge} {ws : List Int} {q : List Spot} {d : Spot} (h : allowP l ws = (q, 0)) (h1 : checkO (moveO d l) = 0) (h2 : checkP (moveL d q) = 0) : allowP (moveO d l) ws = (moveL d q, 0) := by
  unfold allowP at h
  by_cases hs : (shiftsP l ws).2 = 0
  · rw [if_pos hs] at h
    obtain ⟨hc, hwl, hgood, hs1⟩ := shiftsP_ok hs
    obtain ⟨_, _, _, _, hchk⟩ := checkO_ok hc
    obtain ⟨_, _, _, _, hchk'⟩ := checkO_ok h1
    rw [verts_move] at hchk'
    have hlen : (moveO d l).length = l.length := by simp [moveO]
    have ha := area2_move hchk hchk'
    have hb : ws.any badW = false := by
      rw [List.any_eq_false]
      intro x hx
      have := hgood x hx
      simp [badW]; omega
    have hs' : shiftsP (moveO d l) ws = ((shiftsP l ws).1, 0) := by
      rw [hs1]
      unfold shiftsP
      rw [if_pos h1, hlen, if_pos hwl, hb, if_neg (by decide), verts_move, segW_move d l ws _ (Nat.le_refl _), ha, shiftsL_move]
    unfold allowQ at h
    split at h
    · cases h
    · split at h
      · rename_i hw hq
        split at h
        · rename_i hsg
          simp only [Prod.mk.injEq, and_true] at h
          rw [h] at hw hq hsg
          obtain ⟨_, _, _, win, _⟩ := checkP_ok h2
          unfold allowP
          rw [hs']
          simp only
          rw [if_pos trivial, hlen, verts_move, segW_move d l ws _ (Nat.le_refl _), allowPts_move, h]
          unfold allowQ
          rw [if_neg, if_pos h2, if_pos (by rw [ha, area2_move hq h2, hsg])]
          rw [List.any_eq_true]
          rintro ⟨s, hs1, hs2⟩
          rw [win s hs1] at hs2
          cases hs2
        · cases h
      · rename_i hq
        simp only [Prod.mk.injEq] at h
        exact absurd h.2 hq
  · rw [if_neg hs] at h
    simp only [Prod.mk.injEq] at h
    exact absurd h.2 hs
end Go.F

/- AllowanceMoves: the law's walk. -/
namespace Go.F
attribute [local irreducible] IntKind.wrap wpM

set_option maxHeartbeats 1000000 in
theorem polyline_Move_PU (p : List Spot) (d : Spot) [hd : MidS d] (hp : p.length ≤ 100000) (hm : ∀ s ∈ p, MidS s) : PU f_polyline_Move [spots p, d.enc] = some (spots (moveL d p)) := by
  refine PU_of (fn := k_polyline_Move) rfl (startI ?_)
  refine go 800 rfl ?_
  rw [List.length_map]
  refine atMake p.length rfl rfl rfl (by simp [limit]; omega) ?_
  have ez : List.replicate p.length (D.agg [D.int IntKind.i64 0, D.int IntKind.i64 0]) = (fillL ⟨0, 0⟩ p.length (fun i => addS (pt p i) d) 0).map Spot.enc := by
    rw [fill_zero]; simp [Spot.enc]
  rw [ez]
  refine go 800 rfl ?_
  refine atLoop (S := fun k : Nat => ([.ptr 0 0 0, .ref 1 0 p.length, spots p, encInt p.length, encInt k], [some (.row [d.enc] 2), some (.row ((fillL ⟨0, 0⟩ p.length (fun i => addS (pt p i) d) k).map Spot.enc) 2), none, none, none], [0, 0, 0, 0, 0])) (C := fun k => k ≤ p.length) (m := fun k => p.length - k) 0 (Nat.zero_le _) (by omega) ?_ ?_
  · exact settleI rfl ⟨rfl, all_plain spot_plain _, trivial⟩ (by simp [spots, encInt, Spot.enc])
  intro k hk N hN
  refine go 800 rfl ?_
  refine atCond rfl (fun g1 => ?_) (fun g1 => ?_)
  · rw [ltb_iff] at g1
    have hlt : k < p.length := by omega
    have w1 : IntKind.i64.wrap ((k : Int) + 1) = ((k + 1 : Nat) : Int) := wrap64 (by omega) (by omega)
    have hset := fill_set ⟨0, 0⟩ (fun i => addS (pt p i) d) hlt
    have hmk : MidS (pt p k) := by rw [pt_get hlt]; exact hm _ (List.getElem_mem _)
    have c1 : IntKind.i64.wrap ((pt p k).x + d.x) = (pt p k).x + d.x := wrap_bd (by decide)
    have c2 : IntKind.i64.wrap ((pt p k).y + d.y) = (pt p k).y + d.y := wrap_bd (by decide)
    refine go 800 rfl ?_
    refine atIdx k rfl rfl rfl (pt_enc hlt) rfl ?_
    refine go 800 rfl ?_
    rw [c1, c2]
    refine atIdxR k rfl rfl rfl rfl rfl hlt ?_
    refine go 800 rfl ?_
    refine atStoreE (enc := Spot.enc) (fillL ⟨0, 0⟩ p.length (fun i => addS (pt p i) d) k) k (addS (pt p k) d) rfl rfl (Nat.zero_add _) rfl (fun _ => rfl) rfl (Nat.zero_le _) (by rw [fill_len]; exact hlt) ?_
    rw [hset]
    refine go 800 rfl ?_
    refine atEnd ?_
    exact hN (k + 1) hlt (by omega) (settleI rfl ⟨rfl, all_plain spot_plain _, trivial⟩ (by simp [spots, encInt, w1, Spot.enc]))
  rw [ltb_not] at g1
  obtain rfl : k = p.length := by omega
  refine go 800 rfl ?_
  refine atEnd ?_
  refine go 800 rfl ?_
  refine finI rfl rfl rfl ⟨datRow (by simp [fill_len]) (all_dat spot_dat _), trivial⟩ ?_
  rw [rowAll (by simp [fill_len]), fill_full]
  have : (List.range p.length).map (fun i => addS (pt p i) d) = moveL d p := by
    apply List.ext_getElem
    · simp [moveL]
    · intro i h1 h2
      simp at h1
      simp [moveL, pt_get h1]
  rw [this]; rfl

theorem polygon_Move_PU (p : List Spot) (d : Spot) [hd : MidS d] (hp : p.length ≤ 100000) (hm : ∀ s ∈ p, MidS s) : PU f_polygon_Move [spots p, d.enc] = some (spots (moveL d p)) := by
  refine PU_of (fn := k_polygon_Move) rfl (startI ?_)
  refine go 800 rfl ?_
  refine atCall rfl rfl (polyline_Move_PU p d hp hm) ?_
  refine go 800 rfl ?_
  exact finI rfl rfl rfl trivial rfl

theorem mid_within {s : Spot} (h : withinS s 1048576 = true) : MidS s := by
  rw [withinS_iff] at h; exact ⟨by omega, by omega⟩

theorem allowP_ok {l : List Edge} {ws : List Int} (h : (allowP l ws).2 = 0) : checkO l = 0 ∧ checkP (allowP l ws).1 = 0 := by
  unfold allowP at h ⊢
  split at h
  · rename_i hs
    rw [if_pos hs]
    refine ⟨(shiftsP_ok hs).1, ?_⟩
    unfold allowQ at h ⊢
    split at h
    · cases h
    · rename_i h1
      split at h
      · rename_i h2
        split at h
        · rename_i h3; rw [if_neg h1, if_pos h2, if_pos h3]; exact h2
        · cases h
      · rename_i h2; exact absurd h h2
  · rename_i hs; exact absurd h hs

theorem moveO_step (d : Spot) (l : List Edge) {k : Nat} (h : k < l.length) : (moveO d (l.take (k + 1))).map Edge.enc = (moveO d (l.take k)).map Edge.enc ++ [(moveE d (eg l k)).enc] := by
  unfold moveO
  rw [List.take_succ_eq_append_getElem h, List.map_append, List.map_append, eg_get h]; rfl

set_option maxHeartbeats 4000000 in
theorem moves_law_PU (l : List Edge) (ws : List Int) (d : Spot) : PU f_l24_AllowanceMoves [edges l, ints ws, d.enc] = some (.bool true) := by
  obtain ⟨sm, hsm, hsmall⟩ := small_PU l ws
  refine PU_of (fn := k_l24_AllowanceMoves) rfl (startI ?_)
  refine go 800 rfl ?_
  refine atCall rfl rfl hsm ?_
  refine go 800 rfl ?_
  refine atGuard rfl (fun g => ?_) (fun g0 => ?_)
  · repeat' (first
      | (refine goP 800 rfl rfl ?_)
      | (show wpM _ _ _ (Fr.ops _ _ (KOper.mk _ _ (some _) _ _ :: _) :: _) Ex.normal _ _ _ _ _; first | refine atGuardT rfl ?_ | refine atGuardF rfl ?_ | refine atGuard rfl (fun _ => ?_) (fun _ => ?_))
      | (show wpM _ _ _ (Fr.code (K.cond _ _ _) :: _) Ex.normal _ _ _ _ _; first | refine atCondT rfl ?_ | refine atCondF rfl ?_ | refine atCond rfl (fun _ => ?_) (fun _ => ?_))
      | (show wpM _ _ _ (Fr.ops _ _ (KOper.mk _ _ none _ (KOp.pick _ _ _) :: _) :: _) Ex.normal _ _ _ _ _; refine atPick rfl (fun _ => ?_) (fun _ => ?_))
      | (show wpM _ _ _ [] _ _ _ _ _ _; refine finI rfl rfl rfl trivial ?_)
      | (show wpM _ _ _ (Fr.ops _ _ (KOper.mk _ _ none _ (KOp.callF f_l24_exampleHolds _) :: _) :: _) Ex.normal _ _ _ _ _; refine atCall rfl rfl (exampleHolds_PU) ?_))
    all_goals rfl
  refine go 800 rfl ?_
  refine atGuard rfl (fun g => ?_) (fun g1 => ?_)
  · repeat' (first
      | (refine goP 800 rfl rfl ?_)
      | (show wpM _ _ _ (Fr.ops _ _ (KOper.mk _ _ (some _) _ _ :: _) :: _) Ex.normal _ _ _ _ _; first | refine atGuardT rfl ?_ | refine atGuardF rfl ?_ | refine atGuard rfl (fun _ => ?_) (fun _ => ?_))
      | (show wpM _ _ _ (Fr.code (K.cond _ _ _) :: _) Ex.normal _ _ _ _ _; first | refine atCondT rfl ?_ | refine atCondF rfl ?_ | refine atCond rfl (fun _ => ?_) (fun _ => ?_))
      | (show wpM _ _ _ (Fr.ops _ _ (KOper.mk _ _ none _ (KOp.pick _ _ _) :: _) :: _) Ex.normal _ _ _ _ _; refine atPick rfl (fun _ => ?_) (fun _ => ?_))
      | (show wpM _ _ _ [] _ _ _ _ _ _; refine finI rfl rfl rfl trivial ?_)
      | (show wpM _ _ _ (Fr.ops _ _ (KOper.mk _ _ none _ (KOp.callF f_l24_exampleHolds _) :: _) :: _) Ex.normal _ _ _ _ _; refine atCall rfl rfl (exampleHolds_PU) ?_))
    all_goals rfl
  refine go 800 rfl ?_
  refine atGuard rfl (fun g => ?_) (fun g2 => ?_)
  · repeat' (first
      | (refine goP 800 rfl rfl ?_)
      | (show wpM _ _ _ (Fr.ops _ _ (KOper.mk _ _ (some _) _ _ :: _) :: _) Ex.normal _ _ _ _ _; first | refine atGuardT rfl ?_ | refine atGuardF rfl ?_ | refine atGuard rfl (fun _ => ?_) (fun _ => ?_))
      | (show wpM _ _ _ (Fr.code (K.cond _ _ _) :: _) Ex.normal _ _ _ _ _; first | refine atCondT rfl ?_ | refine atCondF rfl ?_ | refine atCond rfl (fun _ => ?_) (fun _ => ?_))
      | (show wpM _ _ _ (Fr.ops _ _ (KOper.mk _ _ none _ (KOp.pick _ _ _) :: _) :: _) Ex.normal _ _ _ _ _; refine atPick rfl (fun _ => ?_) (fun _ => ?_))
      | (show wpM _ _ _ [] _ _ _ _ _ _; refine finI rfl rfl rfl trivial ?_)
      | (show wpM _ _ _ (Fr.ops _ _ (KOper.mk _ _ none _ (KOp.callF f_l24_exampleHolds _) :: _) :: _) Ex.normal _ _ _ _ _; refine atCall rfl rfl (exampleHolds_PU) ?_))
    all_goals rfl
  refine go 800 rfl ?_
  refine atGuard rfl (fun g => ?_) (fun g3 => ?_)
  · repeat' (first
      | (refine goP 800 rfl rfl ?_)
      | (show wpM _ _ _ (Fr.ops _ _ (KOper.mk _ _ (some _) _ _ :: _) :: _) Ex.normal _ _ _ _ _; first | refine atGuardT rfl ?_ | refine atGuardF rfl ?_ | refine atGuard rfl (fun _ => ?_) (fun _ => ?_))
      | (show wpM _ _ _ (Fr.code (K.cond _ _ _) :: _) Ex.normal _ _ _ _ _; first | refine atCondT rfl ?_ | refine atCondF rfl ?_ | refine atCond rfl (fun _ => ?_) (fun _ => ?_))
      | (show wpM _ _ _ (Fr.ops _ _ (KOper.mk _ _ none _ (KOp.pick _ _ _) :: _) :: _) Ex.normal _ _ _ _ _; refine atPick rfl (fun _ => ?_) (fun _ => ?_))
      | (show wpM _ _ _ [] _ _ _ _ _ _; refine finI rfl rfl rfl trivial ?_)
      | (show wpM _ _ _ (Fr.ops _ _ (KOper.mk _ _ none _ (KOp.callF f_l24_exampleHolds _) :: _) :: _) Ex.normal _ _ _ _ _; refine atCall rfl rfl (exampleHolds_PU) ?_))
    all_goals rfl
  refine go 800 rfl ?_
  refine atCond rfl (fun g => ?_) (fun g4 => ?_)
  · repeat' (first
      | (refine goP 800 rfl rfl ?_)
      | (show wpM _ _ _ (Fr.ops _ _ (KOper.mk _ _ (some _) _ _ :: _) :: _) Ex.normal _ _ _ _ _; first | refine atGuardT rfl ?_ | refine atGuardF rfl ?_ | refine atGuard rfl (fun _ => ?_) (fun _ => ?_))
      | (show wpM _ _ _ (Fr.code (K.cond _ _ _) :: _) Ex.normal _ _ _ _ _; first | refine atCondT rfl ?_ | refine atCondF rfl ?_ | refine atCond rfl (fun _ => ?_) (fun _ => ?_))
      | (show wpM _ _ _ (Fr.ops _ _ (KOper.mk _ _ none _ (KOp.pick _ _ _) :: _) :: _) Ex.normal _ _ _ _ _; refine atPick rfl (fun _ => ?_) (fun _ => ?_))
      | (show wpM _ _ _ [] _ _ _ _ _ _; refine finI rfl rfl rfl trivial ?_)
      | (show wpM _ _ _ (Fr.ops _ _ (KOper.mk _ _ none _ (KOp.callF f_l24_exampleHolds _) :: _) :: _) Ex.normal _ _ _ _ _; refine atCall rfl rfl (exampleHolds_PU) ?_))
    all_goals rfl
  rw [ltb_not] at g1 g2 g3 g4
  obtain ⟨h30, _⟩ := hsmall (by simpa using g0)
  have hd : MidS d := ⟨by omega, by omega⟩
  refine go 800 rfl ?_
  refine atCall rfl rfl (Allow_PU l ws) ?_
  refine go 800 rfl ?_
  refine atCond rfl (fun g => ?_) (fun g5 => ?_)
  · repeat' (first
      | (refine goP 800 rfl rfl ?_)
      | (show wpM _ _ _ (Fr.ops _ _ (KOper.mk _ _ (some _) _ _ :: _) :: _) Ex.normal _ _ _ _ _; first | refine atGuardT rfl ?_ | refine atGuardF rfl ?_ | refine atGuard rfl (fun _ => ?_) (fun _ => ?_))
      | (show wpM _ _ _ (Fr.code (K.cond _ _ _) :: _) Ex.normal _ _ _ _ _; first | refine atCondT rfl ?_ | refine atCondF rfl ?_ | refine atCond rfl (fun _ => ?_) (fun _ => ?_))
      | (show wpM _ _ _ (Fr.ops _ _ (KOper.mk _ _ none _ (KOp.pick _ _ _) :: _) :: _) Ex.normal _ _ _ _ _; refine atPick rfl (fun _ => ?_) (fun _ => ?_))
      | (show wpM _ _ _ [] _ _ _ _ _ _; refine finI rfl rfl rfl trivial ?_)
      | (show wpM _ _ _ (Fr.ops _ _ (KOper.mk _ _ none _ (KOp.callF f_l24_exampleHolds _) :: _) :: _) Ex.normal _ _ _ _ _; refine atCall rfl rfl (exampleHolds_PU) ?_))
    all_goals rfl
  rw [nqb_not] at g5
  obtain ⟨hc, hq⟩ := allowP_ok g5
  have hmv := fun h1 h2 => allow_move (l := l) (ws := ws) (q := (allowP l ws).1) (d := d) (by rw [← g5]) h1 h2
  have hlines := checkO_lines hc
  obtain ⟨_, _, hfe, _, _⟩ := checkO_ok hc
  obtain ⟨q3, q40, _, qin, _⟩ := checkP_ok hq
  generalize (allowP l ws).1 = q at *
  refine go 800 rfl ?_
  refine atLoop (S := fun k : Nat => ([ints ws, .ptr 1 0 0, spots q, .ref 3 0 k, edges l, encInt l.length, encInt k], [none, some (.row [d.enc] 2), none, some (.row ((moveO d (l.take k)).map Edge.enc) 2), none, none, none], [0, 0, 0, 0, 0, 0, 0])) (C := fun k => k ≤ l.length) (m := fun k => l.length - k) 0 (Nat.zero_le _) (by omega) ?_ ?_
  · exact settleI rfl ⟨rfl, rfl, trivial⟩ (by simp [spots, edges, ints, encInt, Spot.enc, moveO])
  intro k hk N hN
  refine go 800 rfl ?_
  refine atCond rfl (fun e1 => ?_) (fun e1 => ?_)
  · rw [ltb_iff] at e1
    have hlt : k < l.length := by omega
    have w1 : IntKind.i64.wrap ((k : Int) + 1) = ((k + 1 : Nat) : Int) := wrap64 (by omega) (by omega)
    have hl2 : (eg l k).line.length ≤ 40 := by rw [eg_get hlt]; exact (hlines _ (List.getElem_mem _)).2
    have hlm : ∀ s ∈ (eg l k).line, MidS s := fun s hs => mid_within ((checkL_ok (edgeErr_ok (firstErr_of hfe hlt))).2.2 s hs)
    have hstep := moveO_step d l hlt
    refine go 800 rfl ?_
    refine atIdx k rfl rfl rfl (eg_enc hlt) rfl ?_
    refine go 800 rfl ?_
    refine atCall rfl rfl (polygon_Move_PU (eg l k).line d (by omega) hlm) ?_
    refine go 800 rfl ?_
    refine atAppR rfl rfl rfl rfl rfl rfl (by simp [moveO]; omega) (Nat.zero_le _) (by simp [limit, moveO]; omega) ?_
    refine go 800 rfl ?_
    refine atEnd ?_
    refine hN (k + 1) hlt (by omega) (settleI rfl ⟨rfl, ?_, trivial⟩ ?_)
    · rw [List.all_append, all_plain edge_plain]; rfl
    · rw [hstep]; simp [spots, edges, ints, encInt, Spot.enc, w1, Edge.enc, moveE]
  rw [ltb_not] at e1
  obtain rfl : k = l.length := by omega
  clear hN
  rw [List.take_length]
  have hml : (moveO d l).length = l.length := by simp [moveO]
  have hdat : 0 + l.length ≤ ((moveO d l).map Edge.enc).length ∧ ((((moveO d l).map Edge.enc).drop 0).take l.length).all (dat 4) = true := datRow (by simp [moveO]) (all_dat edge_dat _)
  have hrow : D.lst (((moveO d l).map Edge.enc).take l.length) = edges (moveO d l) := by rw [rowAll (by simp [moveO])]; rfl
  refine go 800 rfl ?_
  refine atEnd ?_
  refine go 800 rfl ?_
  refine atCall rfl rfl (polygon_Move_PU q d (by omega) (fun s hs => mid_within (qin s hs))) ?_
  refine go 800 rfl ?_
  refine atCallI rfl rfl ⟨hdat, trivial⟩ (by rw [hrow]; exact outline_Check_PU (moveO d l)) rfl ?_
  refine go 800 rfl ?_
  refine atGuard rfl (fun g => ?_) (fun g6 => ?_)
  · repeat' (first
      | (refine goP 800 rfl rfl ?_)
      | (show wpM _ _ _ (Fr.ops _ _ (KOper.mk _ _ (some _) _ _ :: _) :: _) Ex.normal _ _ _ _ _; first | refine atGuardT rfl ?_ | refine atGuardF rfl ?_ | refine atGuard rfl (fun _ => ?_) (fun _ => ?_))
      | (show wpM _ _ _ (Fr.code (K.cond _ _ _) :: _) Ex.normal _ _ _ _ _; first | refine atCondT rfl ?_ | refine atCondF rfl ?_ | refine atCond rfl (fun _ => ?_) (fun _ => ?_))
      | (show wpM _ _ _ (Fr.ops _ _ (KOper.mk _ _ none _ (KOp.pick _ _ _) :: _) :: _) Ex.normal _ _ _ _ _; refine atPick rfl (fun _ => ?_) (fun _ => ?_))
      | (show wpM _ _ _ [] _ _ _ _ _ _; refine finI rfl rfl rfl trivial ?_)
      | (show wpM _ _ _ (Fr.ops _ _ (KOper.mk _ _ none _ (KOp.callF f_l24_exampleHolds _) :: _) :: _) Ex.normal _ _ _ _ _; refine atCall rfl rfl (exampleHolds_PU) ?_))
    all_goals rfl
  rw [nqb_not] at g6
  refine go 800 rfl ?_
  refine atCall rfl rfl (polygon_Check_PU (moveL d q)) ?_
  refine go 800 rfl ?_
  refine atCond rfl (fun g => ?_) (fun g7 => ?_)
  · repeat' (first
      | (refine goP 800 rfl rfl ?_)
      | (show wpM _ _ _ (Fr.ops _ _ (KOper.mk _ _ (some _) _ _ :: _) :: _) Ex.normal _ _ _ _ _; first | refine atGuardT rfl ?_ | refine atGuardF rfl ?_ | refine atGuard rfl (fun _ => ?_) (fun _ => ?_))
      | (show wpM _ _ _ (Fr.code (K.cond _ _ _) :: _) Ex.normal _ _ _ _ _; first | refine atCondT rfl ?_ | refine atCondF rfl ?_ | refine atCond rfl (fun _ => ?_) (fun _ => ?_))
      | (show wpM _ _ _ (Fr.ops _ _ (KOper.mk _ _ none _ (KOp.pick _ _ _) :: _) :: _) Ex.normal _ _ _ _ _; refine atPick rfl (fun _ => ?_) (fun _ => ?_))
      | (show wpM _ _ _ [] _ _ _ _ _ _; refine finI rfl rfl rfl trivial ?_)
      | (show wpM _ _ _ (Fr.ops _ _ (KOper.mk _ _ none _ (KOp.callF f_l24_exampleHolds _) :: _) :: _) Ex.normal _ _ _ _ _; refine atCall rfl rfl (exampleHolds_PU) ?_))
    all_goals rfl
  rw [nqb_not] at g7
  have hal := Allow_PU (moveO d l) ws
  rw [hmv g6 g7] at hal
  refine go 800 rfl ?_
  refine atCallR rfl rfl ⟨hdat, trivial⟩ (by rw [hrow]; exact hal) fun z => ?_
  refine go 800 rfl ?_
  refine atGuard rfl (fun _ => ?_) (fun g => absurd rfl (eqb_not.1 g))
  refine go 800 rfl ?_
  refine atCall rfl rfl (r11_Same_PU (moveL d q) (moveL d q) (by rw [moveL_len]; omega)) ?_
  refine go 800 rfl ?_
  refine atGuard rfl (fun _ => ?_) (fun g => absurd g (by simp))
  refine go 800 rfl ?_
  refine atCall rfl rfl exampleHolds_PU ?_
  refine go 800 rfl ?_
  exact finI rfl rfl rfl trivial rfl
end Go.F
