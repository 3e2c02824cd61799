/- Parts of the proof, part 41: Stop3, Stop4, Geo1, Geo2, Geo3, Geo4, Geo5, Geo6, Geo7, Geo8, Geo9, Ref1, Plain1, Ref2, Ref3, All1, All2, Flt, Nat1, Nat2, Nat3, Nat4, Nat5, Nat6, Nat7, Nat8, Nat9, Nat10. -/
import Derived.Test.YtjjkgfikkihokaaZ39
import Derived.KernelRfl
set_option linter.all false
/- The K machine: calls with rows, copies, loops of functions that run in their caller's heap. -/
namespace Go.F

section
variable {T : Tab} {sh : Shr} {nx0 : Nat} {s : List Fr} {t : Tmps} {h : Heap} {z : Frz} {nx : Nat} {q : Ex → Tmps → Heap → Frz → Nat → Prop}
variable {base i : Nat} {res : List Nat} {dst : Nat} {g : Gd} {rest : List KOper}

/- a call whose arguments are rows: what is frozen by it is not looked at again -/
theorem atCallR {f : FuncId} {args : List X} {bs : List D} {rows : List (List D × Nat × Nat)} {r : D} (hs : T.shared f = false)
    (ha : drL1 (g.h base h) (args.map (·.ev t)) = some (rows, bs)) (hr : DatRows rows) (hp : T.pu f bs = some r)
    (hk : ∀ z, wpM T sh nx0 (.ops base res rest :: s) .normal (upd t dst r) h z nx q) :
    wpM T sh nx0 (.ops base res (⟨i, some dst, none, g, .callF f args⟩ :: rest) :: s) .normal t h z nx q := by
  refine atOp ?_
  simp only [kop, kcall, hs]
  refine drL1_sound ha hr ?_
  unfold wcall
  refine ⟨r, hp, ?_⟩
  simp only [f2_eq]
  split
  · exact hk _
  · split
    · exact hk _
    · exact hk _

/- the same, if the result holds no memory -/
theorem atCallI {f : FuncId} {args : List X} {bs : List D} {rows : List (List D × Nat × Nat)} {r : D} (hs : T.shared f = false)
    (ha : drL1 (g.h base h) (args.map (·.ev t)) = some (rows, bs)) (hr : DatRows rows) (hp : T.pu f bs = some r) (hn : noRef 4 r = true)
    (hk : wpM T sh nx0 (.ops base res rest :: s) .normal (upd t dst r) h z nx q) :
    wpM T sh nx0 (.ops base res (⟨i, some dst, none, g, .callF f args⟩ :: rest) :: s) .normal t h z nx q := by
  refine atOp ?_
  simp only [kop, kcall, hs]
  refine drL1_sound ha hr ?_
  unfold wcall
  refine ⟨r, hp, ?_⟩
  simp only [f2_eq, hn]
  exact hk

theorem atCopyL {n : Nat} {sx x : X} {dst : Option Nat} {id off len : Nat} {es l : List D} {esz : Nat} (hs : sx.ev t = .ref id off len) (hr : g.h base h id = some (.row es esz)) (he : Nat.beq n esz = true) (hx : x.ev t = .lst l)
    (hc : l.all (fun d => d.cells.length == n) = true) (hb : off + len ≤ es.length) (hz : g.z base z id ≤ off)
    (hk : wpM T sh nx0 (.ops base res rest :: s) .normal (put t dst (.int .i64 (min l.length len : Nat))) (upd h id (some (.row (es.take off ++ l.take (min l.length len) ++ es.drop (off + min l.length len)) esz))) z nx q) :
    wpM T sh nx0 (.ops base res (⟨i, dst, none, g, .copy n sx x⟩ :: rest) :: s) .normal t h z nx q := by
  refine atOp ?_
  simp only [kop, kcopy, hs, hr, he, hx, wwindow]
  exact wall_of hc (wneed_of ⟨hb, hz⟩ hk)

theorem atShrN {e : EqK} {x y : X} {kk kk' : IntKind} {a b : Int} (n k : Nat) (hx : x.ev t = .int kk a) (hy : y.ev t = .int kk' b) (ha : a = n) (hb : b = k) (hkb : k ≤ kk.bits)
    (hk : wpM T sh nx0 (.ops base res rest :: s) .normal (upd t dst (.int kk ((n / 2 ^ k : Nat) : Int))) h z nx q) :
    wpM T sh nx0 (.ops base res (⟨i, some dst, none, g, .bin .shr e x y⟩ :: rest) :: s) .normal t h z nx q := by
  subst ha; subst hb
  refine atShr hx hy (by omega) ?_
  rw [Int.toNat_natCast, Nat.min_eq_left hkb]
  have e : ((n : Int)).fdiv (2 ^ k) = ((n / 2 ^ k : Nat) : Int) := by
    rw [show ((2 : Int) ^ k) = ((2 ^ k : Nat) : Int) by simp]
    rw [Int.fdiv_eq_ediv_of_nonneg _ (Int.natCast_nonneg _)]
    rfl
  rw [e]
  exact hk

theorem atShlN {e : EqK} {x y : X} {kk kk' : IntKind} {a b : Int} (n k : Nat) (hx : x.ev t = .int kk a) (hy : y.ev t = .int kk' b) (ha : a = n) (hb : b = k) (hkb : k ≤ kk.bits) (hw : kk.wrap ((n * 2 ^ k : Nat) : Int) = ((n * 2 ^ k : Nat) : Int))
    (hk : wpM T sh nx0 (.ops base res rest :: s) .normal (upd t dst (.int kk ((n * 2 ^ k : Nat) : Int))) h z nx q) :
    wpM T sh nx0 (.ops base res (⟨i, some dst, none, g, .bin .shl e x y⟩ :: rest) :: s) .normal t h z nx q := by
  subst ha; subst hb
  refine atShl hx hy (by omega) ?_
  rw [Int.toNat_natCast, Nat.min_eq_left hkb]
  have e : ((n : Int)) * 2 ^ k = ((n * 2 ^ k : Nat) : Int) := by simp
  rw [e, hw]
  exact hk

def setMN (nx0 : Nat) (live : Live) (t : Tmps) (h : Heap) (z : Frz) (nx : Nat) : Option (List (List D) × Heap × Frz × Kept) :=
  match nilsM live t h z nx with
  | (t, h, z) =>
    match rowsM t h live with
    | some rows => fL1 (keepTM nx0 (liveIds t live) t live) fun vs => fLi (keepBM nx0 (liveIds t live) h (liveIds t live) nx0) fun bs => fNs (keepZ nx0 (liveIds t live) z (liveIds t live) nx0) fun zs => some (rows, h, z, vs, bs, zs)
    | none => none

theorem settleN {live : Live} {rows : List (List D)} {h' : Heap} {z' : Frz} {kp : Kept} {K : Heap → Frz → Kept → Prop} (hs : setMN nx0 live t h z nx = some (rows, h', z', kp)) (hp : PlainRows rows) (hk : K h' z' kp) : wsettle nx0 live t h z nx K := by
  unfold setMN at hs
  split at hs
  rename_i t1 h1 z1 hn
  split at hs
  · rename_i rows1 hr
    simp only [fL1_eq, fLi_eq, fNs_eq, Option.some.injEq, Prod.mk.injEq] at hs
    obtain ⟨rfl, rfl, rfl, rfl⟩ := hs
    unfold wsettle
    refine wnils_eq _ _ _ _ _ _ fun nx' => ?_
    rw [hn]
    refine wplains_of hr hp ?_
    rw [wkeepT_eq, wkeepB_eq]
    exact hk
  · cases hs

/- a loop above blocks of the caller: 'O a': what is known of these -/
theorem atLoopN {α : Type} (S : α → Kept) (O : α → Heap → Frz → Prop) (C : α → Prop) (m : α → Nat) {live : Live} {c : K}
    (a : α) (hC : C a) (hm : m a < 2 ^ 62) (h0 : wsettle nx0 live t h z nx fun h z kp => kp = S a ∧ O a (oldBlk h) z)
    (hr : ∀ a, C a → ∀ (ho : Heap) (zo : Frz), O a ho zo → ∀ N : Tmps → Heap → Frz → Nat → Prop, (∀ a' {t : Tmps} {h : Heap} {z : Frz} {nx : Nat}, C a' → m a' < m a → (wsettle nx0 live t h z nx fun h z kp => kp = S a' ∧ O a' (oldBlk h) z) → N t h z nx) →
      wpM T sh nx0 [.code c] .normal (mkT live (S a).1) (mkF nx0 ho none (S a).2.1 nx0) (mkF nx0 zo 0 (S a).2.2 nx0) (nx0 + live.length) fun ex t h z nx =>
        match ex with
        | .normal => N t h z nx
        | .exit i => wpM T sh nx0 s (.exit i) t h z nx q
        | .ret => wpM T sh nx0 s .ret t h z nx q) :
    wpM T sh nx0 (.code (.loop live c) :: s) .normal t h z nx q := by
  simp only [wpM, wp] at hr ⊢
  unfold wloop
  have key : ∀ (n : Nat) (a : α), C a → m a ≤ n → ∀ (fuel : Nat), n < fuel → ∀ (t : Tmps) (h : Heap) (z : Frz) (nx : Nat), (wsettle nx0 live t h z nx fun h z kp => kp = S a ∧ O a (oldBlk h) z) →
      wrounds nx0 live (fun t h z nx q => wp T sh nx0 c t h z nx q) fuel t h z nx fun ex t h z nx => wpM T sh nx0 s ex t h z nx q := by
    intro n
    induction n with
    | zero =>
      intro a hC hm fuel hf t h z nx hst
      obtain ⟨fuel, rfl⟩ : ∃ k, fuel = k + 1 := ⟨fuel - 1, by omega⟩
      simp only [wrounds]
      obtain ⟨h1, z1, kp, g1, g2⟩ := wsettle_wit hst
      refine g2 _ ?_
      obtain ⟨rfl, g3⟩ := g1
      exact hr a hC _ _ g3 (fun t h z nx => wrounds nx0 live (fun t h z nx q => wp T sh nx0 c t h z nx q) fuel t h z nx fun ex t h z nx => wpM T sh nx0 s ex t h z nx q) (fun a' _ _ _ _ _ hlt _ => absurd hlt (by omega))
    | succ n ih =>
      intro a hC hm fuel hf t h z nx hst
      obtain ⟨fuel, rfl⟩ : ∃ k, fuel = k + 1 := ⟨fuel - 1, by omega⟩
      simp only [wrounds]
      obtain ⟨h1, z1, kp, g1, g2⟩ := wsettle_wit hst
      refine g2 _ ?_
      obtain ⟨rfl, g3⟩ := g1
      exact hr a hC _ _ g3 (fun t h z nx => wrounds nx0 live (fun t h z nx q => wp T sh nx0 c t h z nx q) fuel t h z nx fun ex t h z nx => wpM T sh nx0 s ex t h z nx q)
        (fun a' t h z nx h1 hlt hst => ih a' h1 (by omega) fuel (by omega) t h z nx hst)
  exact key (m a) a hC (Nat.le_refl _) loopFuel hm t h z nx h0

end

end Go.F

/- The K machine: loops whose rows point to other rows. -/
namespace Go.F

section
variable {T : Tab} {sh : Shr} {nx0 : Nat} {s : List Fr} {t : Tmps} {h : Heap} {z : Frz} {nx : Nat} {q : Ex → Tmps → Heap → Frz → Nat → Prop}

/- what a row is read as: nothing to do, or its data and the blocks it points to -/
abbrev Rep := Option (List D × List Nat)

inductive Obl where
  | p (es : List D)
  | s (h : Heap) (es l : List D) (rs : List Nat)

def Obl.ok : Obl → Prop
  | .p es => es.all (plain 4) = true
  | .s h es l rs => es.all (plain 4) = false ∧ es.mapM (snap h 8) = some l ∧ es.flatMap (reach h depth) = rs ∧ l.all (plain 4) = true

def OblAll : List Obl → Prop
  | [] => True
  | o :: r => o.ok ∧ OblAll r

def rowsX (t : Tmps) : Live → List Rep → Heap → Frz → Option (List Obl × Heap × Frz)
  | [], _, h, z => some ([], h, z)
  | x :: rest, reps, h, z =>
    match idOf (t x.1) with
    | none =>
      match plain 4 (t x.1) with
      | true => rowsX t rest reps h z
      | false => none
    | some id =>
      match h id with
      | some (.row es esz) =>
        match reps with
        | [] => none
        | none :: reps =>
          match rowsX t rest reps h z with
          | some (o, h', z') => some (.p es :: o, h', z')
          | none => none
        | some (l, rs) :: reps =>
          match rowsX t rest reps (upd h id (some (.row l esz))) (frzAll h z rs) with
          | some (o, h', z') => some (.s h es l rs :: o, h', z')
          | none => none
      | some (.mp _ _) => none
      | none => rowsX t rest reps h z

theorem rowsX_of {t : Tmps} : ∀ {live : Live} {reps : List Rep} {h : Heap} {z : Frz} {o : List Obl} {h' : Heap} {z' : Frz} {k : Heap → Frz → Prop}, rowsX t live reps h z = some (o, h', z') → OblAll o → k h' z' → wplains live t h z k := by
  intro live
  induction live with
  | nil => intro reps h z o h' z' k hr _ hk; simp only [rowsX, Option.some.injEq, Prod.mk.injEq] at hr; obtain ⟨_, rfl, rfl⟩ := hr; exact hk
  | cons x live ih =>
    intro reps h z o h' z' k hr ho hk
    simp only [rowsX] at hr
    simp only [wplains]
    cases hid : idOf (t x.1) with
    | none =>
      rw [hid] at hr
      simp only at hr ⊢
      cases hb : plain 4 (t x.1) with
      | true => rw [hb] at hr; exact ih hr ho hk
      | false => rw [hb] at hr; cases hr
    | some id =>
      rw [hid] at hr
      simp only at hr ⊢
      cases hb : h id with
      | none => rw [hb] at hr; exact ih hr ho hk
      | some b =>
        rw [hb] at hr
        cases b with
        | mp ks vs => cases hr
        | row es esz =>
          simp only at hr ⊢
          match reps, hr with
          | none :: reps, hr =>
            simp only at hr
            cases hx : rowsX t live reps h z with
            | none => rw [hx] at hr; cases hr
            | some y =>
              obtain ⟨o1, h1, z1⟩ := y
              rw [hx] at hr
              simp only [Option.some.injEq, Prod.mk.injEq] at hr
              obtain ⟨rfl, rfl, rfl⟩ := hr
              unfold wplain
              exact .inl ⟨ho.1, ih hx ho.2 hk⟩
          | some (l, rs) :: reps, hr =>
            simp only at hr
            cases hx : rowsX t live reps (upd h id (some (.row l esz))) (frzAll h z rs) with
            | none => rw [hx] at hr; cases hr
            | some y =>
              obtain ⟨o1, h1, z1⟩ := y
              rw [hx] at hr
              simp only [Option.some.injEq, Prod.mk.injEq] at hr
              obtain ⟨rfl, rfl, rfl⟩ := hr
              obtain ⟨g1, g2, g3, g4⟩ := ho.1
              unfold wplain
              exact .inr ⟨l, rs, g1, g2, g3, g4, ih hx ho.2 hk⟩

def setX (live : Live) (reps : List Rep) (t : Tmps) (h : Heap) (z : Frz) (nx : Nat) : Option (List Obl × Kept) :=
  match nilsM live t h z nx with
  | (t, h, z) =>
    match rowsX t live reps h z with
    | some (o, h', z') => fL1 (keepTM 0 (liveIds t live) t live) fun vs => fLi (keepBM 0 (liveIds t live) h' (liveIds t live) 0) fun bs => fNs (keepZ 0 (liveIds t live) z' (liveIds t live) 0) fun zs => some (o, vs, bs, zs)
    | none => none

theorem settleX {live : Live} (reps : List Rep) {o : List Obl} {kp : Kept} {K : Kept → Prop} (hs : setX live reps t h z nx = some (o, kp)) (hp : OblAll o) (hk : K kp) : wsettle 0 live t h z nx fun _ _ kp => K kp := by
  unfold setX at hs
  split at hs
  rename_i t1 h1 z1 hn
  split at hs
  · rename_i o1 h2 z2 hr
    simp only [fL1_eq, fLi_eq, fNs_eq, Option.some.injEq, Prod.mk.injEq] at hs
    obtain ⟨rfl, rfl⟩ := hs
    unfold wsettle
    refine wnils_eq _ _ _ _ _ _ fun nx' => ?_
    rw [hn]
    refine rowsX_of hr hp ?_
    rw [wkeepT_eq, wkeepB_eq]
    exact hk
  · cases hs
end

theorem reach_dat {h : Heap} : ∀ (n m : Nat) (d : D), dat n d = true → reach h m d = [] := by
  intro n
  induction n with
  | zero => intro m d hd; simp [dat] at hd
  | succ n ih =>
    intro m d hd
    cases m with
    | zero => rfl
    | succ m =>
      have list : ∀ l : List D, l.all (dat n) = true → l.flatMap (reach h m) = [] := by
        intro l hl
        rw [List.flatMap_eq_nil_iff]
        intro x hx
        exact ih m x (List.all_eq_true.1 hl x hx)
      cases d with
      | agg l => simp only [dat] at hd; simp only [reach]; exact list l hd
      | tup l => simp only [dat] at hd; simp only [reach]; exact list l hd
      | _ => first | (simp [dat] at hd; done) | rfl

theorem reaches_dat {h : Heap} {es : List D} {m : Nat} (hd : es.all (dat 4) = true) : es.flatMap (reach h m) = [] := by
  rw [List.flatMap_eq_nil_iff]
  intro x hx
  exact reach_dat 4 m x (List.all_eq_true.1 hd x hx)

/- a row of data, and one more element that points to a row -/
theorem obl_last {h : Heap} {es : List D} {e e' : D} {rs : List Nat} (hd : es.all (dat 4) = true) (hp : es.all (plain 4) = true) (he : plain 4 e = false) (hs : snap h 8 e = some e') (hr : reach h depth e = rs) (hp' : plain 4 e' = true) :
    Obl.ok (.s h (es ++ [e]) (es ++ [e']) rs) := by
  refine ⟨?_, ?_, ?_, ?_⟩
  · rw [List.all_append]; simp [he]
  · rw [List.mapM_append, snaps_dat hd]; simp [hs]
  · rw [List.flatMap_append, reaches_dat hd]; simp [hr]
  · rw [List.all_append, hp]; simp [hp']

end Go.F

/- Polygons: the small functions. -/
namespace Go.F
attribute [local irreducible] IntKind.wrap wpM

def crossS (a b c : Spot) : Int := (b.x - a.x) * (c.y - a.y) - (b.y - a.y) * (c.x - a.x)

theorem cross_PU (a b c : Spot) [OkS a] [OkS b] [OkS c] : PU f_polygon_cross [a.enc, b.enc, c.enc] = some (.int .i64 (crossS a b c)) := by
  refine PU_of (fn := k_polygon_cross) rfl (startI ?_)
  repeat' (first
    | (refine goP 800 rfl rfl ?_)
    | (show wpM _ _ _ (Fr.ops _ _ (KOper.mk _ _ (some _) _ _ :: _) :: _) Ex.normal _ _ _ _ _; first | refine atGuardT rfl ?_ | refine atGuardF rfl ?_ | refine atGuard rfl (fun _ => ?_) (fun _ => ?_))
    | (show wpM _ _ _ (Fr.code (K.cond _ _ _) :: _) Ex.normal _ _ _ _ _; first | refine atCondT rfl ?_ | refine atCondF rfl ?_ | refine atCond rfl (fun _ => ?_) (fun _ => ?_))
    | (show wpM _ _ _ (Fr.ops _ _ (KOper.mk _ _ none _ (KOp.pick _ _ _) :: _) :: _) Ex.normal _ _ _ _ _; refine atPick rfl (fun _ => ?_) (fun _ => ?_))
    | (show wpM _ _ _ [] _ _ _ _ _ _; refine finI rfl rfl rfl trivial ?_))
  simp [wrap_bd, crossS]

def onS (a b p : Spot) : Bool := decide (crossS a b p = 0) && (decide (min a.x b.x ≤ p.x) && (decide (p.x ≤ max a.x b.x) && (decide (min a.y b.y ≤ p.y) && decide (p.y ≤ max a.y b.y))))

theorem on_PU (a b p : Spot) [OkS a] [OkS b] [OkS p] : PU f_polygon_on [a.enc, b.enc, p.enc] = some (.bool (onS a b p)) := by
  refine PU_of (fn := k_polygon_on) rfl (startI ?_)
  repeat' (first
    | (refine goP 800 rfl rfl ?_)
    | (show wpM _ _ _ (Fr.ops _ _ (KOper.mk _ _ (some _) _ _ :: _) :: _) Ex.normal _ _ _ _ _; first | refine atGuardT rfl ?_ | refine atGuardF rfl ?_ | refine atGuard rfl (fun _ => ?_) (fun _ => ?_))
    | (show wpM _ _ _ (Fr.code (K.cond _ _ _) :: _) Ex.normal _ _ _ _ _; first | refine atCondT rfl ?_ | refine atCondF rfl ?_ | refine atCond rfl (fun _ => ?_) (fun _ => ?_))
    | (show wpM _ _ _ (Fr.ops _ _ (KOper.mk _ _ none _ (KOp.pick _ _ _) :: _) :: _) Ex.normal _ _ _ _ _; refine atPick rfl (fun _ => ?_) (fun _ => ?_))
    | (show wpM _ _ _ [] _ _ _ _ _ _; refine finI rfl rfl rfl trivial ?_)
    | (show wpM _ _ _ (Fr.ops _ _ (KOper.mk _ _ none _ (KOp.callF f_polygon_cross _) :: _) :: _) Ex.normal _ _ _ _ _; refine atCall rfl rfl (cross_PU _ _ _) ?_))
  all_goals ((try simp only [ltb_eq, leb_eq, eqb_eq, nqb_eq, decide_eq_true_eq, decide_eq_false_iff_not, Bool.not_eq_true, Bool.not_eq_false, Int.not_lt, Int.not_le] at *); first | (simp_all [onS]; done) | (simp_all [onS]; omega) | (rw [D.bool.injEq, Bool.eq_iff_iff]; simp [onS]; omega) | (rw [D.bool.injEq, Bool.eq_iff_iff]; simp_all [onS]; omega) | (simp [onS]; split <;> (try split) <;> omega))

def sgn (n : Int) : Int := if n < 0 then -1 else if 0 < n then 1 else 0

theorem sgn_bd (n : Int) : Bd (sgn n) 1 := ⟨by unfold sgn; split <;> (try split) <;> decide⟩
instance (n : Int) : Bd (sgn n) 1 := sgn_bd n

theorem isNaN_PU (n : Int) : PU f_cmp_isNaN_int [.int .i64 n] = some (.bool false) := by
  refine PU_of (fn := k_cmp_isNaN_int) rfl (startI ?_)
  repeat' (first
    | (refine goP 800 rfl rfl ?_)
    | (show wpM _ _ _ (Fr.ops _ _ (KOper.mk _ _ (some _) _ _ :: _) :: _) Ex.normal _ _ _ _ _; first | refine atGuardT rfl ?_ | refine atGuardF rfl ?_ | refine atGuard rfl (fun _ => ?_) (fun _ => ?_))
    | (show wpM _ _ _ (Fr.code (K.cond _ _ _) :: _) Ex.normal _ _ _ _ _; first | refine atCondT rfl ?_ | refine atCondF rfl ?_ | refine atCond rfl (fun _ => ?_) (fun _ => ?_))
    | (show wpM _ _ _ (Fr.ops _ _ (KOper.mk _ _ none _ (KOp.pick _ _ _) :: _) :: _) Ex.normal _ _ _ _ _; refine atPick rfl (fun _ => ?_) (fun _ => ?_))
    | (show wpM _ _ _ [] _ _ _ _ _ _; refine finI rfl rfl rfl trivial ?_))
  simp [nqb]

def cmpS (a b : Int) : Int := if a < b then -1 else if b < a then 1 else 0

theorem cmp0 (a : Int) : cmpS a 0 = sgn a := rfl

theorem Compare_PU (a b : Int) : PU f_cmp_Compare_int [.int .i64 a, .int .i64 b] = some (.int .i64 (cmpS a b)) := by
  refine PU_of (fn := k_cmp_Compare_int) rfl (startI ?_)
  repeat' (first
    | (refine goP 800 rfl rfl ?_)
    | (show wpM _ _ _ (Fr.ops _ _ (KOper.mk _ _ (some _) _ _ :: _) :: _) Ex.normal _ _ _ _ _; first | refine atGuardT rfl ?_ | refine atGuardF rfl ?_ | refine atGuard rfl (fun _ => ?_) (fun _ => ?_))
    | (show wpM _ _ _ (Fr.code (K.cond _ _ _) :: _) Ex.normal _ _ _ _ _; first | refine atCondT rfl ?_ | refine atCondF rfl ?_ | refine atCond rfl (fun _ => ?_) (fun _ => ?_))
    | (show wpM _ _ _ (Fr.ops _ _ (KOper.mk _ _ none _ (KOp.pick _ _ _) :: _) :: _) Ex.normal _ _ _ _ _; refine atPick rfl (fun _ => ?_) (fun _ => ?_))
    | (show wpM _ _ _ [] _ _ _ _ _ _; refine finI rfl rfl rfl trivial ?_)
    | (show wpM _ _ _ (Fr.ops _ _ (KOper.mk _ _ none _ (KOp.callF f_cmp_isNaN_int _) :: _) :: _) Ex.normal _ _ _ _ _; refine atCall rfl rfl (isNaN_PU _) ?_))
  all_goals ((try simp only [ltb_eq, leb_eq, eqb_eq, nqb_eq, decide_eq_true_eq, decide_eq_false_iff_not, Bool.not_eq_true, Bool.not_eq_false, Int.not_lt, Int.not_le] at *); first | (simp_all [cmpS]; done) | (simp_all [cmpS]; omega) | (rw [D.bool.injEq, Bool.eq_iff_iff]; simp [cmpS]; omega) | (rw [D.bool.injEq, Bool.eq_iff_iff]; simp_all [cmpS]; omega) | (simp [cmpS]; split <;> (try split) <;> omega))

def partedS (a b c d : Spot) : Bool := decide (sgn (crossS a b c) * sgn (crossS a b d) < 0)

theorem parted_PU (a b c d : Spot) [OkS a] [OkS b] [OkS c] [OkS d] : PU f_polygon_parted [a.enc, b.enc, c.enc, d.enc] = some (.bool (partedS a b c d)) := by
  refine PU_of (fn := k_polygon_parted) rfl (startI ?_)
  repeat' (first
    | (refine goP 800 rfl rfl ?_)
    | (show wpM _ _ _ (Fr.ops _ _ (KOper.mk _ _ (some _) _ _ :: _) :: _) Ex.normal _ _ _ _ _; first | refine atGuardT rfl ?_ | refine atGuardF rfl ?_ | refine atGuard rfl (fun _ => ?_) (fun _ => ?_))
    | (show wpM _ _ _ (Fr.code (K.cond _ _ _) :: _) Ex.normal _ _ _ _ _; first | refine atCondT rfl ?_ | refine atCondF rfl ?_ | refine atCond rfl (fun _ => ?_) (fun _ => ?_))
    | (show wpM _ _ _ (Fr.ops _ _ (KOper.mk _ _ none _ (KOp.pick _ _ _) :: _) :: _) Ex.normal _ _ _ _ _; refine atPick rfl (fun _ => ?_) (fun _ => ?_))
    | (show wpM _ _ _ [] _ _ _ _ _ _; refine finI rfl rfl rfl trivial ?_)
    | (show wpM _ _ _ (Fr.ops _ _ (KOper.mk _ _ none _ (KOp.callF f_polygon_cross _) :: _) :: _) Ex.normal _ _ _ _ _; refine atCall rfl rfl (cross_PU _ _ _) ?_)
    | (show wpM _ _ _ (Fr.ops _ _ (KOper.mk _ _ none _ (KOp.callF f_cmp_Compare_int _) :: _) :: _) Ex.normal _ _ _ _ _; refine atCall rfl rfl (Compare_PU _ _) ?_))
  simp [cmp0, wrap_bd, ltb_eq, partedS]

def meetS (a b c d : Spot) : Bool := onS a b c || (onS a b d || (onS c d a || (onS c d b || (partedS a b c d && partedS c d a b))))

theorem meet_PU (a b c d : Spot) [OkS a] [OkS b] [OkS c] [OkS d] : PU f_polygon_meet [a.enc, b.enc, c.enc, d.enc] = some (.bool (meetS a b c d)) := by
  refine PU_of (fn := k_polygon_meet) rfl (startI ?_)
  repeat' (first
    | (refine goP 800 rfl rfl ?_)
    | (show wpM _ _ _ (Fr.ops _ _ (KOper.mk _ _ (some _) _ _ :: _) :: _) Ex.normal _ _ _ _ _; first | refine atGuardT rfl ?_ | refine atGuardF rfl ?_ | refine atGuard rfl (fun _ => ?_) (fun _ => ?_))
    | (show wpM _ _ _ (Fr.code (K.cond _ _ _) :: _) Ex.normal _ _ _ _ _; first | refine atCondT rfl ?_ | refine atCondF rfl ?_ | refine atCond rfl (fun _ => ?_) (fun _ => ?_))
    | (show wpM _ _ _ (Fr.ops _ _ (KOper.mk _ _ none _ (KOp.pick _ _ _) :: _) :: _) Ex.normal _ _ _ _ _; refine atPick rfl (fun _ => ?_) (fun _ => ?_))
    | (show wpM _ _ _ [] _ _ _ _ _ _; refine finI rfl rfl rfl trivial ?_)
    | (show wpM _ _ _ (Fr.ops _ _ (KOper.mk _ _ none _ (KOp.callF f_polygon_on _) :: _) :: _) Ex.normal _ _ _ _ _; refine atCall rfl rfl (on_PU _ _ _) ?_)
    | (show wpM _ _ _ (Fr.ops _ _ (KOper.mk _ _ none _ (KOp.callF f_polygon_parted _) :: _) :: _) Ex.normal _ _ _ _ _; refine atCall rfl rfl (parted_PU _ _ _ _) ?_))
  all_goals simp_all [meetS]

def foldedS (a b c : Spot) : Bool := decide (crossS a b c = 0) && decide (0 < (a.x - b.x) * (c.x - b.x) + (a.y - b.y) * (c.y - b.y))

theorem folded_PU (a b c : Spot) [OkS a] [OkS b] [OkS c] : PU f_polygon_folded [a.enc, b.enc, c.enc] = some (.bool (foldedS a b c)) := by
  refine PU_of (fn := k_polygon_folded) rfl (startI ?_)
  repeat' (first
    | (refine goP 800 rfl rfl ?_)
    | (show wpM _ _ _ (Fr.ops _ _ (KOper.mk _ _ (some _) _ _ :: _) :: _) Ex.normal _ _ _ _ _; first | refine atGuardT rfl ?_ | refine atGuardF rfl ?_ | refine atGuard rfl (fun _ => ?_) (fun _ => ?_))
    | (show wpM _ _ _ (Fr.code (K.cond _ _ _) :: _) Ex.normal _ _ _ _ _; first | refine atCondT rfl ?_ | refine atCondF rfl ?_ | refine atCond rfl (fun _ => ?_) (fun _ => ?_))
    | (show wpM _ _ _ (Fr.ops _ _ (KOper.mk _ _ none _ (KOp.pick _ _ _) :: _) :: _) Ex.normal _ _ _ _ _; refine atPick rfl (fun _ => ?_) (fun _ => ?_))
    | (show wpM _ _ _ [] _ _ _ _ _ _; refine finI rfl rfl rfl trivial ?_)
    | (show wpM _ _ _ (Fr.ops _ _ (KOper.mk _ _ none _ (KOp.callF f_polygon_cross _) :: _) :: _) Ex.normal _ _ _ _ _; refine atCall rfl rfl (cross_PU _ _ _) ?_))
  all_goals ((try simp only [ltb_eq, leb_eq, eqb_eq, nqb_eq, decide_eq_true_eq, decide_eq_false_iff_not, Bool.not_eq_true, Bool.not_eq_false, Int.not_lt, Int.not_le] at *); first | (simp_all [foldedS, wrap_bd]; done) | (simp_all [foldedS, wrap_bd]; omega) | (rw [D.bool.injEq, Bool.eq_iff_iff]; simp [foldedS, wrap_bd]; omega) | (rw [D.bool.injEq, Bool.eq_iff_iff]; simp_all [foldedS, wrap_bd]; omega) | (simp [foldedS, wrap_bd]; split <;> (try split) <;> omega))

/- within the limits -/
def withinS (s : Spot) (m : Int) : Bool := decide (-m ≤ s.x) && (decide (s.x ≤ m) && (decide (-m ≤ s.y) && decide (s.y ≤ m)))

theorem outside_PU (s : Spot) : PU f_polygon_outside [s.enc] = some (.bool (!withinS s 1048576)) := by
  refine PU_of (fn := k_polygon_outside) rfl (startI ?_)
  repeat' (first
    | (refine goP 800 rfl rfl ?_)
    | (show wpM _ _ _ (Fr.ops _ _ (KOper.mk _ _ (some _) _ _ :: _) :: _) Ex.normal _ _ _ _ _; first | refine atGuardT rfl ?_ | refine atGuardF rfl ?_ | refine atGuard rfl (fun _ => ?_) (fun _ => ?_))
    | (show wpM _ _ _ (Fr.code (K.cond _ _ _) :: _) Ex.normal _ _ _ _ _; first | refine atCondT rfl ?_ | refine atCondF rfl ?_ | refine atCond rfl (fun _ => ?_) (fun _ => ?_))
    | (show wpM _ _ _ (Fr.ops _ _ (KOper.mk _ _ none _ (KOp.pick _ _ _) :: _) :: _) Ex.normal _ _ _ _ _; refine atPick rfl (fun _ => ?_) (fun _ => ?_))
    | (show wpM _ _ _ [] _ _ _ _ _ _; refine finI rfl rfl rfl trivial ?_))
  all_goals ((try simp only [ltb_eq, leb_eq, eqb_eq, nqb_eq, decide_eq_true_eq, decide_eq_false_iff_not, Bool.not_eq_true, Bool.not_eq_false, Int.not_lt, Int.not_le] at *); first | (simp_all [withinS]; done) | (simp_all [withinS]; omega) | (rw [D.bool.injEq, Bool.eq_iff_iff]; simp [withinS]; omega) | (rw [D.bool.injEq, Bool.eq_iff_iff]; simp_all [withinS]; omega) | (simp [withinS]; split <;> (try split) <;> omega))

theorem polyline_outside_PU (s : Spot) : PU f_polyline_outside [s.enc] = some (.bool (!withinS s 1048576)) := by
  refine PU_of (fn := k_polyline_outside) rfl (startI ?_)
  repeat' (first
    | (refine goP 800 rfl rfl ?_)
    | (show wpM _ _ _ (Fr.ops _ _ (KOper.mk _ _ (some _) _ _ :: _) :: _) Ex.normal _ _ _ _ _; first | refine atGuardT rfl ?_ | refine atGuardF rfl ?_ | refine atGuard rfl (fun _ => ?_) (fun _ => ?_))
    | (show wpM _ _ _ (Fr.code (K.cond _ _ _) :: _) Ex.normal _ _ _ _ _; first | refine atCondT rfl ?_ | refine atCondF rfl ?_ | refine atCond rfl (fun _ => ?_) (fun _ => ?_))
    | (show wpM _ _ _ (Fr.ops _ _ (KOper.mk _ _ none _ (KOp.pick _ _ _) :: _) :: _) Ex.normal _ _ _ _ _; refine atPick rfl (fun _ => ?_) (fun _ => ?_))
    | (show wpM _ _ _ [] _ _ _ _ _ _; refine finI rfl rfl rfl trivial ?_))
  all_goals ((try simp only [ltb_eq, leb_eq, eqb_eq, nqb_eq, decide_eq_true_eq, decide_eq_false_iff_not, Bool.not_eq_true, Bool.not_eq_false, Int.not_lt, Int.not_le] at *); first | (simp_all [withinS]; done) | (simp_all [withinS]; omega) | (rw [D.bool.injEq, Bool.eq_iff_iff]; simp [withinS]; omega) | (rw [D.bool.injEq, Bool.eq_iff_iff]; simp_all [withinS]; omega) | (simp [withinS]; split <;> (try split) <;> omega))

end Go.F

/- Polygons: searches and lists. -/
namespace Go.F
attribute [local irreducible] IntKind.wrap wpM

def findI {α : Type} (g : α → Bool) (p : List α) : Int := match p.findIdx? g with | some i => i | none => -1

theorem findI_some {α : Type} {g : α → Bool} {p : List α} {k : Nat} (hk : k < p.length) (hno : ∀ j (hj : j < p.length), j < k → g p[j] = false) (hg : g p[k] = true) : findI g p = k := by
  have : p.findIdx? g = some k := by
    rw [List.findIdx?_eq_some_iff_getElem]
    exact ⟨hk, hg, fun j hj => by simp [hno j (by omega) hj]⟩
  simp [findI, this]

theorem findI_none {α : Type} {g : α → Bool} {p : List α} (hno : ∀ j (hj : j < p.length), g p[j] = false) : findI g p = -1 := by
  have : p.findIdx? g = none := by
    rw [List.findIdx?_eq_none_iff]
    intro x hx
    obtain ⟨j, hj, rfl⟩ := List.mem_iff_getElem.1 hx
    exact hno j hj
  simp [findI, this]

theorem findI_nonneg {α : Type} {g : α → Bool} {p : List α} : decide (0 ≤ findI g p) = p.any g := by
  cases h : p.findIdx? g with
  | none =>
    have hn := h
    rw [List.findIdx?_eq_none_iff] at hn
    have : p.any g = false := by rw [List.any_eq_false]; exact fun x hx => by simp [hn x hx]
    simp [findI, h, this]
  | some i =>
    rw [List.findIdx?_eq_some_iff_getElem] at h
    obtain ⟨hi, hg, _⟩ := h
    have h2 : p.findIdx? g = some i := by rw [List.findIdx?_eq_some_iff_getElem]; exact ⟨hi, hg, by assumption⟩
    have : p.any g = true := by rw [List.any_eq_true]; exact ⟨p[i], List.getElem_mem _, hg⟩
    simp [findI, h2, this]

theorem IndexFunc_PU (fid : FuncId) (g : Spot → Bool) (hsh : sharedB fid = false) (hg : ∀ s, PU fid [s.enc] = some (.bool (g s))) (p : List Spot) (hp : p.length < 4611686018427387904) :
    PU f_slices_IndexFunc_Spot_Spot [spots p, .fn fid [] []] = some (.int .i64 (findI g p)) := by
  refine PU_of (fn := k_slices_IndexFunc_Spot_Spot) rfl (startI ?_)
  refine go 800 rfl ?_
  refine atLoop (S := fun k : Nat => ([spots p, .fn fid [] [], encInt p.length, encInt k], [none, none, none, none], [0, 0, 0, 0])) (C := fun k => k ≤ p.length ∧ ∀ j (hj : j < p.length), j < k → g p[j] = false) (m := fun k => p.length - k) 0 ⟨by omega, fun j hj h => by omega⟩ (by omega) ?_ ?_
  · exact settleI rfl trivial (by simp [spots, encInt])
  intro k ⟨hk, hno⟩ N hN
  refine go 800 rfl ?_
  refine atCond rfl (fun h1 => ?_) (fun h1 => ?_)
  · rw [ltb_iff] at h1
    have hlt : k < p.length := by omega
    refine go 800 rfl ?_
    refine atIdx k rfl rfl rfl (map_get hlt) rfl ?_
    refine go 800 rfl ?_
    refine atCallV rfl ?_
    refine atCall hsh rfl (hg p[k]) ?_
    refine go 800 rfl ?_
    refine atCond rfl (fun h2 => ?_) (fun h2 => ?_)
    · refine go 800 rfl ?_
      refine atEnd ?_
      refine go 800 rfl ?_
      refine finI rfl rfl rfl trivial ?_
      rw [findI_some hlt hno h2]
    · refine go 800 rfl ?_
      refine atEnd ?_
      refine hN (k + 1) ⟨by omega, fun j hj hjk => ?_⟩ (by omega) ?_
      · by_cases hjk' : j < k
        · exact hno j hj hjk'
        · obtain rfl : j = k := by omega
          exact h2
      · exact settleI rfl trivial (by simp [spots, encInt, wrap64 (x := (k : Int) + 1) (by omega) (by omega)])
  · rw [ltb_not] at h1
    refine go 800 rfl ?_
    refine atEnd ?_
    refine go 800 rfl ?_
    refine finI rfl rfl rfl trivial ?_
    rw [findI_none fun j hj => hno j hj (by omega)]

theorem ContainsFunc_PU (fid : FuncId) (g : Spot → Bool) (hsh : sharedB fid = false) (hg : ∀ s, PU fid [s.enc] = some (.bool (g s))) (p : List Spot) (hp : p.length < 4611686018427387904) :
    PU f_slices_ContainsFunc_Spot_Spot [spots p, .fn fid [] []] = some (.bool (p.any g)) := by
  refine PU_of (fn := k_slices_ContainsFunc_Spot_Spot) rfl (startI ?_)
  repeat' (first
    | (refine goP 800 rfl rfl ?_)
    | (show wpM _ _ _ (Fr.ops _ _ (KOper.mk _ _ (some _) _ _ :: _) :: _) Ex.normal _ _ _ _ _; first | refine atGuardT rfl ?_ | refine atGuardF rfl ?_ | refine atGuard rfl (fun _ => ?_) (fun _ => ?_))
    | (show wpM _ _ _ (Fr.code (K.cond _ _ _) :: _) Ex.normal _ _ _ _ _; first | refine atCondT rfl ?_ | refine atCondF rfl ?_ | refine atCond rfl (fun _ => ?_) (fun _ => ?_))
    | (show wpM _ _ _ (Fr.ops _ _ (KOper.mk _ _ none _ (KOp.pick _ _ _) :: _) :: _) Ex.normal _ _ _ _ _; refine atPick rfl (fun _ => ?_) (fun _ => ?_))
    | (show wpM _ _ _ [] _ _ _ _ _ _; refine finI rfl rfl rfl trivial ?_)
    | (show wpM _ _ _ (Fr.ops _ _ (KOper.mk _ _ none _ (KOp.callF f_slices_IndexFunc_Spot_Spot _) :: _) :: _) Ex.normal _ _ _ _ _; refine atCall rfl rfl (IndexFunc_PU fid g hsh hg p hp) ?_))
  rw [leb_eq, findI_nonneg]

theorem spot_eqb (a b : Spot) : (eqb a.x b.x && (eqb a.y b.y && true)) = decide (a = b) := by
  cases a; cases b; simp [eqb, Bool.beq_eq_decide_eq]

theorem Index_PU (p : List Spot) (v : Spot) (hp : p.length < 4611686018427387904) : PU f_slices_Index_Spot_Spot [spots p, v.enc] = some (.int .i64 (findI (fun s => decide (v = s)) p)) := by
  refine PU_of (fn := k_slices_Index_Spot_Spot) rfl (startI ?_)
  refine go 800 rfl ?_
  refine atLoop (S := fun k : Nat => ([spots p, .ptr 1 0 0, encInt p.length, encInt k], [none, some (.row [v.enc] 2), none, none], [0, 0, 0, 0])) (C := fun k => k ≤ p.length ∧ ∀ j (hj : j < p.length), j < k → decide (v = p[j]) = false) (m := fun k => p.length - k) 0 ⟨by omega, fun j hj h => by omega⟩ (by omega) ?_ ?_
  · exact settleI rfl ⟨rfl, trivial⟩ (by simp [spots, encInt, Spot.enc])
  intro k ⟨hk, hno⟩ N hN
  refine go 800 rfl ?_
  refine atCond rfl (fun h1 => ?_) (fun h1 => ?_)
  · rw [ltb_iff] at h1
    have hlt : k < p.length := by omega
    refine go 800 rfl ?_
    refine atIdx k rfl rfl rfl (map_get hlt) rfl ?_
    refine go 800 rfl ?_
    refine atCond rfl (fun h2 => ?_) (fun h2 => ?_)
    · rw [spot_eqb] at h2
      refine go 800 rfl ?_
      refine atEnd ?_
      refine go 800 rfl ?_
      refine finI rfl rfl rfl trivial ?_
      rw [findI_some hlt hno h2]
    · rw [spot_eqb] at h2
      refine go 800 rfl ?_
      refine atEnd ?_
      refine hN (k + 1) ⟨by omega, fun j hj hjk => ?_⟩ (by omega) ?_
      · by_cases hjk' : j < k
        · exact hno j hj hjk'
        · obtain rfl : j = k := by omega
          exact h2
      · exact settleI rfl ⟨rfl, trivial⟩ (by simp [spots, encInt, Spot.enc, wrap64 (x := (k : Int) + 1) (by omega) (by omega)])
  · rw [ltb_not] at h1
    refine go 800 rfl ?_
    refine atEnd ?_
    refine go 800 rfl ?_
    refine finI rfl rfl rfl trivial ?_
    rw [findI_none fun j hj => hno j hj (by omega)]

theorem any_mem {p : List Spot} {v : Spot} : p.any (fun s => decide (v = s)) = decide (v ∈ p) := by
  rw [Bool.eq_iff_iff]; simp

theorem Contains_PU (p : List Spot) (v : Spot) (hp : p.length < 4611686018427387904) : PU f_slices_Contains_Spot_Spot [spots p, v.enc] = some (.bool (decide (v ∈ p))) := by
  refine PU_of (fn := k_slices_Contains_Spot_Spot) rfl (startI ?_)
  repeat' (first
    | (refine goP 800 rfl rfl ?_)
    | (show wpM _ _ _ (Fr.ops _ _ (KOper.mk _ _ (some _) _ _ :: _) :: _) Ex.normal _ _ _ _ _; first | refine atGuardT rfl ?_ | refine atGuardF rfl ?_ | refine atGuard rfl (fun _ => ?_) (fun _ => ?_))
    | (show wpM _ _ _ (Fr.code (K.cond _ _ _) :: _) Ex.normal _ _ _ _ _; first | refine atCondT rfl ?_ | refine atCondF rfl ?_ | refine atCond rfl (fun _ => ?_) (fun _ => ?_))
    | (show wpM _ _ _ (Fr.ops _ _ (KOper.mk _ _ none _ (KOp.pick _ _ _) :: _) :: _) Ex.normal _ _ _ _ _; refine atPick rfl (fun _ => ?_) (fun _ => ?_))
    | (show wpM _ _ _ [] _ _ _ _ _ _; refine finI rfl rfl rfl trivial ?_)
    | (show wpM _ _ _ (Fr.ops _ _ (KOper.mk _ _ none _ (KOp.callF f_slices_Index_Spot_Spot _) :: _) :: _) Ex.normal _ _ _ _ _; refine atCall rfl rfl (Index_PU p v hp) ?_))
  rw [leb_eq, findI_nonneg, any_mem]

end Go.F

/- Polygons: simple ones. -/
namespace Go.F
attribute [local irreducible] IntKind.wrap wpM

/- a vertex, whatever the index -/
def pt (p : List Spot) (i : Nat) : Spot := p.getD i ⟨0, 0⟩

theorem pt_get {p : List Spot} {i : Nat} (h : i < p.length) : pt p i = p[i] := by simp [pt, h]

theorem pt_enc {p : List Spot} {i : Nat} (h : i < p.length) : (p.map Spot.enc)[i]? = some (pt p i).enc := by simp [pt, h]

class OkP (p : List Spot) : Prop where
  ok : ∀ s ∈ p, OkS s

instance okPt {p : List Spot} [h : OkP p] {i : Nat} : OkS (pt p i) := by
  by_cases hi : i < p.length
  · rw [pt_get hi]; exact h.ok _ (List.getElem_mem _)
  · have : pt p i = ⟨0, 0⟩ := by simp [pt, List.getElem?_eq_none (Nat.le_of_not_lt hi)]
    rw [this]; exact ⟨by decide, by decide⟩

def SimpleP (p : List Spot) : Prop :=
  (∀ i, i < p.length → pt p i ∉ p.take i) ∧
  ∀ i, i < p.length → foldedS (pt p i) (pt p ((i + 1) % p.length)) (pt p ((i + 2) % p.length)) = false ∧
    ∀ k, k < p.length → i + 2 ≤ k → (k + 1) % p.length ≠ i → meetS (pt p i) (pt p ((i + 1) % p.length)) (pt p k) (pt p ((k + 1) % p.length)) = false

instance (p : List Spot) : Decidable (SimpleP p) := by unfold SimpleP; exact inferInstance

theorem tmod_nat {a n : Nat} : ((a : Int)).tmod (n : Int) = ((a % n : Nat) : Int) := by
  rw [Int.tmod_eq_emod_of_nonneg (by omega)]; simp

set_option maxHeartbeats 1000000 in
theorem simple_PU (p : List Spot) [OkP p] (h3 : 3 ≤ p.length) (hp : p.length ≤ 1000) : PU f_polygon_simple [spots p] = some (.bool (decide (SimpleP p))) := by
  refine PU_of (fn := k_polygon_simple) rfl (startI ?_)
  refine go 800 rfl ?_
  have hcells : (p.map Spot.enc).all (fun d => d.cells.length == 2) = true := all_cells (f := Spot.enc) (n := 2) (fun _ => rfl) p
  refine atLoop (S := fun k : Nat => ([spots p, encInt p.length, spots p, encInt p.length, encInt k], [none, none, none, none, none], [0, 0, 0, 0, 0])) (C := fun k => k ≤ p.length ∧ ∀ j, j < k → pt p j ∉ p.take j) (m := fun k => p.length - k) 0 ⟨by omega, fun j h => by omega⟩ (by omega) ?_ ?_
  · exact settleI rfl trivial (by simp [spots, encInt])
  intro k ⟨hk, hno⟩ N hN
  refine go 800 rfl ?_
  refine atCond rfl (fun h1 => ?_) (fun h1 => ?_)
  · rw [ltb_iff] at h1
    have hlt : k < p.length := by omega
    refine go 800 rfl ?_
    refine atIdx k rfl rfl rfl (pt_enc hlt) rfl ?_
    refine go 800 rfl ?_
    refine atSl0 k rfl hcells ⟨_, _, rfl, rfl⟩ (by simp; omega) ?_
    refine go 800 rfl ?_
    have hc := Contains_PU (p.take k) (pt p k) (by simp; omega)
    rw [spots, List.map_take] at hc
    refine atCall rfl rfl hc ?_
    refine go 800 rfl ?_
    refine atCond rfl (fun h2 => ?_) (fun h2 => ?_)
    · refine go 800 rfl ?_
      refine atEnd ?_
      refine go 800 rfl ?_
      refine finI rfl rfl rfl trivial ?_
      have : ¬ SimpleP p := fun hs => hs.1 k hlt (by simpa using h2)
      simp [this]
    · refine go 800 rfl ?_
      refine atEnd ?_
      refine hN (k + 1) ⟨by omega, fun j hj => ?_⟩ (by omega) ?_
      · by_cases hjk : j < k
        · exact hno j hjk
        · obtain rfl : j = k := by omega
          simpa using h2
      · exact settleI rfl trivial (by simp [spots, encInt, wrap64 (x := (k : Int) + 1) (by omega) (by omega)])
  rw [ltb_not] at h1
  have hdup : ∀ j, j < p.length → pt p j ∉ p.take j := fun j hj => hno j (by omega)
  clear hN
  refine go 800 rfl ?_
  refine atEnd ?_
  refine go 800 rfl ?_
  refine atLoop (S := fun k : Nat => ([spots p, encInt p.length, spots p, encInt p.length, encInt k], [none, none, none, none, none], [0, 0, 0, 0, 0]))
    (C := fun i => i ≤ p.length ∧ ∀ j, j < i → foldedS (pt p j) (pt p ((j + 1) % p.length)) (pt p ((j + 2) % p.length)) = false ∧ ∀ k, k < p.length → j + 2 ≤ k → (k + 1) % p.length ≠ j → meetS (pt p j) (pt p ((j + 1) % p.length)) (pt p k) (pt p ((k + 1) % p.length)) = false)
    (m := fun k => p.length - k) 0 ⟨by omega, fun j h => by omega⟩ (by omega) ?_ ?_
  · exact settleI rfl trivial (by simp [spots, encInt])
  intro i ⟨hi, hall⟩ N hN
  refine go 800 rfl ?_
  refine atCond rfl (fun g1 => ?_) (fun g1 => ?_)
  · rw [ltb_iff] at g1
    have hlt : i < p.length := by omega
    have w1 : IntKind.i64.wrap ((i : Int) + 1) = ((i + 1 : Nat) : Int) := wrap64 (by omega) (by omega)
    have w2 : IntKind.i64.wrap ((i : Int) + 2) = ((i + 2 : Nat) : Int) := wrap64 (by omega) (by omega)
    refine go 800 rfl ?_
    refine atIdx i rfl rfl rfl (pt_enc hlt) rfl ?_
    refine go 800 rfl ?_
    refine atRem rfl rfl (by omega) ?_
    refine go 800 rfl ?_
    refine atIdx ((i + 1) % p.length) rfl rfl (by rw [w1, tmod_nat]) (pt_enc (Nat.mod_lt _ (by omega))) rfl ?_
    refine go 800 rfl ?_
    refine atRem rfl rfl (by omega) ?_
    refine go 800 rfl ?_
    refine atIdx ((i + 2) % p.length) rfl rfl (by rw [w2, tmod_nat]) (pt_enc (Nat.mod_lt _ (by omega))) rfl ?_
    refine go 800 rfl ?_
    refine atCall rfl rfl (folded_PU (pt p i) (pt p ((i + 1) % p.length)) (pt p ((i + 2) % p.length))) ?_
    refine go 800 rfl ?_
    refine atCond rfl (fun g2 => ?_) (fun g2 => ?_)
    · refine go 800 rfl ?_
      refine atEnd ?_
      refine go 800 rfl ?_
      refine finI rfl rfl rfl trivial ?_
      have : ¬ SimpleP p := fun hs => by have := (hs.2 i hlt).1; rw [g2] at this; cases this
      simp [this]
    refine go 800 rfl ?_
    have fin : ∀ {t : Tmps} {h : Heap} {z : Frz} {nx : Nat}, (∀ k, k < p.length → i + 2 ≤ k → (k + 1) % p.length ≠ i → meetS (pt p i) (pt p ((i + 1) % p.length)) (pt p k) (pt p ((k + 1) % p.length)) = false) →
        (wsettle 0 [(0, 0), (3, 0), (25, 0), (26, 0), (27, 0)] t h z nx fun _ _ kp => kp = ([spots p, encInt p.length, spots p, encInt p.length, encInt ((i + 1 : Nat) : Int)], [none, none, none, none, none], [0, 0, 0, 0, 0])) → N t h z nx := by
      intro t h z nx hm hst
      refine hN (i + 1) ⟨by omega, fun j hj => ?_⟩ (by omega) hst
      by_cases hji : j < i
      · exact hall j hji
      · obtain rfl : j = i := by omega
        exact ⟨g2, hm⟩
    clear hN
    refine atLoop (S := fun k : Nat => ([spots p, encInt p.length, encInt i, .ptr 3 0 0, .ptr 4 0 0, encInt k, spots p, encInt p.length, encInt i], [none, none, none, some (.row [(pt p i).enc] 2), some (.row [(pt p ((i + 1) % p.length)).enc] 2), none, none, none, none], [0, 0, 0, 0, 0, 0, 0, 0, 0]))
      (C := fun k => i + 2 ≤ k ∧ k ≤ p.length + 2 ∧ ∀ k', k' < p.length → k' < k → i + 2 ≤ k' → (k' + 1) % p.length ≠ i → meetS (pt p i) (pt p ((i + 1) % p.length)) (pt p k') (pt p ((k' + 1) % p.length)) = false)
      (m := fun k => p.length + 2 - k) (i + 2) ⟨by omega, by omega, fun k' _ h1 h2 => by omega⟩ (by omega) ?_ ?_
    · exact settleI rfl ⟨rfl, rfl, trivial⟩ (by simp [spots, encInt, Spot.enc, w2])
    intro k ⟨hk1, hk2, hkall⟩ N2 hN2
    refine go 800 rfl ?_
    refine atGuard rfl (fun e1 => ?_) (fun e1 => ?_)
    · rw [ltb_iff] at e1
      have hkl : k < p.length := by omega
      have wk : IntKind.i64.wrap ((k : Int) + 1) = ((k + 1 : Nat) : Int) := wrap64 (by omega) (by omega)
      refine go 800 rfl ?_
      refine atRem rfl rfl (by omega) ?_
      refine go 800 rfl ?_
      refine atCond rfl (fun e2 => ?_) (fun e2 => ?_)
      · rw [nqb_iff, wk, tmod_nat] at e2
        have hne : (k + 1) % p.length ≠ i := fun e => e2 (by rw [e])
        refine go 800 rfl ?_
        refine atIdx k rfl rfl rfl (pt_enc hkl) rfl ?_
        refine go 800 rfl ?_
        refine atRem rfl rfl (by omega) ?_
        refine go 800 rfl ?_
        refine atIdx ((k + 1) % p.length) rfl rfl (by rw [wk, tmod_nat]) (pt_enc (Nat.mod_lt _ (by omega))) rfl ?_
        refine go 800 rfl ?_
        refine atCall rfl rfl (meet_PU (pt p i) (pt p ((i + 1) % p.length)) (pt p k) (pt p ((k + 1) % p.length))) ?_
        refine go 800 rfl ?_
        refine atCond rfl (fun e3 => ?_) (fun e3 => ?_)
        · refine go 800 rfl ?_
          refine atEnd ?_
          refine go 800 rfl ?_
          refine atEnd ?_
          refine go 800 rfl ?_
          refine finI rfl rfl rfl trivial ?_
          have : ¬ SimpleP p := fun hs => by have := (hs.2 i hlt).2 k hkl hk1 hne; rw [e3] at this; cases this
          simp [this]
        · refine go 800 rfl ?_
          refine atEnd ?_
          refine hN2 (k + 1) ⟨by omega, by omega, fun k' h1 h2 h3 h4 => ?_⟩ (by omega) ?_
          · by_cases hkk : k' < k
            · exact hkall k' h1 hkk h3 h4
            · obtain rfl : k' = k := by omega
              exact e3
          · exact settleI rfl ⟨rfl, rfl, trivial⟩ (by simp [spots, encInt, Spot.enc, wk])
      · rw [nqb_not, wk, tmod_nat] at e2
        have heq : (k + 1) % p.length = i := by omega
        refine go 800 rfl ?_
        refine atEnd ?_
        refine go 800 rfl ?_
        refine atEnd ?_
        refine fin (fun k' h1 h2 h3 => ?_) ?_
        · by_cases hkk : k' < k
          · exact hkall k' h1 hkk h2 h3
          · by_cases hkk2 : k' = k
            · subst hkk2; exact absurd heq h3
            · exfalso
              rw [Nat.mod_eq_of_lt (by omega)] at heq
              omega
        · exact settleI rfl trivial (by simp [spots, encInt, w1])
    · rw [ltb_not] at e1
      refine go 800 rfl ?_
      refine atCondF rfl ?_
      refine go 800 rfl ?_
      refine atEnd ?_
      refine go 800 rfl ?_
      refine atEnd ?_
      refine fin (fun k' h1 h2 h3 => hkall k' h1 (by omega) h2 h3) ?_
      exact settleI rfl trivial (by simp [spots, encInt, w1])
  · rw [ltb_not] at g1
    refine go 800 rfl ?_
    refine atEnd ?_
    refine go 800 rfl ?_
    refine finI rfl rfl rfl trivial ?_
    have : SimpleP p := ⟨hdup, fun j hj => hall j (by omega)⟩
    simp [this]

end Go.F

/- Polygons: the check and the area. -/
namespace Go.F
attribute [local irreducible] IntKind.wrap wpM

theorem withinS_iff {s : Spot} {m : Int} : withinS s m = true ↔ (-m ≤ s.x ∧ s.x ≤ m ∧ -m ≤ s.y ∧ s.y ≤ m) := by simp [withinS]

theorem okP_of {p : List Spot} (h : p.any (fun s => !withinS s 1048576) = false) : OkP p := by
  refine ⟨fun s hs => ?_⟩
  have : withinS s 1048576 = true := by
    cases hw : withinS s 1048576
    · exact absurd (List.any_eq_true (p := fun s => !withinS s 1048576).2 ⟨s, hs, by simp [hw]⟩) (by simp only [h]; decide)
    · rfl
  rw [withinS_iff] at this
  exact ⟨by omega, by omega⟩

def checkP (p : List Spot) : Int :=
  if 40 < p.length then 5 else if p.length < 3 then 11 else if p.any (fun s => !withinS s 1048576) then 3 else if SimpleP p then 0 else 11

theorem polygon_Check_PU (p : List Spot) : PU f_polygon_Check [spots p] = some (.int .i64 (checkP p)) := by
  refine PU_of (fn := k_polygon_Check) rfl (startI ?_)
  refine go 800 rfl ?_
  refine atCond rfl (fun h1 => ?_) (fun h1 => ?_)
  · refine go 800 rfl ?_
    refine finI rfl rfl rfl trivial ?_
    rw [ltb_iff] at h1
    simp at h1
    rw [checkP, if_pos (by omega)]
  refine go 800 rfl ?_
  rw [ltb_not] at h1
  simp at h1
  refine atCond rfl (fun h2 => ?_) (fun h2 => ?_)
  · refine go 800 rfl ?_
    refine finI rfl rfl rfl trivial ?_
    rw [ltb_iff] at h2
    simp at h2
    rw [checkP, if_neg (by omega), if_pos (by omega)]
  refine go 800 rfl ?_
  rw [ltb_not] at h2
  simp at h2
  refine atCall rfl rfl (ContainsFunc_PU f_polygon_outside _ rfl outside_PU p (by omega)) ?_
  refine go 800 rfl ?_
  refine atCond rfl (fun h3 => ?_) (fun h3 => ?_)
  · refine go 800 rfl ?_
    refine finI rfl rfl rfl trivial ?_
    simp [checkP, show ¬ 40 < p.length by omega, show ¬ p.length < 3 by omega] at h3 ⊢
    intro h4
    exact absurd h3 (by simpa using h4)
  refine go 800 rfl ?_
  have := okP_of h3
  refine atCall rfl rfl (simple_PU p (by omega) (by omega)) ?_
  refine go 800 rfl ?_
  refine atCond rfl (fun h4 => ?_) (fun h4 => ?_)
  · refine go 800 rfl ?_
    refine finI rfl rfl rfl trivial ?_
    simp at h4
    rw [checkP, if_neg (by omega), if_neg (by omega), if_neg (by simp [h3]), if_neg h4]
  · refine go 800 rfl ?_
    refine finI rfl rfl rfl trivial ?_
    simp at h4
    rw [checkP, if_neg (by omega), if_neg (by omega), if_neg (by simp [h3]), if_pos h4]

def areaTo (p : List Spot) : Nat → Int
  | 0 => 0
  | k + 1 => areaTo p k + ((pt p k).x * (pt p ((k + 1) % p.length)).y - (pt p k).y * (pt p ((k + 1) % p.length)).x)

def areaP (p : List Spot) : Int := areaTo p p.length

theorem areaTo_bd (p : List Spot) [OkP p] (k : Nat) : Bd (areaTo p k) (k * 35184372088832) := by
  induction k with
  | zero => exact ⟨by simp [areaTo]⟩
  | succ k ih =>
    have h : Bd ((pt p k).x * (pt p ((k + 1) % p.length)).y - (pt p k).y * (pt p ((k + 1) % p.length)).x) _ := inferInstance
    have := h.le
    have := ih.le
    refine ⟨?_⟩
    rw [areaTo]
    omega

set_option maxHeartbeats 1000000 in
theorem area_PU (p : List Spot) [OkP p] (hp : p.length ≤ 1000) : PU f_polygon_area [spots p] = some (.int .i64 (areaP p)) := by
  refine PU_of (fn := k_polygon_area) rfl (startI ?_)
  refine go 800 rfl ?_
  refine atLoop (S := fun k : Nat => ([spots p, encInt (areaTo p k), spots p, encInt p.length, encInt k], [none, none, none, none, none], [0, 0, 0, 0, 0])) (C := fun k => k ≤ p.length) (m := fun k => p.length - k) 0 (by omega) (by omega) ?_ ?_
  · exact settleI rfl trivial (by simp [spots, encInt, areaTo])
  intro k hk N hN
  refine go 800 rfl ?_
  refine atCond rfl (fun h1 => ?_) (fun h1 => ?_)
  · rw [ltb_iff] at h1
    have hlt : k < p.length := by omega
    have w1 : IntKind.i64.wrap ((k : Int) + 1) = ((k + 1 : Nat) : Int) := wrap64 (by omega) (by omega)
    have b0 := (areaTo_bd p k).le
    have b1 := (areaTo_bd p (k + 1)).le
    refine go 800 rfl ?_
    refine atIdx k rfl rfl rfl (pt_enc hlt) rfl ?_
    refine go 800 rfl ?_
    refine atRem rfl rfl (by rw [List.length_map]; omega) ?_
    refine go 800 rfl ?_
    refine atIdx ((k + 1) % p.length) rfl rfl (by rw [w1, List.length_map, tmod_nat]) (pt_enc (Nat.mod_lt _ (by omega))) rfl ?_
    refine go 800 rfl ?_
    refine atEnd ?_
    refine hN (k + 1) (by omega) (by omega) ?_
    refine settleI rfl trivial ?_
    have e1 : IntKind.i64.wrap ((pt p k).x * (pt p ((k + 1) % p.length)).y) = (pt p k).x * (pt p ((k + 1) % p.length)).y := wrap_bd (by decide)
    have e2 : IntKind.i64.wrap ((pt p k).y * (pt p ((k + 1) % p.length)).x) = (pt p k).y * (pt p ((k + 1) % p.length)).x := wrap_bd (by decide)
    have e3 : IntKind.i64.wrap ((pt p k).x * (pt p ((k + 1) % p.length)).y - (pt p k).y * (pt p ((k + 1) % p.length)).x) = (pt p k).x * (pt p ((k + 1) % p.length)).y - (pt p k).y * (pt p ((k + 1) % p.length)).x := wrap_bd (by decide)
    have e4 : IntKind.i64.wrap (areaTo p (k + 1)) = areaTo p (k + 1) := wrap64 (by omega) (by omega)
    rw [areaTo] at e4
    simp [spots, encInt, areaTo, w1, e1, e2, e3, e4]
  rw [ltb_not] at h1
  refine go 800 rfl ?_
  refine atEnd ?_
  refine go 800 rfl ?_
  refine finI rfl rfl rfl trivial ?_
  obtain rfl : k = p.length := by omega
  rfl

def area2P (p : List Spot) : Int := if checkP p = 0 then areaP p else 0

theorem checkP_ok {p : List Spot} (h : checkP p = 0) : 3 ≤ p.length ∧ p.length ≤ 40 ∧ OkP p ∧ (∀ s ∈ p, withinS s 1048576 = true) ∧ SimpleP p := by
  unfold checkP at h
  split at h
  · cases h
  split at h
  · cases h
  split at h
  · cases h
  split at h
  · rename_i h1 h2 h3 h4
    have h3' : p.any (fun s => !withinS s 1048576) = false := by simpa using h3
    refine ⟨by omega, by omega, okP_of h3', ?_, h4⟩
    simpa using h3
  · cases h

theorem Area2_PU (p : List Spot) : PU f_polygon_Area2 [spots p] = some (.int .i64 (area2P p)) := by
  refine PU_of (fn := k_polygon_Area2) rfl (startI ?_)
  refine go 800 rfl ?_
  refine atCall rfl rfl (polygon_Check_PU p) ?_
  refine go 800 rfl ?_
  refine atCond rfl (fun h => ?_) (fun h => ?_)
  · refine go 800 rfl ?_
    refine finI rfl rfl rfl trivial ?_
    rw [nqb_iff] at h
    rw [area2P, if_neg h]
  · rw [nqb_not] at h
    obtain ⟨_, h2, h3, _, _⟩ := checkP_ok h
    refine go 800 rfl ?_
    refine atCall rfl rfl (area_PU p (by omega)) ?_
    refine go 800 rfl ?_
    refine finI rfl rfl rfl trivial ?_
    rw [area2P, if_pos h]
end Go.F

/- Polylines and outlines. -/
namespace Go.F
attribute [local irreducible] IntKind.wrap wpM

def checkL (p : List Spot) : Int :=
  if 40 < p.length then 5 else if p.length < 2 then 11 else if p.any (fun s => !withinS s 1048576) then 3 else if ∀ i, i < p.length - 1 → pt p i ≠ pt p (i + 1) then 0 else 11

theorem polyline_Check_PU (p : List Spot) : PU f_polyline_Check [spots p] = some (.int .i64 (checkL p)) := by
  refine PU_of (fn := k_polyline_Check) rfl (startI ?_)
  refine go 800 rfl ?_
  refine atCond rfl (fun h1 => ?_) (fun h1 => ?_)
  · refine go 800 rfl ?_
    refine finI rfl rfl rfl trivial ?_
    rw [ltb_iff, List.length_map] at h1
    rw [checkL, if_pos (by omega)]
  refine go 800 rfl ?_
  rw [ltb_not, List.length_map] at h1
  refine atCond rfl (fun h2 => ?_) (fun h2 => ?_)
  · refine go 800 rfl ?_
    refine finI rfl rfl rfl trivial ?_
    rw [ltb_iff, List.length_map] at h2
    rw [checkL, if_neg (by omega), if_pos (by omega)]
  refine go 800 rfl ?_
  rw [ltb_not, List.length_map] at h2
  refine atCall rfl rfl (ContainsFunc_PU f_polyline_outside _ rfl polyline_outside_PU p (by omega)) ?_
  refine go 800 rfl ?_
  refine atCond rfl (fun h3 => ?_) (fun h3 => ?_)
  · refine go 800 rfl ?_
    refine finI rfl rfl rfl trivial ?_
    rw [checkL, if_neg (by omega), if_neg (by omega), if_pos h3]
  refine go 800 rfl ?_
  refine atLoop (S := fun k : Nat => ([spots p, encInt (p.length - 1 : Nat), encInt k], [none, none, none], [0, 0, 0])) (C := fun k => k ≤ p.length - 1 ∧ ∀ i, i < k → pt p i ≠ pt p (i + 1)) (m := fun k => p.length - k) 0 ⟨by omega, fun i hi => by omega⟩ (by omega) ?_ ?_
  · refine settleI rfl trivial ?_
    have : IntKind.i64.wrap ((p.length : Int) - 1) = ((p.length - 1 : Nat) : Int) := by rw [wrap64 (by omega) (by omega)]; omega
    simp [spots, encInt, this]
  intro k ⟨hk, hno⟩ N hN
  refine go 800 rfl ?_
  refine atCond rfl (fun g1 => ?_) (fun g1 => ?_)
  · rw [ltb_iff] at g1
    have hlt : k + 1 < p.length := by omega
    have w1 : IntKind.i64.wrap ((k : Int) + 1) = ((k + 1 : Nat) : Int) := wrap64 (by omega) (by omega)
    refine go 800 rfl ?_
    refine atIdx k rfl rfl rfl (pt_enc (by omega)) rfl ?_
    refine go 800 rfl ?_
    refine atIdx (k + 1) rfl rfl w1 (pt_enc hlt) rfl ?_
    refine go 800 rfl ?_
    refine atCond rfl (fun g2 => ?_) (fun g2 => ?_)
    · refine go 800 rfl ?_
      refine atEnd ?_
      refine go 800 rfl ?_
      refine finI rfl rfl rfl trivial ?_
      rw [checkL, if_neg (by omega), if_neg (by omega), if_neg (by rw [h3]; decide), if_neg]
      intro hall
      refine hall k (by omega) ?_
      rw [spot_eqb] at g2
      simpa using g2
    · refine go 800 rfl ?_
      refine atEnd ?_
      refine hN (k + 1) ⟨by omega, fun i hi => ?_⟩ (by omega) (settleI rfl trivial (by simp [spots, encInt, w1]))
      by_cases hik : i < k
      · exact hno i hik
      · obtain rfl : i = k := by omega
        rw [spot_eqb] at g2
        simpa using g2
  rw [ltb_not] at g1
  refine go 800 rfl ?_
  refine atEnd ?_
  refine go 800 rfl ?_
  refine finI rfl rfl rfl trivial ?_
  rw [checkL, if_neg (by omega), if_neg (by omega), if_neg (by rw [h3]; decide), if_pos (fun i hi => hno i (by omega))]
end Go.F

/- The vertices of an outline. -/
namespace Go.F
attribute [local irreducible] IntKind.wrap wpM

def verts (l : List Edge) : List Spot := l.flatMap (fun e => e.line.dropLast)

theorem verts_take {l : List Edge} {k : Nat} (h : k < l.length) : verts (l.take (k + 1)) = verts (l.take k) ++ l[k].line.dropLast := by
  rw [List.take_succ_eq_append_getElem h, verts, List.flatMap_append]; simp [verts]

theorem verts_le {l : List Edge} (k : Nat) : (verts (l.take k)).length ≤ (verts l).length := by
  have : verts l = verts (l.take k) ++ verts (l.drop k) := by
    rw [verts, verts, verts, ← List.flatMap_append, List.take_append_drop]
  rw [this, List.length_append]; omega

theorem datRow {l : List D} {n : Nat} (hn : n = l.length) (h : l.all (dat 4) = true) : 0 + n ≤ l.length ∧ ((l.drop 0).take n).all (dat 4) = true := by
  subst hn
  simpa using h

theorem rowAll {l : List D} {n : Nat} (hn : n = l.length) : D.lst (l.take n) = .lst l := by
  subst hn
  simp

set_option maxHeartbeats 1000000 in
theorem vertices_PU (l : List Edge) (h1 : ∀ e ∈ l, 1 ≤ e.line.length ∧ e.line.length ≤ 100000) (hl : l.length ≤ 100000) (hv : (verts l).length ≤ 100000) : PU f_outline_vertices [edges l] = some (spots (verts l)) := by
  refine PU_of (fn := k_outline_vertices) rfl (startI ?_)
  refine go 800 rfl ?_
  refine atLoop (S := fun k : Nat => ([.ref 0 0 (verts (l.take k)).length, edges l, encInt l.length, encInt k], [some (.row ((verts (l.take k)).map Spot.enc) 2), none, none, none], [0, 0, 0, 0])) (C := fun k => k ≤ l.length) (m := fun k => l.length - k) 0 (by omega) (by omega) ?_ ?_
  · exact settleI rfl ⟨rfl, trivial⟩ (by simp [edges, encInt, verts])
  intro k hk N hN
  refine go 800 rfl ?_
  refine atCond rfl (fun g1 => ?_) (fun g1 => ?_)
  · rw [ltb_iff] at g1
    have hlt : k < l.length := by omega
    have w1 : IntKind.i64.wrap ((k : Int) + 1) = ((k + 1 : Nat) : Int) := wrap64 (by omega) (by omega)
    have hln := h1 _ (List.getElem_mem hlt)
    have hcells : (l[k].line.map Spot.enc).all (fun d => d.cells.length == 2) = true := all_cells (f := Spot.enc) (n := 2) (fun _ => rfl) _
    have hle := verts_le (l := l) (k + 1)
    rw [verts_take hlt, List.length_append] at hle
    have w2 : IntKind.i64.wrap ((l[k].line.length : Int) - 1) = ((l[k].line.length - 1 : Nat) : Int) := by rw [wrap64 (by omega) (by omega)]; omega
    refine go 800 rfl ?_
    refine atIdx k rfl rfl rfl (map_get hlt) rfl ?_
    refine go 800 rfl ?_
    refine atSl0 (l[k].line.length - 1) rfl hcells ⟨_, _, rfl, by rw [List.length_map]; exact w2⟩ (by simp) ?_
    refine go 800 rfl ?_
    have e : (l[k].line.map Spot.enc).take (l[k].line.length - 1) = l[k].line.dropLast.map Spot.enc := by
      rw [List.dropLast_eq_take, List.map_take]
    rw [e]
    refine atAppL rfl rfl rfl (all_cells (f := Spot.enc) (n := 2) (fun _ => rfl) _) (by simp) (Nat.zero_le _) (by simp [limit] at *; omega) ?_
    refine go 800 rfl ?_
    refine atEnd ?_
    refine hN (k + 1) (by omega) (by omega) (settleI rfl ⟨by rw [← List.map_append]; exact all_plain spot_plain _, trivial⟩ ?_)
    simp [edges, encInt, w1, verts_take hlt]
  rw [ltb_not] at g1
  refine go 800 rfl ?_
  refine atEnd ?_
  refine go 800 rfl ?_
  obtain rfl : k = l.length := by omega
  rw [List.take_length]
  refine finI rfl rfl rfl ⟨datRow (by simp) (all_dat spot_dat _), trivial⟩ ?_
  rw [rowAll (by simp), spots]
end Go.F

/- Names. -/
namespace Go.F
attribute [local irreducible] IntKind.wrap wpM

def byteAt (s : ByteArray) (i : Nat) : UInt8 := s.toList.getD i 0

theorem toList_len (s : ByteArray) : s.toList.length = s.size := by rw [Go.ByteArray.toList_eq]; rfl

theorem byteAt_get {s : ByteArray} {i : Nat} (h : i < s.size) : s.toList[i]? = some (byteAt s i) := by
  have : i < s.toList.length := by rw [toList_len]; exact h
  simp [byteAt, this]

def digitS (n : Nat) : Bool := decide (48 ≤ n) && decide (n ≤ 57)

theorem isDigit_PU (n : Nat) : PU f_formula_isDigit [.int .u8 n] = some (.bool (digitS n)) := by
  refine PU_of (fn := k_formula_isDigit) rfl (startI ?_)
  repeat' (first
    | (refine goP 800 rfl rfl ?_)
    | (show wpM _ _ _ (Fr.ops _ _ (KOper.mk _ _ (some _) _ _ :: _) :: _) Ex.normal _ _ _ _ _; first | refine atGuardT rfl ?_ | refine atGuardF rfl ?_ | refine atGuard rfl (fun _ => ?_) (fun _ => ?_))
    | (show wpM _ _ _ (Fr.code (K.cond _ _ _) :: _) Ex.normal _ _ _ _ _; first | refine atCondT rfl ?_ | refine atCondF rfl ?_ | refine atCond rfl (fun _ => ?_) (fun _ => ?_))
    | (show wpM _ _ _ (Fr.ops _ _ (KOper.mk _ _ none _ (KOp.pick _ _ _) :: _) :: _) Ex.normal _ _ _ _ _; refine atPick rfl (fun _ => ?_) (fun _ => ?_))
    | (show wpM _ _ _ [] _ _ _ _ _ _; refine finI rfl rfl rfl trivial ?_))
  all_goals ((try simp only [ltb_eq, leb_eq, eqb_eq, nqb_eq, decide_eq_true_eq, decide_eq_false_iff_not, Bool.not_eq_true, Bool.not_eq_false, Int.not_lt, Int.not_le] at *); first | (simp_all [digitS]; done) | (simp_all [digitS]; omega) | (rw [D.bool.injEq, Bool.eq_iff_iff]; simp [digitS]; omega) | (rw [D.bool.injEq, Bool.eq_iff_iff]; simp_all [digitS]; omega) | (simp [digitS]; split <;> (try split) <;> omega))

def charS (i n : Nat) : Bool := (decide (97 ≤ n) && decide (n ≤ 122)) || (!decide (i = 0) && (decide (n = 95) || digitS n))

def nameS (s : ByteArray) : Bool :=
  !decide (s.size = 0) && (!decide (24 < s.size) && (!(s.toList == [109, 105, 110]) && (!(s.toList == [109, 97, 120]) && decide (∀ i, i < s.size → charS i (byteAt s i).toNat = true))))

theorem min_list : (⟨#[109, 105, 110]⟩ : ByteArray).toList = [109, 105, 110] := by rw [Go.ByteArray.toList_eq]
theorem max_list : (⟨#[109, 97, 120]⟩ : ByteArray).toList = [109, 97, 120] := by rw [Go.ByteArray.toList_eq]

set_option maxHeartbeats 2000000 in
theorem isName_PU (s : ByteArray) : PU f_formula_isName [.str s] = some (.bool (nameS s)) := by
  refine PU_of (fn := k_formula_isName) rfl (startI ?_)
  refine go 800 rfl ?_
  refine atGuard rfl (fun h0 => ?_) (fun h0 => ?_)
  · repeat' (first
      | (refine goP 800 rfl rfl ?_)
      | (show wpM _ _ _ (Fr.ops _ _ (KOper.mk _ _ (some _) _ _ :: _) :: _) Ex.normal _ _ _ _ _; first | refine atGuardT rfl ?_ | refine atGuardF rfl ?_ | refine atGuard rfl (fun _ => ?_) (fun _ => ?_))
      | (show wpM _ _ _ (Fr.code (K.cond _ _ _) :: _) Ex.normal _ _ _ _ _; first | refine atCondT rfl ?_ | refine atCondF rfl ?_ | refine atCond rfl (fun _ => ?_) (fun _ => ?_))
      | (show wpM _ _ _ (Fr.ops _ _ (KOper.mk _ _ none _ (KOp.pick _ _ _) :: _) :: _) Ex.normal _ _ _ _ _; refine atPick rfl (fun _ => ?_) (fun _ => ?_))
      | (show wpM _ _ _ [] _ _ _ _ _ _; refine finI rfl rfl rfl trivial ?_))
    rw [eqb_iff] at h0
    have : s.size = 0 := by omega
    simp [nameS, this]
  refine go 800 rfl ?_
  rw [eqb_not] at h0
  refine atGuard rfl (fun h1 => ?_) (fun h1 => ?_)
  · repeat' (first
      | (refine goP 800 rfl rfl ?_)
      | (show wpM _ _ _ (Fr.ops _ _ (KOper.mk _ _ (some _) _ _ :: _) :: _) Ex.normal _ _ _ _ _; first | refine atGuardT rfl ?_ | refine atGuardF rfl ?_ | refine atGuard rfl (fun _ => ?_) (fun _ => ?_))
      | (show wpM _ _ _ (Fr.code (K.cond _ _ _) :: _) Ex.normal _ _ _ _ _; first | refine atCondT rfl ?_ | refine atCondF rfl ?_ | refine atCond rfl (fun _ => ?_) (fun _ => ?_))
      | (show wpM _ _ _ (Fr.ops _ _ (KOper.mk _ _ none _ (KOp.pick _ _ _) :: _) :: _) Ex.normal _ _ _ _ _; refine atPick rfl (fun _ => ?_) (fun _ => ?_))
      | (show wpM _ _ _ [] _ _ _ _ _ _; refine finI rfl rfl rfl trivial ?_))
    rw [ltb_iff] at h1
    have : 24 < s.size := by omega
    simp [nameS, this]
  refine go 800 rfl ?_
  rw [ltb_not] at h1
  refine atGuard rfl (fun h2 => ?_) (fun h2 => ?_)
  · repeat' (first
      | (refine goP 800 rfl rfl ?_)
      | (show wpM _ _ _ (Fr.ops _ _ (KOper.mk _ _ (some _) _ _ :: _) :: _) Ex.normal _ _ _ _ _; first | refine atGuardT rfl ?_ | refine atGuardF rfl ?_ | refine atGuard rfl (fun _ => ?_) (fun _ => ?_))
      | (show wpM _ _ _ (Fr.code (K.cond _ _ _) :: _) Ex.normal _ _ _ _ _; first | refine atCondT rfl ?_ | refine atCondF rfl ?_ | refine atCond rfl (fun _ => ?_) (fun _ => ?_))
      | (show wpM _ _ _ (Fr.ops _ _ (KOper.mk _ _ none _ (KOp.pick _ _ _) :: _) :: _) Ex.normal _ _ _ _ _; refine atPick rfl (fun _ => ?_) (fun _ => ?_))
      | (show wpM _ _ _ [] _ _ _ _ _ _; refine finI rfl rfl rfl trivial ?_))
    rw [min_list] at h2
    simp [nameS, h2]
  refine go 800 rfl ?_
  rw [min_list] at h2
  refine atCond rfl (fun h3 => ?_) (fun h3 => ?_)
  · refine go 800 rfl ?_
    refine finI rfl rfl rfl trivial ?_
    rw [max_list] at h3
    simp [nameS, h3]
  refine go 800 rfl ?_
  rw [max_list] at h3
  have key : ∀ b, (decide (∀ i, i < s.size → charS i (byteAt s i).toNat = true)) = b → nameS s = b := by
    intro b hb
    rw [nameS, hb, h2, h3]
    rw [show decide (s.size = 0) = false by rw [decide_eq_false_iff_not]; omega, show decide (24 < s.size) = false by rw [decide_eq_false_iff_not]; omega]
    simp
  refine atLoop (S := fun k : Nat => ([.str s, encInt s.size, encInt k], [none, none, none], [0, 0, 0])) (C := fun k => k ≤ s.size ∧ ∀ i, i < k → charS i (byteAt s i).toNat = true) (m := fun k => s.size - k) 0 ⟨by omega, fun i hi => by omega⟩ (by omega) ?_ ?_
  · exact settleI rfl trivial (by simp [encInt])
  intro k ⟨hk, hall⟩ N hN
  refine go 800 rfl ?_
  refine atCond rfl (fun g1 => ?_) (fun g1 => ?_)
  · rw [ltb_iff] at g1
    have hlt : k < s.size := by omega
    have w1 : IntKind.i64.wrap ((k : Int) + 1) = ((k + 1 : Nat) : Int) := wrap64 (by omega) (by omega)
    have yes : charS k (byteAt s k).toNat = true → ∀ {t : Tmps} {h : Heap} {z : Frz} {nx : Nat}, (wsettle 0 [(0, 0), (23, 0), (24, 0)] t h z nx fun _ _ kp => kp = ([.str s, encInt s.size, encInt ((k + 1 : Nat) : Int)], [none, none, none], [0, 0, 0])) → N t h z nx := by
      intro hc t h z nx hst
      refine hN (k + 1) ⟨by omega, fun i hi => ?_⟩ (by omega) hst
      by_cases hik : i < k
      · exact hall i hik
      · obtain rfl : i = k := by omega
        exact hc
    have no : charS k (byteAt s k).toNat = false → nameS s = false := by
      intro hc
      refine key false ?_
      simp
      exact ⟨k, hlt, hc⟩
    clear hN
    refine go 800 rfl ?_
    refine atIStr k rfl rfl rfl (byteAt_get hlt) ?_
    repeat' (first
      | (refine goP 800 rfl rfl ?_)
      | (show wpM _ _ _ (Fr.ops _ _ (KOper.mk _ _ (some _) _ _ :: _) :: _) Ex.normal _ _ _ _ _; first | refine atGuardT rfl ?_ | refine atGuardF rfl ?_ | refine atGuard rfl (fun _ => ?_) (fun _ => ?_))
      | (show wpM _ _ _ (Fr.code (K.cond _ _ _) :: _) Ex.normal _ _ _ _ _; first | refine atCondT rfl ?_ | refine atCondF rfl ?_ | refine atCond rfl (fun _ => ?_) (fun _ => ?_))
      | (show wpM _ _ _ (Fr.ops _ _ (KOper.mk _ _ none _ (KOp.pick _ _ _) :: _) :: _) Ex.normal _ _ _ _ _; refine atPick rfl (fun _ => ?_) (fun _ => ?_))
      | (show wpM _ _ _ (Fr.ops _ _ (KOper.mk _ _ none _ (KOp.callF f_formula_isDigit _) :: _) :: _) Ex.normal _ _ _ _ _; refine atCall rfl rfl (isDigit_PU _) ?_))
    all_goals refine atEnd ?_
    all_goals first
      | (refine yes ?_ (settleI rfl trivial (by simp [encInt, w1]))
         simp only [ltb_eq, leb_eq, eqb_eq, nqb_eq, decide_eq_true_eq, decide_eq_false_iff_not, Bool.not_eq_true, Bool.not_eq_false, Int.not_lt, Int.not_le] at *
         simp_all [charS]
         try omega)
      | (refine go 800 rfl ?_
         refine finI rfl rfl rfl trivial ?_
         rw [no]
         simp only [ltb_eq, leb_eq, eqb_eq, nqb_eq, decide_eq_true_eq, decide_eq_false_iff_not, Bool.not_eq_true, Bool.not_eq_false, Int.not_lt, Int.not_le] at *
         simp_all [charS]
         try omega)
  rw [ltb_not] at g1
  refine go 800 rfl ?_
  refine atEnd ?_
  refine go 800 rfl ?_
  refine finI rfl rfl rfl trivial ?_
  rw [key true (by simp; exact fun i hi => hall i (by omega))]
end Go.F

/- Names: the reference's; the checks of formulas that are names. -/
namespace Go.F
attribute [local irreducible] IntKind.wrap wpM

theorem empty_list : (⟨#[]⟩ : ByteArray).toList = [] := by rw [Go.ByteArray.toList_eq]

theorem nil_size {s : ByteArray} : (s.toList == []) = decide (s.size = 0) := by
  rw [← toList_len]
  cases s.toList <;> simp

theorem operands2_PU : PU f_formula_operands [.int .i64 2] = some (.tup [.int .i64 0, .int .i64 0]) := by
  refine PU_of (fn := k_formula_operands) rfl (startI ?_)
  repeat' (first
    | (refine goP 800 rfl rfl ?_)
    | (show wpM _ _ _ (Fr.ops _ _ (KOper.mk _ _ (some _) _ _ :: _) :: _) Ex.normal _ _ _ _ _; first | refine atGuardT rfl ?_ | refine atGuardF rfl ?_ | refine atGuard rfl (fun _ => ?_) (fun _ => ?_))
    | (show wpM _ _ _ (Fr.code (K.cond _ _ _) :: _) Ex.normal _ _ _ _ _; first | refine atCondT rfl ?_ | refine atCondF rfl ?_ | refine atCond rfl (fun _ => ?_) (fun _ => ?_))
    | (show wpM _ _ _ (Fr.ops _ _ (KOper.mk _ _ none _ (KOp.pick _ _ _) :: _) :: _) Ex.normal _ _ _ _ _; refine atPick rfl (fun _ => ?_) (fun _ => ?_))
    | (show wpM _ _ _ [] _ _ _ _ _ _; refine finI rfl rfl rfl trivial ?_))
  all_goals simp_all [eqb]

theorem ratio_Cmp00_PU : PU f_ratio_Cmp [.agg [.bool false, .lst [], .lst []], .agg [.bool false, .lst [], .lst []]] = some (.int .i64 0) := run_PU (n := 30) (by kernel_rfl)

def nameX (s : ByteArray) : D := .agg [.int .i64 2, .bool false, .lst [], .lst [], .str s, .lst []]

theorem right_PU (s : ByteArray) : PU f_formula_right [nameX s] = some (.bool (nameS s)) := by
  refine PU_of (fn := k_formula_right) rfl (startI ?_)
  repeat' (first
    | (refine goP 800 rfl rfl ?_)
    | (show wpM _ _ _ (Fr.ops _ _ (KOper.mk _ _ (some _) _ _ :: _) :: _) Ex.normal _ _ _ _ _; first | refine atGuardT rfl ?_ | refine atGuardF rfl ?_ | refine atGuard rfl (fun _ => ?_) (fun _ => ?_))
    | (show wpM _ _ _ (Fr.code (K.cond _ _ _) :: _) Ex.normal _ _ _ _ _; first | refine atCondT rfl ?_ | refine atCondF rfl ?_ | refine atCond rfl (fun _ => ?_) (fun _ => ?_))
    | (show wpM _ _ _ (Fr.ops _ _ (KOper.mk _ _ none _ (KOp.pick _ _ _) :: _) :: _) Ex.normal _ _ _ _ _; refine atPick rfl (fun _ => ?_) (fun _ => ?_))
    | (show wpM _ _ _ [] _ _ _ _ _ _; refine finI rfl rfl rfl trivial ?_)
    | (show wpM _ _ _ (Fr.ops _ _ (KOper.mk _ _ none _ (KOp.callF f_formula_operands _) :: _) :: _) Ex.normal _ _ _ _ _; refine atCall rfl rfl (operands2_PU) ?_)
    | (show wpM _ _ _ (Fr.ops _ _ (KOper.mk _ _ none _ (KOp.callF f_formula_isName _) :: _) :: _) Ex.normal _ _ _ _ _; refine atCall rfl rfl (isName_PU s) ?_)
    | (show wpM _ _ _ (Fr.ops _ _ (KOper.mk _ _ none _ (KOp.callF f_ratio_Cmp _) :: _) :: _) Ex.normal _ _ _ _ _; refine atCall rfl rfl (ratio_Cmp00_PU) ?_))
  all_goals simp_all [ltb, eqb]
end Go.F

/- The check of an outline. -/
namespace Go.F
attribute [local irreducible] IntKind.wrap wpM

theorem formula_check_PU (s : ByteArray) : PU f_formula_check [nameX s, .int .i64 1] = some (.int .i64 (if nameS s then 0 else 1)) := by
  refine PU_of (fn := k_formula_check) rfl (startI ?_)
  refine go 800 rfl ?_
  refine atCond rfl (fun h => ?_) (fun h => ?_)
  · exact absurd h (by simp [ltb])
  refine go 800 rfl ?_
  refine atCall rfl rfl (right_PU s) ?_
  refine go 800 rfl ?_
  refine atCond rfl (fun h1 => ?_) (fun h1 => ?_)
  · repeat' (first
      | (refine goP 800 rfl rfl ?_)
      | (show wpM _ _ _ (Fr.ops _ _ (KOper.mk _ _ (some _) _ _ :: _) :: _) Ex.normal _ _ _ _ _; first | refine atGuardT rfl ?_ | refine atGuardF rfl ?_ | refine atGuard rfl (fun _ => ?_) (fun _ => ?_))
      | (show wpM _ _ _ (Fr.code (K.cond _ _ _) :: _) Ex.normal _ _ _ _ _; first | refine atCondT rfl ?_ | refine atCondF rfl ?_ | refine atCond rfl (fun _ => ?_) (fun _ => ?_))
      | (show wpM _ _ _ (Fr.ops _ _ (KOper.mk _ _ none _ (KOp.pick _ _ _) :: _) :: _) Ex.normal _ _ _ _ _; refine atPick rfl (fun _ => ?_) (fun _ => ?_))
      | (show wpM _ _ _ [] _ _ _ _ _ _; refine finI rfl rfl rfl trivial ?_))
    simp at h1
    simp [h1]
  refine go 800 rfl ?_
  refine atLoop (S := fun _ : Unit => ([.int .i64 1, .lst [], .int .i64 0, .int .i64 0], [none, none, none, none], [0, 0, 0, 0])) (C := fun _ => True) (m := fun _ => 0) () trivial (by decide) ?_ ?_
  · exact settleI rfl trivial (by simp)
  intro _ _ N hN
  repeat' (first
    | (refine goP 800 rfl rfl ?_)
    | (show wpM _ _ _ (Fr.ops _ _ (KOper.mk _ _ (some _) _ _ :: _) :: _) Ex.normal _ _ _ _ _; first | refine atGuardT rfl ?_ | refine atGuardF rfl ?_ | refine atGuard rfl (fun _ => ?_) (fun _ => ?_))
    | (show wpM _ _ _ (Fr.code (K.cond _ _ _) :: _) Ex.normal _ _ _ _ _; first | refine atCondT rfl ?_ | refine atCondF rfl ?_ | refine atCond rfl (fun _ => ?_) (fun _ => ?_))
    | (show wpM _ _ _ (Fr.ops _ _ (KOper.mk _ _ none _ (KOp.pick _ _ _) :: _) :: _) Ex.normal _ _ _ _ _; refine atPick rfl (fun _ => ?_) (fun _ => ?_))
    | (show wpM _ _ _ [] _ _ _ _ _ _; refine finI rfl rfl rfl trivial ?_))
  · exact absurd ‹ltb _ _ = true› (by simp [ltb])
  refine atEnd ?_
  refine go 800 rfl ?_
  refine finI rfl rfl rfl trivial ?_
  simp at h1
  simp [h1]

theorem formula_Check_PU (s : ByteArray) : PU f_formula_Check [nameX s] = some (.int .i64 (if nameS s then 0 else 1)) := by
  refine PU_of (fn := k_formula_Check) rfl (startI ?_)
  refine go 800 rfl ?_
  refine atCall rfl rfl (formula_check_PU s) ?_
  repeat' (first
    | (refine goP 800 rfl rfl ?_)
    | (show wpM _ _ _ (Fr.ops _ _ (KOper.mk _ _ (some _) _ _ :: _) :: _) Ex.normal _ _ _ _ _; first | refine atGuardT rfl ?_ | refine atGuardF rfl ?_ | refine atGuard rfl (fun _ => ?_) (fun _ => ?_))
    | (show wpM _ _ _ (Fr.code (K.cond _ _ _) :: _) Ex.normal _ _ _ _ _; first | refine atCondT rfl ?_ | refine atCondF rfl ?_ | refine atCond rfl (fun _ => ?_) (fun _ => ?_))
    | (show wpM _ _ _ (Fr.ops _ _ (KOper.mk _ _ none _ (KOp.pick _ _ _) :: _) :: _) Ex.normal _ _ _ _ _; refine atPick rfl (fun _ => ?_) (fun _ => ?_))
    | (show wpM _ _ _ [] _ _ _ _ _ _; refine finI rfl rfl rfl trivial ?_))
  rfl

theorem outline_isName_PU (s : ByteArray) : PU f_outline_isName [.str s] = some (.bool (nameS s)) := by
  refine PU_of (fn := k_outline_isName) rfl (startI ?_)
  refine go 800 rfl ?_
  refine atCall rfl rfl (formula_Check_PU s) ?_
  repeat' (first
    | (refine goP 800 rfl rfl ?_)
    | (show wpM _ _ _ (Fr.ops _ _ (KOper.mk _ _ (some _) _ _ :: _) :: _) Ex.normal _ _ _ _ _; first | refine atGuardT rfl ?_ | refine atGuardF rfl ?_ | refine atGuard rfl (fun _ => ?_) (fun _ => ?_))
    | (show wpM _ _ _ (Fr.code (K.cond _ _ _) :: _) Ex.normal _ _ _ _ _; first | refine atCondT rfl ?_ | refine atCondF rfl ?_ | refine atCond rfl (fun _ => ?_) (fun _ => ?_))
    | (show wpM _ _ _ (Fr.ops _ _ (KOper.mk _ _ none _ (KOp.pick _ _ _) :: _) :: _) Ex.normal _ _ _ _ _; refine atPick rfl (fun _ => ?_) (fun _ => ?_))
    | (show wpM _ _ _ [] _ _ _ _ _ _; refine finI rfl rfl rfl trivial ?_))
  cases nameS s <;> simp [eqb]

def firstErr (f : Nat → Int) : Nat → Int
  | 0 => 0
  | k + 1 => if firstErr f k = 0 then f k else firstErr f k

theorem firstErr_at {f : Nat → Int} {k n : Nat} (h0 : firstErr f k = 0) (h1 : f k ≠ 0) (h : k < n) : firstErr f n = f k := by
  induction n with
  | zero => omega
  | succ n ih =>
    rw [firstErr]
    by_cases hk : k < n
    · rw [ih hk, if_neg h1]
    · obtain rfl : k = n := by omega
      rw [if_pos h0]

theorem firstErr_next {f : Nat → Int} {k : Nat} (h0 : firstErr f k = 0) (h1 : f k = 0) : firstErr f (k + 1) = 0 := by
  rw [firstErr, if_pos h0, h1]

theorem firstErr_of {f : Nat → Int} {n k : Nat} (h0 : firstErr f n = 0) (h : k < n) : f k = 0 := by
  induction n with
  | zero => omega
  | succ n ih =>
    rw [firstErr] at h0
    split at h0
    · rename_i h2
      by_cases hk : k < n
      · exact ih h2 hk
      · obtain rfl : k = n := by omega
        exact h0
    · rename_i h2; exact absurd h0 h2

def eg (l : List Edge) (i : Nat) : Edge := l.getD i ⟨⟨#[]⟩, []⟩

theorem eg_enc {l : List Edge} {i : Nat} (h : i < l.length) : (l.map Edge.enc)[i]? = some (eg l i).enc := by simp [eg, h]
theorem eg_get {l : List Edge} {i : Nat} (h : i < l.length) : eg l i = l[i] := by simp [eg, h]

def namedB (l : List Edge) (i : Nat) : Bool := (List.range i).any fun j => (eg l j).name.toList == (eg l i).name.toList

theorem namedB_yes {l : List Edge} {i j : Nat} (hj : j < i) (h : (eg l j).name.toList == (eg l i).name.toList) : namedB l i = true :=
  List.any_eq_true.2 ⟨j, List.mem_range.2 hj, h⟩

theorem namedB_no {l : List Edge} {i : Nat} (h : ∀ j, j < i → ((eg l j).name.toList == (eg l i).name.toList) = false) : namedB l i = false := by
  unfold namedB
  rw [List.any_eq_false]
  intro j hj
  rw [h j (List.mem_range.1 hj)]
  decide

def edgeErr (l : List Edge) (i : Nat) : Int :=
  if nameS (eg l i).name = false then 1 else if namedB l i then 7 else checkL (eg l i).line

def joinErr (l : List Edge) (i : Nat) : Int :=
  if pt (eg l i).line ((eg l i).line.length - 1) = pt (eg l ((i + 1) % l.length)).line 0 then 0 else 11

def checkO (l : List Edge) : Int :=
  if 16 < l.length then 5 else if l.length < 2 then 11
  else if firstErr (edgeErr l) l.length = 0 then
    if firstErr (joinErr l) l.length = 0 then checkP (verts l) else firstErr (joinErr l) l.length
  else firstErr (edgeErr l) l.length
theorem checkL_ok {p : List Spot} (h : checkL p = 0) : 2 ≤ p.length ∧ p.length ≤ 40 ∧ (∀ s ∈ p, withinS s 1048576 = true) := by
  unfold checkL at h
  split at h
  · cases h
  split at h
  · cases h
  split at h
  · cases h
  rename_i h1 h2 h3
  exact ⟨by omega, by omega, by simpa using h3⟩

theorem edgeErr_ok {l : List Edge} {i : Nat} (h : edgeErr l i = 0) : checkL (eg l i).line = 0 := by
  unfold edgeErr at h
  split at h
  · cases h
  split at h
  · cases h
  exact h

theorem verts_bound {l : List Edge} {m : Nat} (h : ∀ e ∈ l, e.line.length ≤ m) : (verts l).length ≤ l.length * m := by
  induction l with
  | nil => simp [verts]
  | cons e l ih =>
    have h1 := ih fun e he => h e (List.mem_cons_of_mem _ he)
    have h2 := h e List.mem_cons_self
    have : verts (e :: l) = e.line.dropLast ++ verts l := rfl
    rw [this, List.length_append, List.length_dropLast, List.length_cons, Nat.succ_mul]
    omega

theorem eg_mem {l : List Edge} {e : Edge} (h : e ∈ l) : ∃ i, i < l.length ∧ eg l i = e := by
  obtain ⟨i, hi, rfl⟩ := List.getElem_of_mem h
  exact ⟨i, hi, eg_get hi⟩

set_option maxHeartbeats 2000000 in
theorem outline_Check_PU (l : List Edge) : PU f_outline_Check [edges l] = some (.int .i64 (checkO l)) := by
  refine PU_of (fn := k_outline_Check) rfl (startI ?_)
  refine go 800 rfl ?_
  refine atCond rfl (fun h1 => ?_) (fun h1 => ?_)
  · refine go 800 rfl ?_
    refine finI rfl rfl rfl trivial ?_
    rw [ltb_iff, List.length_map] at h1
    rw [checkO, if_pos (by omega)]
  refine go 800 rfl ?_
  rw [ltb_not, List.length_map] at h1
  refine atCond rfl (fun h2 => ?_) (fun h2 => ?_)
  · refine go 800 rfl ?_
    refine finI rfl rfl rfl trivial ?_
    rw [ltb_iff, List.length_map] at h2
    rw [checkO, if_neg (by omega), if_pos (by omega)]
  refine go 800 rfl ?_
  rw [ltb_not, List.length_map] at h2
  have hcells : (l.map Edge.enc).all (fun d => d.cells.length == 2) = true := all_cells (f := Edge.enc) (n := 2) (fun _ => rfl) l
  refine atLoop (S := fun k : Nat => ([edges l, edges l, encInt l.length, encInt k], [none, none, none, none], [0, 0, 0, 0])) (C := fun k => k ≤ l.length ∧ firstErr (edgeErr l) k = 0) (m := fun k => l.length - k) 0 ⟨by omega, rfl⟩ (by omega) ?_ ?_
  · exact settleI rfl trivial (by simp [edges, encInt])
  intro k ⟨hk, hall⟩ N hN
  refine go 800 rfl ?_
  refine atCond rfl (fun g1 => ?_) (fun g1 => ?_)
  · rw [ltb_iff] at g1
    have hlt : k < l.length := by omega
    have w1 : IntKind.i64.wrap ((k : Int) + 1) = ((k + 1 : Nat) : Int) := wrap64 (by omega) (by omega)
    have yes : edgeErr l k = 0 → ∀ {t : Tmps} {h : Heap} {z : Frz} {nx : Nat}, (wsettle 0 [(0, 0), (17, 0), (18, 0), (19, 0)] t h z nx fun _ _ kp => kp = ([edges l, edges l, encInt l.length, encInt ((k + 1 : Nat) : Int)], [none, none, none, none], [0, 0, 0, 0])) → N t h z nx :=
      fun hc {t h z nx} hst => hN (k + 1) ⟨by omega, firstErr_next hall hc⟩ (by omega) hst
    have no : edgeErr l k ≠ 0 → checkO l = edgeErr l k := by
      intro hc
      have := firstErr_at hall hc hlt
      rw [checkO, if_neg (by omega), if_neg (by omega), if_neg (by rw [this]; exact hc), this]
    clear hN
    refine go 800 rfl ?_
    refine atIdx k rfl rfl rfl (eg_enc hlt) rfl ?_
    refine go 800 rfl ?_
    refine atCall rfl rfl (outline_isName_PU (eg l k).name) ?_
    refine go 800 rfl ?_
    refine atCond rfl (fun g2 => ?_) (fun g2 => ?_)
    · refine go 800 rfl ?_
      refine atEnd ?_
      refine go 800 rfl ?_
      refine finI rfl rfl rfl trivial ?_
      have : edgeErr l k = 1 := by rw [edgeErr, if_pos (by simpa using g2)]
      rw [no (by rw [this]; decide), this]
    have g2' : ¬ nameS (eg l k).name = false := by simpa using g2
    refine go 800 rfl ?_
    refine atSl0 k rfl hcells ⟨_, _, rfl, rfl⟩ (by simp; omega) ?_
    refine go 800 rfl ?_
    refine atLoop (S := fun j : Nat => ([edges l, .ptr 1 0 0, edges l, encInt l.length, encInt k, edges (l.take k), encInt k, encInt j], [none, some (.row [(eg l k).enc] 2), none, none, none, none, none, none], [0, 0, 0, 0, 0, 0, 0, 0]))
      (C := fun j => j ≤ k ∧ ∀ i, i < j → ((eg l i).name.toList == (eg l k).name.toList) = false) (m := fun j => k - j) 0 ⟨by omega, fun i hi => by omega⟩ (by omega) ?_ ?_
    · exact settleI rfl ⟨rfl, trivial⟩ (by simp [edges, encInt, spots, Edge.enc, List.map_take, Nat.min_eq_left (Nat.le_of_lt hlt)])
    intro j ⟨hj, hno⟩ N2 hN2
    refine go 800 rfl ?_
    refine atCond rfl (fun e1 => ?_) (fun e1 => ?_)
    · rw [ltb_iff] at e1
      have hjk : j < k := by omega
      have wj : IntKind.i64.wrap ((j : Int) + 1) = ((j + 1 : Nat) : Int) := wrap64 (by omega) (by omega)
      have hj2 : ((l.take k).map Edge.enc)[j]? = some (eg l j).enc := by
        rw [List.map_take, List.getElem?_take, if_pos hjk]; exact eg_enc (by omega)
      refine go 800 rfl ?_
      refine atIdx j rfl rfl rfl hj2 rfl ?_
      refine go 800 rfl ?_
      refine atCond rfl (fun e2 => ?_) (fun e2 => ?_)
      · refine go 800 rfl ?_
        refine atEnd ?_
        refine go 800 rfl ?_
        refine atEnd ?_
        refine go 800 rfl ?_
        refine finI rfl rfl rfl trivial ?_
        have : edgeErr l k = 7 := by rw [edgeErr, if_neg g2', if_pos (namedB_yes hjk e2)]
        rw [no (by rw [this]; decide), this]
      · refine go 800 rfl ?_
        refine atEnd ?_
        refine hN2 (j + 1) ⟨by omega, fun i hi => ?_⟩ (by omega) (settleI rfl ⟨rfl, trivial⟩ (by simp [edges, encInt, spots, Edge.enc, wj]))
        by_cases hij : i < j
        · exact hno i hij
        · obtain rfl : i = j := by omega
          exact e2
    rw [ltb_not] at e1
    clear hN2
    refine go 800 rfl ?_
    refine atEnd ?_
    refine go 800 rfl ?_
    have hnb : namedB l k = false := namedB_no fun i hi => hno i (by omega)
    have hee : edgeErr l k = checkL (eg l k).line := by rw [edgeErr, if_neg g2', if_neg (by rw [hnb]; decide)]
    refine atCall rfl rfl (polyline_Check_PU (eg l k).line) ?_
    refine go 800 rfl ?_
    refine atCond rfl (fun g3 => ?_) (fun g3 => ?_)
    · rw [nqb_iff, ← hee] at g3
      refine go 800 rfl ?_
      refine atEnd ?_
      refine go 800 rfl ?_
      refine finI rfl rfl rfl trivial ?_
      rw [no g3, hee]
    · rw [nqb_not, ← hee] at g3
      refine go 800 rfl ?_
      refine atEnd ?_
      exact yes g3 (settleI rfl trivial (by simp [edges, encInt, w1]))
  rw [ltb_not] at g1
  obtain rfl : k = l.length := by omega
  clear hN hk g1
  have hln : ∀ i, i < l.length → 2 ≤ (eg l i).line.length ∧ (eg l i).line.length ≤ 40 ∧ _ := fun i hi => checkL_ok (edgeErr_ok (firstErr_of hall hi))
  refine go 800 rfl ?_
  refine atEnd ?_
  refine go 800 rfl ?_
  refine atLoop (S := fun k : Nat => ([edges l, edges l, encInt l.length, encInt k], [none, none, none, none], [0, 0, 0, 0])) (C := fun k => k ≤ l.length ∧ firstErr (joinErr l) k = 0) (m := fun k => l.length - k) 0 ⟨by omega, rfl⟩ (by omega) ?_ ?_
  · exact settleI rfl trivial (by simp [edges, encInt])
  intro k ⟨hk, hjo⟩ N hN
  refine go 800 rfl ?_
  refine atCond rfl (fun g1 => ?_) (fun g1 => ?_)
  · rw [ltb_iff] at g1
    have hlt : k < l.length := by omega
    have hlt2 : (k + 1) % l.length < l.length := Nat.mod_lt _ (by omega)
    have w1 : IntKind.i64.wrap ((k : Int) + 1) = ((k + 1 : Nat) : Int) := wrap64 (by omega) (by omega)
    have a1 := hln k hlt
    have a2 := hln _ hlt2
    have w2 : IntKind.i64.wrap (((eg l k).line.length : Int) - 1) = (((eg l k).line.length - 1 : Nat) : Int) := by rw [wrap64 (by omega) (by omega)]; omega
    refine go 800 rfl ?_
    refine atIdx k rfl rfl rfl (eg_enc hlt) rfl ?_
    refine go 800 rfl ?_
    refine atRem rfl rfl (by rw [List.length_map]; omega) ?_
    refine go 800 rfl ?_
    refine atIdx ((k + 1) % l.length) rfl rfl (by rw [w1, List.length_map, tmod_nat]) (eg_enc hlt2) rfl ?_
    refine go 800 rfl ?_
    refine atIdx ((eg l k).line.length - 1) rfl rfl (by rw [List.length_map]; exact w2) (pt_enc (by omega)) rfl ?_
    refine go 800 rfl ?_
    refine atIdx 0 rfl rfl rfl (pt_enc (by omega)) rfl ?_
    refine go 800 rfl ?_
    refine atCond rfl (fun g2 => ?_) (fun g2 => ?_)
    · refine go 800 rfl ?_
      refine atEnd ?_
      refine go 800 rfl ?_
      refine finI rfl rfl rfl trivial ?_
      rw [spot_eqb] at g2
      have : joinErr l k = 11 := by rw [joinErr, if_neg (by simpa using g2)]
      have h11 := firstErr_at hjo (by rw [this]; decide) hlt
      rw [checkO, if_neg (by omega), if_neg (by omega), if_pos hall, if_neg (by rw [h11, this]; decide), h11, this]
    · refine go 800 rfl ?_
      refine atEnd ?_
      rw [spot_eqb] at g2
      have : joinErr l k = 0 := by rw [joinErr, if_pos (by simpa using g2)]
      refine hN (k + 1) ⟨by omega, firstErr_next hjo this⟩ (by omega) (settleI rfl trivial (by simp [edges, encInt, w1]))
  rw [ltb_not] at g1
  obtain rfl : k = l.length := by omega
  refine go 800 rfl ?_
  refine atEnd ?_
  refine go 800 rfl ?_
  have hb : ∀ e ∈ l, 1 ≤ e.line.length ∧ e.line.length ≤ 40 := by
    intro e he
    obtain ⟨i, hi, rfl⟩ := eg_mem he
    have := hln i hi
    exact ⟨by omega, by omega⟩
  have hv := verts_bound (m := 40) fun e he => (hb e he).2
  refine atCall rfl rfl (vertices_PU l (fun e he => ⟨(hb e he).1, by have := (hb e he).2; omega⟩) (by omega) (by omega)) ?_
  refine go 800 rfl ?_
  refine atCall rfl rfl (polygon_Check_PU (verts l)) ?_
  refine go 800 rfl ?_
  refine finI rfl rfl rfl trivial ?_
  rw [checkO, if_neg (by omega), if_neg (by omega), if_pos hall, if_pos hjo]

theorem checkO_ok {l : List Edge} (h : checkO l = 0) : 2 ≤ l.length ∧ l.length ≤ 16 ∧ firstErr (edgeErr l) l.length = 0 ∧ firstErr (joinErr l) l.length = 0 ∧ checkP (verts l) = 0 := by
  unfold checkO at h
  split at h
  · cases h
  split at h
  · cases h
  split at h
  · split at h
    · exact ⟨by omega, by omega, ‹_›, ‹_›, h⟩
    · exact absurd h ‹_›
  · exact absurd h ‹_›

theorem checkO_lines {l : List Edge} (h : checkO l = 0) : ∀ e ∈ l, 2 ≤ e.line.length ∧ e.line.length ≤ 40 := by
  intro e he
  obtain ⟨i, hi, rfl⟩ := eg_mem he
  have := checkL_ok (edgeErr_ok (firstErr_of (checkO_ok h).2.2.1 hi))
  exact ⟨this.1, this.2.1⟩

def polyO (l : List Edge) : D := if checkO l = 0 then .tup [spots (verts l), .int .i64 0] else .tup [.lst [], .int .i64 (checkO l)]

theorem outline_Polygon_PU (l : List Edge) : PU f_outline_Polygon [edges l] = some (polyO l) := by
  refine PU_of (fn := k_outline_Polygon) rfl (startI ?_)
  refine go 800 rfl ?_
  refine atCall rfl rfl (outline_Check_PU l) ?_
  refine go 800 rfl ?_
  refine atCond rfl (fun h => ?_) (fun h => ?_)
  · rw [nqb_iff] at h
    refine go 800 rfl ?_
    refine finI rfl rfl rfl trivial ?_
    rw [polyO, if_neg h]
  · rw [nqb_not] at h
    have hb := checkO_lines h
    have := checkO_ok h
    have hv := checkP_ok this.2.2.2.2
    refine go 800 rfl ?_
    refine atCall rfl rfl (vertices_PU l (fun e he => ⟨by have := hb e he; omega, by have := hb e he; omega⟩) (by omega) (by omega)) ?_
    refine go 800 rfl ?_
    refine finI rfl rfl rfl trivial ?_
    rw [polyO, if_pos h, spots]
end Go.F

/- The references of the polylines and polygons. -/
namespace Go.F
attribute [local irreducible] IntKind.wrap wpM

def farS (n : Int) : Bool := decide (1048576 < n) || decide (n < -1048576)

theorem far_within (s : Spot) : (farS s.x || farS s.y) = !withinS s 1048576 := by
  rw [Bool.eq_iff_iff]
  simp [farS, withinS]
  omega

theorem r11_Same_PU (p q : List Spot) (hp : p.length < 4611686018427387904) : PU f_r11_Same [spots p, spots q] = some (.bool (decide (p = q))) := by
  refine PU_of (fn := k_r11_Same) rfl (startI ?_)
  refine go 800 rfl ?_
  refine atCond rfl (fun h1 => ?_) (fun h1 => ?_)
  · refine go 800 rfl ?_
    refine finI rfl rfl rfl trivial ?_
    rw [nqb_iff, List.length_map, List.length_map] at h1
    have : p ≠ q := by rintro rfl; exact h1 rfl
    simp [this]
  rw [nqb_not, List.length_map, List.length_map] at h1
  refine go 800 rfl ?_
  refine atLoop (S := fun k : Nat => ([spots p, spots q, encInt k], [none, none, none], [0, 0, 0])) (C := fun k => k ≤ p.length ∧ ∀ i, i < k → pt p i = pt q i) (m := fun k => p.length - k) 0 ⟨by omega, fun i hi => by omega⟩ (by omega) ?_ ?_
  · exact settleI rfl trivial (by simp [spots, encInt])
  intro k ⟨hk, hall⟩ N hN
  refine go 800 rfl ?_
  refine atCond rfl (fun g1 => ?_) (fun g1 => ?_)
  · rw [ltb_iff, List.length_map] at g1
    have hlt : k < p.length := by omega
    have w1 : IntKind.i64.wrap ((k : Int) + 1) = ((k + 1 : Nat) : Int) := wrap64 (by omega) (by omega)
    refine go 800 rfl ?_
    refine atIdx k rfl rfl rfl (pt_enc hlt) rfl ?_
    refine go 800 rfl ?_
    refine atIdx k rfl rfl rfl (pt_enc (by omega)) rfl ?_
    refine go 800 rfl ?_
    refine atCond rfl (fun g2 => ?_) (fun g2 => ?_)
    · refine go 800 rfl ?_
      refine atEnd ?_
      refine go 800 rfl ?_
      refine finI rfl rfl rfl trivial ?_
      rw [spot_eqb] at g2
      have : p ≠ q := by rintro rfl; simp at g2
      simp [this]
    · refine go 800 rfl ?_
      refine atEnd ?_
      rw [spot_eqb] at g2
      refine hN (k + 1) ⟨by omega, fun i hi => ?_⟩ (by omega) (settleI rfl trivial (by simp [spots, encInt, w1]))
      by_cases hik : i < k
      · exact hall i hik
      · obtain rfl : i = k := by omega
        simpa using g2
  rw [ltb_not, List.length_map] at g1
  refine go 800 rfl ?_
  refine atEnd ?_
  refine go 800 rfl ?_
  refine finI rfl rfl rfl trivial ?_
  have : p = q := by
    refine List.ext_getElem (by omega) fun i hi1 hi2 => ?_
    rw [← pt_get hi1, ← pt_get hi2]; exact hall i (by omega)
  simp [this]
end Go.F

/- Simple polygons, as the program and as the reference say it. -/
namespace Go.F

def SimpleR (p : List Spot) : Prop :=
  ∀ i, i < p.length → (pt p i ≠ pt p ((i + 1) % p.length) ∧ onS (pt p i) (pt p ((i + 1) % p.length)) (pt p ((i + 2) % p.length)) = false ∧ onS (pt p ((i + 1) % p.length)) (pt p ((i + 2) % p.length)) (pt p i) = false) ∧
    ∀ k, k < p.length → i + 2 ≤ k → (k + 1) % p.length ≠ i → meetS (pt p i) (pt p ((i + 1) % p.length)) (pt p k) (pt p ((k + 1) % p.length)) = false

instance (p : List Spot) : Decidable (SimpleR p) := by unfold SimpleR; exact inferInstance

theorem sq_nonneg (t : Int) : 0 ≤ t * t := by
  rcases Int.le_total 0 t with h | h
  · exact Int.mul_nonneg h h
  · exact Int.mul_nonneg_of_nonpos_of_nonpos h h

theorem same_sign {ux uy vx vy : Int} (hc : ux * vy = uy * vx) (hd : 0 < ux * vx + uy * vy) : 0 ≤ ux * vx ∧ 0 ≤ uy * vy := by
  have e : (ux * vx) * (uy * vy) = (ux * vy) * (ux * vy) := by
    calc (ux * vx) * (uy * vy) = (ux * vy) * (uy * vx) := by ac_rfl
      _ = _ := by rw [← hc]
  have hn := sq_nonneg (ux * vy)
  rw [← e] at hn
  constructor
  · refine Int.not_lt.1 fun h => ?_
    have := Int.mul_neg_of_neg_of_pos h (show 0 < uy * vy by omega)
    omega
  · refine Int.not_lt.1 fun h => ?_
    have := Int.mul_neg_of_pos_of_neg (show 0 < ux * vx by omega) h
    omega

theorem between1 {u v : Int} (hs : 0 ≤ u * v) (hl : v.natAbs ≤ u.natAbs) : min u 0 ≤ v ∧ v ≤ max u 0 := by
  rcases Int.lt_trichotomy v 0 with h | h | h
  · have : u ≤ 0 := by
      refine Int.not_lt.1 fun h2 => ?_
      have := Int.mul_neg_of_pos_of_neg h2 h
      omega
    omega
  · omega
  · have : 0 ≤ u := by
      refine Int.not_lt.1 fun h2 => ?_
      have := Int.mul_neg_of_neg_of_pos h2 h
      omega
    omega

theorem cross_uv (a b c : Spot) : crossS a b c = (a.y - b.y) * (c.x - b.x) - (a.x - b.x) * (c.y - b.y) := by
  unfold crossS; grind

theorem cross_cyc (a b c : Spot) : crossS b c a = crossS a b c := by unfold crossS; grind

theorem onS_iff {a b p : Spot} : onS a b p = true ↔ crossS a b p = 0 ∧ min a.x b.x ≤ p.x ∧ p.x ≤ max a.x b.x ∧ min a.y b.y ≤ p.y ∧ p.y ≤ max a.y b.y := by simp [onS]

theorem foldedS_iff {a b c : Spot} : foldedS a b c = true ↔ crossS a b c = 0 ∧ 0 < (a.x - b.x) * (c.x - b.x) + (a.y - b.y) * (c.y - b.y) := by simp [foldedS]

/- folded: one lies between -/
theorem folded_on {a b c : Spot} (h : foldedS a b c = true) : onS a b c = true ∨ onS b c a = true := by
  rw [foldedS_iff] at h
  obtain ⟨h1, h2⟩ := h
  have hc : (a.x - b.x) * (c.y - b.y) = (a.y - b.y) * (c.x - b.x) := by rw [cross_uv] at h1; omega
  obtain ⟨s1, s2⟩ := same_sign hc h2
  have hn : (a.x - b.x).natAbs * (c.y - b.y).natAbs = (a.y - b.y).natAbs * (c.x - b.x).natAbs := by rw [← Int.natAbs_mul, ← Int.natAbs_mul, hc]
  rw [onS_iff, onS_iff, cross_cyc a b c]
  by_cases hx : (c.x - b.x).natAbs ≤ (a.x - b.x).natAbs
  · by_cases hy : (c.y - b.y).natAbs ≤ (a.y - b.y).natAbs
    · left
      have := between1 s1 hx
      have := between1 s2 hy
      refine ⟨h1, ?_⟩
      omega
    · by_cases hx' : (a.x - b.x).natAbs ≤ (c.x - b.x).natAbs
      · right
        rw [Int.mul_comm] at s1 s2
        have := between1 s1 hx'
        have := between1 s2 (show (a.y - b.y).natAbs ≤ (c.y - b.y).natAbs by omega)
        refine ⟨h1, ?_⟩
        omega
      · have := Nat.mul_lt_mul'' (Nat.lt_of_not_le hx') (Nat.lt_of_not_le hy)
        rw [Nat.mul_comm (c.x - b.x).natAbs] at this
        omega
  · by_cases hy : (a.y - b.y).natAbs ≤ (c.y - b.y).natAbs
    · right
      rw [Int.mul_comm] at s1 s2
      have := between1 s1 (show (a.x - b.x).natAbs ≤ (c.x - b.x).natAbs by omega)
      have := between1 s2 hy
      refine ⟨h1, ?_⟩
      omega
    · have := Nat.mul_lt_mul'' (Nat.lt_of_not_le hx) (Nat.lt_of_not_le hy)
      rw [Nat.mul_comm (c.x - b.x).natAbs] at this
      omega

theorem prod_pos {u v : Int} (h : min u 0 ≤ v ∧ v ≤ max u 0) : 0 ≤ u * v := by
  rcases Int.le_total 0 u with h2 | h2
  · exact Int.mul_nonneg h2 (by omega)
  · exact Int.mul_nonneg_of_nonpos_of_nonpos h2 (by omega)

theorem prod_pos' {u v : Int} (h : min u 0 ≤ v ∧ v ≤ max u 0) (hv : v ≠ 0) : 0 < u * v := by
  rcases Int.lt_trichotomy v 0 with h2 | h2 | h2
  · exact Int.mul_pos_of_neg_of_neg (by omega) h2
  · exact absurd h2 hv
  · exact Int.mul_pos (by omega) h2

theorem spot_ne {a b : Spot} (h : a ≠ b) : a.x - b.x ≠ 0 ∨ a.y - b.y ≠ 0 := by
  by_cases hx : a.x = b.x
  · by_cases hy : a.y = b.y
    · exact absurd (by cases a; cases b; simp_all) h
    · right; omega
  · left; omega

theorem on_folded {a b c : Spot} (hcb : c ≠ b) (h : onS a b c = true) : foldedS a b c = true := by
  rw [onS_iff] at h
  rw [foldedS_iff]
  refine ⟨h.1, ?_⟩
  have bx : min (a.x - b.x) 0 ≤ c.x - b.x ∧ c.x - b.x ≤ max (a.x - b.x) 0 := by omega
  have bY : min (a.y - b.y) 0 ≤ c.y - b.y ∧ c.y - b.y ≤ max (a.y - b.y) 0 := by omega
  have p1 := prod_pos bx
  have p2 := prod_pos bY
  rcases spot_ne hcb with h2 | h2
  · have := prod_pos' bx h2; omega
  · have := prod_pos' bY h2; omega

theorem folded_sym (a b c : Spot) : foldedS a b c = foldedS c b a := by
  rw [Bool.eq_iff_iff, foldedS_iff, foldedS_iff]
  have : crossS c b a = - crossS a b c := by unfold crossS; grind
  rw [this, Int.mul_comm (c.x - b.x), Int.mul_comm (c.y - b.y)]
  omega

theorem on_sym (a b c : Spot) : onS a b c = onS b a c := by
  rw [Bool.eq_iff_iff, onS_iff, onS_iff]
  have : crossS b a c = - crossS a b c := by unfold crossS; grind
  rw [this]
  omega
theorem on_end (a b : Spot) : onS a b a = true := by
  rw [onS_iff]
  refine ⟨by unfold crossS; grind, ?_⟩
  omega

theorem take_mem {p : List Spot} {i : Nat} (hi : i < p.length) : pt p i ∈ p.take i ↔ ∃ j, j < i ∧ pt p j = pt p i := by
  rw [List.mem_take_iff_getElem]
  constructor
  · rintro ⟨j, hj, e⟩
    exact ⟨j, by omega, by rw [pt_get (by omega)]; exact e⟩
  · rintro ⟨j, hj, e⟩
    exact ⟨j, by omega, by rw [← e, pt_get (by omega)]⟩

theorem mod1 {n i : Nat} (hi : i < n) : (i + 1) % n = if i + 1 = n then 0 else i + 1 := by
  split
  · rename_i h; rw [h]; simp
  · exact Nat.mod_eq_of_lt (by omega)

theorem mod2 {n i : Nat} (h3 : 3 ≤ n) (hi : i < n) : (i + 2) % n = if i + 2 < n then i + 2 else i + 2 - n := by
  split
  · rename_i h; exact Nat.mod_eq_of_lt h
  · rw [Nat.mod_eq_sub_mod (by omega), Nat.mod_eq_of_lt (by omega)]

theorem simple_iff {p : List Spot} (h3 : 3 ≤ p.length) : SimpleP p ↔ SimpleR p := by
  constructor
  · rintro ⟨hd, hs⟩ i hi
    have inj : ∀ {j k}, j < p.length → k < p.length → j ≠ k → pt p j ≠ pt p k := by
      intro j k hj hk hne e
      rcases Nat.lt_or_gt_of_ne hne with h | h
      · exact hd k hk ((take_mem hk).2 ⟨j, h, e⟩)
      · exact hd j hj ((take_mem hj).2 ⟨k, h, e.symm⟩)
    have m1 := mod1 hi
    have m2 := mod2 h3 hi
    have l1 : (i + 1) % p.length < p.length := Nat.mod_lt _ (by omega)
    have l2 : (i + 2) % p.length < p.length := Nat.mod_lt _ (by omega)
    have n01 : pt p i ≠ pt p ((i + 1) % p.length) := inj hi l1 (by rw [m1]; split <;> omega)
    have n12 : pt p ((i + 2) % p.length) ≠ pt p ((i + 1) % p.length) := inj l2 l1 (by rw [m1, m2]; split <;> split <;> omega)
    obtain ⟨hf, hm⟩ := hs i hi
    refine ⟨⟨n01, ?_, ?_⟩, hm⟩
    · cases ho : onS (pt p i) (pt p ((i + 1) % p.length)) (pt p ((i + 2) % p.length))
      · rfl
      · rw [on_folded n12 ho] at hf; cases hf
    · cases ho : onS (pt p ((i + 1) % p.length)) (pt p ((i + 2) % p.length)) (pt p i)
      · rfl
      · rw [on_sym] at ho
        rw [folded_sym, on_folded n01 ho] at hf; cases hf
  · intro hr
    refine ⟨fun i hi hm => ?_, fun i hi => ⟨?_, (hr i hi).2⟩⟩
    · obtain ⟨j, hj, e⟩ := (take_mem hi).1 hm
      have hjl : j < p.length := by omega
      have m1 := mod1 hjl
      have m1' := mod1 hi
      by_cases h1 : j + 1 = i
      · have := (hr j hjl).1.1
        rw [m1, if_neg (by omega), h1] at this
        exact this e
      · by_cases h2 : (i + 1) % p.length = j
        · have := (hr i hi).1.1
          rw [h2] at this
          exact this e.symm
        · have := (hr j hjl).2 i hi (by omega) h2
          have ho := on_end (pt p j) (pt p ((j + 1) % p.length))
          rw [← e] at this
          simp [meetS, ho] at this
    · cases hf : foldedS (pt p i) (pt p ((i + 1) % p.length)) (pt p ((i + 2) % p.length))
      · rfl
      · have := (hr i hi).1
        rcases folded_on hf with h | h
        · rw [h] at this; cases this.2.1
        · rw [h] at this; cases this.2.2
end Go.F

/- The reference's check of polygons. -/
namespace Go.F
attribute [local irreducible] IntKind.wrap wpM

end Go.F

/- The reference's outlines. -/
namespace Go.F
attribute [local irreducible] IntKind.wrap wpM

theorem verts_take' {l : List Edge} {k : Nat} (h : k < l.length) : verts (l.take (k + 1)) = verts (l.take k) ++ (eg l k).line.dropLast := by
  rw [verts_take h, eg_get h]

end Go.F

/- Allowances: orientation, rounded quotients, widths of segments. -/
namespace Go.F
attribute [local irreducible] IntKind.wrap wpM

theorem orientation_PU (p : List Spot) : PU f_allowance_orientation [spots p] = some (.int .i64 (sgn (area2P p))) := by
  refine PU_of (fn := k_allowance_orientation) rfl (startI ?_)
  repeat' (first
    | (refine goP 800 rfl rfl ?_)
    | (show wpM _ _ _ (Fr.ops _ _ (KOper.mk _ _ (some _) _ _ :: _) :: _) Ex.normal _ _ _ _ _; first | refine atGuardT rfl ?_ | refine atGuardF rfl ?_ | refine atGuard rfl (fun _ => ?_) (fun _ => ?_))
    | (show wpM _ _ _ (Fr.code (K.cond _ _ _) :: _) Ex.normal _ _ _ _ _; first | refine atCondT rfl ?_ | refine atCondF rfl ?_ | refine atCond rfl (fun _ => ?_) (fun _ => ?_))
    | (show wpM _ _ _ (Fr.ops _ _ (KOper.mk _ _ none _ (KOp.pick _ _ _) :: _) :: _) Ex.normal _ _ _ _ _; refine atPick rfl (fun _ => ?_) (fun _ => ?_))
    | (show wpM _ _ _ [] _ _ _ _ _ _; refine finI rfl rfl rfl trivial ?_)
    | (show wpM _ _ _ (Fr.ops _ _ (KOper.mk _ _ none _ (KOp.callF f_polygon_Area2 _) :: _) :: _) Ex.normal _ _ _ _ _; refine atCall rfl rfl (Area2_PU p) ?_)
    | (show wpM _ _ _ (Fr.ops _ _ (KOper.mk _ _ none _ (KOp.callF f_cmp_Compare_int _) :: _) :: _) Ex.normal _ _ _ _ _; refine atCall rfl rfl (Compare_PU _ _) ?_))
  rfl

/- a rounded quotient -/
def rndI (a b : Int) : Int := if a < 0 then -((2 * (-a) + b) / (2 * b)) else (2 * a + b) / (2 * b)

theorem rounded_pos (a b : Int) (h0 : 0 ≤ a) (ha : a ≤ 1099511627776) (hb : 0 < b) (hb' : b ≤ 1099511627776) : PU f_allowance_rounded [.int .i64 a, .int .i64 b] = some (.int .i64 (rndI a b)) := by
  refine PU_of (fn := k_allowance_rounded) rfl (startI ?_)
  refine go 800 rfl ?_
  have w1 : IntKind.i64.wrap (2 * a) = 2 * a := wrap64 (by omega) (by omega)
  have w2 : IntKind.i64.wrap (2 * a + b) = 2 * a + b := wrap64 (by omega) (by omega)
  have w3 : IntKind.i64.wrap (2 * b) = 2 * b := wrap64 (by omega) (by omega)
  refine atCond rfl (fun h => ?_) (fun h => ?_)
  · rw [ltb_iff] at h; omega
  refine go 800 rfl ?_
  refine atQuo rfl rfl (by rw [w3]; omega) ?_
  refine go 800 rfl ?_
  refine finI rfl rfl rfl trivial ?_
  have hd : (2 * a + b).tdiv (2 * b) = (2 * a + b) / (2 * b) := Int.tdiv_eq_ediv_of_nonneg (by omega)
  have hq : (2 * a + b) / (2 * b) ≤ 2 * a + b := Int.ediv_le_self _ (by omega)
  have hq0 : 0 ≤ (2 * a + b) / (2 * b) := Int.ediv_nonneg (by omega) (by omega)
  rw [w1, w2, w3, hd, wrap64 (by omega) (by omega), rndI, if_neg (by omega)]

theorem rounded_PU (a b : Int) (ha0 : -1099511627776 ≤ a) (ha : a ≤ 1099511627776) (hb : 0 < b) (hb' : b ≤ 1099511627776) : PU f_allowance_rounded [.int .i64 a, .int .i64 b] = some (.int .i64 (rndI a b)) := by
  by_cases h0 : 0 ≤ a
  · exact rounded_pos a b h0 ha hb hb'
  refine PU_of (fn := k_allowance_rounded) rfl (startI ?_)
  refine go 800 rfl ?_
  refine atCond rfl (fun h => ?_) (fun h => ?_)
  · refine go 800 rfl ?_
    have w1 : IntKind.i64.wrap (0 - a) = -a := by rw [wrap64 (by omega) (by omega)]; omega
    rw [w1]
    refine atCall rfl rfl (rounded_pos (-a) b (by omega) (by omega) hb hb') ?_
    refine go 800 rfl ?_
    refine finI rfl rfl rfl trivial ?_
    have hq : (2 * (-a) + b) / (2 * b) ≤ 2 * (-a) + b := Int.ediv_le_self _ (by omega)
    have hq0 : 0 ≤ (2 * (-a) + b) / (2 * b) := Int.ediv_nonneg (by omega) (by omega)
    rw [rndI, if_neg (by omega), rndI, if_pos (by omega), wrap64 (by omega) (by omega)]
    simp
  · rw [ltb_not] at h; omega
end Go.F

/- The widths of the segments. -/
namespace Go.F
attribute [local irreducible] IntKind.wrap wpM

def wd (ws : List Int) (i : Nat) : Int := ws.getD i 0
theorem wd_enc {ws : List Int} {i : Nat} (h : i < ws.length) : (ws.map encInt)[i]? = some (encInt (wd ws i)) := by simp [wd, h]

/- the widths of the segments of the first k edges -/
def segW (l : List Edge) (ws : List Int) : Nat → List Int
  | 0 => []
  | k + 1 => segW l ws k ++ List.replicate ((eg l k).line.length - 1) (wd ws k)

theorem segW_len (l : List Edge) (ws : List Int) : ∀ k, k ≤ l.length → (segW l ws k).length = (verts (l.take k)).length := by
  intro k
  induction k with
  | zero => intro _; simp [segW, verts]
  | succ k ih =>
    intro hk
    rw [segW, verts_take' (by omega), List.length_append, List.length_append, ih (by omega)]
    simp

set_option maxHeartbeats 1000000 in
theorem segmentWidths_PU (l : List Edge) (ws : List Int) (hw : l.length ≤ ws.length) (h1 : ∀ e ∈ l, 1 ≤ e.line.length ∧ e.line.length ≤ 100000) (hl : l.length ≤ 100000) (hv : (verts l).length ≤ 100000) : PU f_allowance_segmentWidths [edges l, ints ws] = some (ints (segW l ws l.length)) := by
  have hlen : ∀ k, k ≤ l.length → (segW l ws k).length ≤ 100000 := by
    intro k hk
    rw [segW_len l ws k hk]
    have := verts_le (l := l) k
    omega
  refine PU_of (fn := k_allowance_segmentWidths) rfl (startI ?_)
  refine go 800 rfl ?_
  refine atLoop (S := fun k : Nat => ([ints ws, .ref 1 0 (segW l ws k).length, edges l, encInt l.length, encInt k], [none, some (.row ((segW l ws k).map encInt) 1), none, none, none], [0, 0, 0, 0, 0])) (C := fun k => k ≤ l.length) (m := fun k => l.length - k) 0 (by omega) (by omega) ?_ ?_
  · exact settleI rfl ⟨rfl, trivial⟩ (by simp [edges, ints, encInt, segW])
  intro k hk N hN
  refine go 800 rfl ?_
  refine atCond rfl (fun g1 => ?_) (fun g1 => ?_)
  · rw [ltb_iff] at g1
    have hlt : k < l.length := by omega
    have w1 : IntKind.i64.wrap ((k : Int) + 1) = ((k + 1 : Nat) : Int) := wrap64 (by omega) (by omega)
    have hln : 1 ≤ (eg l k).line.length ∧ (eg l k).line.length ≤ 100000 := by rw [eg_get hlt]; exact h1 _ (List.getElem_mem hlt)
    have w2 : IntKind.i64.wrap (((eg l k).line.length : Int) - 1) = (((eg l k).line.length - 1 : Nat) : Int) := by rw [wrap64 (by omega) (by omega)]; omega
    have hk1 := hlen (k + 1) (by omega)
    rw [segW, List.length_append, List.length_replicate] at hk1
    refine go 800 rfl ?_
    refine atIdx k rfl rfl rfl (eg_enc hlt) rfl ?_
    refine go 800 rfl ?_
    refine atLoop (S := fun j : Nat => ([ints ws, .ref 1 0 ((segW l ws k).length + j), encInt k, edges l, encInt l.length, encInt k, encInt ((eg l k).line.length - 1 : Nat), encInt j],
        [none, some (.row ((segW l ws k ++ List.replicate j (wd ws k)).map encInt) 1), none, none, none, none, none, none], [0, 0, 0, 0, 0, 0, 0, 0]))
      (C := fun j => j ≤ (eg l k).line.length - 1) (m := fun j => (eg l k).line.length - j) 0 (by omega) (by omega) ?_ ?_
    · exact settleI rfl ⟨all_plain int_plain _, trivial⟩ (by simp [edges, ints, encInt, w2])
    intro j hj N2 hN2
    refine go 800 rfl ?_
    refine atCond rfl (fun e1 => ?_) (fun e1 => ?_)
    · rw [ltb_iff] at e1
      have hjl : j < (eg l k).line.length - 1 := by omega
      have wj : IntKind.i64.wrap ((j : Int) + 1) = ((j + 1 : Nat) : Int) := wrap64 (by omega) (by omega)
      refine go 800 rfl ?_
      refine atIdx k rfl rfl rfl (wd_enc (by omega)) rfl ?_
      refine go 800 rfl ?_
      refine atAppR rfl rfl rfl rfl rfl rfl (by simp) (Nat.zero_le _) (by simp [limit] at *; omega) ?_
      refine go 800 rfl ?_
      refine atEnd ?_
      refine hN2 (j + 1) (by omega) (by omega) (settleI rfl ⟨?_, trivial⟩ ?_)
      · rw [List.all_append, all_plain int_plain]; rfl
      · simp [edges, ints, encInt, wj, List.replicate_succ']
        omega
    rw [ltb_not] at e1
    clear hN2
    obtain rfl : j = (eg l k).line.length - 1 := by omega
    refine go 800 rfl ?_
    refine atEnd ?_
    refine go 800 rfl ?_
    refine atEnd ?_
    refine hN (k + 1) (by omega) (by omega) (settleI rfl ⟨all_plain int_plain _, trivial⟩ ?_)
    simp [edges, ints, encInt, w1, segW]
  rw [ltb_not] at g1
  obtain rfl : k = l.length := by omega
  refine go 800 rfl ?_
  refine atEnd ?_
  refine go 800 rfl ?_
  refine finI rfl rfl rfl ⟨datRow (by simp) (all_dat int_dat _), trivial⟩ ?_
  rw [rowAll (by simp), ints]
end Go.F

/- The float's square root: a bound is all that is needed. -/
namespace Go.F
open Ieee

theorem shl_eq (a b : Nat) : a <<< b = a * 2 ^ b := Nat.shiftLeft_eq a b

theorem dbl : FloatKind.f64.format = Ieee.double := rfl

/- the word of a number that is not 0, with few digits -/
theorem log2_le {n k : Nat} (h : n < 2 ^ (k + 1)) : n.log2 ≤ k := by
  by_cases h0 : n = 0
  · subst h0; simp
  · have := (Nat.log2_lt h0).2 h
    omega

theorem cut_le {neg : Bool} {n drop k : Nat} (h : n < 2 ^ k * 2 ^ drop) : Toward.even.cut neg n drop ≤ 2 ^ k := by
  unfold Toward.cut
  simp only
  have hg : ∀ g : Nat, 0 < g → n < 2 ^ k * g → n / g + 1 ≤ 2 ^ k := by
    intro g hg hn
    have := (Nat.div_lt_iff_lt_mul hg).2 hn
    omega
  by_cases hd : drop ≤ n.log2 + 2
  · rw [Nat.min_eq_left hd, Nat.one_shiftLeft]
    have := hg _ (Nat.two_pow_pos drop) h
    have hb := Bool.toNat_le (decide (2 ^ drop < 2 * (n % 2 ^ drop)) || (2 ^ drop == 2 * (n % 2 ^ drop) && n / 2 ^ drop % 2 == 1))
    omega
  · rw [Nat.min_eq_right (by omega), Nat.one_shiftLeft]
    have hn : n < 2 ^ (n.log2 + 2) := Nat.lt_of_lt_of_le Nat.lt_log2_self (Nat.pow_le_pow_right (by omega) (by omega))
    have h0 : n / 2 ^ (n.log2 + 2) = 0 := Nat.div_eq_of_lt hn
    have := Nat.two_pow_pos k
    have hb := Bool.toNat_le (decide (2 ^ (n.log2 + 2) < 2 * (n % 2 ^ (n.log2 + 2))) || (2 ^ (n.log2 + 2) == 2 * (n % 2 ^ (n.log2 + 2)) && n / 2 ^ (n.log2 + 2) % 2 == 1))
    rw [h0] at hb ⊢
    omega
theorem nearest_le {mag : Nat} {place e : Int} (h : place + mag.log2 ≤ e) (he : -1000 ≤ e) : (double.nearest false mag place : Int) ≤ (e + 1024) * 4503599627370496 := by
  unfold Format.nearest
  by_cases h0 : mag = 0
  · rw [if_pos h0]
    simp only [Format.word]
    simp
    omega
  rw [if_neg h0]
  simp only [Format.word]
  have hb : double.binade = 4503599627370496 := rfl
  have hl : double.leastPlace = -1074 := rfl
  have hf : (double.fractionBits : Int) = 52 := rfl
  rw [hb, hl, hf]
  generalize hlast : max (place + (mag.log2 : Int) - 52) (-1074) = last
  have hm : mag < 2 ^ (mag.log2 + 1) := Nat.lt_log2_self
  have hk : Toward.even.cut false (mag <<< (place - last).toNat) (last - place).toNat ≤ 2 ^ 53 := by
    refine cut_le ?_
    rw [shl_eq]
    rcases Int.le_total last place with hc | hc
    · have e1 : (last - place).toNat = 0 := by omega
      rw [e1, Nat.pow_zero, Nat.mul_one]
      have e2 : (place - last).toNat + (mag.log2 + 1) ≤ 53 := by omega
      calc mag * 2 ^ (place - last).toNat < 2 ^ (mag.log2 + 1) * 2 ^ (place - last).toNat := Nat.mul_lt_mul_of_pos_right hm (Nat.two_pow_pos _)
        _ = 2 ^ ((place - last).toNat + (mag.log2 + 1)) := by rw [← Nat.pow_add, Nat.add_comm]
        _ ≤ 2 ^ 53 := Nat.pow_le_pow_right (by omega) e2
    · have e1 : (place - last).toNat = 0 := by omega
      rw [e1, Nat.pow_zero, Nat.mul_one, ← Nat.pow_add]
      exact Nat.lt_of_lt_of_le hm (Nat.pow_le_pow_right (by omega) (by omega))
  generalize Toward.even.cut false (mag <<< (place - last).toNat) (last - place).toNat = kept at hk ⊢
  generalize double.infRung = inf
  have h2 : (last - -1074).toNat ≤ (e + 1022).toNat := by omega
  generalize (last - -1074).toNat = q at h2 ⊢
  clear hlast hm h0 h
  simp only [Bool.false_eq_true, if_false]
  have hk' : kept ≤ 9007199254740992 := hk
  have h4 : min (q * 4503599627370496 + kept) inf ≤ q * 4503599627370496 + kept := Nat.min_le_left _ _
  generalize min (q * 4503599627370496 + kept) inf = z at h4 ⊢
  have h5 : (q : Int) ≤ e + 1022 := by omega
  clear hk
  omega

theorem read_le {w : Nat} {E : Nat} (hE1 : 1 ≤ E) (hE : E ≤ 2000) (h : w ≤ E * 4503599627370496) : ∃ m i, double.read w = .number false m i ∧ m < 9007199254740992 ∧ i ≤ -1075 + E := by
  unfold Format.read
  have hb : double.binade = 4503599627370496 := rfl
  have hl : double.leastPlace = -1074 := rfl
  have hs : double.signWeight = 9223372036854775808 := rfl
  have hi : double.infRung = 9218868437227405312 := rfl
  simp only [hb, hl, hs, hi]
  have h1 : w / 9223372036854775808 = 0 := by omega
  have h2 : w % 9223372036854775808 = w := by omega
  rw [h1, h2]
  by_cases hc : w < 4503599627370496
  · rw [if_pos hc]
    exact ⟨w, -1074, rfl, by omega, by omega⟩
  · rw [if_neg hc, if_pos (by omega)]
    refine ⟨_, _, rfl, by omega, ?_⟩
    have : w / 4503599627370496 ≤ E := by omega
    omega

theorem rootFrom_lt (n : Nat) : ∀ (todo root : Nat), Datum.rootFrom n todo root < root + 2 ^ todo := by
  intro todo
  induction todo with
  | zero => intro root; simp [Datum.rootFrom]
  | succ k ih =>
    intro root
    rw [Datum.rootFrom]
    rw [Nat.one_shiftLeft]
    have hp : 2 ^ (k + 1) = 2 ^ k + 2 ^ k := by rw [Nat.pow_succ]; omega
    split
    · have := ih (root + 2 ^ k); omega
    · have := ih root; have := Nat.two_pow_pos k; omega

theorem toInt_le {m : Nat} {i : Int} (hm : m < 9007199254740992) (hi : i ≤ -25) : ∃ r : Int, Datum.toInt .zero (.number false m i) = some r ∧ 0 ≤ r ∧ r ≤ 268435456 := by
  unfold Datum.toInt Datum.integral
  refine ⟨_, rfl, ?_⟩
  simp only [signed, Bool.false_eq_true, if_false]
  have e1 : i.toNat = 0 := by omega
  rw [e1, shl_eq, shl_eq]
  simp only [Nat.pow_zero, Nat.mul_one]
  have : Toward.zero.cut false m (-i).toNat ≤ 268435456 := by
    unfold Toward.cut
    simp only [Bool.toNat_false, Nat.add_zero, Nat.one_shiftLeft]
    by_cases hd : (-i).toNat ≤ m.log2 + 2
    · rw [Nat.min_eq_left hd]
      have h2 : 2 ^ 25 ≤ 2 ^ (-i).toNat := Nat.pow_le_pow_right (by omega) (by omega)
      have h3 : m / 2 ^ (-i).toNat ≤ m / 2 ^ 25 := Nat.div_le_div_left h2 (by decide)
      have h4 : (2 : Nat) ^ 25 = 33554432 := by decide
      rw [h4] at h3
      omega
    · rw [Nat.min_eq_right (by omega)]
      have hn : m < 2 ^ (m.log2 + 2) := Nat.lt_of_lt_of_le Nat.lt_log2_self (Nat.pow_le_pow_right (by omega) (by omega))
      rw [Nat.div_eq_of_lt hn]
      omega
  constructor
  · omega
  · omega

/- the integer part of the float's square root -/
theorem sqrt_near (n : Nat) (hn : n < 2 ^ 51) : ∃ (y : Nat) (r : Int), FloatKind.f64.format.sqrt (FloatKind.f64.nearest n) = some y ∧ (FloatKind.f64.decode y).toInt .zero = some r ∧ 0 ≤ r ∧ r ≤ 268435456 := by
  have hx : FloatKind.f64.nearest n = double.nearest false n 0 := by
    unfold FloatKind.nearest FloatKind.encode Format.write
    rw [show decide ((n : Int) < 0) = false by simp]
    rfl
  have h1 := nearest_le (mag := n) (place := 0) (e := 50) (by have := log2_le (k := 50) hn; omega) (by omega)
  obtain ⟨m, i, hr, hm, hi⟩ := read_le (w := double.nearest false n 0) (E := 1074) (by omega) (by omega) (by omega)
  have key : ∀ (mag : Nat) (place : Int), place + mag.log2 ≤ 26 → ∃ r : Int, (double.read (double.nearest false mag place)).toInt .zero = some r ∧ 0 ≤ r ∧ r ≤ 268435456 := by
    intro mag place h
    have h2 := nearest_le (mag := mag) (place := place) (e := 26) h (by omega)
    obtain ⟨m', i', hr', hm', hi'⟩ := read_le (w := double.nearest false mag place) (E := 1050) (by omega) (by omega) (by omega)
    rw [hr']
    exact toInt_le hm' (by omega)
  rw [hx, dbl]
  unfold Format.sqrt
  rw [hr]
  unfold Datum.root
  by_cases h0 : m = 0
  · subst h0
    simp only [if_true, Option.map_some, Format.write]
    obtain ⟨r, g1, g2, g3⟩ := key 0 i (by simp; omega)
    exact ⟨_, r, rfl, g1, g2, g3⟩
  · simp only [h0, if_false, Bool.false_eq_true, Option.map_some, Format.write]
    generalize 2 * (double.fractionBits + 2) - m.log2 + ((i - (2 * (double.fractionBits + 2) - m.log2 : Nat)) % 2).toNat = more
    have hnn : m <<< more < 2 ^ (52 + more + 1) := by
      rw [shl_eq, show 52 + more + 1 = 53 + more by omega, Nat.pow_add]
      exact Nat.mul_lt_mul_of_pos_right (by simpa using hm) (Nat.two_pow_pos _)
    have hlog := log2_le hnn
    have hw := rootFrom_lt (m <<< more) ((m <<< more).log2 / 2 + 1) 0
    generalize hT : (m <<< more).log2 / 2 + 1 = T at hw ⊢
    generalize Datum.rootFrom (m <<< more) T 0 = whole at hw ⊢
    have hbit := Bool.toNat_le (whole * whole != m <<< more)
    generalize (whole * whole != m <<< more).toNat = bit at hbit ⊢
    have hmag : 2 * whole + bit < 2 ^ (T + 1) := by rw [Nat.pow_succ]; omega
    have hl := log2_le hmag
    obtain ⟨r, g1, g2, g3⟩ := key (2 * whole + bit) ((i - more) / 2 - 1) (by omega)
    exact ⟨_, r, rfl, g1, g2, g3⟩
end Go.F

/- Natural numbers by their limbs: plain facts. -/
namespace Go.F

def val : List Nat → Nat
  | [] => 0
  | x :: l => x + 4294967296 * val l

def limbsF : Nat → Nat → List Nat
  | 0, _ => []
  | k + 1, n => if n = 0 then [] else n % 4294967296 :: limbsF k (n / 4294967296)

def limbs (n : Nat) : List Nat := limbsF n n

def dg (l : List Nat) (i : Nat) : Nat := l.getD i 0

class LOk (l : List Nat) : Prop where
  lt : ∀ x ∈ l, x < 4294967296

theorem limbsF_fuel : ∀ (k j n : Nat), n ≤ k → n ≤ j → limbsF k n = limbsF j n := by
  intro k
  induction k with
  | zero => intro j n h1 h2; obtain rfl : n = 0 := by omega
            cases j <;> simp [limbsF]
  | succ k ih =>
    intro j n h1 h2
    cases j with
    | zero => obtain rfl : n = 0 := by omega
              simp [limbsF]
    | succ j =>
      simp only [limbsF]
      split
      · rfl
      · rw [ih j (n / 4294967296) (by omega) (by omega)]

theorem limbs_zero : limbs 0 = [] := rfl

theorem limbs_pos {n : Nat} (h : n ≠ 0) : limbs n = n % 4294967296 :: limbs (n / 4294967296) := by
  obtain ⟨k, rfl⟩ : ∃ k, n = k + 1 := ⟨n - 1, by omega⟩
  unfold limbs
  rw [limbsF, if_neg h, limbsF_fuel k ((k + 1) / 4294967296) _ (by omega) (Nat.le_refl _)]

theorem limbs_ind {P : Nat → Prop} (h0 : P 0) (h1 : ∀ n, n ≠ 0 → P (n / 4294967296) → P n) (n : Nat) : P n := by
  induction n using Nat.strongRecOn with
  | _ n ih =>
    by_cases h : n = 0
    · subst h; exact h0
    · exact h1 n h (ih _ (by omega))

theorem val_limbs (n : Nat) : val (limbs n) = n := by
  induction n using limbs_ind with
  | h0 => rfl
  | h1 n hn ih => rw [limbs_pos hn, val, ih]; omega

instance limbs_ok (n : Nat) : LOk (limbs n) := by
  refine ⟨?_⟩
  induction n using limbs_ind with
  | h0 => intro x hx; simp [limbs_zero] at hx
  | h1 n hn ih =>
    rw [limbs_pos hn]
    intro x hx
    rcases List.mem_cons.1 hx with rfl | hx
    · omega
    · exact ih x hx

theorem limbs_len {n k : Nat} : (limbs n).length ≤ k ↔ n < 4294967296 ^ k := by
  induction k generalizing n with
  | zero =>
    rw [Nat.pow_zero]
    by_cases h : n = 0
    · subst h; simp [limbs_zero]
    · rw [limbs_pos h]; simp; omega
  | succ k ih =>
    by_cases h : n = 0
    · subst h; simp only [limbs_zero, List.length_nil, Nat.zero_le, true_iff]; exact Nat.pow_pos (by decide)
    · rw [limbs_pos h, List.length_cons, Nat.add_le_add_iff_right, ih, Nat.pow_succ]
      exact Nat.div_lt_iff_lt_mul (by decide)

theorem limbs_len_pos {n : Nat} : 0 < (limbs n).length ↔ n ≠ 0 := by
  by_cases h : n = 0
  · subst h; simp [limbs_zero]
  · rw [limbs_pos h]; simp [h]

theorem limbs_nil {n : Nat} : limbs n = [] ↔ n = 0 := by
  by_cases h : n = 0
  · subst h; simp [limbs_zero]
  · rw [limbs_pos h]; simp [h]

theorem limbs_low {n : Nat} (h : n < 4294967296) (h0 : n ≠ 0) : limbs n = [n] := by
  rw [limbs_pos h0, Nat.mod_eq_of_lt h, Nat.div_eq_of_lt h, limbs_zero]

theorem val_append (a b : List Nat) : val (a ++ b) = val a + 4294967296 ^ a.length * val b := by
  induction a with
  | nil => simp [val]
  | cons x a ih => rw [List.cons_append, val, ih, val, List.length_cons, Nat.pow_succ, Nat.mul_add, ← Nat.mul_assoc, Nat.mul_comm 4294967296 (_ ^ _)]; omega

theorem val_snoc (a : List Nat) (x : Nat) : val (a ++ [x]) = val a + 4294967296 ^ a.length * x := by
  rw [val_append]; simp [val]

theorem val_zeros (k : Nat) : val (List.replicate k 0) = 0 := by
  induction k with
  | zero => rfl
  | succ k ih => rw [List.replicate_succ, val, ih]

theorem LOk.cons {x : Nat} {l : List Nat} (h : LOk (x :: l)) : x < 4294967296 ∧ LOk l :=
  ⟨h.lt x (by simp), ⟨fun y hy => h.lt y (by simp [hy])⟩⟩

theorem LOk.append {a b : List Nat} (h : LOk a) (g : LOk b) : LOk (a ++ b) :=
  ⟨fun x hx => by rcases List.mem_append.1 hx with h1 | h1; exact h.lt x h1; exact g.lt x h1⟩

theorem LOk.snoc {a : List Nat} {x : Nat} (h : LOk a) (g : x < 4294967296) : LOk (a ++ [x]) :=
  h.append ⟨fun y hy => by simp at hy; omega⟩

theorem LOk.take {a : List Nat} (h : LOk a) (k : Nat) : LOk (a.take k) := ⟨fun x hx => h.lt x (List.mem_of_mem_take hx)⟩
theorem LOk.drop {a : List Nat} (h : LOk a) (k : Nat) : LOk (a.drop k) := ⟨fun x hx => h.lt x (List.mem_of_mem_drop hx)⟩
theorem LOk.set {a : List Nat} (h : LOk a) (k : Nat) {v : Nat} (hv : v < 4294967296) : LOk (a.set k v) :=
  ⟨fun x hx => by rcases List.mem_or_eq_of_mem_set hx with h1 | h1; exact h.lt x h1; omega⟩
theorem zeros_ok (k : Nat) : LOk (List.replicate k 0) := ⟨fun x hx => by rw [(List.mem_replicate.1 hx).2]; decide⟩
instance nil_ok : LOk [] := ⟨by simp⟩

theorem val_lt {l : List Nat} (h : LOk l) : val l < 4294967296 ^ l.length := by
  induction l with
  | nil => simp [val]
  | cons x l ih =>
    obtain ⟨h1, h2⟩ := h.cons
    have := ih h2
    rw [val, List.length_cons, Nat.pow_succ]
    omega

theorem dg_lt {l : List Nat} (h : LOk l) (i : Nat) : dg l i < 4294967296 := by
  unfold dg
  rw [List.getD_eq_getElem?_getD]
  cases hx : l[i]? with
  | none => simp
  | some x => simp; exact h.lt x (List.mem_of_getElem? hx)

theorem dg_ge {l : List Nat} {i : Nat} (h : l.length ≤ i) : dg l i = 0 := by
  unfold dg; rw [List.getD_eq_getElem?_getD, List.getElem?_eq_none h]; rfl

theorem dg_get {l : List Nat} {i : Nat} (h : i < l.length) : dg l i = l[i] := by simp [dg, h]

theorem dg_some {l : List Nat} {i : Nat} (h : i < l.length) : l[i]? = some (dg l i) := by simp [dg, h]

theorem take_dg {l : List Nat} {k : Nat} (h : k < l.length) : l.take (k + 1) = l.take k ++ [dg l k] := by
  rw [List.take_succ_eq_append_getElem h, dg_get h]

theorem val_take (l : List Nat) (k : Nat) : val (l.take (k + 1)) = val (l.take k) + 4294967296 ^ k * dg l k := by
  by_cases h : k < l.length
  · rw [take_dg h, val_snoc, List.length_take, Nat.min_eq_left (Nat.le_of_lt h)]
  · rw [List.take_of_length_le (by omega), List.take_of_length_le (by omega), dg_ge (by omega)]; simp

theorem val_drop (l : List Nat) (k : Nat) : val (l.drop k) = dg l k + 4294967296 * val (l.drop (k + 1)) := by
  by_cases h : k < l.length
  · rw [List.drop_eq_getElem_cons h, val, dg_get h]
  · rw [List.drop_of_length_le (by omega), List.drop_of_length_le (by omega), dg_ge (by omega)]; rfl

theorem val_split (l : List Nat) (k : Nat) : val l = val (l.take k) + 4294967296 ^ k * val (l.drop k) := by
  by_cases h : k ≤ l.length
  · have := val_append (l.take k) (l.drop k)
    rw [List.take_append_drop, List.length_take, Nat.min_eq_left h] at this
    exact this
  · rw [List.take_of_length_le (by omega), List.drop_of_length_le (by omega)]; simp [val]

theorem dg_limbs0 (n : Nat) : dg (limbs n) 0 = n % 4294967296 := by
  by_cases h : n = 0
  · subst h; rfl
  · rw [limbs_pos h]; rfl

theorem dg_val : ∀ {l : List Nat} (_ : LOk l) (i : Nat), dg l i = val l / 4294967296 ^ i % 4294967296 := by
  intro l
  induction l with
  | nil => intro _ i; simp [dg, val]
  | cons x l ih =>
    intro h i
    obtain ⟨h1, h2⟩ := h.cons
    cases i with
    | zero => simp [dg, val]; omega
    | succ i =>
      have := ih h2 i
      have e : dg (x :: l) (i + 1) = dg l i := by simp [dg]
      rw [e, this, val, Nat.pow_succ, Nat.mul_comm (4294967296 ^ i), ← Nat.div_div_eq_div_mul]
      congr 2
      omega

/- limbs of the value: no high zeros -/
theorem val_pos_of_last {l : List Nat} (hl : l ≠ []) (h : dg l (l.length - 1) ≠ 0) : val l ≠ 0 := by
  have hlen : 0 < l.length := List.length_pos_iff.2 hl
  have := val_split l (l.length - 1)
  rw [val_drop, Nat.sub_add_cancel hlen, List.drop_length] at this
  simp only [val, Nat.mul_zero, Nat.add_zero] at this
  intro h0
  rw [h0] at this
  have hp : 0 < 4294967296 ^ (l.length - 1) * dg l (l.length - 1) := Nat.mul_pos (Nat.pow_pos (by decide)) (by omega)
  omega

theorem limbs_val {l : List Nat} (h : LOk l) (hl : l = [] ∨ dg l (l.length - 1) ≠ 0) : limbs (val l) = l := by
  induction l with
  | nil => rfl
  | cons x l ih =>
    obtain ⟨h1, h2⟩ := h.cons
    rcases hl with hl | hl
    · cases hl
    have hv := val_pos_of_last (l := x :: l) (by simp) hl
    rw [limbs_pos hv]
    have e1 : val (x :: l) % 4294967296 = x := by rw [val]; omega
    have e2 : val (x :: l) / 4294967296 = val l := by rw [val]; omega
    rw [e1, e2, ih h2]
    by_cases hn : l = []
    · exact .inl hn
    · refine .inr ?_
      obtain ⟨m, hm⟩ : ∃ m, l.length = m + 1 := ⟨l.length - 1, by have := List.length_pos_iff.2 hn; omega⟩
      simp only [List.length_cons, Nat.add_sub_cancel, hm] at hl ⊢
      simpa [dg] using hl

theorem limbs_top {n : Nat} (h : n ≠ 0) : dg (limbs n) ((limbs n).length - 1) ≠ 0 := by
  induction n using limbs_ind with
  | h0 => exact absurd rfl h
  | h1 n hn ih =>
    rw [limbs_pos hn]
    by_cases hd : n / 4294967296 = 0
    · rw [hd, limbs_zero]; simp [dg]; omega
    · have := ih hd
      have hp := limbs_len_pos.2 hd
      obtain ⟨m, hm⟩ : ∃ m, (limbs (n / 4294967296)).length = m + 1 := ⟨_, (Nat.sub_add_cancel hp).symm⟩
      simp only [List.length_cons, Nat.add_sub_cancel, hm] at this ⊢
      simpa [dg] using this

theorem take_trim {l : List Nat} {n : Nat} (h : LOk l) (hn : n ≤ l.length) (h0 : ∀ i, n ≤ i → dg l i = 0) (h1 : n = 0 ∨ dg l (n - 1) ≠ 0) : l.take n = limbs (val l) := by
  have hz : ∀ k j, n ≤ j → j + k = l.length → val (l.drop j) = 0 := by
    intro k
    induction k with
    | zero => intro j _ hj; rw [List.drop_of_length_le (by omega)]; rfl
    | succ k ih => intro j hj hk; rw [val_drop, h0 j hj, ih (j + 1) (by omega) (by omega)]
  have hv : val l = val (l.take n) := by
    rw [val_split l n, hz (l.length - n) n (Nat.le_refl _) (by omega)]; simp
  rw [hv, limbs_val (h.take n)]
  by_cases hn0 : n = 0
  · left; simp [hn0]
  · right
    rcases h1 with h1 | h1
    · exact absurd h1 hn0
    · rw [List.length_take, Nat.min_eq_left hn]
      simpa [dg, List.getElem?_take, show n - 1 < n by omega] using h1

theorem val_set {l : List Nat} {i v : Nat} (h : i < l.length) : val (l.set i v) + 4294967296 ^ i * dg l i = val l + 4294967296 ^ i * v := by
  induction l generalizing i with
  | nil => simp at h
  | cons x l ih =>
    cases i with
    | zero => simp [val, dg]; omega
    | succ i =>
      have := ih (i := i) (by simpa using h)
      have e : dg (x :: l) (i + 1) = dg l i := by simp [dg]
      rw [List.set_cons_succ, val, val, e, Nat.pow_succ]
      have e1 : 4294967296 ^ i * 4294967296 * dg l i = 4294967296 * (4294967296 ^ i * dg l i) := by rw [Nat.mul_comm (4294967296 ^ i), Nat.mul_assoc]
      have e2 : 4294967296 ^ i * 4294967296 * v = 4294967296 * (4294967296 ^ i * v) := by rw [Nat.mul_comm (4294967296 ^ i), Nat.mul_assoc]
      rw [e1, e2]
      omega

theorem dg_set {l : List Nat} {i j v : Nat} : dg (l.set i v) j = if i = j ∧ j < l.length then v else dg l j := by
  unfold dg
  rw [List.getD_eq_getElem?_getD, List.getD_eq_getElem?_getD, List.getElem?_set]
  split
  · rename_i h; subst h
    split
    · rename_i h2; simp [h2]
    · rename_i h2; simp [h2]
  · rename_i h; simp [h]

theorem dg_append_left {a b : List Nat} {i : Nat} (h : i < a.length) : dg (a ++ b) i = dg a i := by
  simp [dg, List.getElem?_append_left h]

theorem dg_append_right {a b : List Nat} {i : Nat} (h : a.length ≤ i) : dg (a ++ b) i = dg b (i - a.length) := by
  simp [dg, List.getElem?_append_right h]

theorem dg_zeros (k i : Nat) : dg (List.replicate k 0) i = 0 := by
  simp only [dg, List.getD_eq_getElem?_getD, List.getElem?_replicate]; split <;> rfl

/- one digit goes, the rest is carried -/
theorem carry_eq (p t : Nat) : p * (t % 4294967296) + p * 4294967296 * (t / 4294967296) = p * t := by
  rw [Nat.mul_assoc, ← Nat.mul_add, Nat.mod_add_div]

/- values as data -/
def u32 (n : Nat) : D := .int .u32 n
def nat (l : List Nat) : D := .lst (l.map u32)

theorem dg_enc {l : List Nat} {i : Nat} (h : i < l.length) : (l.map u32)[i]? = some (u32 (dg l i)) := by simp [dg, h]

theorem u32_plain (n : Nat) : plain 4 (u32 n) = true := rfl
theorem u32_dat (n : Nat) : dat 4 (u32 n) = true := rfl

theorem wrapU32 (n : Nat) : IntKind.u32.wrap (n : Int) = ((n % 4294967296 : Nat) : Int) := by
  simp [IntKind.wrap, IntKind.bits, IntKind.signed]
theorem wrapU32i (n : Int) : IntKind.u32.wrap n = n % 4294967296 := by
  simp [IntKind.wrap, IntKind.bits, IntKind.signed]
theorem wrapU64i (n : Int) : IntKind.u64.wrap n = n % 18446744073709551616 := by
  simp [IntKind.wrap, IntKind.bits, IntKind.signed]
theorem wrapU64 {n : Nat} (h : n < 18446744073709551616) : IntKind.u64.wrap (n : Int) = (n : Int) := by
  rw [wrapU64i]; omega

theorem shr_nat (n k : Nat) : ((n : Int)).fdiv (2 ^ k) = ((n / 2 ^ k : Nat) : Int) := by
  rw [show ((2 : Int) ^ k) = ((2 ^ k : Nat) : Int) by simp]
  rw [Int.fdiv_eq_ediv_of_nonneg _ (Int.natCast_nonneg _)]
  rfl

end Go.F

/- Division of numbers by their limbs: plain facts. -/
namespace Go.F

/- a trial quotient is too great -/
theorem kn_gt {U V P ut vt q : Nat} (hU : U < (ut + 1) * P) (hV : vt * P ≤ V) (hV0 : 0 < V) (h : ut < q * vt) : U / V < q := by
  rw [Nat.div_lt_iff_lt_mul hV0]
  calc U < (ut + 1) * P := hU
    _ ≤ q * vt * P := Nat.mul_le_mul_right _ h
    _ = q * (vt * P) := Nat.mul_assoc _ _ _
    _ ≤ q * V := Nat.mul_le_mul_left _ hV

/- a trial quotient is too great by 1 at most -/
theorem kn_le {U V P ut vt q B : Nat} (hU : ut * P ≤ U) (hV : V < (vt + 1) * P) (hV0 : B * P ≤ V) (hp : 0 < V) (hq : q < B) (h : q * vt ≤ ut) : q ≤ U / V + 1 := by
  by_cases h0 : q = 0
  · rw [h0]; exact Nat.zero_le _
  have h1 : q * V ≤ U + V := by
    calc q * V ≤ q * ((vt + 1) * P) := Nat.mul_le_mul_left _ (Nat.le_of_lt hV)
      _ = q * vt * P + q * P := by rw [← Nat.mul_assoc, Nat.mul_add, Nat.add_mul, Nat.mul_one]
      _ ≤ ut * P + B * P := Nat.add_le_add (Nat.mul_le_mul_right _ h) (Nat.mul_le_mul_right _ (Nat.le_of_lt hq))
      _ ≤ U + V := Nat.add_le_add hU hV0
  have h2 : (q - 1) * V ≤ U := by
    obtain ⟨k, rfl⟩ : ∃ k, q = k + 1 := ⟨q - 1, by omega⟩
    rw [Nat.add_mul, Nat.one_mul] at h1
    simpa using h1
  have := (Nat.le_div_iff_mul_le hp).2 h2
  omega

end Go.F

/- Natural numbers: trim, Of, Norm, Cmp. -/
namespace Go.F
attribute [local irreducible] IntKind.wrap wpM

theorem map_set32 {r : List Nat} {k : Nat} (v : Nat) : (r.map u32).set k (.int .u32 v) = (r.set k v).map u32 := by
  rw [List.map_set]; rfl

section
variable {T : Tab} {sh : Shr} {nx0 : Nat} {s : List Fr} {t : Tmps} {h : Heap} {z : Frz} {nx : Nat} {q : Ex → Tmps → Heap → Frz → Nat → Prop}
variable {base i : Nat} {res : List Nat} {g : Gd} {rest : List KOper}

/- a limb of a row -/
theorem atStore32 {hint : Bool} {a v : X} {dst : Option Nat} {id k' : Nat} {w' : Int} (r : List Nat) (k w : Nat) (ha : a.ev t = .ptr id k' 0) (hv : v.ev t = .int .u32 w') (hkk : k' = k) (hw : w' = w) (hr : g.h base h id = some (.row (r.map u32) 1)) (hz : g.z base z id ≤ k) (hl : k < r.length)
    (hk : wpM T sh nx0 (.ops base res rest :: s) .normal (put t dst (.tup [])) (upd h id (some (.row ((r.set k w).map u32) 1))) z nx q) :
    wpM T sh nx0 (.ops base res (⟨i, dst, none, g, .store hint 1 a v⟩ :: rest) :: s) .normal t h z nx q := by
  subst hkk; subst hw
  refine atStoreR (e' := .int .u32 w) ha (by rw [hv]; rfl) hr hz (dg_enc hl) (by rw [hv]; rfl) ?_
  rw [map_set32]
  exact hk

theorem atLoad32 {hint : Bool} {a : X} {dst : Nat} {id k' : Nat} (r : List Nat) (k : Nat) (ha : a.ev t = .ptr id k' 0) (hkk : k' = k) (hr : g.h base h id = some (.row (r.map u32) 1)) (hl : k < r.length)
    (hk : wpM T sh nx0 (.ops base res rest :: s) .normal (upd t dst (.int .u32 (dg r k))) h z nx q) :
    wpM T sh nx0 (.ops base res (⟨i, some dst, none, g, .load hint false 1 a⟩ :: rest) :: s) .normal t h z nx q := by
  subst hkk
  exact atLoadR ha hr (dg_enc hl) rfl hk
end

theorem trim_PU (l : List Nat) [ho : LOk l] (hl : l.length ≤ 4000000000) : PU f_natural_trim [nat l] = some (nat (limbs (val l))) := by
  refine PU_of (fn := k_natural_trim) rfl (startI ?_)
  refine go 800 rfl ?_
  refine atLoop (S := fun n : Nat => ([nat l, encInt n], [none, none], [0, 0])) (C := fun n => n ≤ l.length ∧ ∀ i, n ≤ i → dg l i = 0) (m := fun n => n) l.length ⟨Nat.le_refl _, fun i hi => dg_ge hi⟩ (by omega) ?_ ?_
  · exact settleI rfl trivial (by simp [nat, encInt])
  intro n ⟨hn, h0⟩ N hN
  have fin : (n = 0 ∨ dg l (n - 1) ≠ 0) → D.lst ((l.map u32).take n) = nat (limbs (val l)) := fun h => by
    rw [nat, ← take_trim ho hn h0 h, List.map_take]
  refine go 800 rfl ?_
  refine atGuard rfl (fun h1 => ?_) (fun h1 => ?_)
  · rw [ltb_iff] at h1
    have w1 : IntKind.i64.wrap ((n : Int) - 1) = ((n - 1 : Nat) : Int) := by rw [wrap64 (by omega) (by omega)]; omega
    refine go 800 rfl ?_
    refine atIdx (n - 1) rfl rfl w1 (dg_enc (by omega)) rfl ?_
    refine go 800 rfl ?_
    refine atCond rfl (fun h2 => ?_) (fun h2 => ?_)
    · rw [eqb_iff] at h2
      refine go 800 rfl ?_
      refine atEnd ?_
      refine hN (n - 1) ⟨by omega, fun i hi => ?_⟩ (by omega) (settleI rfl trivial (by simp [nat, encInt, w1]))
      by_cases hin : i = n - 1
      · subst hin; omega
      · exact h0 i (by omega)
    · rw [eqb_not] at h2
      refine go 800 rfl ?_
      refine atEnd ?_
      refine go 800 rfl ?_
      refine atSl0 n rfl (all_cells (f := u32) (n := 1) (fun _ => rfl) _) ⟨_, _, rfl, rfl⟩ (by simpa using hn) ?_
      refine go 800 rfl ?_
      refine finI rfl rfl rfl trivial (fin (.inr ?_))
      omega
  · rw [ltb_not] at h1
    refine go 800 rfl ?_
    refine atCondF rfl ?_
    refine go 800 rfl ?_
    refine atEnd ?_
    refine go 800 rfl ?_
    refine atSl0 n rfl (all_cells (f := u32) (n := 1) (fun _ => rfl) _) ⟨_, _, rfl, rfl⟩ (by simpa using hn) ?_
    refine go 800 rfl ?_
    refine finI rfl rfl rfl trivial (fin (.inl (by omega)))

theorem datNat {l : List Nat} {n : Nat} (hn : n = l.length) : 0 + n ≤ (l.map u32).length ∧ (((l.map u32).drop 0).take n).all (dat 4) = true := by
  subst hn
  refine ⟨by simp, ?_⟩
  rw [List.drop_zero, List.take_of_length_le (by simp)]
  exact all_dat u32_dat _

theorem rowNat {l : List Nat} {n : Nat} (hn : n = l.length) : D.lst ((l.map u32).take n) = nat l := by
  subst hn
  rw [nat, List.take_of_length_le (by simp)]

theorem natural_Of_PU (n : Nat) (hn : n < 18446744073709551616) : PU f_natural_Of [.int .u64 n] = some (nat (limbs n)) := by
  have : LOk [n % 4294967296, n / 4294967296] := ⟨by simp; omega⟩
  have hp := trim_PU [n % 4294967296, n / 4294967296] (by simp)
  have hv : val [n % 4294967296, n / 4294967296] = n := by simp [val]; omega
  rw [hv] at hp
  refine PU_of (fn := k_natural_Of) rfl (startI ?_)
  refine go 800 rfl ?_
  refine atShrN n 32 rfl rfl rfl rfl (by decide) ?_
  refine go 800 rfl ?_
  rw [wrapU32, wrapU32, show n / 2 ^ 32 % 4294967296 = n / 4294967296 by omega]
  refine atCallR rfl rfl ⟨datNat (l := [n % 4294967296, n / 4294967296]) rfl, trivial⟩ hp fun z => ?_
  refine go 800 rfl ?_
  exact finI rfl rfl rfl trivial rfl

theorem natural_Norm_PU (l : List Nat) [ho : LOk l] (hl : l.length ≤ 4000000000) : PU f_natural_Norm [nat l] = some (nat (limbs (val l))) := by
  have hlen : (limbs (val l)).length ≤ l.length := limbs_len.2 (val_lt ho)
  refine PU_of (fn := k_natural_Norm) rfl (startI ?_)
  refine go 800 rfl ?_
  refine atCall rfl rfl (trim_PU l hl) ?_
  refine go 800 rfl ?_
  refine atMake (limbs (val l)).length rfl rfl (by simp) (by simp [limit]; omega) ?_
  refine go 800 rfl ?_
  refine atCopyL rfl rfl rfl rfl (all_cells (f := u32) (n := 1) (fun _ => rfl) _) (by simp) (Nat.zero_le _) ?_
  refine go 800 rfl ?_
  have e : List.take 0 (List.replicate (limbs (val l)).length (D.int IntKind.u32 0)) ++ ((limbs (val l)).map u32).take (min ((limbs (val l)).map u32).length (limbs (val l)).length) ++ (List.replicate (limbs (val l)).length (D.int IntKind.u32 0)).drop (0 + min ((limbs (val l)).map u32).length (limbs (val l)).length) = (limbs (val l)).map u32 := by
    simp
    rw [List.take_of_length_le (by simp)]
  rw [e]
  exact finI rfl rfl rfl ⟨datNat rfl, trivial⟩ (rowNat rfl)

theorem Compare32_isNaN_PU (n : Nat) : PU f_cmp_isNaN_uint32 [.int .u32 n] = some (.bool false) := by
  refine PU_of (fn := k_cmp_isNaN_uint32) rfl (startI ?_)
  repeat' (first
    | (refine goP 800 rfl rfl ?_)
    | (show wpM _ _ _ (Fr.ops _ _ (KOper.mk _ _ (some _) _ _ :: _) :: _) Ex.normal _ _ _ _ _; first | refine atGuardT rfl ?_ | refine atGuardF rfl ?_ | refine atGuard rfl (fun _ => ?_) (fun _ => ?_))
    | (show wpM _ _ _ (Fr.code (K.cond _ _ _) :: _) Ex.normal _ _ _ _ _; first | refine atCondT rfl ?_ | refine atCondF rfl ?_ | refine atCond rfl (fun _ => ?_) (fun _ => ?_))
    | (show wpM _ _ _ (Fr.ops _ _ (KOper.mk _ _ none _ (KOp.pick _ _ _) :: _) :: _) Ex.normal _ _ _ _ _; refine atPick rfl (fun _ => ?_) (fun _ => ?_))
    | (show wpM _ _ _ [] _ _ _ _ _ _; refine finI rfl rfl rfl trivial ?_))
  simp [nqb]

theorem Compare32_PU (a b : Nat) : PU f_cmp_Compare_uint32 [.int .u32 a, .int .u32 b] = some (.int .i64 (cmpS a b)) := by
  refine PU_of (fn := k_cmp_Compare_uint32) rfl (startI ?_)
  repeat' (first
    | (refine goP 800 rfl rfl ?_)
    | (show wpM _ _ _ (Fr.ops _ _ (KOper.mk _ _ (some _) _ _ :: _) :: _) Ex.normal _ _ _ _ _; first | refine atGuardT rfl ?_ | refine atGuardF rfl ?_ | refine atGuard rfl (fun _ => ?_) (fun _ => ?_))
    | (show wpM _ _ _ (Fr.code (K.cond _ _ _) :: _) Ex.normal _ _ _ _ _; first | refine atCondT rfl ?_ | refine atCondF rfl ?_ | refine atCond rfl (fun _ => ?_) (fun _ => ?_))
    | (show wpM _ _ _ (Fr.ops _ _ (KOper.mk _ _ none _ (KOp.pick _ _ _) :: _) :: _) Ex.normal _ _ _ _ _; refine atPick rfl (fun _ => ?_) (fun _ => ?_))
    | (show wpM _ _ _ [] _ _ _ _ _ _; refine finI rfl rfl rfl trivial ?_)
    | (show wpM _ _ _ (Fr.ops _ _ (KOper.mk _ _ none _ (KOp.callF f_cmp_isNaN_uint32 _) :: _) :: _) Ex.normal _ _ _ _ _; refine atCall rfl rfl (Compare32_isNaN_PU _) ?_))
  all_goals ((try simp only [ltb_eq, leb_eq, eqb_eq, nqb_eq, decide_eq_true_eq, decide_eq_false_iff_not, Bool.not_eq_true, Bool.not_eq_false, Int.not_lt, Int.not_le] at *); first | (simp_all [cmpS]; done) | (simp_all [cmpS]; omega) | (rw [D.bool.injEq, Bool.eq_iff_iff]; simp [cmpS]; omega) | (rw [D.bool.injEq, Bool.eq_iff_iff]; simp_all [cmpS]; omega) | (simp [cmpS]; split <;> (try split) <;> omega))

/- numbers with the same limbs from i on -/
theorem val_lt_of {a b : List Nat} (ha : LOk a) {i : Nat} (h : a.drop (i + 1) = b.drop (i + 1)) (hi : dg a i < dg b i) : val a < val b := by
  have e1 := val_split a i
  have e2 := val_split b i
  rw [val_drop] at e1 e2
  rw [h] at e1
  have h1 := val_lt (ha.take i)
  have h3 : 4294967296 ^ (a.take i).length ≤ 4294967296 ^ i := Nat.pow_le_pow_right (by decide) (by simp; omega)
  generalize 4294967296 ^ i = P at *
  generalize 4294967296 * val (List.drop (i + 1) b) = R at *
  have h2 : P * (dg a i + R) + P ≤ P * (dg b i + R) := by
    rw [← Nat.mul_succ]; exact Nat.mul_le_mul_left _ (by omega)
  omega

theorem Cmp_PU (a b : List Nat) [ha : LOk a] [hb : LOk b] (hla : a.length ≤ 1000000000) (hlb : b.length ≤ 1000000000) : PU f_natural_Cmp [nat a, nat b] = some (.int .i64 (cmpS (val a) (val b))) := by
  have ea : val (limbs (val a)) = val a := val_limbs _
  have eb : val (limbs (val b)) = val b := val_limbs _
  have hla' : (limbs (val a)).length ≤ a.length := limbs_len.2 (val_lt ha)
  have hlb' : (limbs (val b)).length ≤ b.length := limbs_len.2 (val_lt hb)
  refine PU_of (fn := k_natural_Cmp) rfl (startI ?_)
  refine go 800 rfl ?_
  refine atCall rfl rfl (trim_PU a (by omega)) ?_
  refine go 800 rfl ?_
  refine atCall rfl rfl (trim_PU b (by omega)) ?_
  refine go 800 rfl ?_
  refine atCall rfl rfl (Compare_PU _ _) ?_
  refine go 800 rfl ?_
  rw [List.length_map, List.length_map]
  refine atCond rfl (fun h1 => ?_) (fun h1 => ?_)
  · rw [nqb_iff] at h1
    refine go 800 rfl ?_
    refine finI rfl rfl rfl trivial ?_
    congr 1
    unfold cmpS at h1 ⊢
    rcases Nat.lt_trichotomy (limbs (val a)).length (limbs (val b)).length with h | h | h
    · have h2 : ¬ val b < 4294967296 ^ (limbs (val a)).length := fun h3 => by have := limbs_len.2 h3; omega
      have h3 : val a < 4294967296 ^ (limbs (val a)).length := limbs_len.1 (Nat.le_refl _)
      rw [if_pos (by omega), if_pos (by omega)]
    · rw [if_neg (by omega), if_neg (by omega)] at h1; exact absurd rfl h1
    · have h2 : ¬ val a < 4294967296 ^ (limbs (val b)).length := fun h3 => by have := limbs_len.2 h3; omega
      have h3 : val b < 4294967296 ^ (limbs (val b)).length := limbs_len.1 (Nat.le_refl _)
      rw [if_neg (by omega), if_pos (by omega), if_neg (by omega), if_pos (by omega)]
  rw [nqb_not] at h1
  have hlen : (limbs (val a)).length = (limbs (val b)).length := by
    unfold cmpS at h1
    split at h1
    · cases h1
    · split at h1
      · cases h1
      · omega
  generalize hA : limbs (val a) = A at *
  generalize hB : limbs (val b) = B at *
  have hAo : LOk A := hA ▸ limbs_ok _
  have hBo : LOk B := hB ▸ limbs_ok _
  refine go 800 rfl ?_
  refine atLoop (S := fun n : Nat => ([nat A, nat B, encInt ((n : Int) - 1)], [none, none, none], [0, 0, 0])) (C := fun n => n ≤ A.length ∧ A.drop n = B.drop n) (m := fun n => n) A.length ⟨Nat.le_refl _, by rw [List.drop_length, hlen, List.drop_length]⟩ (by omega) ?_ ?_
  · exact settleI rfl trivial (by simp [nat, encInt]; exact wrap64 (by omega) (by omega))
  intro n ⟨hn, hd⟩ N hN
  refine go 800 rfl ?_
  refine atCond rfl (fun h2 => ?_) (fun h2 => ?_)
  · rw [leb_iff] at h2
    refine go 800 rfl ?_
    refine atIdx (n - 1) rfl rfl (by omega) (dg_enc (by omega)) rfl ?_
    refine go 800 rfl ?_
    refine atIdx (n - 1) rfl rfl (by omega) (dg_enc (by omega)) rfl ?_
    refine go 800 rfl ?_
    refine atCall rfl rfl (Compare32_PU _ _) ?_
    refine go 800 rfl ?_
    refine atCond rfl (fun h3 => ?_) (fun h3 => ?_)
    · rw [nqb_iff] at h3
      refine go 800 rfl ?_
      refine atEnd ?_
      refine go 800 rfl ?_
      refine finI rfl rfl rfl trivial ?_
      congr 1
      unfold cmpS at h3 ⊢
      have hd' : A.drop (n - 1 + 1) = B.drop (n - 1 + 1) := by rw [Nat.sub_add_cancel (by omega)]; exact hd
      rcases Nat.lt_trichotomy (dg A (n - 1)) (dg B (n - 1)) with h | h | h
      · have := val_lt_of hAo hd' h
        rw [if_pos (by omega), if_pos (by omega)]
      · rw [if_neg (by omega), if_neg (by omega)] at h3; exact absurd rfl h3
      · have := val_lt_of hBo hd'.symm h
        rw [if_neg (by omega), if_pos (by omega), if_neg (by omega), if_pos (by omega)]
    · rw [nqb_not] at h3
      have heq : dg A (n - 1) = dg B (n - 1) := by
        unfold cmpS at h3
        split at h3
        · cases h3
        · split at h3
          · cases h3
          · omega
      refine go 800 rfl ?_
      refine atEnd ?_
      refine hN (n - 1) ⟨by omega, ?_⟩ (by omega) (settleI rfl trivial ?_)
      · have e1 : A.drop (n - 1) = dg A (n - 1) :: A.drop n := by rw [List.drop_eq_getElem_cons (by omega), dg_get (by omega), Nat.sub_add_cancel (by omega)]
        have e2 : B.drop (n - 1) = dg B (n - 1) :: B.drop n := by rw [List.drop_eq_getElem_cons (by omega), dg_get (by omega), Nat.sub_add_cancel (by omega)]
        rw [e1, e2, heq, hd]
      · have w : IntKind.i64.wrap ((n : Int) - 1 - 1) = ((n - 1 : Nat) : Int) - 1 := by rw [wrap64 (by omega) (by omega)]; omega
        simp [nat, encInt, w]
  · rw [leb_not] at h2
    obtain rfl : n = 0 := by omega
    refine go 800 rfl ?_
    refine atEnd ?_
    refine go 800 rfl ?_
    refine finI rfl rfl rfl trivial ?_
    have : val a = val b := by rw [← ea, ← eb]; simp at hd; rw [hd]
    simp [cmpS, this]
end Go.F

/- Natural numbers: Add, Sub, Mul. -/
namespace Go.F
attribute [local irreducible] IntKind.wrap wpM

theorem val_take_set {r : List Nat} {k v : Nat} (h : k < r.length) : val ((r.set k v).take (k + 1)) = val (r.take k) + 4294967296 ^ k * v := by
  rw [val_take, dg_set, if_pos ⟨rfl, h⟩, List.take_set_of_le (Nat.le_refl _)]

theorem limbs_len_of {l : List Nat} (h : LOk l) : (limbs (val l)).length ≤ l.length := limbs_len.2 (val_lt h)

set_option maxHeartbeats 2000000 in
theorem Add_PU (a b : List Nat) [ha : LOk a] [hb : LOk b] (hla : a.length ≤ 1000000000) (hlb : b.length ≤ 1000000000) : PU f_natural_Add [nat a, nat b] = some (nat (limbs (val a + val b))) := by
  have ea : val (limbs (val a)) = val a := val_limbs _
  have eb : val (limbs (val b)) = val b := val_limbs _
  have hla' := limbs_len_of ha
  have hlb' := limbs_len_of hb
  refine PU_of (fn := k_natural_Add) rfl (startI ?_)
  refine go 800 rfl ?_
  refine atCall rfl rfl (trim_PU a (by omega)) ?_
  refine go 800 rfl ?_
  refine atCall rfl rfl (trim_PU b (by omega)) ?_
  refine go 800 rfl ?_
  rw [List.length_map, List.length_map]
  have hAo : LOk (limbs (val a)) := limbs_ok _
  have hBo : LOk (limbs (val b)) := limbs_ok _
  generalize limbs (val a) = P at *
  generalize limbs (val b) = Q at *
  refine atCond rfl (fun h1 => ?_) (fun h1 => ?_)
  · rw [ltb_iff] at h1
    have hx := hAo
    clear hAo
    have hAo := hBo
    clear hBo
    have hBo := hx
    refine go 800 rfl ?_
    refine atMake 0 rfl rfl rfl (by rw [List.length_map, wrap64 (by omega) (by omega)]; simp [limit]; omega) ?_
    refine go 800 rfl ?_
    refine atLoop (S := fun x : Nat × List Nat × Nat => ([nat P, .ref 1 0 x.2.1.length, .int .u64 x.2.2, nat Q, encInt Q.length, encInt x.1], [none, some (.row (x.2.1.map u32) 1), none, none, none, none], [0, 0, 0, 0, 0, 0]))
      (C := fun x => x.1 ≤ Q.length ∧ x.2.1.length = x.1 ∧ LOk x.2.1 ∧ x.2.2 ≤ 1 ∧ val x.2.1 + 4294967296 ^ x.1 * x.2.2 = val (Q.take x.1) + val (P.take x.1)) (m := fun x => Q.length - x.1) (0, [], 0) ⟨Nat.zero_le _, rfl, nil_ok, by decide, by simp [val]⟩ (by simp; omega) ?_ ?_
    · exact settleI rfl ⟨rfl, trivial⟩ (by simp [nat, encInt])
    rintro ⟨k, r, c⟩ ⟨hk, hr, hro, hc, hinv⟩ N hN
    simp only at hk hr hro hc hinv
    refine go 800 rfl ?_
    refine atCond rfl (fun h2 => ?_) (fun h2 => ?_)
    · rw [ltb_iff] at h2
      have hlt : k < Q.length := by omega
      have hx := dg_lt hAo k
      have hy := dg_lt hBo k
      have w1 : IntKind.i64.wrap ((k : Int) + 1) = ((k + 1 : Nat) : Int) := wrap64 (by omega) (by omega)
      have next : ∀ {t : Tmps} {h : Heap} {z : Frz} {nx : Nat}, (wsettle 0 [(1, 0), (5, 1), (6, 0), (24, 0), (25, 0), (26, 0)] t h z nx fun _ _ kp => kp = ([nat P, .ref 1 0 (r ++ [(c + dg Q k + dg P k) % 4294967296]).length, .int .u64 ((c + dg Q k + dg P k) / 2 ^ 32 : Nat), nat Q, encInt Q.length, encInt ((k + 1 : Nat) : Int)], [none, some (.row ((r ++ [(c + dg Q k + dg P k) % 4294967296]).map u32) 1), none, none, none, none], [0, 0, 0, 0, 0, 0])) → N t h z nx := by
        intro t h z nx hst
        refine hN (k + 1, r ++ [(c + dg Q k + dg P k) % 4294967296], (c + dg Q k + dg P k) / 2 ^ 32) ⟨hlt, by simp [hr], hro.snoc (by omega), by simp only; omega, ?_⟩ (by simp only; omega) hst
        simp only
        rw [val_snoc, hr, val_take, val_take, Nat.pow_succ, Nat.add_assoc, show (2 : Nat) ^ 32 = 4294967296 by decide, carry_eq, Nat.mul_add, Nat.mul_add]
        omega
      clear hN
      refine go 800 rfl ?_
      refine atIdx k rfl rfl rfl (dg_enc hlt) rfl ?_
      refine go 800 rfl ?_
      rw [List.length_map]
      refine atCond rfl (fun h3 => ?_) (fun h3 => ?_)
      · rw [ltb_iff] at h3
        refine go 800 rfl ?_
        refine atIdx k rfl rfl rfl (dg_enc (by omega)) rfl ?_
        refine go 800 rfl ?_
        have e : IntKind.u64.wrap (IntKind.u64.wrap ((c : Int) + IntKind.u64.wrap (dg Q k : Int)) + IntKind.u64.wrap (dg P k : Int)) = ((c + dg Q k + dg P k : Nat) : Int) := by simp only [wrapU64i]; omega
        rw [e, wrapU32]
        refine atAppR rfl rfl rfl rfl rfl rfl (by simp) (Nat.zero_le _) (by simp [limit]; omega) ?_
        refine go 800 rfl ?_
        refine atShrN (c + dg Q k + dg P k) 32 rfl rfl rfl rfl (by decide) ?_
        refine go 800 rfl ?_
        refine atEnd ?_
        refine next (settleI rfl ⟨?_, trivial⟩ ?_)
        · rw [List.all_append, all_plain u32_plain]; rfl
        · simp [nat, encInt, w1, u32]
      · rw [ltb_not] at h3
        have h0 : dg P k = 0 := dg_ge (by omega)
        refine go 800 rfl ?_
        have e : IntKind.u64.wrap ((c : Int) + IntKind.u64.wrap (dg Q k : Int)) = ((c + dg Q k + dg P k : Nat) : Int) := by simp only [wrapU64i]; omega
        rw [e, wrapU32]
        refine atAppR rfl rfl rfl rfl rfl rfl (by simp) (Nat.zero_le _) (by simp [limit]; omega) ?_
        refine go 800 rfl ?_
        refine atShrN (c + dg Q k + dg P k) 32 rfl rfl rfl rfl (by decide) ?_
        refine go 800 rfl ?_
        refine atEnd ?_
        refine next (settleI rfl ⟨?_, trivial⟩ ?_)
        · rw [List.all_append, all_plain u32_plain]; rfl
        · simp [nat, encInt, w1, u32]
    · rw [ltb_not] at h2
      obtain rfl : k = Q.length := by omega
      rw [List.take_length, List.take_of_length_le (l := P) (by omega)] at hinv
      refine go 800 rfl ?_
      refine atEnd ?_
      refine go 800 rfl ?_
      have ec : IntKind.u32.wrap (c : Int) = (c : Int) := by rw [wrapU32]; omega
      rw [ec]
      refine atAppR rfl rfl rfl rfl rfl rfl (by simp) (Nat.zero_le _) (by simp [limit]; omega) ?_
      refine go 800 rfl ?_
      have : LOk (r ++ [c]) := hro.snoc (by omega)
      have hp := trim_PU (r ++ [c]) (by simp; omega)
      have hv : val (r ++ [c]) = val a + val b := by rw [val_snoc, hr, hinv]; exact (by omega)
      rw [hv] at hp
      have er : r.map u32 ++ [D.int IntKind.u32 (c : Int)] = (r ++ [c]).map u32 := by simp [u32]
      rw [er]
      refine atCallR rfl rfl ⟨datNat (l := r ++ [c]) (by simp), trivial⟩ (by rw [rowNat (by simp)]; exact hp) fun z => ?_
      refine go 800 rfl ?_
      exact finI rfl rfl rfl trivial rfl
  · rw [ltb_not] at h1
    refine go 800 rfl ?_
    refine atMake 0 rfl rfl rfl (by rw [List.length_map, wrap64 (by omega) (by omega)]; simp [limit]; omega) ?_
    refine go 800 rfl ?_
    refine atLoop (S := fun x : Nat × List Nat × Nat => ([nat Q, .ref 1 0 x.2.1.length, .int .u64 x.2.2, nat P, encInt P.length, encInt x.1], [none, some (.row (x.2.1.map u32) 1), none, none, none, none], [0, 0, 0, 0, 0, 0]))
      (C := fun x => x.1 ≤ P.length ∧ x.2.1.length = x.1 ∧ LOk x.2.1 ∧ x.2.2 ≤ 1 ∧ val x.2.1 + 4294967296 ^ x.1 * x.2.2 = val (P.take x.1) + val (Q.take x.1)) (m := fun x => P.length - x.1) (0, [], 0) ⟨Nat.zero_le _, rfl, nil_ok, by decide, by simp [val]⟩ (by simp; omega) ?_ ?_
    · exact settleI rfl ⟨rfl, trivial⟩ (by simp [nat, encInt])
    rintro ⟨k, r, c⟩ ⟨hk, hr, hro, hc, hinv⟩ N hN
    simp only at hk hr hro hc hinv
    refine go 800 rfl ?_
    refine atCond rfl (fun h2 => ?_) (fun h2 => ?_)
    · rw [ltb_iff] at h2
      have hlt : k < P.length := by omega
      have hx := dg_lt hAo k
      have hy := dg_lt hBo k
      have w1 : IntKind.i64.wrap ((k : Int) + 1) = ((k + 1 : Nat) : Int) := wrap64 (by omega) (by omega)
      have next : ∀ {t : Tmps} {h : Heap} {z : Frz} {nx : Nat}, (wsettle 0 [(1, 0), (5, 1), (6, 0), (24, 0), (25, 0), (26, 0)] t h z nx fun _ _ kp => kp = ([nat Q, .ref 1 0 (r ++ [(c + dg P k + dg Q k) % 4294967296]).length, .int .u64 ((c + dg P k + dg Q k) / 2 ^ 32 : Nat), nat P, encInt P.length, encInt ((k + 1 : Nat) : Int)], [none, some (.row ((r ++ [(c + dg P k + dg Q k) % 4294967296]).map u32) 1), none, none, none, none], [0, 0, 0, 0, 0, 0])) → N t h z nx := by
        intro t h z nx hst
        refine hN (k + 1, r ++ [(c + dg P k + dg Q k) % 4294967296], (c + dg P k + dg Q k) / 2 ^ 32) ⟨hlt, by simp [hr], hro.snoc (by omega), by simp only; omega, ?_⟩ (by simp only; omega) hst
        simp only
        rw [val_snoc, hr, val_take, val_take, Nat.pow_succ, Nat.add_assoc, show (2 : Nat) ^ 32 = 4294967296 by decide, carry_eq, Nat.mul_add, Nat.mul_add]
        omega
      clear hN
      refine go 800 rfl ?_
      refine atIdx k rfl rfl rfl (dg_enc hlt) rfl ?_
      refine go 800 rfl ?_
      rw [List.length_map]
      refine atCond rfl (fun h3 => ?_) (fun h3 => ?_)
      · rw [ltb_iff] at h3
        refine go 800 rfl ?_
        refine atIdx k rfl rfl rfl (dg_enc (by omega)) rfl ?_
        refine go 800 rfl ?_
        have e : IntKind.u64.wrap (IntKind.u64.wrap ((c : Int) + IntKind.u64.wrap (dg P k : Int)) + IntKind.u64.wrap (dg Q k : Int)) = ((c + dg P k + dg Q k : Nat) : Int) := by simp only [wrapU64i]; omega
        rw [e, wrapU32]
        refine atAppR rfl rfl rfl rfl rfl rfl (by simp) (Nat.zero_le _) (by simp [limit]; omega) ?_
        refine go 800 rfl ?_
        refine atShrN (c + dg P k + dg Q k) 32 rfl rfl rfl rfl (by decide) ?_
        refine go 800 rfl ?_
        refine atEnd ?_
        refine next (settleI rfl ⟨?_, trivial⟩ ?_)
        · rw [List.all_append, all_plain u32_plain]; rfl
        · simp [nat, encInt, w1, u32]
      · rw [ltb_not] at h3
        have h0 : dg Q k = 0 := dg_ge (by omega)
        refine go 800 rfl ?_
        have e : IntKind.u64.wrap ((c : Int) + IntKind.u64.wrap (dg P k : Int)) = ((c + dg P k + dg Q k : Nat) : Int) := by simp only [wrapU64i]; omega
        rw [e, wrapU32]
        refine atAppR rfl rfl rfl rfl rfl rfl (by simp) (Nat.zero_le _) (by simp [limit]; omega) ?_
        refine go 800 rfl ?_
        refine atShrN (c + dg P k + dg Q k) 32 rfl rfl rfl rfl (by decide) ?_
        refine go 800 rfl ?_
        refine atEnd ?_
        refine next (settleI rfl ⟨?_, trivial⟩ ?_)
        · rw [List.all_append, all_plain u32_plain]; rfl
        · simp [nat, encInt, w1, u32]
    · rw [ltb_not] at h2
      obtain rfl : k = P.length := by omega
      rw [List.take_length, List.take_of_length_le (l := Q) (by omega)] at hinv
      refine go 800 rfl ?_
      refine atEnd ?_
      refine go 800 rfl ?_
      have ec : IntKind.u32.wrap (c : Int) = (c : Int) := by rw [wrapU32]; omega
      rw [ec]
      refine atAppR rfl rfl rfl rfl rfl rfl (by simp) (Nat.zero_le _) (by simp [limit]; omega) ?_
      refine go 800 rfl ?_
      have : LOk (r ++ [c]) := hro.snoc (by omega)
      have hp := trim_PU (r ++ [c]) (by simp; omega)
      have hv : val (r ++ [c]) = val a + val b := by rw [val_snoc, hr, hinv]; exact (by omega)
      rw [hv] at hp
      have er : r.map u32 ++ [D.int IntKind.u32 (c : Int)] = (r ++ [c]).map u32 := by simp [u32]
      rw [er]
      refine atCallR rfl rfl ⟨datNat (l := r ++ [c]) (by simp), trivial⟩ (by rw [rowNat (by simp)]; exact hp) fun z => ?_
      refine go 800 rfl ?_
      exact finI rfl rfl rfl trivial rfl

set_option maxHeartbeats 2000000 in
theorem Sub_PU (a b : List Nat) [ha : LOk a] [hb : LOk b] (hla : a.length ≤ 1000000000) (hlb : b.length ≤ 1000000000) :
    PU f_natural_Sub [nat a, nat b] = some (if val a < val b then .tup [nat [], .bool false] else .tup [nat (limbs (val a - val b)), .bool true]) := by
  have ea : val (limbs (val a)) = val a := val_limbs _
  have eb : val (limbs (val b)) = val b := val_limbs _
  have hla' := limbs_len_of ha
  have hlb' := limbs_len_of hb
  refine PU_of (fn := k_natural_Sub) rfl (startI ?_)
  refine go 800 rfl ?_
  refine atCall rfl rfl (trim_PU a (by omega)) ?_
  refine go 800 rfl ?_
  refine atCall rfl rfl (trim_PU b (by omega)) ?_
  refine go 800 rfl ?_
  have hAo : LOk (limbs (val a)) := limbs_ok _
  have hBo : LOk (limbs (val b)) := limbs_ok _
  have hlen : val b ≤ val a → (limbs (val b)).length ≤ (limbs (val a)).length := fun h => limbs_len.2 (Nat.lt_of_le_of_lt h (limbs_len.1 (Nat.le_refl _)))
  generalize limbs (val a) = A at *
  generalize limbs (val b) = B at *
  refine atCall rfl rfl (Cmp_PU A B (by omega) (by omega)) ?_
  refine go 800 rfl ?_
  rw [ea, eb]
  refine atCond rfl (fun h1 => ?_) (fun h1 => ?_)
  · rw [ltb_iff] at h1
    have : val a < val b := by
      unfold cmpS at h1
      split at h1
      · omega
      · split at h1 <;> omega
    refine go 800 rfl ?_
    refine finI rfl rfl rfl trivial ?_
    rw [if_pos this]; rfl
  rw [ltb_not] at h1
  have hle : val b ≤ val a := by
    unfold cmpS at h1
    split at h1
    · omega
    · omega
  rw [if_neg (by omega)]
  refine go 800 rfl ?_
  refine atMake A.length rfl rfl (by simp) (by simp [limit]; omega) ?_
  refine go 800 rfl ?_
  refine atLoop (S := fun x : Nat × List Nat × Nat => ([nat B, .ref 1 0 A.length, .int .u64 x.2.2, nat A, encInt A.length, encInt x.1], [none, some (.row (x.2.1.map u32) 1), none, none, none, none], [0, 0, 0, 0, 0, 0]))
    (C := fun x => x.1 ≤ A.length ∧ x.2.1.length = A.length ∧ LOk x.2.1 ∧ x.2.2 ≤ 1 ∧ val (x.2.1.take x.1) + val (B.take x.1) = val (A.take x.1) + 4294967296 ^ x.1 * x.2.2) (m := fun x => A.length - x.1) (0, List.replicate A.length 0, 0)
    ⟨Nat.zero_le _, by simp, zeros_ok _, Nat.zero_le _, by simp [val]⟩ (by simp; omega) ?_ ?_
  · refine settleI rfl ⟨?_, trivial⟩ (by simp [nat, encInt, u32])
    rw [List.all_eq_true]; intro x hx; rw [(List.mem_replicate.1 hx).2]; rfl
  rintro ⟨k, r, c⟩ ⟨hk, hr, hro, hc, hinv⟩ N hN
  simp only at hk hr hro hc hinv
  refine go 800 rfl ?_
  refine atCond rfl (fun h2 => ?_) (fun h2 => ?_)
  · rw [ltb_iff] at h2
    have hlt : k < A.length := by omega
    have hx := dg_lt hAo k
    have hy := dg_lt hBo k
    have w1 : IntKind.i64.wrap ((k : Int) + 1) = ((k + 1 : Nat) : Int) := wrap64 (by omega) (by omega)
    have next : ∀ (v c' : Nat), v < 4294967296 → c' ≤ 1 → v + (c + dg B k) = dg A k + 4294967296 * c' → ∀ {t : Tmps} {h : Heap} {z : Frz} {nx : Nat}, (wsettle 0 [(1, 0), (6, 0), (7, 0), (22, 0), (23, 0), (24, 0)] t h z nx fun _ _ kp => kp = ([nat B, .ref 1 0 A.length, .int .u64 c', nat A, encInt A.length, encInt ((k + 1 : Nat) : Int)], [none, some (.row ((r.set k v).map u32) 1), none, none, none, none], [0, 0, 0, 0, 0, 0])) → N t h z nx := by
      intro v c' hv hc' he t h z nx hst
      refine hN (k + 1, r.set k v, c') ⟨hlt, by simp [hr], hro.set k hv, hc', ?_⟩ (by simp only; omega) hst
      simp only
      rw [val_take_set (by omega), val_take, val_take, Nat.pow_succ]
      have e2 : 4294967296 ^ k * v + (4294967296 ^ k * c + 4294967296 ^ k * dg B k) = 4294967296 ^ k * dg A k + 4294967296 ^ k * 4294967296 * c' := by
        rw [← Nat.mul_add, ← Nat.mul_add, he, Nat.mul_add, Nat.mul_assoc]
      omega
    clear hN
    refine go 800 rfl ?_
    refine atIdx k rfl rfl rfl (dg_enc hlt) rfl ?_
    refine go 800 rfl ?_
    rw [List.length_map]
    have body : ∀ d : Int, d = ((dg A k : Int) - c - dg B k) % 18446744073709551616 →
        (∃ v c' : Nat, IntKind.u32.wrap d = v ∧ d = ((d.toNat : Nat) : Int) ∧ d.toNat / 2 ^ 63 = c' ∧ v < 4294967296 ∧ c' ≤ 1 ∧ v + (c + dg B k) = dg A k + 4294967296 * c') := by
      intro d hd
      rw [wrapU32i]
      refine ⟨(d % 4294967296).toNat, d.toNat / 2 ^ 63, by omega, by omega, rfl, by omega, by omega, by omega⟩
    refine atCond rfl (fun h3 => ?_) (fun h3 => ?_)
    · rw [ltb_iff] at h3
      refine go 800 rfl ?_
      refine atIdx k rfl rfl rfl (dg_enc (by omega)) rfl ?_
      refine go 800 rfl ?_
      obtain ⟨v, c', g1, g2, g3, g4, g5, g6⟩ := body (IntKind.u64.wrap (IntKind.u64.wrap (IntKind.u64.wrap (dg A k : Int) - (c : Int)) - IntKind.u64.wrap (dg B k : Int))) (by simp only [wrapU64i]; omega)
      generalize IntKind.u64.wrap (IntKind.u64.wrap (IntKind.u64.wrap (dg A k : Int) - (c : Int)) - IntKind.u64.wrap (dg B k : Int)) = d at *
      rw [g1]
      refine atIdxR k rfl rfl rfl rfl rfl hlt ?_
      refine go 800 rfl ?_
      refine atStore32 r k v rfl rfl (Nat.zero_add _) rfl rfl (Nat.zero_le _) (by omega) ?_
      refine go 800 rfl ?_
      refine atShrN d.toNat 63 rfl rfl g2 rfl (by decide) ?_
      rw [g3]
      refine go 800 rfl ?_
      refine atEnd ?_
      exact next v c' g4 g5 g6 (settleI rfl ⟨all_plain u32_plain _, trivial⟩ (by simp [nat, encInt, w1]))
    · rw [ltb_not] at h3
      have h0 : dg B k = 0 := dg_ge (by omega)
      refine go 800 rfl ?_
      obtain ⟨v, c', g1, g2, g3, g4, g5, g6⟩ := body (IntKind.u64.wrap (IntKind.u64.wrap (dg A k : Int) - (c : Int))) (by simp only [wrapU64i]; omega)
      generalize IntKind.u64.wrap (IntKind.u64.wrap (dg A k : Int) - (c : Int)) = d at *
      rw [g1]
      refine atIdxR k rfl rfl rfl rfl rfl hlt ?_
      refine go 800 rfl ?_
      refine atStore32 r k v rfl rfl (Nat.zero_add _) rfl rfl (Nat.zero_le _) (by omega) ?_
      refine go 800 rfl ?_
      refine atShrN d.toNat 63 rfl rfl g2 rfl (by decide) ?_
      rw [g3]
      refine go 800 rfl ?_
      refine atEnd ?_
      exact next v c' g4 g5 g6 (settleI rfl ⟨all_plain u32_plain _, trivial⟩ (by simp [nat, encInt, w1]))
  · rw [ltb_not] at h2
    obtain rfl : k = A.length := by omega
    rw [List.take_length, List.take_of_length_le (l := r) (by omega)] at hinv
    refine go 800 rfl ?_
    refine atEnd ?_
    refine go 800 rfl ?_
    have hp := trim_PU r (by omega)
    have hlen := hlen hle
    rw [List.take_of_length_le (by omega)] at hinv
    have hv : val r = val a - val b := by
      have h1 := val_lt hro
      rw [hr] at h1
      have hc0 : c = 0 ∨ c = 1 := by omega
      rcases hc0 with rfl | rfl
      · omega
      · omega
    rw [hv] at hp
    refine atCallR rfl rfl ⟨datNat (l := r) hr.symm, trivial⟩ (by rw [rowNat (l := r) hr.symm]; exact hp) fun z => ?_
    refine go 800 rfl ?_
    exact finI rfl rfl rfl trivial rfl
end Go.F

/- Natural numbers: Mul, short, right. -/
namespace Go.F
attribute [local irreducible] IntKind.wrap wpM

theorem zeros32 (n : Nat) : List.replicate n (D.int IntKind.u32 0) = (List.replicate n 0).map u32 := by
  simp [u32]

theorem val_take_zero {r : List Nat} {k : Nat} (h : ∀ j, k ≤ j → dg r j = 0) : val (r.take k) = val r := by
  have hz : ∀ n j, k ≤ j → j + n = r.length → val (r.drop j) = 0 := by
    intro n
    induction n with
    | zero => intro j _ hj; rw [List.drop_of_length_le (by omega)]; rfl
    | succ n ih => intro j hj hk; rw [val_drop, h j hj, ih (j + 1) (by omega) (by omega)]
  by_cases hk : k ≤ r.length
  · rw [val_split r k, hz (r.length - k) k (Nat.le_refl _) (by omega)]; simp
  · rw [List.take_of_length_le (by omega)]

theorem mul_lt32 {x y : Nat} (hx : x < 4294967296) (hy : y < 4294967296) : x * y ≤ 18446744065119617025 := by
  calc x * y ≤ 4294967295 * 4294967295 := Nat.mul_le_mul (by omega) (by omega)
    _ = 18446744065119617025 := by decide

set_option maxHeartbeats 4000000 in
theorem Mul_PU (a b : List Nat) [ha : LOk a] [hb : LOk b] (hla : a.length ≤ 1000000000) (hlb : b.length ≤ 1000000000) : PU f_natural_Mul [nat a, nat b] = some (nat (limbs (val a * val b))) := by
  have ea : val (limbs (val a)) = val a := val_limbs _
  have eb : val (limbs (val b)) = val b := val_limbs _
  have hla' := limbs_len_of ha
  have hlb' := limbs_len_of hb
  refine PU_of (fn := k_natural_Mul) rfl (startI ?_)
  refine go 800 rfl ?_
  refine atCall rfl rfl (trim_PU a (by omega)) ?_
  refine go 800 rfl ?_
  refine atCall rfl rfl (trim_PU b (by omega)) ?_
  refine go 800 rfl ?_
  have hAo : LOk (limbs (val a)) := limbs_ok _
  have hBo : LOk (limbs (val b)) := limbs_ok _
  generalize limbs (val a) = A at *
  generalize limbs (val b) = B at *
  have w0 : IntKind.i64.wrap (((A.map u32).length : Int) + ((B.map u32).length : Int)) = ((A.length + B.length : Nat) : Int) := by rw [List.length_map, List.length_map, wrap64 (by omega) (by omega)]; omega
  rw [w0]
  refine atMake (A.length + B.length) rfl rfl rfl (by simp [limit]; omega) ?_
  rw [zeros32]
  refine go 800 rfl ?_
  refine atLoop (S := fun x : Nat × List Nat => ([nat B, .ref 1 0 (A.length + B.length), nat A, encInt A.length, encInt x.1], [none, some (.row (x.2.map u32) 1), none, none, none], [0, 0, 0, 0, 0]))
    (C := fun x => x.1 ≤ A.length ∧ x.2.length = A.length + B.length ∧ LOk x.2 ∧ val x.2 = val (A.take x.1) * val B ∧ ∀ j, x.1 + B.length ≤ j → dg x.2 j = 0) (m := fun x => A.length - x.1) (0, List.replicate (A.length + B.length) 0)
    ⟨Nat.zero_le _, by simp, zeros_ok _, by simp [val, val_zeros], fun j _ => dg_zeros _ _⟩ (by simp; omega) ?_ ?_
  · exact settleI rfl ⟨all_plain u32_plain _, trivial⟩ (by simp [nat, encInt])
  rintro ⟨k, r⟩ ⟨hk, hr, hro, hinv, hz⟩ N hN
  simp only at hk hr hro hinv hz
  refine go 800 rfl ?_
  refine atCond rfl (fun h2 => ?_) (fun h2 => ?_)
  · rw [ltb_iff] at h2
    have hlt : k < A.length := by omega
    have hx := dg_lt hAo k
    have w1 : IntKind.i64.wrap ((k : Int) + 1) = ((k + 1 : Nat) : Int) := wrap64 (by omega) (by omega)
    refine go 800 rfl ?_
    refine atIdx k rfl rfl rfl (dg_enc hlt) rfl ?_
    refine go 800 rfl ?_
    refine atLoop (S := fun x : Nat × List Nat × Nat => ([nat B, .ref 1 0 (A.length + B.length), encInt k, u32 (dg A k), .int .u64 x.2.2, nat A, encInt A.length, encInt k, nat B, encInt B.length, encInt x.1], [none, some (.row (x.2.1.map u32) 1), none, none, none, none, none, none, none, none, none], [0, 0, 0, 0, 0, 0, 0, 0, 0, 0, 0]))
      (C := fun x => x.1 ≤ B.length ∧ x.2.1.length = A.length + B.length ∧ LOk x.2.1 ∧ x.2.2 < 4294967296 ∧ val x.2.1 + 4294967296 ^ (k + x.1) * x.2.2 = val r + 4294967296 ^ k * (dg A k * val (B.take x.1)) ∧ ∀ j, k + x.1 ≤ j → dg x.2.1 j = dg r j) (m := fun x => B.length - x.1) (0, r, 0)
      ⟨Nat.zero_le _, hr, hro, by simp, by simp [val], fun j _ => rfl⟩ (by simp; omega) ?_ ?_
    · exact settleI rfl ⟨all_plain u32_plain _, trivial⟩ (by simp [nat, encInt, u32])
    rintro ⟨i, r', c⟩ ⟨hi, hr', hro', hc, hinv', hz'⟩ N2 hN2
    simp only at hi hr' hro' hc hinv' hz'
    refine go 800 rfl ?_
    refine atCond rfl (fun h3 => ?_) (fun h3 => ?_)
    · rw [ltb_iff] at h3
      have hil : i < B.length := by omega
      have hy := dg_lt hBo i
      have hq := dg_lt hro' (k + i)
      have hxy := mul_lt32 hx hy
      have wi : IntKind.i64.wrap ((i : Int) + 1) = ((i + 1 : Nat) : Int) := wrap64 (by omega) (by omega)
      have wki : IntKind.i64.wrap ((k : Int) + i) = ((k + i : Nat) : Int) := by rw [wrap64 (by omega) (by omega)]; omega
      refine go 800 rfl ?_
      refine atIdx i rfl rfl rfl (dg_enc hil) rfl ?_
      refine go 800 rfl ?_
      refine atIdxR (k + i) rfl rfl rfl rfl wki (by omega) ?_
      refine go 800 rfl ?_
      refine atLoad32 r' (k + i) rfl (Nat.zero_add _) rfl (by omega) ?_
      refine go 800 rfl ?_
      have e1 : ((dg A k * dg B i : Nat) : Int) = (dg A k : Int) * (dg B i : Int) := by simp
      have e : IntKind.u64.wrap ((c : Int) + IntKind.u64.wrap (IntKind.u64.wrap (IntKind.u64.wrap (dg A k : Int) * IntKind.u64.wrap (dg B i : Int)) + IntKind.u64.wrap (dg r' (k + i) : Int))) = ((c + (dg A k * dg B i + dg r' (k + i)) : Nat) : Int) := by
        rw [wrapU64 (n := dg A k) (by omega), wrapU64 (n := dg B i) (by omega), wrapU64 (n := dg r' (k + i)) (by omega), ← e1, wrapU64 (n := dg A k * dg B i) (by omega)]
        simp only [wrapU64i]; omega
      rw [e, wrapU32]
      refine atIdxR (k + i) rfl rfl rfl rfl wki (by omega) ?_
      refine go 800 rfl ?_
      refine atStore32 r' (k + i) ((c + (dg A k * dg B i + dg r' (k + i))) % 4294967296) rfl rfl (Nat.zero_add _) rfl rfl (Nat.zero_le _) (by omega) ?_
      refine go 800 rfl ?_
      refine atShrN (c + (dg A k * dg B i + dg r' (k + i))) 32 rfl rfl rfl rfl (by decide) ?_
      refine go 800 rfl ?_
      refine atEnd ?_
      refine hN2 (i + 1, r'.set (k + i) ((c + (dg A k * dg B i + dg r' (k + i))) % 4294967296), (c + (dg A k * dg B i + dg r' (k + i))) / 2 ^ 32) ⟨hil, by simp [hr'], hro'.set _ (by omega), by simp only; omega, ?_, ?_⟩ (by simp only; omega) (settleI rfl ⟨all_plain u32_plain _, trivial⟩ (by simp [nat, encInt, wi, u32]))
      · simp only
        have hs := val_set (l := r') (i := k + i) (v := (c + (dg A k * dg B i + dg r' (k + i))) % 4294967296) (by omega)
        have hcar := carry_eq (4294967296 ^ (k + i)) (c + (dg A k * dg B i + dg r' (k + i)))
        rw [show (2 : Nat) ^ 32 = 4294967296 by decide, val_take, show k + (i + 1) = (k + i) + 1 from rfl, Nat.pow_succ, Nat.mul_add (dg A k), Nat.mul_add (4294967296 ^ k)]
        rw [Nat.mul_add (4294967296 ^ (k + i)) c, Nat.mul_add (4294967296 ^ (k + i)) (dg A k * dg B i)] at hcar
        have e5 : 4294967296 ^ k * (dg A k * (4294967296 ^ i * dg B i)) = 4294967296 ^ (k + i) * (dg A k * dg B i) := by
          rw [Nat.pow_add, Nat.mul_left_comm (dg A k), ← Nat.mul_assoc]
        rw [e5]
        omega
      · intro j hj
        simp only at hj ⊢
        rw [dg_set, if_neg (by omega)]
        exact hz' j (by omega)
    · rw [ltb_not] at h3
      obtain rfl : i = B.length := by omega
      rw [List.take_length] at hinv'
      have wkb : IntKind.i64.wrap ((k : Int) + (B.map u32).length) = ((k + B.length : Nat) : Int) := by rw [List.length_map, wrap64 (by omega) (by omega)]; omega
      have ec : IntKind.u32.wrap (c : Int) = (c : Int) := by rw [wrapU32]; omega
      refine go 800 rfl ?_
      refine atEnd ?_
      refine go 800 rfl ?_
      rw [ec]
      refine atIdxR (k + B.length) rfl rfl rfl rfl wkb (by omega) ?_
      refine go 800 rfl ?_
      refine atStore32 r' (k + B.length) c rfl rfl (Nat.zero_add _) rfl rfl (Nat.zero_le _) (by omega) ?_
      refine go 800 rfl ?_
      refine atEnd ?_
      have hd0 : dg r' (k + B.length) = 0 := by rw [hz' _ (Nat.le_refl _)]; exact hz _ (Nat.le_refl _)
      have hs := val_set (l := r') (i := k + B.length) (v := c) (by omega)
      rw [hd0, Nat.mul_zero, Nat.add_zero] at hs
      refine hN (k + 1, r'.set (k + B.length) c) ⟨hlt, by simp [hr'], hro'.set _ hc, ?_, ?_⟩ (by simp only; omega) (settleI rfl ⟨all_plain u32_plain _, trivial⟩ (by simp [nat, encInt, w1]))
      · simp only
        rw [hs, hinv', hinv, val_take, Nat.add_mul, Nat.mul_assoc]
      · intro j hj
        simp only at hj ⊢
        rw [dg_set, if_neg (by omega), hz' j (by omega)]
        exact hz j (by omega)
  · rw [ltb_not] at h2
    obtain rfl : k = A.length := by omega
    rw [List.take_length] at hinv
    refine go 800 rfl ?_
    refine atEnd ?_
    refine go 800 rfl ?_
    have hp := trim_PU r (by omega)
    rw [hinv, ea, eb] at hp
    refine atCallR rfl rfl ⟨datNat (l := r) hr.symm, trivial⟩ (by rw [rowNat (l := r) hr.symm]; exact hp) fun z => ?_
    refine go 800 rfl ?_
    exact finI rfl rfl rfl trivial rfl
end Go.F

/- Natural numbers: short, right, the length of a limb. -/
namespace Go.F
attribute [local irreducible] IntKind.wrap wpM

section
variable {T : Tab} {sh : Shr} {nx0 : Nat} {s : List Fr} {t : Tmps} {h : Heap} {z : Frz} {nx : Nat} {q : Ex → Tmps → Heap → Frz → Nat → Prop}
variable {base i : Nat} {res : List Nat} {dst : Nat} {g : Gd} {rest : List KOper}

theorem atQuoN {e : EqK} {x y : X} {kk : IntKind} {a b : Int} (n m : Nat) (hx : x.ev t = .int kk a) (hy : y.ev t = .int kk b) (ha : a = n) (hb : b = m) (hm : m ≠ 0) (hw : kk.wrap ((n / m : Nat) : Int) = ((n / m : Nat) : Int))
    (hk : wpM T sh nx0 (.ops base res rest :: s) .normal (upd t dst (.int kk ((n / m : Nat) : Int))) h z nx q) :
    wpM T sh nx0 (.ops base res (⟨i, some dst, none, g, .bin .quo e x y⟩ :: rest) :: s) .normal t h z nx q := by
  subst ha; subst hb
  refine atQuo hx hy (by omega) ?_
  have e : ((n : Int)).tdiv m = ((n / m : Nat) : Int) := by rw [Int.tdiv_eq_ediv_of_nonneg (by omega)]; rfl
  rw [e, hw]
  exact hk

theorem atRemN {e : EqK} {x y : X} {kk : IntKind} {a b : Int} (n m : Nat) (hx : x.ev t = .int kk a) (hy : y.ev t = .int kk b) (ha : a = n) (hb : b = m) (hm : m ≠ 0)
    (hk : wpM T sh nx0 (.ops base res rest :: s) .normal (upd t dst (.int kk ((n % m : Nat) : Int))) h z nx q) :
    wpM T sh nx0 (.ops base res (⟨i, some dst, none, g, .bin .rem e x y⟩ :: rest) :: s) .normal t h z nx q := by
  subst ha; subst hb
  refine atRem hx hy (by omega) ?_
  have e : ((n : Int)).tmod m = ((n % m : Nat) : Int) := by rw [Int.tmod_eq_emod_of_nonneg (by omega)]; rfl
  rw [e]
  exact hk
end

theorem ofInt_nat (w n : Nat) : BitVec.ofInt w (n : Int) = BitVec.ofNat w n := by simp

/- two parts of a word -/
theorem orU64 {a b : Nat} (ha : a < 4294967296) (hb : b < 4294967296) : IntKind.u64.wrap ((BitVec.ofInt IntKind.u64.bits ((a * 2 ^ 32 : Nat) : Int) ||| BitVec.ofInt IntKind.u64.bits (b : Int)).toNat : Int) = ((a * 4294967296 + b : Nat) : Int) := by
  rw [ofInt_nat, ofInt_nat, BitVec.toNat_or, BitVec.toNat_ofNat, BitVec.toNat_ofNat]
  have e : IntKind.u64.bits = 64 := rfl
  rw [e, Nat.mod_eq_of_lt (by omega), Nat.mod_eq_of_lt (by omega), Nat.mul_comm a, ← Nat.two_pow_add_eq_or_of_lt (by omega), wrapU64 (by omega)]

theorem orU64' {a b : Nat} (ha : a < 4294967296) (hb : b < 4294967296) : IntKind.u64.wrap ((BitVec.ofInt IntKind.u64.bits (b : Int) ||| BitVec.ofInt IntKind.u64.bits ((a * 2 ^ 32 : Nat) : Int)).toNat : Int) = ((a * 4294967296 + b : Nat) : Int) := by
  rw [BitVec.or_comm]; exact orU64 ha hb

set_option maxHeartbeats 2000000 in
theorem short_PU (a : List Nat) (d : Nat) [ha : LOk a] (hla : a.length ≤ 1000000000) (hd0 : d ≠ 0) (hd : d < 4294967296) : PU f_natural_short [nat a, .int .u32 d] = some (.tup [nat (limbs (val a / d)), .int .u32 (val a % d : Nat)]) := by
  refine PU_of (fn := k_natural_short) rfl (startI ?_)
  refine go 800 rfl ?_
  refine atMake a.length rfl rfl (by simp) (by simp [limit]; omega) ?_
  rw [zeros32]
  refine go 800 rfl ?_
  refine atLoop (S := fun x : Nat × List Nat × Nat => ([nat a, .int .u32 d, .ref 2 0 a.length, .int .u64 x.2.2, encInt ((x.1 : Int) - 1)], [none, none, some (.row (x.2.1.map u32) 1), none, none], [0, 0, 0, 0, 0]))
    (C := fun x => x.1 ≤ a.length ∧ x.2.1.length = a.length ∧ LOk x.2.1 ∧ x.2.2 < d ∧ val (a.drop x.1) = val (x.2.1.drop x.1) * d + x.2.2) (m := fun x => x.1) (a.length, List.replicate a.length 0, 0)
    ⟨Nat.le_refl _, by simp, zeros_ok _, Nat.pos_of_ne_zero hd0, by simp [val]⟩ (by simp; omega) ?_ ?_
  · refine settleI rfl ⟨all_plain u32_plain _, trivial⟩ ?_
    have w : IntKind.i64.wrap ((a.length : Int) - 1) = (a.length : Int) - 1 := wrap64 (by omega) (by omega)
    simp [nat, encInt, w]
  rintro ⟨n, q, r⟩ ⟨hn, hq, hqo, hr, hinv⟩ N hN
  simp only at hn hq hqo hr hinv
  refine go 800 rfl ?_
  refine atCond rfl (fun h2 => ?_) (fun h2 => ?_)
  · rw [leb_iff] at h2
    simp only at h2
    have hx := dg_lt ha (n - 1)
    have hw : IntKind.u64.wrap (dg a (n - 1) : Int) = (dg a (n - 1) : Int) := wrapU64 (by omega)
    have hwd : IntKind.u64.wrap (d : Int) = (d : Int) := wrapU64 (by omega)
    have w2 : IntKind.i64.wrap ((n : Int) - 1 - 1) = ((n - 1 : Nat) : Int) - 1 := by rw [wrap64 (by omega) (by omega)]; omega
    have htd : (r * 4294967296 + dg a (n - 1)) / d < 4294967296 := by
      rw [Nat.div_lt_iff_lt_mul (by omega)]
      calc r * 4294967296 + dg a (n - 1) < (r + 1) * 4294967296 := by omega
        _ ≤ d * 4294967296 := Nat.mul_le_mul_right _ hr
        _ = 4294967296 * d := Nat.mul_comm _ _
    have htm : (r * 4294967296 + dg a (n - 1)) % d < d := Nat.mod_lt _ (by omega)
    refine go 800 rfl ?_
    refine atShlN r 32 rfl rfl rfl rfl (by decide) (wrapU64 (by omega)) ?_
    refine go 800 rfl ?_
    refine atIdx (n - 1) rfl rfl (by omega) (dg_enc (by omega)) rfl ?_
    refine go 800 rfl ?_
    rw [hw, orU64 (by omega) hx]
    refine go 800 rfl ?_
    rw [hwd]
    refine atQuoN (r * 4294967296 + dg a (n - 1)) d rfl rfl rfl rfl hd0 (wrapU64 (by omega)) ?_
    refine go 800 rfl ?_
    rw [wrapU32, Nat.mod_eq_of_lt htd]
    refine atIdxR (n - 1) rfl rfl rfl rfl (by omega) (by omega) ?_
    refine go 800 rfl ?_
    refine atStore32 q (n - 1) ((r * 4294967296 + dg a (n - 1)) / d) rfl rfl (Nat.zero_add _) rfl rfl (Nat.zero_le _) (by omega) ?_
    refine go 800 rfl ?_
    rw [hwd]
    refine atRemN (r * 4294967296 + dg a (n - 1)) d rfl rfl rfl rfl hd0 ?_
    refine go 800 rfl ?_
    refine atEnd ?_
    refine hN (n - 1, q.set (n - 1) ((r * 4294967296 + dg a (n - 1)) / d), (r * 4294967296 + dg a (n - 1)) % d) ⟨by simp only; omega, by simp [hq], hqo.set _ htd, htm, ?_⟩ (by simp only; omega) (settleI rfl ⟨all_plain u32_plain _, trivial⟩ (by simp [nat, encInt, w2]))
    simp only
    rw [val_drop, val_drop (q.set _ _), dg_set, if_pos ⟨rfl, by omega⟩, Nat.sub_add_cancel (by omega), List.drop_set_of_lt (by omega), hinv]
    have hdm := Nat.div_add_mod (r * 4294967296 + dg a (n - 1)) d
    rw [Nat.add_mul, Nat.mul_assoc 4294967296, Nat.mul_comm ((r * 4294967296 + dg a (n - 1)) / d) d]
    omega
  · rw [leb_not] at h2
    simp only at h2
    obtain rfl : n = 0 := by omega
    simp only [List.drop_zero] at hinv
    refine go 800 rfl ?_
    refine atEnd ?_
    refine go 800 rfl ?_
    have hp := trim_PU q (by omega)
    have hv1 : val q = val a / d := by rw [hinv, Nat.add_comm, Nat.add_mul_div_right _ _ (by omega), Nat.div_eq_of_lt hr, Nat.zero_add]
    have hv2 : val a % d = r := by rw [hinv, Nat.add_comm, Nat.add_mul_mod_self_right, Nat.mod_eq_of_lt hr]
    rw [hv1] at hp
    refine atCallR rfl rfl ⟨datNat (l := q) hq.symm, trivial⟩ (by rw [rowNat (l := q) hq.symm]; exact hp) fun z => ?_
    refine go 800 rfl ?_
    refine finI rfl rfl rfl trivial ?_
    have e : IntKind.u32.wrap (r : Int) = (r : Int) := by rw [wrapU32]; omega
    rw [e, hv2]
    rfl

theorem val_of_dg {l : List Nat} {V : Nat} (h : ∀ j, j < l.length → dg l j = V / 4294967296 ^ j % 4294967296) : val l = V % 4294967296 ^ l.length := by
  have key : ∀ k, k ≤ l.length → val (l.take k) = V % 4294967296 ^ k := by
    intro k
    induction k with
    | zero => intro _; simp [val, Nat.mod_one]
    | succ k ih => intro hk; rw [val_take, ih (by omega), h k hk, Nat.mod_pow_succ]
  have := key l.length (Nat.le_refl _)
  rwa [List.take_length] at this

theorem dg_shr {a : List Nat} (ha : LOk a) {s : Nat} (hs : s ≤ 31) (i : Nat) : (dg a (i + 1) * 4294967296 + dg a i) / 2 ^ s % 4294967296 = val a / 2 ^ s / 4294967296 ^ i % 4294967296 := by
  have h1 : val a / 4294967296 ^ i = dg a i + 4294967296 * (dg a (i + 1) + 4294967296 * val (a.drop (i + 2))) := by
    rw [← val_drop a (i + 1), ← val_drop a i]
    have := val_split a i
    have h2 : val (a.take i) < 4294967296 ^ i ∨ a.length ≤ i := by
      by_cases hl : i ≤ a.length
      · left
        have := val_lt (ha.take i)
        rwa [List.length_take, Nat.min_eq_left hl] at this
      · right; omega
    rcases h2 with h2 | h2
    · rw [this, Nat.add_mul_div_left _ _ (Nat.pow_pos (by decide)), Nat.div_eq_of_lt h2, Nat.zero_add]
    · rw [List.drop_of_length_le h2, Nat.div_eq_of_lt]
      · rfl
      · exact Nat.lt_of_lt_of_le (val_lt ha) (Nat.pow_le_pow_right (by decide) h2)
  rw [Nat.div_div_eq_div_mul, Nat.mul_comm (2 ^ s), ← Nat.div_div_eq_div_mul, h1]
  generalize val (a.drop (i + 2)) = R
  have e : (18446744073709551616 : Nat) = 2 ^ s * (4294967296 * 2 ^ (32 - s)) := by
    rw [Nat.mul_left_comm, ← Nat.pow_add, show s + (32 - s) = 32 by omega]
  have e2 : dg a i + 4294967296 * (dg a (i + 1) + 4294967296 * R) = (dg a (i + 1) * 4294967296 + dg a i) + 2 ^ s * (4294967296 * 2 ^ (32 - s) * R) := by
    rw [← Nat.mul_assoc (2 ^ s), ← e]; omega
  rw [e2, Nat.add_mul_div_left _ _ (Nat.two_pow_pos s), Nat.mul_assoc, Nat.add_mul_mod_self_left]

set_option maxHeartbeats 2000000 in
theorem natural_right_PU (a : List Nat) (s : Nat) [ha : LOk a] (hla : a.length ≤ 1000000000) (hs : s ≤ 31) : PU f_natural_right [nat a, .int .i64 s] = some (nat (limbs (val a / 2 ^ s))) := by
  refine PU_of (fn := k_natural_right) rfl (startI ?_)
  refine go 800 rfl ?_
  refine atMake a.length rfl rfl (by simp) (by simp [limit]; omega) ?_
  rw [zeros32]
  refine go 800 rfl ?_
  refine atLoop (S := fun x : Nat × List Nat => ([nat a, encInt s, .ref 2 0 a.length, nat a, encInt a.length, encInt x.1], [none, none, some (.row (x.2.map u32) 1), none, none, none], [0, 0, 0, 0, 0, 0]))
    (C := fun x => x.1 ≤ a.length ∧ x.2.length = a.length ∧ LOk x.2 ∧ ∀ j, j < x.1 → dg x.2 j = val a / 2 ^ s / 4294967296 ^ j % 4294967296) (m := fun x => a.length - x.1) (0, List.replicate a.length 0)
    ⟨Nat.zero_le _, by simp, zeros_ok _, fun j hj => by simp at hj⟩ (by simp; omega) ?_ ?_
  · exact settleI rfl ⟨all_plain u32_plain _, trivial⟩ (by simp [nat, encInt])
  rintro ⟨k, r⟩ ⟨hk, hr, hro, hinv⟩ N hN
  simp only at hk hr hro hinv
  refine go 800 rfl ?_
  refine atCond rfl (fun h2 => ?_) (fun h2 => ?_)
  · rw [ltb_iff] at h2
    have hlt : k < a.length := by omega
    have hx := dg_lt ha k
    have hy := dg_lt ha (k + 1)
    have hw : IntKind.u64.wrap (dg a k : Int) = (dg a k : Int) := wrapU64 (by omega)
    have hwy : IntKind.u64.wrap (dg a (k + 1) : Int) = (dg a (k + 1) : Int) := wrapU64 (by omega)
    have w1 : IntKind.i64.wrap ((k : Int) + 1) = ((k + 1 : Nat) : Int) := wrap64 (by omega) (by omega)
    refine go 800 rfl ?_
    refine atIdx k rfl rfl rfl (dg_enc hlt) rfl ?_
    refine go 800 rfl ?_
    rw [List.length_map, hw]
    refine atCond rfl (fun h3 => ?_) (fun h3 => ?_)
    · rw [ltb_iff, w1] at h3
      refine go 800 rfl ?_
      refine atIdx (k + 1) rfl rfl w1 (dg_enc (by omega)) rfl ?_
      refine go 800 rfl ?_
      rw [hwy]
      refine atShlN (dg a (k + 1)) 32 rfl rfl rfl rfl (by decide) (wrapU64 (by omega)) ?_
      refine go 800 rfl ?_
      rw [orU64' hy hx]
      refine go 800 rfl ?_
      refine atShrN (dg a (k + 1) * 4294967296 + dg a k) s rfl rfl rfl rfl (by show s ≤ 64; omega) ?_
      refine go 800 rfl ?_
      rw [wrapU32]
      refine atIdxR k rfl rfl rfl rfl rfl hlt ?_
      refine go 800 rfl ?_
      refine atStore32 r k ((dg a (k + 1) * 4294967296 + dg a k) / 2 ^ s % 4294967296) rfl rfl (Nat.zero_add _) rfl rfl (Nat.zero_le _) (by omega) ?_
      refine go 800 rfl ?_
      refine atEnd ?_
      refine hN (k + 1, r.set k ((dg a (k + 1) * 4294967296 + dg a k) / 2 ^ s % 4294967296)) ⟨hlt, by simp [hr], hro.set _ (Nat.mod_lt _ (by decide)), ?_⟩ (by simp only; omega) (settleI rfl ⟨all_plain u32_plain _, trivial⟩ (by simp [nat, encInt, w1]))
      intro j hj
      simp only at hj ⊢
      rw [dg_set]
      by_cases hjk : k = j
      · subst hjk
        rw [if_pos ⟨rfl, by omega⟩]
        rw [← dg_shr ha hs]
        try rw [dg_ge (l := a) (i := k + 1) (by omega), Nat.zero_mul, Nat.zero_add]
      · rw [if_neg (by omega)]
        exact hinv j (by omega)
    · rw [ltb_not, w1] at h3
      refine go 800 rfl ?_
      refine atShrN (dg a k) s rfl rfl rfl rfl (by show s ≤ 64; omega) ?_
      refine go 800 rfl ?_
      rw [wrapU32]
      refine atIdxR k rfl rfl rfl rfl rfl hlt ?_
      refine go 800 rfl ?_
      refine atStore32 r k ((dg a k) / 2 ^ s % 4294967296) rfl rfl (Nat.zero_add _) rfl rfl (Nat.zero_le _) (by omega) ?_
      refine go 800 rfl ?_
      refine atEnd ?_
      refine hN (k + 1, r.set k ((dg a k) / 2 ^ s % 4294967296)) ⟨hlt, by simp [hr], hro.set _ (Nat.mod_lt _ (by decide)), ?_⟩ (by simp only; omega) (settleI rfl ⟨all_plain u32_plain _, trivial⟩ (by simp [nat, encInt, w1]))
      intro j hj
      simp only at hj ⊢
      rw [dg_set]
      by_cases hjk : k = j
      · subst hjk
        rw [if_pos ⟨rfl, by omega⟩]
        rw [← dg_shr ha hs]
        try rw [dg_ge (l := a) (i := k + 1) (by omega), Nat.zero_mul, Nat.zero_add]
      · rw [if_neg (by omega)]
        exact hinv j (by omega)
  · rw [ltb_not] at h2
    simp only at h2
    obtain rfl : k = a.length := by omega
    refine go 800 rfl ?_
    refine atEnd ?_
    refine go 800 rfl ?_
    have hp := trim_PU r (by omega)
    have hv : val r = val a / 2 ^ s := by
      rw [val_of_dg (fun j hj => hinv j (by omega)), hr, Nat.mod_eq_of_lt]
      exact Nat.lt_of_le_of_lt (Nat.div_le_self _ _) (val_lt ha)
    rw [hv] at hp
    refine atCallR rfl rfl ⟨datNat (l := r) hr.symm, trivial⟩ (by rw [rowNat (l := r) hr.symm]; exact hp) fun z => ?_
    refine go 800 rfl ?_
    exact finI rfl rfl rfl trivial rfl
end Go.F

/- Natural numbers: the length of a limb; left. -/
namespace Go.F
attribute [local irreducible] IntKind.wrap wpM

section
variable {T : Tab} {sh : Shr} {nx0 : Nat} {s : List Fr} {t : Tmps} {h : Heap} {z : Frz} {nx : Nat} {q : Ex → Tmps → Heap → Frz → Nat → Prop}

/- the end of a function that runs in its caller's heap -/
theorem finS {fn : KFn} {ex : Ex} {d : D} {K : D → Heap → Frz → Nat → Prop} (hex : (match ex with | .exit _ => false | _ => true) = true) (hd : dres t h fn.res = some d) (hk : K d h z nx) :
    wpM T sh nx0 [] ex t h z nx (wend fn K) := by
  refine atEnd ?_
  cases ex with
  | exit i => cases hex
  | normal => exact dres_sound hd hk
  | ret => exact dres_sound hd hk
end

theorem oldBlk_row {h : Heap} {id : Nat} {l : List Nat} (hh : h id = some (.row (l.map u32) 1)) : oldBlk h id = some (.row (l.map u32) 1) := by
  unfold oldBlk
  rw [hh]
  simp only [plainBlk, all_plain u32_plain]
  rfl

theorem orU32 {c x s : Nat} (hs : s ≤ 31) (hc : c < 2 ^ s) : IntKind.u32.wrap ((BitVec.ofInt IntKind.u32.bits (c : Int) ||| BitVec.ofInt IntKind.u32.bits ((x * 2 ^ s % 4294967296 : Nat) : Int)).toNat : Int) = ((c + x * 2 ^ s % 4294967296 : Nat) : Int)
    ∧ c + x * 2 ^ s % 4294967296 < 4294967296 := by
  have e : (4294967296 : Nat) = 2 ^ s * 2 ^ (32 - s) := by rw [← Nat.pow_add, show s + (32 - s) = 32 by omega]
  have em : x * 2 ^ s % 4294967296 = 2 ^ s * (x % 2 ^ (32 - s)) := by rw [e, Nat.mul_comm x, Nat.mul_mod_mul_left]
  have hx : x % 2 ^ (32 - s) + 1 ≤ 2 ^ (32 - s) := Nat.mod_lt _ (Nat.two_pow_pos _)
  have hlt : c + x * 2 ^ s % 4294967296 < 4294967296 := by
    have := Nat.mul_le_mul_left (2 ^ s) hx
    rw [← e, Nat.mul_add] at this
    omega
  refine ⟨?_, hlt⟩
  have hsp : 2 ^ s ≤ 2 ^ 31 := Nat.pow_le_pow_right (by decide) hs
  rw [ofInt_nat, ofInt_nat, BitVec.or_comm, BitVec.toNat_or, BitVec.toNat_ofNat, BitVec.toNat_ofNat]
  have eb : IntKind.u32.bits = 32 := rfl
  rw [eb, Nat.mod_eq_of_lt (show x * 2 ^ s % 4294967296 < 2 ^ 32 by omega), Nat.mod_eq_of_lt (show c < 2 ^ 32 by omega), em, ← Nat.two_pow_add_eq_or_of_lt hc, ← em, wrapU32, Nat.mod_eq_of_lt (by omega), Nat.add_comm]

set_option maxHeartbeats 2000000 in
theorem left1 (a : List Nat) (s : Nat) [ha : LOk a] (hla : a.length ≤ 1000000000) (hs : s ≤ 31)  {h : Heap} {z : Frz} {K : D → Heap → Frz → Nat → Prop} (hold : (fun (_ : Heap) (_ : Frz) => True) h z)
    (hk : ∀ (r : List Nat) (h' : Heap) (z' : Frz), r.length = a.length + 1 → LOk r → val r = val a * 2 ^ s → h' 80 = some (.row (r.map u32) 1) → z' 80 = 0 → (fun (_ : Heap) (_ : Frz) => True) h' z' → K (.ref 80 0 (a.length + 1)) h' z' 130) :
    wpM TT (shr TT 5) 79 [.code k_natural_left.code] .normal (enter [nat a, .int .i64 s]) h z 79 (wend k_natural_left K) := by
  have h2s : 2 ^ s ≤ 2147483648 := by simpa using Nat.pow_le_pow_right (n := 2) (by decide) hs
  refine go 800 rfl ?_
  have w0 : IntKind.i64.wrap (((a.map u32).length : Int) + 1) = ((a.length + 1 : Nat) : Int) := by rw [List.length_map, wrap64 (by omega) (by omega)]; omega
  rw [w0]
  refine atMake (a.length + 1) rfl rfl rfl (by simp [limit]; omega) ?_
  rw [zeros32]
  refine go 800 rfl ?_
  refine atLoopN (S := fun x : Nat × List Nat => ([encInt s, .ref 80 0 (a.length + 1), nat a, encInt a.length, encInt x.1], [none, some (.row (x.2.map u32) 1), none, none, none], [0, 0, 0, 0, 0]))
    (O := fun _ ho zo => (fun (_ : Heap) (_ : Frz) => True) ho zo)
    (C := fun x => x.1 ≤ a.length ∧ x.2.length = a.length + 1 ∧ LOk x.2 ∧ dg x.2 x.1 < 2 ^ s ∧ val (x.2.take x.1) + 4294967296 ^ x.1 * dg x.2 x.1 = val (a.take x.1) * 2 ^ s ∧ ∀ j, x.1 < j → dg x.2 j = 0) (m := fun x => a.length - x.1) (0, List.replicate (a.length + 1) 0)
    ⟨Nat.zero_le _, by simp, zeros_ok _, by simp only [dg_zeros]; exact Nat.two_pow_pos s, by simp [val, dg_zeros], fun j _ => dg_zeros _ _⟩ (by simp; omega) ?_ ?_
  · exact settleN rfl ⟨all_plain u32_plain _, trivial⟩ ⟨by simp [nat, encInt], trivial⟩
  rintro ⟨k, r⟩ ⟨hk', hr, hro, hc, hinv, hz⟩ ho zo hold N hN
  simp only at hk' hr hro hc hinv hz
  refine go 800 rfl ?_
  refine atCond rfl (fun h2 => ?_) (fun h2 => ?_)
  · rw [ltb_iff] at h2
    simp only at h2
    have hlt : k < a.length := by omega
    have hx := dg_lt ha k
    have hw : IntKind.u64.wrap (dg a k : Int) = (dg a k : Int) := wrapU64 (by omega)
    have w1 : IntKind.i64.wrap ((k : Int) + 1) = ((k + 1 : Nat) : Int) := wrap64 (by omega) (by omega)
    have hxs : dg a k * 2 ^ s ≤ 4294967295 * 2147483648 := Nat.mul_le_mul (by omega) h2s
    obtain ⟨ho1, ho2⟩ := orU32 (x := dg a k) hs hc
    have htop : dg a k * 2 ^ s / 2 ^ 32 < 2 ^ s := by
      rw [Nat.div_lt_iff_lt_mul (by decide), Nat.mul_comm]; exact Nat.mul_lt_mul_of_pos_left (by omega) (Nat.two_pow_pos s)
    refine go 800 rfl ?_
    refine atIdx k rfl rfl rfl (dg_enc hlt) rfl ?_
    refine go 800 rfl ?_
    rw [hw]
    refine atShlN (dg a k) s rfl rfl rfl rfl (by show s ≤ 64; omega) (wrapU64 (by omega)) ?_
    refine go 800 rfl ?_
    refine atIdxR k rfl rfl rfl rfl rfl (by omega) ?_
    refine go 800 rfl ?_
    refine atLoad32 r k rfl (Nat.zero_add _) rfl (by omega) ?_
    refine go 800 rfl ?_
    rw [wrapU32, ho1]
    refine atIdxR k rfl rfl rfl rfl rfl (by omega) ?_
    refine go 800 rfl ?_
    refine atStore32 r k (dg r k + dg a k * 2 ^ s % 4294967296) rfl rfl (Nat.zero_add _) rfl rfl (Nat.zero_le _) (by omega) ?_
    refine go 800 rfl ?_
    refine atShrN (dg a k * 2 ^ s) 32 rfl rfl rfl rfl (by decide) ?_
    have e3 : IntKind.u32.wrap ((dg a k * 2 ^ s / 2 ^ 32 : Nat) : Int) = ((dg a k * 2 ^ s / 2 ^ 32 : Nat) : Int) := by rw [wrapU32]; omega
    refine go 800 rfl ?_
    rw [e3]
    refine atIdxR (k + 1) rfl rfl rfl rfl w1 (by omega) ?_
    refine go 800 rfl ?_
    refine atStore32 (r.set k (dg r k + dg a k * 2 ^ s % 4294967296)) (k + 1) (dg a k * 2 ^ s / 2 ^ 32) rfl rfl (Nat.zero_add _) rfl rfl (Nat.zero_le _) (by simp; omega) ?_
    refine go 800 rfl ?_
    refine atEnd ?_
    refine hN (k + 1, (r.set k (dg r k + dg a k * 2 ^ s % 4294967296)).set (k + 1) (dg a k * 2 ^ s / 2 ^ 32)) ⟨hlt, by simp [hr], (hro.set _ ho2).set _ (by omega), ?_, ?_, ?_⟩ (by simp only; omega)
      (settleN rfl ⟨all_plain u32_plain _, trivial⟩ ⟨by simp [nat, encInt, w1], trivial⟩)
    · simp only
      rw [dg_set, if_pos ⟨rfl, by simp; omega⟩]; exact htop
    · simp only
      rw [dg_set, if_pos ⟨rfl, by simp; omega⟩, List.take_set_of_le (Nat.le_refl _), val_take_set (by omega), val_take a, Nat.add_mul, ← hinv, show (2 : Nat) ^ 32 = 4294967296 by decide, Nat.pow_succ, Nat.add_assoc, Nat.mul_add, Nat.add_assoc, carry_eq, Nat.mul_assoc, Nat.add_assoc]
    · intro j hj
      simp only at hj ⊢
      rw [dg_set, if_neg (by omega), dg_set, if_neg (by omega)]
      exact hz j (by omega)
  · rw [ltb_not] at h2
    simp only at h2
    obtain rfl : k = a.length := by omega
    rw [List.take_length] at hinv
    refine go 800 rfl ?_
    refine atEnd ?_
    refine go 800 rfl ?_
    refine finS rfl rfl (hk r _ _ hr hro ?_ rfl rfl (trivial))
    rw [← hinv, ← List.take_of_length_le (l := r) (i := a.length + 1) (by omega), val_take]
    rw [List.take_of_length_le (l := r) (i := a.length + 1) (by omega)]

set_option maxHeartbeats 2000000 in
theorem left2 (a : List Nat) (s : Nat) [ha : LOk a] (hla : a.length ≤ 1000000000) (hs : s ≤ 31) (us : List Nat) {h : Heap} {z : Frz} {K : D → Heap → Frz → Nat → Prop} (hold : (fun (hh : Heap) (zz : Frz) => hh 80 = some (.row (us.map u32) 1) ∧ zz 80 = 0) h z)
    (hk : ∀ (r : List Nat) (h' : Heap) (z' : Frz), r.length = a.length + 1 → LOk r → val r = val a * 2 ^ s → h' 131 = some (.row (r.map u32) 1) → z' 131 = 0 → (fun (hh : Heap) (zz : Frz) => hh 80 = some (.row (us.map u32) 1) ∧ zz 80 = 0) h' z' → K (.ref 131 0 (a.length + 1)) h' z' 181) :
    wpM TT (shr TT 5) 130 [.code k_natural_left.code] .normal (enter [nat a, .int .i64 s]) h z 130 (wend k_natural_left K) := by
  have h2s : 2 ^ s ≤ 2147483648 := by simpa using Nat.pow_le_pow_right (n := 2) (by decide) hs
  refine go 800 rfl ?_
  have w0 : IntKind.i64.wrap (((a.map u32).length : Int) + 1) = ((a.length + 1 : Nat) : Int) := by rw [List.length_map, wrap64 (by omega) (by omega)]; omega
  rw [w0]
  refine atMake (a.length + 1) rfl rfl rfl (by simp [limit]; omega) ?_
  rw [zeros32]
  refine go 800 rfl ?_
  refine atLoopN (S := fun x : Nat × List Nat => ([encInt s, .ref 131 0 (a.length + 1), nat a, encInt a.length, encInt x.1], [none, some (.row (x.2.map u32) 1), none, none, none], [0, 0, 0, 0, 0]))
    (O := fun _ ho zo => (fun (hh : Heap) (zz : Frz) => hh 80 = some (.row (us.map u32) 1) ∧ zz 80 = 0) ho zo)
    (C := fun x => x.1 ≤ a.length ∧ x.2.length = a.length + 1 ∧ LOk x.2 ∧ dg x.2 x.1 < 2 ^ s ∧ val (x.2.take x.1) + 4294967296 ^ x.1 * dg x.2 x.1 = val (a.take x.1) * 2 ^ s ∧ ∀ j, x.1 < j → dg x.2 j = 0) (m := fun x => a.length - x.1) (0, List.replicate (a.length + 1) 0)
    ⟨Nat.zero_le _, by simp, zeros_ok _, by simp only [dg_zeros]; exact Nat.two_pow_pos s, by simp [val, dg_zeros], fun j _ => dg_zeros _ _⟩ (by simp; omega) ?_ ?_
  · exact settleN rfl ⟨all_plain u32_plain _, trivial⟩ ⟨by simp [nat, encInt], ⟨oldBlk_row hold.1, hold.2⟩⟩
  rintro ⟨k, r⟩ ⟨hk', hr, hro, hc, hinv, hz⟩ ho zo hold N hN
  simp only at hk' hr hro hc hinv hz
  refine go 800 rfl ?_
  refine atCond rfl (fun h2 => ?_) (fun h2 => ?_)
  · rw [ltb_iff] at h2
    simp only at h2
    have hlt : k < a.length := by omega
    have hx := dg_lt ha k
    have hw : IntKind.u64.wrap (dg a k : Int) = (dg a k : Int) := wrapU64 (by omega)
    have w1 : IntKind.i64.wrap ((k : Int) + 1) = ((k + 1 : Nat) : Int) := wrap64 (by omega) (by omega)
    have hxs : dg a k * 2 ^ s ≤ 4294967295 * 2147483648 := Nat.mul_le_mul (by omega) h2s
    obtain ⟨ho1, ho2⟩ := orU32 (x := dg a k) hs hc
    have htop : dg a k * 2 ^ s / 2 ^ 32 < 2 ^ s := by
      rw [Nat.div_lt_iff_lt_mul (by decide), Nat.mul_comm]; exact Nat.mul_lt_mul_of_pos_left (by omega) (Nat.two_pow_pos s)
    refine go 800 rfl ?_
    refine atIdx k rfl rfl rfl (dg_enc hlt) rfl ?_
    refine go 800 rfl ?_
    rw [hw]
    refine atShlN (dg a k) s rfl rfl rfl rfl (by show s ≤ 64; omega) (wrapU64 (by omega)) ?_
    refine go 800 rfl ?_
    refine atIdxR k rfl rfl rfl rfl rfl (by omega) ?_
    refine go 800 rfl ?_
    refine atLoad32 r k rfl (Nat.zero_add _) rfl (by omega) ?_
    refine go 800 rfl ?_
    rw [wrapU32, ho1]
    refine atIdxR k rfl rfl rfl rfl rfl (by omega) ?_
    refine go 800 rfl ?_
    refine atStore32 r k (dg r k + dg a k * 2 ^ s % 4294967296) rfl rfl (Nat.zero_add _) rfl rfl (Nat.zero_le _) (by omega) ?_
    refine go 800 rfl ?_
    refine atShrN (dg a k * 2 ^ s) 32 rfl rfl rfl rfl (by decide) ?_
    have e3 : IntKind.u32.wrap ((dg a k * 2 ^ s / 2 ^ 32 : Nat) : Int) = ((dg a k * 2 ^ s / 2 ^ 32 : Nat) : Int) := by rw [wrapU32]; omega
    refine go 800 rfl ?_
    rw [e3]
    refine atIdxR (k + 1) rfl rfl rfl rfl w1 (by omega) ?_
    refine go 800 rfl ?_
    refine atStore32 (r.set k (dg r k + dg a k * 2 ^ s % 4294967296)) (k + 1) (dg a k * 2 ^ s / 2 ^ 32) rfl rfl (Nat.zero_add _) rfl rfl (Nat.zero_le _) (by simp; omega) ?_
    refine go 800 rfl ?_
    refine atEnd ?_
    refine hN (k + 1, (r.set k (dg r k + dg a k * 2 ^ s % 4294967296)).set (k + 1) (dg a k * 2 ^ s / 2 ^ 32)) ⟨hlt, by simp [hr], (hro.set _ ho2).set _ (by omega), ?_, ?_, ?_⟩ (by simp only; omega)
      (settleN rfl ⟨all_plain u32_plain _, trivial⟩ ⟨by simp [nat, encInt, w1], ⟨oldBlk_row hold.1, hold.2⟩⟩)
    · simp only
      rw [dg_set, if_pos ⟨rfl, by simp; omega⟩]; exact htop
    · simp only
      rw [dg_set, if_pos ⟨rfl, by simp; omega⟩, List.take_set_of_le (Nat.le_refl _), val_take_set (by omega), val_take a, Nat.add_mul, ← hinv, show (2 : Nat) ^ 32 = 4294967296 by decide, Nat.pow_succ, Nat.add_assoc, Nat.mul_add, Nat.add_assoc, carry_eq, Nat.mul_assoc, Nat.add_assoc]
    · intro j hj
      simp only at hj ⊢
      rw [dg_set, if_neg (by omega), dg_set, if_neg (by omega)]
      exact hz j (by omega)
  · rw [ltb_not] at h2
    simp only at h2
    obtain rfl : k = a.length := by omega
    rw [List.take_length] at hinv
    refine go 800 rfl ?_
    refine atEnd ?_
    refine go 800 rfl ?_
    refine finS rfl rfl (hk r _ _ hr hro ?_ rfl rfl (hold))
    rw [← hinv, ← List.take_of_length_le (l := r) (i := a.length + 1) (by omega), val_take]
    rw [List.take_of_length_le (l := r) (i := a.length + 1) (by omega)]
end Go.F

/- Natural numbers: the length of a limb; one digit of a quotient. -/
namespace Go.F
attribute [local irreducible] IntKind.wrap wpM

def len8 : ByteArray := ⟨#[0, 1, 2, 2, 3, 3, 3, 3, 4, 4, 4, 4, 4, 4, 4, 4, 5, 5, 5, 5, 5, 5, 5, 5, 5, 5, 5, 5, 5, 5, 5, 5, 6, 6, 6, 6, 6, 6, 6, 6, 6, 6, 6, 6, 6, 6, 6, 6, 6, 6, 6, 6, 6, 6, 6, 6, 6, 6, 6, 6, 6, 6, 6, 6, 7, 7, 7, 7, 7, 7, 7, 7, 7, 7, 7, 7, 7, 7, 7, 7, 7, 7, 7, 7, 7, 7, 7, 7, 7, 7, 7, 7, 7, 7, 7, 7, 7, 7, 7, 7, 7, 7, 7, 7, 7, 7, 7, 7, 7, 7, 7, 7, 7, 7, 7, 7, 7, 7, 7, 7, 7, 7, 7, 7, 7, 7, 7, 7, 8, 8, 8, 8, 8, 8, 8, 8, 8, 8, 8, 8, 8, 8, 8, 8, 8, 8, 8, 8, 8, 8, 8, 8, 8, 8, 8, 8, 8, 8, 8, 8, 8, 8, 8, 8, 8, 8, 8, 8, 8, 8, 8, 8, 8, 8, 8, 8, 8, 8, 8, 8, 8, 8, 8, 8, 8, 8, 8, 8, 8, 8, 8, 8, 8, 8, 8, 8, 8, 8, 8, 8, 8, 8, 8, 8, 8, 8, 8, 8, 8, 8, 8, 8, 8, 8, 8, 8, 8, 8, 8, 8, 8, 8, 8, 8, 8, 8, 8, 8, 8, 8, 8, 8, 8, 8, 8, 8, 8, 8, 8, 8, 8, 8, 8, 8, 8, 8, 8, 8, 8, 8, 8, 8, 8, 8, 8, 8]⟩

def len8L (k : Nat) : UInt8 := len8.data.toList.getD k 0

set_option maxRecDepth 100000 in
theorem len8_all : ∀ k, k < 256 → len8.data.toList[k]? = some (len8L k) ∧ (len8L k).toNat ≤ 8 ∧ k < 2 ^ (len8L k).toNat ∧ (k ≠ 0 → 2 ^ (len8L k).toNat ≤ 2 * k) := by decide +kernel

theorem len8_at {k : Nat} (h : k < 256) : len8.toList[k]? = some (len8L k) := by
  rw [Go.ByteArray.toList_eq]; exact (len8_all k h).1

theorem Len32_PU (x : Nat) (hx : x < 4294967296) : ∃ L : Nat, PU f_bits_Len32 [.int .u32 x] = some (.int .i64 L) ∧ L ≤ 32 ∧ x < 2 ^ L ∧ (x ≠ 0 → 2 ^ L ≤ 2 * x) := by
  by_cases h1 : 65536 ≤ x
  · by_cases h2 : 256 ≤ x / 2 ^ 16
    · have hy : x / 2 ^ 16 / 2 ^ 8 < 256 := by omega
      obtain ⟨_, g2, g3, g4⟩ := len8_all (x / 2 ^ 16 / 2 ^ 8) hy
      refine ⟨24 + (len8L (x / 2 ^ 16 / 2 ^ 8)).toNat, ?_, by omega, ?_, fun h0 => ?_⟩
      · refine PU_of (fn := k_bits_Len32) rfl (startI ?_)
        refine go 800 rfl ?_
        refine atCond rfl (fun g => ?_) (fun g => ?_)
        · refine go 800 rfl ?_
          refine atShrN x 16 rfl rfl rfl rfl (by decide) ?_
          refine go 800 rfl ?_
          refine atCond rfl (fun g => ?_) (fun g => ?_)
          · refine go 800 rfl ?_
            refine atShrN (x / 2 ^ 16) 8 rfl rfl rfl rfl (by decide) ?_
            have hy : (x / 2 ^ 16 / 2 ^ 8) < 256 := by omega
            obtain ⟨_, g2, g3, g4⟩ := len8_all ((x / 2 ^ 16 / 2 ^ 8)) hy
            have w8 : IntKind.u8.wrap (((x / 2 ^ 16 / 2 ^ 8) : Nat) : Int) = (((x / 2 ^ 16 / 2 ^ 8) : Nat) : Int) := by simp [IntKind.wrap, IntKind.bits, IntKind.signed]; omega
            have w9 : IntKind.i64.wrap (((len8L ((x / 2 ^ 16 / 2 ^ 8))).toNat : Nat) : Int) = (((len8L ((x / 2 ^ 16 / 2 ^ 8))).toNat : Nat) : Int) := wrap64 (by omega) (by omega)
            refine go 800 rfl ?_
            refine atIStr ((x / 2 ^ 16 / 2 ^ 8)) rfl rfl w8 (len8_at hy) ?_
            refine go 800 rfl ?_
            refine finI rfl rfl rfl trivial ?_
            rw [w9]
            congr 1
            rw [wrap64 (x := 16 + 8) (by omega) (by omega), wrap64 (by omega) (by omega)]
            omega
          · rw [leb_not] at g; omega
        · rw [leb_not] at g; omega
      · rw [Nat.pow_add]; omega
      · have := g4 (by omega); rw [Nat.pow_add]; omega
    · have hy : x / 2 ^ 16 < 256 := by omega
      obtain ⟨_, g2, g3, g4⟩ := len8_all (x / 2 ^ 16) hy
      refine ⟨16 + (len8L (x / 2 ^ 16)).toNat, ?_, by omega, ?_, fun h0 => ?_⟩
      · refine PU_of (fn := k_bits_Len32) rfl (startI ?_)
        refine go 800 rfl ?_
        refine atCond rfl (fun g => ?_) (fun g => ?_)
        · refine go 800 rfl ?_
          refine atShrN x 16 rfl rfl rfl rfl (by decide) ?_
          refine go 800 rfl ?_
          refine atCond rfl (fun g => ?_) (fun g => ?_)
          · rw [leb_iff] at g; omega
          · have hy : (x / 2 ^ 16) < 256 := by omega
            obtain ⟨_, g2, g3, g4⟩ := len8_all ((x / 2 ^ 16)) hy
            have w8 : IntKind.u8.wrap (((x / 2 ^ 16) : Nat) : Int) = (((x / 2 ^ 16) : Nat) : Int) := by simp [IntKind.wrap, IntKind.bits, IntKind.signed]; omega
            have w9 : IntKind.i64.wrap (((len8L ((x / 2 ^ 16))).toNat : Nat) : Int) = (((len8L ((x / 2 ^ 16))).toNat : Nat) : Int) := wrap64 (by omega) (by omega)
            refine go 800 rfl ?_
            refine atIStr ((x / 2 ^ 16)) rfl rfl w8 (len8_at hy) ?_
            refine go 800 rfl ?_
            refine finI rfl rfl rfl trivial ?_
            rw [w9]
            congr 1
            rw [wrap64 (by omega) (by omega)]
            omega
        · rw [leb_not] at g; omega
      · rw [Nat.pow_add]; omega
      · have := g4 (by omega); rw [Nat.pow_add]; omega
  · by_cases h2 : 256 ≤ x
    · have hy : x / 2 ^ 8 < 256 := by omega
      obtain ⟨_, g2, g3, g4⟩ := len8_all (x / 2 ^ 8) hy
      refine ⟨8 + (len8L (x / 2 ^ 8)).toNat, ?_, by omega, ?_, fun h0 => ?_⟩
      · refine PU_of (fn := k_bits_Len32) rfl (startI ?_)
        refine go 800 rfl ?_
        refine atCond rfl (fun g => ?_) (fun g => ?_)
        · rw [leb_iff] at g; omega
        · refine go 800 rfl ?_
          refine atCond rfl (fun g => ?_) (fun g => ?_)
          · refine go 800 rfl ?_
            refine atShrN x 8 rfl rfl rfl rfl (by decide) ?_
            have hy : (x / 2 ^ 8) < 256 := by omega
            obtain ⟨_, g2, g3, g4⟩ := len8_all ((x / 2 ^ 8)) hy
            have w8 : IntKind.u8.wrap (((x / 2 ^ 8) : Nat) : Int) = (((x / 2 ^ 8) : Nat) : Int) := by simp [IntKind.wrap, IntKind.bits, IntKind.signed]; omega
            have w9 : IntKind.i64.wrap (((len8L ((x / 2 ^ 8))).toNat : Nat) : Int) = (((len8L ((x / 2 ^ 8))).toNat : Nat) : Int) := wrap64 (by omega) (by omega)
            refine go 800 rfl ?_
            refine atIStr ((x / 2 ^ 8)) rfl rfl w8 (len8_at hy) ?_
            refine go 800 rfl ?_
            refine finI rfl rfl rfl trivial ?_
            rw [w9]
            congr 1
            rw [wrap64 (x := 0 + 8) (by omega) (by omega), wrap64 (by omega) (by omega)]
            omega
          · rw [leb_not] at g; omega
      · rw [Nat.pow_add]; omega
      · have := g4 (by omega); rw [Nat.pow_add]; omega
    · have hy : x < 256 := by omega
      obtain ⟨_, g2, g3, g4⟩ := len8_all x hy
      refine ⟨(len8L x).toNat, ?_, by omega, g3, g4⟩
      refine PU_of (fn := k_bits_Len32) rfl (startI ?_)
      refine go 800 rfl ?_
      refine atCond rfl (fun g => ?_) (fun g => ?_)
      · rw [leb_iff] at g; omega
      · refine go 800 rfl ?_
        refine atCond rfl (fun g => ?_) (fun g => ?_)
        · rw [leb_iff] at g; omega
        · have hy : x < 256 := by omega
          obtain ⟨_, g2, g3, g4⟩ := len8_all (x) hy
          have w8 : IntKind.u8.wrap ((x : Nat) : Int) = ((x : Nat) : Int) := by simp [IntKind.wrap, IntKind.bits, IntKind.signed]; omega
          have w9 : IntKind.i64.wrap (((len8L (x)).toNat : Nat) : Int) = (((len8L (x)).toNat : Nat) : Int) := wrap64 (by omega) (by omega)
          refine go 800 rfl ?_
          refine atIStr (x) rfl rfl w8 (len8_at hy) ?_
          refine go 800 rfl ?_
          refine finI rfl rfl rfl trivial ?_
          rw [w9]
          congr 1
          rw [wrap64 (by omega) (by omega)]
          omega

theorem LeadingZeros32_PU (x : Nat) (hx : x < 4294967296) (h0 : x ≠ 0) : ∃ s : Nat, PU f_bits_LeadingZeros32 [.int .u32 x] = some (.int .i64 s) ∧ s ≤ 31 ∧ 2147483648 ≤ x * 2 ^ s ∧ (x + 1) * 2 ^ s ≤ 4294967296 := by
  obtain ⟨L, h1, h2, h3, h4⟩ := Len32_PU x hx
  have h4 := h4 h0
  have hL : L ≠ 0 := by rintro rfl; simp at h3; exact h0 h3
  refine ⟨32 - L, ?_, by omega, ?_, ?_⟩
  · refine PU_of (fn := k_bits_LeadingZeros32) rfl (startI ?_)
    refine go 800 rfl ?_
    refine atCall rfl rfl h1 ?_
    refine go 800 rfl ?_
    refine finI rfl rfl rfl trivial ?_
    congr 1
    rw [wrap64 (by omega) (by omega)]
    omega
  · have e : 2 ^ L * 2 ^ (32 - L) = 4294967296 := by rw [← Nat.pow_add, show L + (32 - L) = 32 by omega]
    have := Nat.mul_le_mul_right (2 ^ (32 - L)) h4
    rw [e, Nat.mul_assoc] at this
    omega
  · have e : 2 ^ L * 2 ^ (32 - L) = 4294967296 := by rw [← Nat.pow_add, show L + (32 - L) = 32 by omega]
    rw [← e]
    exact Nat.mul_le_mul_right _ h3
end Go.F

/- Natural numbers: one digit of a quotient. -/
namespace Go.F
attribute [local irreducible] IntKind.wrap wpM

theorem dg_mid {pre w post : List Nat} {k : Nat} (h : k < w.length) : dg (pre ++ w ++ post) (pre.length + k) = dg w k := by
  rw [dg_append_left (by simp; omega), dg_append_right (by omega)]
  congr 1; omega

theorem set_mid {pre w post : List Nat} {k v : Nat} (h : k < w.length) : (pre ++ w ++ post).set (pre.length + k) v = pre ++ w.set k v ++ post := by
  rw [List.set_append_left _ _ (by simp; omega), List.set_append_right _ _ (by omega)]
  congr 3; omega

section
variable {T : Tab} {sh : Shr} {nx0 : Nat} {s : List Fr} {t : Tmps} {h : Heap} {z : Frz} {nx : Nat} {q : Ex → Tmps → Heap → Frz → Nat → Prop}
variable {base i : Nat} {res : List Nat} {g : Gd} {rest : List KOper}

theorem atStoreM {hint : Bool} {a v : X} {dst : Option Nat} {id k' : Nat} {w' : Int} (pre w post : List Nat) (k x : Nat) (ha : a.ev t = .ptr id k' 0) (hv : v.ev t = .int .u32 w') (hkk : k' = pre.length + k) (hw : w' = x) (hr : g.h base h id = some (.row ((pre ++ w ++ post).map u32) 1)) (hz : g.z base z id = 0) (hl : k < w.length)
    (hk : wpM T sh nx0 (.ops base res rest :: s) .normal (put t dst (.tup [])) (upd h id (some (.row ((pre ++ w.set k x ++ post).map u32) 1))) z nx q) :
    wpM T sh nx0 (.ops base res (⟨i, dst, none, g, .store hint 1 a v⟩ :: rest) :: s) .normal t h z nx q := by
  refine atStore32 (pre ++ w ++ post) (pre.length + k) x ha hv hkk hw hr (by omega) (by simp; omega) ?_
  rw [set_mid hl]
  exact hk

theorem atLoadM {hint : Bool} {a : X} {dst : Nat} {id k' : Nat} (pre w post : List Nat) (k : Nat) (ha : a.ev t = .ptr id k' 0) (hkk : k' = pre.length + k) (hr : g.h base h id = some (.row ((pre ++ w ++ post).map u32) 1)) (hl : k < w.length)
    (hk : wpM T sh nx0 (.ops base res rest :: s) .normal (upd t dst (.int .u32 (dg w k))) h z nx q) :
    wpM T sh nx0 (.ops base res (⟨i, some dst, none, g, .load hint false 1 a⟩ :: rest) :: s) .normal t h z nx q := by
  refine atLoad32 (pre ++ w ++ post) (pre.length + k) ha hkk hr (by simp; omega) ?_
  rw [dg_mid hl]
  exact hk
end

/- the top of a number -/
theorem val_top {l : List Nat} {n : Nat} (h : LOk l) (hn : l.length = n + 1) : val l = val (l.take n) + 4294967296 ^ n * dg l n ∧ val (l.take n) < 4294967296 ^ n := by
  constructor
  · have := val_take l n
    rwa [List.take_of_length_le (by omega)] at this
  · have := val_lt (h.take n)
    rwa [List.length_take, hn, Nat.min_eq_left (by omega)] at this

theorem val_take_lt {l : List Nat} (h : LOk l) (n : Nat) : val (l.take n) < 4294967296 ^ n := by
  refine Nat.lt_of_lt_of_le (val_lt (h.take n)) (Nat.pow_le_pow_right (by decide) (by simp; omega))

/- what the trial quotient is worth -/
structure Trial (w v : List Nat) (n : Nat) : Prop where
  n2 : 2 ≤ n
  wl : w.length = n + 1
  wo : LOk w
  vo : LOk v
  vl : n ≤ v.length
  hi : 2147483648 ≤ dg v (n - 1)
  lt : val w < 4294967296 * val (v.take n)

theorem aux0 (T : Nat) {d : Nat} (h : 0 < d) : T < (T / d + 1) * d := by
  have := Nat.div_add_mod T d
  have hm := Nat.mod_lt T h
  rw [Nat.add_mul, Nat.one_mul, Nat.mul_comm]
  omega

theorem aux1 {x P T d : Nat} (h1 : x < P) (h2 : d < 4294967296) : x + P * (T * 4294967296 + d) < (T + 1) * (P * 4294967296) := by
  have h3 : P * (T * 4294967296 + d) + P ≤ (T + 1) * (P * 4294967296) := by
    have e : (T + 1) * (P * 4294967296) = P * ((T + 1) * 4294967296) := by rw [Nat.mul_left_comm]
    rw [e, ← Nat.mul_succ]
    exact Nat.mul_le_mul_left _ (by omega)
  omega

theorem aux2 {q a b r d : Nat} (h : r * 4294967296 + d < q * b) : (q * a + r) * 4294967296 + d < q * (a * 4294967296 + b) := by
  grind

theorem aux3 {q a b r d : Nat} (h0 : q * b ≤ 18446744065119617025) (h : 4294967296 ≤ r ∨ q * b ≤ r * 4294967296 + d) : q * (a * 4294967296 + b) ≤ (q * a + r) * 4294967296 + d := by
  rw [Nat.mul_add q, ← Nat.mul_assoc]
  omega

theorem lt_step {x P T : Nat} (h : x < P) : x + P * T < (T + 1) * P := by
  rw [Nat.add_mul, Nat.one_mul, Nat.mul_comm P]; omega

theorem le_step {x P T : Nat} : T * P ≤ x + P * T := by
  rw [Nat.mul_comm P]; omega

theorem Trial.v3 {w v : List Nat} {n : Nat} (h : Trial w v n) : val (v.take n) = val (v.take (n - 2)) + 4294967296 ^ (n - 2) * (dg v (n - 1) * 4294967296 + dg v (n - 2)) := by
  obtain ⟨m, rfl⟩ : ∃ m, n = m + 2 := ⟨n - 2, by have := h.n2; omega⟩
  simp only [Nat.add_sub_cancel, show m + 2 - 1 = m + 1 by omega]
  rw [val_take, val_take, Nat.pow_succ, Nat.mul_add, Nat.mul_assoc, Nat.mul_comm 4294967296]
  omega

theorem Trial.w3 {w v : List Nat} {n : Nat} (h : Trial w v n) : val w = val (w.take (n - 2)) + 4294967296 ^ (n - 2) * ((dg w n * 4294967296 + dg w (n - 1)) * 4294967296 + dg w (n - 2)) := by
  obtain ⟨m, rfl⟩ : ∃ m, n = m + 2 := ⟨n - 2, by have := h.n2; omega⟩
  simp only [Nat.add_sub_cancel, show m + 2 - 1 = m + 1 by omega]
  rw [(val_top h.wo h.wl).1, val_take, val_take, show 4294967296 ^ (m + 2) = 4294967296 ^ m * 4294967296 * 4294967296 by rw [Nat.pow_succ, Nat.pow_succ], Nat.pow_succ]
  generalize 4294967296 ^ m = P
  generalize dg w (m + 2) = a
  generalize dg w (m + 1) = b
  grind

theorem Trial.pos {w v : List Nat} {n : Nat} (h : Trial w v n) : 4294967296 * 4294967296 ^ (n - 2) ≤ val (v.take n) ∧ 0 < val (v.take n) := by
  have hp : 0 < 4294967296 ^ (n - 2) := Nat.pow_pos (by decide)
  have : 4294967296 * 4294967296 ^ (n - 2) ≤ val (v.take n) := by
    rw [h.v3]
    have h1 := h.hi
    have : 4294967296 ^ (n - 2) * 4294967296 ≤ 4294967296 ^ (n - 2) * (dg v (n - 1) * 4294967296 + dg v (n - 2)) := Nat.mul_le_mul_left _ (by omega)
    omega
  exact ⟨this, by omega⟩

theorem Trial.first {w v : List Nat} {n : Nat} (h : Trial w v n) : val w / val (v.take n) ≤ (dg w n * 4294967296 + dg w (n - 1)) / dg v (n - 1) := by
  have hh := h.hi
  have key := kn_gt (U := val w) (V := val (v.take n)) (P := 4294967296 ^ (n - 2) * 4294967296) (ut := dg w n * 4294967296 + dg w (n - 1)) (vt := dg v (n - 1)) (q := (dg w n * 4294967296 + dg w (n - 1)) / dg v (n - 1) + 1) ?_ ?_ h.pos.2 ?_
  · exact Nat.le_of_lt_succ key
  · rw [h.w3]; exact aux1 (val_take_lt h.wo (n - 2)) (dg_lt h.wo (n - 2))
  · rw [h.v3]
    have e : dg v (n - 1) * (4294967296 ^ (n - 2) * 4294967296) = 4294967296 ^ (n - 2) * (dg v (n - 1) * 4294967296) := by rw [Nat.mul_left_comm]
    rw [e, Nat.mul_add]
    exact Nat.le_trans (Nat.le_add_right _ _) (Nat.le_add_left _ _)
  · exact aux0 _ (by omega)

/- the second look -/
theorem Trial.less {w v : List Nat} {n : Nat} (h : Trial w v n) {q r : Nat} (he : q * dg v (n - 1) + r = dg w n * 4294967296 + dg w (n - 1)) (hq : r * 4294967296 + dg w (n - 2) < q * dg v (n - 2)) : val w / val (v.take n) < q := by
  refine kn_gt (P := 4294967296 ^ (n - 2)) (ut := (dg w n * 4294967296 + dg w (n - 1)) * 4294967296 + dg w (n - 2)) (vt := dg v (n - 1) * 4294967296 + dg v (n - 2)) ?_ ?_ h.pos.2 ?_
  · rw [h.w3]; exact lt_step (val_take_lt h.wo (n - 2))
  · rw [h.v3]; exact le_step
  · rw [← he]; exact aux2 hq

theorem Trial.qlt {w v : List Nat} {n : Nat} (h : Trial w v n) : val w / val (v.take n) < 4294967296 := (Nat.div_lt_iff_lt_mul h.pos.2).2 h.lt

theorem Trial.end {w v : List Nat} {n : Nat} (h : Trial w v n) {q r : Nat} (he : q * dg v (n - 1) + r = dg w n * 4294967296 + dg w (n - 1)) (hq : q < 4294967296) (hr : 4294967296 ≤ r ∨ q * dg v (n - 2) ≤ r * 4294967296 + dg w (n - 2)) : q ≤ val w / val (v.take n) + 1 := by
  refine kn_le (P := 4294967296 ^ (n - 2)) (B := 4294967296) (ut := (dg w n * 4294967296 + dg w (n - 1)) * 4294967296 + dg w (n - 2)) (vt := dg v (n - 1) * 4294967296 + dg v (n - 2)) ?_ ?_ h.pos.1 h.pos.2 hq ?_
  · rw [h.w3]; exact le_step
  · rw [h.v3]; exact lt_step (val_take_lt h.vo (n - 2))
  · rw [← he]; exact aux3 (mul_lt32 hq (dg_lt h.vo (n - 2))) hr

/- the guess is at most the base and one more -/
theorem Trial.first_le {w v : List Nat} {n : Nat} (h : Trial w v n) : (dg w n * 4294967296 + dg w (n - 1)) / dg v (n - 1) ≤ 4294967297 ∧ dg w n ≤ dg v (n - 1) := by
  have hh := h.hi
  have h1 : dg w n ≤ dg v (n - 1) := by
    have h2 := h.lt
    have hv : val (v.take n) < (dg v (n - 1) + 1) * (4294967296 ^ (n - 1)) := by
      have := val_take v (n - 1)
      rw [Nat.sub_add_cancel (by have := h.n2; omega)] at this
      rw [this, Nat.add_mul, Nat.one_mul, Nat.mul_comm]
      have := val_take_lt h.vo (n - 1)
      omega
    have hw := (val_top h.wo h.wl).1
    have e : 4294967296 ^ n = 4294967296 * 4294967296 ^ (n - 1) := by
      obtain ⟨m, rfl⟩ : ∃ m, n = m + 1 := ⟨n - 1, by have := h.n2; omega⟩
      rw [Nat.pow_succ, Nat.mul_comm]; rfl
    by_cases hc : dg w n ≤ dg v (n - 1)
    · exact hc
    · exfalso
      have h3 : 4294967296 ^ n * (dg v (n - 1) + 1) ≤ 4294967296 ^ n * dg w n := Nat.mul_le_mul_left _ (by omega)
      rw [e, Nat.mul_assoc, Nat.mul_comm (4294967296 ^ (n - 1))] at h3
      rw [e] at hw
      omega
  refine ⟨?_, h1⟩
  have hl := dg_lt h.wo (n - 1)
  have : dg w n * 4294967296 + dg w (n - 1) < 4294967298 * dg v (n - 1) := by omega
  have := (Nat.div_lt_iff_lt_mul (show 0 < dg v (n - 1) by omega)).2 this
  omega

theorem take_same {a b : List Nat} {k : Nat} (hl : a.length = b.length) (h : ∀ j, k ≤ j → dg a j = dg b j) : a.drop k = b.drop k := by
  apply List.ext_getElem
  · simp [hl]
  · intro j h1 h2
    simp at h1 h2
    have := h (k + j) (by omega)
    rw [dg_get (by omega), dg_get (by omega)] at this
    simpa using this
end Go.F

/- Natural numbers: one digit of a quotient, the walk. -/
namespace Go.F
attribute [local irreducible] IntKind.wrap wpM

/- the caller's blocks: the number that is divided, the divisor, the quotient -/
def Old (U v Q : List Nat) (h : Heap) (z : Frz) : Prop :=
  (∃ h0 : Heap, h = upd (upd (upd h0 4 (some (.row (Q.map u32) 1))) 3 (some (.row (v.map u32) 1))) 2 (some (.row (U.map u32) 1))) ∧ ∃ z0 : Frz, z = upd (upd (upd z0 4 0) 3 0) 2 0

theorem Old.of {U v Q : List Nat} {h : Heap} {z : Frz} (h2 : h 2 = some (.row (U.map u32) 1)) (h3 : h 3 = some (.row (v.map u32) 1)) (h4 : h 4 = some (.row (Q.map u32) 1)) (z2 : z 2 = 0) (z3 : z 3 = 0) (z4 : z 4 = 0) : Old U v Q h z := by
  refine ⟨⟨h, ?_⟩, z, ?_⟩
  · rw [upd_id (f := h) h4, upd_id (f := h) h3, upd_id (f := h) h2]
  · rw [upd_id (f := z) z4, upd_id (f := z) z3, upd_id (f := z) z2]

theorem Old.old {U v Q : List Nat} {h : Heap} {z : Frz} (h2 : h 2 = some (.row (U.map u32) 1)) (h3 : h 3 = some (.row (v.map u32) 1)) (h4 : h 4 = some (.row (Q.map u32) 1)) (z2 : z 2 = 0) (z3 : z 3 = 0) (z4 : z 4 = 0) : Old U v Q (oldBlk h) z :=
  Old.of (oldBlk_row h2) (oldBlk_row h3) (oldBlk_row h4) z2 z3 z4

/- after the multiplied divisor was taken off -/
theorem sub_end {w w' v : List Nat} {n q c b : Nat} (T : Trial w v n) (hq1 : val w / val (v.take n) ≤ q) (hq2 : q ≤ val w / val (v.take n) + 1) (hw' : w'.length = n + 1) (hwo' : LOk w') (hc : c < 4294967296) (hb : b ≤ 1)
    (hinv : val (w'.take n) + q * val (v.take n) = val (w.take n) + 4294967296 ^ n * (b + c)) :
    (c + b ≤ dg w n → q = val w / val (v.take n) ∧ val (w'.set n (dg w n - c - b)) = val w % val (v.take n)) ∧
    (dg w n < c + b → q = val w / val (v.take n) + 1 ∧ dg w n + 4294967296 - c - b < 4294967296 ∧ val (w'.set n (dg w n + 4294967296 - c - b)) + q * val (v.take n) = val w + 4294967296 ^ (n + 1)) := by
  have e1 := (val_top T.wo T.wl).1
  have hset : ∀ x, val (w'.set n x) = val (w'.take n) + 4294967296 ^ n * x := by
    intro x
    have := val_take_set (r := w') (k := n) (v := x) (by omega)
    rwa [List.take_of_length_le (by simp; omega)] at this
  have hV := T.pos.2
  have hlt := val_take_lt hwo' n
  generalize val (v.take n) = V at *
  constructor
  · intro hle
    have e2 : val (w'.set n (dg w n - c - b)) + q * V = val w := by
      rw [hset, e1]
      have : 4294967296 ^ n * (dg w n - c - b) + 4294967296 ^ n * (b + c) = 4294967296 ^ n * dg w n := by rw [← Nat.mul_add]; congr 1; omega
      omega
    have hqle : q ≤ val w / V := (Nat.le_div_iff_mul_le hV).2 (by omega)
    have hq : q = val w / V := by omega
    refine ⟨hq, ?_⟩
    have := Nat.div_add_mod (val w) V
    rw [← hq, Nat.mul_comm] at this
    omega
  · intro hgt
    have hgt' : val w < q * V := by
      rw [e1]
      have h1 : 4294967296 ^ n * (dg w n + 1) ≤ 4294967296 ^ n * (b + c) := Nat.mul_le_mul_left _ (by omega)
      rw [Nat.mul_add, Nat.mul_one] at h1
      omega
    have hne : q ≠ val w / V := by
      intro e
      have := Nat.div_mul_le_self (val w) V
      rw [← e] at this
      omega
    have hwn := dg_lt T.wo n
    have hcb : c + b ≤ dg w n + 4294967296 := by
      by_cases h : c + b ≤ dg w n + 4294967296
      · exact h
      · omega
    refine ⟨by omega, by omega, ?_⟩
    rw [hset, e1, Nat.pow_succ]
    have : 4294967296 ^ n * (dg w n + 4294967296 - c - b) + 4294967296 ^ n * (b + c) = 4294967296 ^ n * dg w n + 4294967296 ^ n * 4294967296 := by rw [← Nat.mul_add, ← Nat.mul_add]; congr 1; omega
    omega

/- after the divisor was added back -/
theorem add_end {w w1 w2 v : List Nat} {n q c : Nat} (T : Trial w v n) (hq : q = val w / val (v.take n) + 1) (h1 : w1.length = n + 1) (h1o : LOk w1) (h2 : w2.length = n + 1) (h2o : LOk w2) (hc : c ≤ 1) (hd : dg w2 n = dg w1 n)
    (hv1 : val w1 + q * val (v.take n) = val w + 4294967296 ^ (n + 1)) (hinv : val (w2.take n) + 4294967296 ^ n * c = val (w1.take n) + val (v.take n)) :
    val (w2.set n ((dg w1 n + c) % 4294967296)) = val w % val (v.take n) := by
  have e1 := (val_top h1o h1).1
  have hset : val (w2.set n ((dg w1 n + c) % 4294967296)) = val (w2.take n) + 4294967296 ^ n * ((dg w1 n + c) % 4294967296) := by
    have := val_take_set (r := w2) (k := n) (v := (dg w1 n + c) % 4294967296) (by omega)
    rwa [List.take_of_length_le (by simp; omega)] at this
  have hV := T.pos.2
  have hl2 := val_take_lt h2o n
  have hdm := Nat.div_add_mod (val w) (val (v.take n))
  have hml := Nat.mod_lt (val w) hV
  have hVl := val_take_lt T.vo n
  generalize val (v.take n) = V at *
  generalize val w / V = Qt at *
  generalize val w % V = R at *
  subst hq
  rw [Nat.add_mul, Nat.one_mul, Nat.mul_comm Qt] at hv1
  have hdl := dg_lt h1o n
  have hcar := carry_eq (4294967296 ^ n) (dg w1 n + c)
  rw [Nat.mul_add (4294967296 ^ n) (dg w1 n) c, ← Nat.pow_succ] at hcar
  have hcase : (dg w1 n + c) / 4294967296 = 0 ∨ (dg w1 n + c) / 4294967296 = 1 := by omega
  rw [hset]
  have hmul : 4294967296 ^ n * ((dg w1 n + c) % 4294967296) + 4294967296 ^ n ≤ 4294967296 ^ (n + 1) := by
    rw [Nat.pow_succ, ← Nat.mul_succ]; exact Nat.mul_le_mul_left _ (Nat.mod_lt _ (by decide))
  rcases hcase with h | h
  · rw [h, Nat.mul_zero] at hcar
    omega
  · rw [h, Nat.mul_one] at hcar
    omega
end Go.F
