/- Parts of the proof, part 24: Stop2. -/
import Derived.Test.YtjjkgfikkihokaaZ23
set_option linter.all false
/- The K machine: what to do where a run stops, operation by operation. -/
namespace Go.F

section
variable {T : Tab} {sh : Shr} {nx0 : Nat} {s : List Fr} {t : Tmps} {h : Heap} {z : Frz} {nx : Nat} {q : Ex → Tmps → Heap → Frz → Nat → Prop}
variable {base i : Nat} {res : List Nat} {dst : Nat} {g : Gd} {rest : List KOper}

theorem wnat_of {n : Int} {i : Nat} {k : Nat → Prop} (hn : n = i) (hk : k i) : wnat n k := by subst hn; exact hk

theorem wint_of {d : D} {kk : IntKind} {n : Int} {i : Nat} {k : Nat → Prop} (hd : d = .int kk n) (hn : n = i) (hk : k i) : wint d k := by subst hd; exact wnat_of hn hk

theorem wall_of {n : Nat} {es : List D} {k : List D → Prop} (h : es.all (fun d => d.cells.length == n) = true) (hk : k es) : wall n es k := by unfold wall; exact ⟨h, hk⟩

theorem wwin_of {n : Nat} {es : List D} {off len : Nat} {k : List D → Prop} (h : off + len ≤ es.length) (ha : ((es.drop off).take len).all (fun d => d.cells.length == n) = true) (hk : k ((es.drop off).take len)) : wwin n es off len k := by unfold wwin; exact ⟨⟨h, ha⟩, hk⟩

/- an element of data -/
theorem atIdx {x ix : X} {l : List D} {kk : IntKind} {n : Int} {sz : Nat} (k : Nat) {d : D} (hx : x.ev t = .lst l) (hi : ix.ev t = .int kk n) (hn : n = k) (hd : l[k]? = some d) (hc : (Nat.beq d.cells.length sz && Nat.blt 0 sz) = true)
    (hk : wpM T sh nx0 (.ops base res rest :: s) .normal (upd t dst (.pl d 0)) h z nx q) :
    wpM T sh nx0 (.ops base res (⟨i, some dst, none, g, .ixs sz x ix⟩ :: rest) :: s) .normal t h z nx q := by
  refine atOp ?_
  simp only [kop, kixs, hx]
  refine wint_of hi hn (widx_of hd ?_)
  rw [fA_eq, hc]
  exact hk

/- the address of an element of a row -/
theorem atIdxR {x ix : X} {id off len : Nat} {es : List D} {esz sz : Nat} {kk : IntKind} {n : Int} (k : Nat) (hx : x.ev t = .ref id off len) (hr : g.h base h id = some (.row es esz)) (he : Nat.beq esz sz = true) (hi : ix.ev t = .int kk n) (hn : n = k) (hl : k < len)
    (hk : wpM T sh nx0 (.ops base res rest :: s) .normal (upd t dst (.ptr id (off + k) 0)) h z nx q) :
    wpM T sh nx0 (.ops base res (⟨i, some dst, none, g, .ixs sz x ix⟩ :: rest) :: s) .normal t h z nx q := by
  refine atOp ?_
  simp only [kop, kixs, hx, hr, he]
  exact wint_of hi hn (wneed_of hl hk)

theorem atLoadR {hint ag : Bool} {n : Nat} {a : X} {id k o : Nat} {es : List D} {esz : Nat} {e d : D} (ha : a.ev t = .ptr id k o) (hr : g.h base h id = some (.row es esz)) (he : es[k]? = some e) (hp : dpart ag n e o = some d)
    (hk : wpM T sh nx0 (.ops base res rest :: s) .normal (upd t dst d) h z nx q) :
    wpM T sh nx0 (.ops base res (⟨i, some dst, none, g, .load hint ag n a⟩ :: rest) :: s) .normal t h z nx q := by
  refine atOp ?_
  simp only [kop, kload, ha, hr]
  exact widx_of he (dpart_sound hp hk)

theorem kset_of : ∀ {es : List D} {i : Nat} {e : D} {f : D → (D → Prop) → Prop} {c : List D → Prop}, es[i]? = some e → f e (fun y => c (es.set i y)) → kset es i f c := by
  intro es
  induction es with
  | nil => intro i e f c h; simp at h
  | cons x es ih =>
    intro i e f c h hf
    cases i with
    | zero => simp at h; subst h; exact hf
    | succ i => simp at h; exact ih h hf

theorem atStoreR {hint : Bool} {n : Nat} {a v : X} {dst : Option Nat} {id k o : Nat} {es : List D} {esz : Nat} {e e' : D} (ha : a.ev t = .ptr id k o) (hv : (Nat.beq (v.ev t).cells.length n && (v.ev t).sto) = true) (hr : g.h base h id = some (.row es esz)) (hz : g.z base z id ≤ k)
    (he : es[k]? = some e) (hs : dsetCells e o (v.ev t).cells = some e')
    (hk : wpM T sh nx0 (.ops base res rest :: s) .normal (put t dst (.tup [])) (upd h id (some (.row (es.set k e') esz))) z nx q) :
    wpM T sh nx0 (.ops base res (⟨i, dst, none, g, .store hint n a v⟩ :: rest) :: s) .normal t h z nx q := by
  refine atOp ?_
  simp only [kop, kstore, ha, hv, hr]
  refine wneed_of hz (kset_of he ?_)
  rw [fA_eq]
  exact dsetCells_sound hs hk

theorem atQuo {e : EqK} {x y : X} {kk : IntKind} {a b : Int} (hx : x.ev t = .int kk a) (hy : y.ev t = .int kk b) (hb : b ≠ 0)
    (hk : wpM T sh nx0 (.ops base res rest :: s) .normal (upd t dst (.int kk (kk.wrap (a.tdiv b)))) h z nx q) :
    wpM T sh nx0 (.ops base res (⟨i, some dst, none, g, .bin .quo e x y⟩ :: rest) :: s) .normal t h z nx q := by
  refine atOp ?_
  simp only [kop, kbin, hx, hy, isShift, decide_true, Bool.or_true, kint]
  exact wneed_of hb hk

theorem atRem {e : EqK} {x y : X} {kk : IntKind} {a b : Int} (hx : x.ev t = .int kk a) (hy : y.ev t = .int kk b) (hb : b ≠ 0)
    (hk : wpM T sh nx0 (.ops base res rest :: s) .normal (upd t dst (.int kk (a.tmod b))) h z nx q) :
    wpM T sh nx0 (.ops base res (⟨i, some dst, none, g, .bin .rem e x y⟩ :: rest) :: s) .normal t h z nx q := by
  refine atOp ?_
  simp only [kop, kbin, hx, hy, isShift, decide_true, Bool.or_true, kint]
  exact wneed_of hb hk

theorem atShl {e : EqK} {x y : X} {kk kk' : IntKind} {a b : Int} (hx : x.ev t = .int kk a) (hy : y.ev t = .int kk' b) (hb : 0 ≤ b)
    (hk : wpM T sh nx0 (.ops base res rest :: s) .normal (upd t dst (.int kk (kk.wrap (a * 2 ^ min b.toNat kk.bits)))) h z nx q) :
    wpM T sh nx0 (.ops base res (⟨i, some dst, none, g, .bin .shl e x y⟩ :: rest) :: s) .normal t h z nx q := by
  refine atOp ?_
  simp only [kop, kbin, hx, hy, isShift, Bool.true_or, kint]
  exact wneed_of hb hk

theorem atShr {e : EqK} {x y : X} {kk kk' : IntKind} {a b : Int} (hx : x.ev t = .int kk a) (hy : y.ev t = .int kk' b) (hb : 0 ≤ b)
    (hk : wpM T sh nx0 (.ops base res rest :: s) .normal (upd t dst (.int kk (a.fdiv (2 ^ min b.toNat kk.bits)))) h z nx q) :
    wpM T sh nx0 (.ops base res (⟨i, some dst, none, g, .bin .shr e x y⟩ :: rest) :: s) .normal t h z nx q := by
  refine atOp ?_
  simp only [kop, kbin, hx, hy, isShift, Bool.true_or, kint]
  exact wneed_of hb hk

/- a call of a function value -/
theorem atCallV {f : X} {args : List X} {fid : FuncId} {dst : Option Nat} (hf : f.ev t = .fn fid [] [])
    (hk : wpM T sh nx0 (.ops base res (⟨i, dst, none, g, .callF fid args⟩ :: rest) :: s) .normal t h z nx q) :
    wpM T sh nx0 (.ops base res (⟨i, dst, none, g, .callV f args⟩ :: rest) :: s) .normal t h z nx q := by
  simp only [wpM, wpo, kop, hf, List.nil_append, List.append_nil] at hk ⊢
  exact hk

/- appends: to a row of one's own, of a row that was made for it; of data -/
theorem atAppR {e : El} {sx x : X} {id0 len id1 k : Nat} {es new : List D} {n1 : Nat} (hs : sx.ev t = .ref id0 0 len) (hr : g.h base h id0 = some (.row es e.n)) (hx : x.ev t = .ref id1 0 k) (hr1 : g.h base h id1 = some (.row new n1))
    (hk1 : k = new.length) (hc : new.all (fun d => d.cells.length == e.n) = true) (hl : len = es.length) (hz : g.z base z id0 ≤ len) (hb : (es.length + new.length) * (e.b + 1) ≤ limit)
    (hk : wpM T sh nx0 (.ops base res rest :: s) .normal (upd t dst (.ref (base + i) 0 (len + k))) (upd (upd h id0 none) (base + i) (some (.row (es ++ new) e.n))) (upd z (base + i) (g.z base z id0)) nx q) :
    wpM T sh nx0 (.ops base res (⟨i, some dst, none, g, .append e .sl sx x⟩ :: rest) :: s) .normal t h z nx q := by
  refine atOp ?_
  subst hk1
  have e1 : ((new.drop 0).take new.length) = new := by simp
  simp only [kop, kappend, hx, wwindow, hr1]
  refine wwin_of (by omega) (by rw [e1]; exact hc) ?_
  rw [e1]
  simp only [kappendNew, hs, hr, Nat.beq_refl]
  exact wneed_of ⟨hl, hz, hb⟩ hk

theorem atAppNilR {e : El} {sx x : X} {id1 k : Nat} {new : List D} {n1 : Nat} (hs : sx.ev t = .nilsl) (hx : x.ev t = .ref id1 0 k) (hr1 : g.h base h id1 = some (.row new n1))
    (hk1 : k = new.length) (hc : new.all (fun d => d.cells.length == e.n) = true) (hb : new.length * (e.b + 1) ≤ limit)
    (hk : wpM T sh nx0 (.ops base res rest :: s) .normal (upd t dst (.ref (base + i) 0 k)) (upd h (base + i) (some (.row new e.n))) (upd z (base + i) 0) nx q) :
    wpM T sh nx0 (.ops base res (⟨i, some dst, none, g, .append e .sl sx x⟩ :: rest) :: s) .normal t h z nx q := by
  refine atOp ?_
  subst hk1
  have e1 : ((new.drop 0).take new.length) = new := by simp
  simp only [kop, kappend, hx, wwindow, hr1]
  refine wwin_of (by omega) (by rw [e1]; exact hc) ?_
  rw [e1]
  simp only [kappendNew, hs]
  exact wneed_of hb hk

theorem atAppL {e : El} {sx x : X} {id0 len : Nat} {es new : List D} (hs : sx.ev t = .ref id0 0 len) (hr : g.h base h id0 = some (.row es e.n)) (hx : x.ev t = .lst new)
    (hc : new.all (fun d => d.cells.length == e.n) = true) (hl : len = es.length) (hz : g.z base z id0 ≤ len) (hb : (es.length + new.length) * (e.b + 1) ≤ limit)
    (hk : wpM T sh nx0 (.ops base res rest :: s) .normal (upd t dst (.ref (base + i) 0 (len + new.length))) (upd (upd h id0 none) (base + i) (some (.row (es ++ new) e.n))) (upd z (base + i) (g.z base z id0)) nx q) :
    wpM T sh nx0 (.ops base res (⟨i, some dst, none, g, .append e .sl sx x⟩ :: rest) :: s) .normal t h z nx q := by
  refine atOp ?_
  simp only [kop, kappend, hx, wwindow]
  refine wall_of hc ?_
  simp only [kappendNew, hs, hr, Nat.beq_refl]
  exact wneed_of ⟨hl, hz, hb⟩ hk

theorem atAppNilL {e : El} {sx x : X} {new : List D} (hs : sx.ev t = .nilsl) (hx : x.ev t = .lst new)
    (hc : new.all (fun d => d.cells.length == e.n) = true) (hb : new.length * (e.b + 1) ≤ limit)
    (hk : wpM T sh nx0 (.ops base res rest :: s) .normal (upd t dst (.ref (base + i) 0 new.length)) (upd h (base + i) (some (.row new e.n))) (upd z (base + i) 0) nx q) :
    wpM T sh nx0 (.ops base res (⟨i, some dst, none, g, .append e .sl sx x⟩ :: rest) :: s) .normal t h z nx q := by
  refine atOp ?_
  simp only [kop, kappend, hx, wwindow]
  refine wall_of hc ?_
  simp only [kappendNew, hs]
  exact wneed_of hb hk

theorem atMake {e : El} {l c : X} {n : Int} {cap : Int} (k : Nat) (hl : l.ev t = .int .i64 n) (hc : c.ev t = .int .i64 cap) (hn : n = k) (hb : (k : Int) ≤ cap ∧ cap * (e.b + 1) ≤ limit)
    (hk : wpM T sh nx0 (.ops base res rest :: s) .normal (upd t dst (.ref (base + i) 0 k)) (upd h (base + i) (some (.row (List.replicate k e.d) e.n))) (upd z (base + i) 0) nx q) :
    wpM T sh nx0 (.ops base res (⟨i, some dst, none, g, .mkslice e l c⟩ :: rest) :: s) .normal t h z nx q := by
  refine atOp ?_
  simp only [kop, hl, hc]
  exact wnat_of hn (wneed_of hb hk)

/- the bounds of a slice expression -/
def Bound (t : Tmps) (x : Option X) (dflt a : Nat) : Prop :=
  match x with
  | none => a = dflt
  | some x => ∃ kk n, x.ev t = .int kk n ∧ n = (a : Int)

theorem wbound_of {x : Option X} {dflt a : Nat} {k : Nat → Prop} (hb : Bound t x dflt a) (hk : k a) : wbound t x dflt k := by
  cases x with
  | none => simp only [Bound] at hb; subst hb; exact hk
  | some x => obtain ⟨kk, n, h1, h2⟩ := hb; exact wint_of h1 h2 hk

theorem atSl {n : Nat} {x : X} {lo hi : Option X} {l : List D} (a b : Nat) (hx : x.ev t = .lst l) (hc : l.all (fun d => d.cells.length == n) = true) (hlo : Bound t lo 0 a) (hhi : Bound t hi l.length b) (hab : a ≤ b ∧ b ≤ l.length)
    (hk : wpM T sh nx0 (.ops base res rest :: s) .normal (upd t dst (.lst ((l.drop a).take (b - a)))) h z nx q) :
    wpM T sh nx0 (.ops base res (⟨i, some dst, none, g, .slsl n x lo hi none⟩ :: rest) :: s) .normal t h z nx q := by
  refine atOp ?_
  simp only [kop, kslsl, hx]
  exact wall_of hc (wbound_of hlo (wbound_of hhi (wneed_of hab hk)))

theorem atSlR0 {n : Nat} {x : X} {hi : Option X} {id off len esz : Nat} {es : List D} (b : Nat) (hx : x.ev t = .ref id off len) (hr : g.h base h id = some (.row es esz)) (he : Nat.beq esz n = true) (hhi : Bound t hi len b) (hab : b ≤ len)
    (hk : wpM T sh nx0 (.ops base res rest :: s) .normal (upd t dst (.ref id off b)) h z nx q) :
    wpM T sh nx0 (.ops base res (⟨i, some dst, none, g, .slsl n x none hi none⟩ :: rest) :: s) .normal t h z nx q := by
  refine atOp ?_
  simp only [kop, kslsl, hx, hr, he]
  exact wbound_of (a := 0) rfl (wbound_of hhi (wneed_of ⟨Nat.zero_le _, hab⟩ hk))

theorem atSlR {n : Nat} {x lo : X} {hi : Option X} {id off len esz : Nat} {es : List D} (a b : Nat) (hx : x.ev t = .ref id off len) (hr : g.h base h id = some (.row es esz)) (he : Nat.beq esz n = true) (hlo : Bound t (some lo) 0 a) (hhi : Bound t hi len b) (hab : a ≤ b ∧ b ≤ len)
    (hk : wpM T sh nx0 (.ops base res rest :: s) .normal (upd t dst (if a = 0 then .ref id off b else if a = b then .lst [] else .ref id (off + a) (b - a))) h z nx q) :
    wpM T sh nx0 (.ops base res (⟨i, some dst, none, g, .slsl n x (some lo) hi none⟩ :: rest) :: s) .normal t h z nx q := by
  refine atOp ?_
  simp only [kop, kslsl, hx, hr, he]
  refine wbound_of hlo (wbound_of hhi (wneed_of hab ?_))
  by_cases h0 : a = 0
  · subst h0; simp only [if_true] at hk; exact hk
  · have hb0 : Nat.beq a 0 = false := by cases a with | zero => exact absurd rfl h0 | succ a => rfl
    rw [hb0]
    simp only [wb]
    rw [if_neg h0] at hk
    by_cases h1 : a = b
    · subst h1; simp only [Nat.beq_refl, if_true] at hk ⊢; exact hk
    · have hb1 : Nat.beq a b = false := by
        cases hb : Nat.beq a b with
        | false => rfl
        | true => exact absurd (Nat.eq_of_beq_eq_true hb) h1
      rw [hb1]
      rw [if_neg h1] at hk
      exact hk

/- a byte of a string -/
theorem atIStr {x ix : X} {st : ByteArray} {kk : IntKind} {n : Int} (k : Nat) {b : UInt8} (hx : x.ev t = .str st) (hi : ix.ev t = .int kk n) (hn : n = k) (hd : st.toList[k]? = some b)
    (hk : wpM T sh nx0 (.ops base res rest :: s) .normal (upd t dst (.int .u8 b.toNat)) h z nx q) :
    wpM T sh nx0 (.ops base res (⟨i, some dst, none, g, .istr x ix⟩ :: rest) :: s) .normal t h z nx q := by
  refine atOp ?_
  simp only [kop, kistr, hx]
  exact wint_of hi hn (widx_of hd hk)

/- a function that runs in this heap -/
theorem atShr' {n : Nat} {f : FuncId} {args : List X} {fn : KFn} {dst : Option Nat} (hs : T.shared f = true) (ht : T.tab f = some fn)
    (hk : wpM T (shr T n) nx [.code fn.code] .normal (enter (args.map (·.ev t))) h z nx (wend fn fun v h z nx => wpM T (shr T (n + 1)) nx0 (.ops base res rest :: s) .normal (put t dst v) h z nx q)) :
    wpM T (shr T (n + 1)) nx0 (.ops base res (⟨i, dst, none, g, .callF f args⟩ :: rest) :: s) .normal t h z nx q := by
  refine atOp ?_
  simp only [kop, kcall, hs, shr, ht]
  simp only [wpM] at hk
  exact hk

/- data that a call may take, or a function give, as it is -/
def dat : Nat → D → Bool
  | 0, _ => false
  | n + 1, d =>
    match d with
    | .bool _ | .int _ _ | .float _ _ | .str _ | .lst _ | .mlst _ _ | .opq _ | .pl _ _ => true
    | .agg l => l.all (dat n)
    | .tup l => l.all (dat n)
    | _ => false

theorem snap_dat {hp : Heap} : ∀ (n m : Nat) (d : D), dat n d = true → n ≤ m → snap hp m d = some d := by
  intro n
  induction n with
  | zero => intro m d hd; simp [dat] at hd
  | succ n ih =>
    intro m d hd hm
    obtain ⟨m, rfl⟩ : ∃ k, m = k + 1 := ⟨m - 1, by omega⟩
    have list : ∀ l : List D, l.all (dat n) = true → l.mapM (snap hp m) = some l := by
      intro l
      induction l with
      | nil => intro _; rfl
      | cons x l ihl =>
        intro hl
        simp only [List.all_cons, Bool.and_eq_true] at hl
        simp [List.mapM_cons, ih m x hl.1 (by omega), ihl hl.2]
    cases d with
    | agg l => simp only [dat] at hd; simp [snap, list l hd]
    | tup l => simp only [dat] at hd; simp [snap, list l hd]
    | _ => first | (simp [dat] at hd; done) | simp [snap]

theorem snaps_dat {hp : Heap} {es : List D} (hd : es.all (dat 4) = true) : es.mapM (snap hp 8) = some es := by
  induction es with
  | nil => rfl
  | cons x es ih =>
    simp only [List.all_cons, Bool.and_eq_true] at hd
    simp [List.mapM_cons, snap_dat 4 8 x hd.1 (by omega), ih hd.2]

/- the result of a function: rows that must be data, and the datum -/
def dr0 (h : Heap) (d : D) : Option (List (List D × Nat × Nat) × D) :=
  match d with
  | .bool b => some ([], .bool b)
  | .int i n => some ([], .int i n)
  | .float i n => some ([], .float i n)
  | .str s => some ([], .str s)
  | .nilsl => some ([], .lst [])
  | .lst l => some ([], .lst l)
  | .mlst a b => some ([], .mlst a b)
  | .ref id off len =>
    match h id with
    | some (.row es _) =>
      match off with
      | 0 => some ([(es, 0, len)], .lst (es.take len))
      | off + 1 => some ([(es, off + 1, len)], .lst ((es.drop (off + 1)).take len))
    | _ => none
  | .fn f [] [] => some ([], .fn f [] [])
  | _ => none

def drL0 (h : Heap) : List D → Option (List (List D × Nat × Nat) × List D)
  | [] => some ([], [])
  | x :: xs =>
    match dr0 h x with
    | some (r, x) =>
      match drL0 h xs with
      | some (rs, xs) => fL0 xs fun xs => some (r ++ rs, x :: xs)
      | none => none
    | none => none

def dr1 (h : Heap) (d : D) : Option (List (List D × Nat × Nat) × D) :=
  match d with
  | .agg l =>
    match drL0 h l with
    | some (r, l) => fL0 l fun l => some (r, .agg l)
    | none => none
  | d => dr0 h d

def drL1 (h : Heap) : List D → Option (List (List D × Nat × Nat) × List D)
  | [] => some ([], [])
  | x :: xs =>
    match dr1 h x with
    | some (r, x) => f1 x fun x =>
      match drL1 h xs with
      | some (rs, xs) => fL1 xs fun xs => some (r ++ rs, x :: xs)
      | none => none
    | none => none

def dr2 (h : Heap) (d : D) : Option (List (List D × Nat × Nat) × D) :=
  match d with
  | .tup l =>
    match drL1 h l with
    | some (r, l) => fL1 l fun l => some (r, .tup l)
    | none => none
  | d => dr1 h d

def DatRows : List (List D × Nat × Nat) → Prop
  | [] => True
  | x :: rest => (x.2.1 + x.2.2 ≤ x.1.length ∧ ((x.1.drop x.2.1).take x.2.2).all (dat 4) = true) ∧ DatRows rest

theorem DatRows_append : ∀ {a b : List (List D × Nat × Nat)}, DatRows (a ++ b) → DatRows a ∧ DatRows b := by
  intro a
  induction a with
  | nil => intro b h; exact ⟨trivial, h⟩
  | cons x a ih => intro b h; obtain ⟨h1, h2⟩ := ih h.2; exact ⟨⟨h.1, h1⟩, h2⟩

theorem dr0_sound {hp : Heap} {d d' : D} {r : List (List D × Nat × Nat)} {k : D → Prop} (hd : dr0 hp d = some (r, d')) (hr : DatRows r) (hk : k d') : ws0 hp d k := by
  unfold dr0 at hd
  split at hd
  case h_8 =>
    rename_i id off len
    split at hd
    · rename_i es esz hb
      split at hd
      · simp only [Option.some.injEq, Prod.mk.injEq] at hd
        obtain ⟨rfl, rfl⟩ := hd
        simp only [ws0, hb]
        unfold wrow
        refine ⟨_, hr.1.1, snaps_dat hr.1.2, ?_⟩
        simpa using hk
      · simp only [Option.some.injEq, Prod.mk.injEq] at hd
        obtain ⟨rfl, rfl⟩ := hd
        simp only [ws0, hb]
        unfold wrow
        exact ⟨_, hr.1.1, snaps_dat hr.1.2, hk⟩
    · cases hd
  all_goals first | (simp only [Option.some.injEq, Prod.mk.injEq] at hd; obtain ⟨rfl, rfl⟩ := hd; exact hk) | cases hd

theorem drL0_sound {hp : Heap} : ∀ {l l' : List D} {r : List (List D × Nat × Nat)} {k : List D → Prop}, drL0 hp l = some (r, l') → DatRows r → k l' → wsL0 hp l k := by
  intro l
  induction l with
  | nil => intro l' r k hd _ hk; simp only [drL0, Option.some.injEq, Prod.mk.injEq] at hd; obtain ⟨rfl, rfl⟩ := hd; exact hk
  | cons x l ih =>
    intro l' r k hd hr hk
    simp only [drL0] at hd
    split at hd
    · rename_i r1 x' hx
      split at hd
      · rename_i rs xs hxs
        rw [fL0_eq] at hd
        simp only [Option.some.injEq, Prod.mk.injEq] at hd
        obtain ⟨rfl, rfl⟩ := hd
        obtain ⟨h1, h2⟩ := DatRows_append hr
        simp only [wsL0]
        exact dr0_sound hx h1 (ih hxs h2 hk)
      · cases hd
    · cases hd

theorem dr1_sound {hp : Heap} {d d' : D} {r : List (List D × Nat × Nat)} {k : D → Prop} (hd : dr1 hp d = some (r, d')) (hr : DatRows r) (hk : k d') : ws1 hp d k := by
  unfold dr1 at hd
  unfold ws1
  split at hd
  · split at hd
    · rename_i r1 l hl
      rw [fL0_eq] at hd
      simp only [Option.some.injEq, Prod.mk.injEq] at hd
      obtain ⟨rfl, rfl⟩ := hd
      exact drL0_sound hl hr hk
    · cases hd
  · rename_i hne
    split
    · rename_i l; exact absurd rfl (hne l)
    · rename_i f a c
      match a, c, hd with
      | [], [], hd => simp only [dr0, Option.some.injEq, Prod.mk.injEq] at hd; obtain ⟨rfl, rfl⟩ := hd; exact hk
      | x :: _, _, hd => simp [dr0] at hd
      | [], x :: _, hd => simp [dr0] at hd
    · exact dr0_sound hd hr hk

theorem drL1_sound {hp : Heap} : ∀ {l l' : List D} {r : List (List D × Nat × Nat)} {k : List D → Prop}, drL1 hp l = some (r, l') → DatRows r → k l' → wsL1 hp l k := by
  intro l
  induction l with
  | nil => intro l' r k hd _ hk; simp only [drL1, Option.some.injEq, Prod.mk.injEq] at hd; obtain ⟨rfl, rfl⟩ := hd; exact hk
  | cons x l ih =>
    intro l' r k hd hr hk
    simp only [drL1] at hd
    split at hd
    · rename_i r1 x' hx
      rw [f1_eq] at hd
      split at hd
      · rename_i rs xs hxs
        rw [fL1_eq] at hd
        simp only [Option.some.injEq, Prod.mk.injEq] at hd
        obtain ⟨rfl, rfl⟩ := hd
        obtain ⟨h1, h2⟩ := DatRows_append hr
        simp only [wsL1]
        exact dr1_sound hx h1 (ih hxs h2 hk)
      · cases hd
    · cases hd

theorem dr2_sound {hp : Heap} {d d' : D} {r : List (List D × Nat × Nat)} {k : D → Prop} (hd : dr2 hp d = some (r, d')) (hr : DatRows r) (hk : k d') : ws2 hp d k := by
  unfold dr2 at hd
  unfold ws2
  split at hd
  · split at hd
    · rename_i r1 l hl
      rw [fL1_eq] at hd
      simp only [Option.some.injEq, Prod.mk.injEq] at hd
      obtain ⟨rfl, rfl⟩ := hd
      exact drL1_sound hl hr hk
    · cases hd
  · rename_i hne
    split
    · rename_i l; exact absurd rfl (hne l)
    · exact dr1_sound hd hr hk

/- results -/
def dres1 (t : Tmps) (h : Heap) (r : KRes) : Option D :=
  match r with
  | .t i => some (t i)
  | .cell a ag n => dload true h ag n (t a)

def dresL (t : Tmps) (h : Heap) : List KRes → Option (List D)
  | [] => some []
  | r :: rs =>
    match dres1 t h r with
    | some d => f1 d fun d =>
      match dresL t h rs with
      | some ds => fL1 ds fun ds => some (d :: ds)
      | none => none
    | none => none

def dres (t : Tmps) (h : Heap) (rs : List KRes) : Option D :=
  match dresL t h rs with
  | some [d] => some d
  | some l => some (.tup l)
  | none => none

theorem dresL_sound : ∀ {rs : List KRes} {l : List D} {k : List D → Prop}, dresL t h rs = some l → k l → wresL t h rs k := by
  intro rs
  induction rs with
  | nil => intro l k hd hk; simp only [dresL, Option.some.injEq] at hd; subst hd; exact hk
  | cons r rs ih =>
    intro l k hd hk
    simp only [dresL] at hd
    split at hd
    · rename_i d hr
      rw [f1_eq] at hd
      split at hd
      · rename_i ds hds
        rw [fL1_eq] at hd
        cases hd
        simp only [wresL]
        unfold dres1 at hr
        unfold wres1
        split at hr
        · cases hr; simp only [f2_eq]; exact ih hds hk
        · refine dload_sound hr ?_
          rw [f2_eq]; exact ih hds hk
      · cases hd
    · cases hd

theorem dres_sound {rs : List KRes} {d : D} {k : D → Prop} (hd : dres t h rs = some d) (hk : k d) : wres t h rs k := by
  unfold dres at hd
  unfold wres
  split at hd
  · rename_i d' hl
    cases hd
    exact dresL_sound hl hk
  · rename_i l hne hl
    cases hd
    refine dresL_sound hl ?_
    split
    · rename_i d; exact absurd rfl (hne d)
    · exact hk
  · cases hd

/- the end of a pure function -/
theorem finI {fn : KFn} {ex : Ex} {r d d' : D} {rows : List (List D × Nat × Nat)} (hex : (match ex with | .exit _ => false | _ => true) = true) (hd : dres t h fn.res = some d) (hs : dr2 h d = some (rows, d')) (hr : DatRows rows) (he : d' = r) :
    wpM T sh nx0 [] ex t h z nx (wend fn fun d h _ _ => ws2 h d fun d => d = r) := by
  refine atEnd ?_
  cases ex with
  | exit i => cases hex
  | normal => exact dres_sound hd (dr2_sound hs hr he)
  | ret => exact dres_sound hd (dr2_sound hs hr he)

theorem startI {fn : KFn} {args : List D} {r : D} (hw : wpM T (shr T 6) 0 [.code fn.code] .normal (enter args) empty none0 0 (wend fn fun d h _ _ => ws2 h d fun d => d = r)) : wfun T fn args r := by
  simp only [wpM] at hw
  exact hw

end

end Go.F
