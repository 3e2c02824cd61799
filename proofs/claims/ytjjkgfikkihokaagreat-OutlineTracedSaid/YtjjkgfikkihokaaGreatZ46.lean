/- Parts of the proof, part 46: Trc2, Ply1, Ply2, Ply3, Awk0, Awk1. -/
import Derived.Test.YtjjkgfikkihokaaGreatZ45
set_option linter.all false
namespace Go.F
attribute [local irreducible] IntKind.wrap wpM
section
variable {T : Tab} {sh : Shr} {nx0 : Nat} {s : List Fr} {t : q0z} {h : q0e} {z : Frz} {nx : Nat} {q : Ex → q0z → q0e → Frz → Nat → Prop}
variable {base i : Nat} {res : List Nat} {g : Gd} {rest : List KOper}
theorem qw8 {f : FuncId} {dst : Nat} {a b : X} {id : Nat} {ks : List ByteArray} {vs : List D} {d r : D} (hs : T.shared f = false) (ha : a.ev t = .mref id) (hh : g.h base h id = some (.mp ks vs)) (hv : vs.all (dat 4) = true)
 (hb : b.ev t = d) (hd : ∀ k : D → Prop, k d → ws1 (g.h base h) d k) (hdd : dat 4 d = true) (hp : T.pu f [.mlst ks vs, d] = some r)
 (hk : ∀ n, wpM T sh nx0 (.ops base res rest :: s) .normal (upd t dst r) h (upd z id n) nx q) :
 wpM T sh nx0 (.ops base res (⟨i, some dst, none, g, .callF f [a, b]⟩ :: rest) :: s) .normal t h z nx q := by
 refine q54 ?_
 have h1 : ∀ k : D → Prop, k (.mlst ks vs) → ws1 (g.h base h) (.mref id) k := by
  intro k hk; simp only [ws1, ws0, hh, qp8]; exact ⟨vs, qb8 hv, hk⟩
 have hr : [D.mref id, d].flatMap (q0R (g.h base h) depth) = [id] := by
  simp only [List.flatMap_cons, List.flatMap_nil, qn6 4 depth d hdd, List.append_nil]
  show q0R _ 12 _ = _
  rw [q0R, hh]
  simp only
  rw [q9Y hv]
 have hz : wpM T sh nx0 (.ops base res rest :: s) .normal (upd t dst r) h z nx q := by
  have := hk (z id)
  rw [q2w (f := z) rfl] at this; exact this
 simp only [kop, q9i, hs, List.map_cons, List.map_nil, qeS, ha, hb, hr]
 refine h1 _ (hd _ ?_)
 unfold qf3
 refine ⟨r, hp, ?_⟩
 simp only [q9q]
 split
 ·exact hz
 ·exact hk _
end
structure Nmd where
 name : ByteArray
 at_ : RP
def Nmd.enc (n : Nmd) : D := .agg [.str n.name, .bool n.at_.x.neg, nat n.at_.x.mag, nat n.at_.x.den, .bool n.at_.y.neg, nat n.at_.y.mag, nat n.at_.y.den]
def q4I (p : List Nmd) : D := .lst (p.map Nmd.enc)
def q1X (l : List Crvd) : D := .lst (l.map Crvd.enc)
def qiT (m : List (ByteArray × RP)) (n : Nmd) : List (ByteArray × RP) := if (q3z m n.name).isSome then m else m ++ [(n.name, n.at_)]
def places (p : List Nmd) : List (ByteArray × RP) := p.foldl qiT []
theorem qqm (p : List Nmd) {k : Nat} (h : k < p.length) : places (p.take (k + 1)) = qiT (places (p.take k)) p[k] := by
 rw [List.take_succ_eq_append_getElem h, places, List.foldl_append]; rfl
theorem qrZ (p : List Nmd) : ∀ m : List (ByteArray × RP), ∀ q ∈ p.foldl qiT m, q ∈ m ∨ ∃ n ∈ p, q = (n.name, n.at_) := by
 induction p with
 | nil => intro m q h; exact .inl h
 | cons n p ih =>
   intro m q h
   rcases ih _ q h with h | ⟨n', h1, h2⟩
   ·unfold qiT at h
    split at h
    ·exact .inl h
    ·rcases List.mem_append.1 h with h | h
     ·exact .inl h
     ·rw [List.mem_singleton] at h; exact .inr ⟨n, List.mem_cons_self, h⟩
   ·exact .inr ⟨n', List.mem_cons_of_mem _ h1, h2⟩
theorem qid {k : Nat} {p : List Nmd} (h : ∀ n ∈ p, SzP n.at_ k) : MB k (places p) := by
 intro q hq
 rcases qrZ p [] q hq with h1 | ⟨n, h1, rfl⟩
 ·cases h1
 ·exact h n h1
def eg1 (m : List (ByteArray × RP)) (c : Crvd) : Edge := ⟨c.name, (q1A m c).1⟩
def trE (m : List (ByteArray × RP)) : List Crvd → Int
 | [] => 0
 | c :: l => if (q1A m c).2 = 0 then trE m l else (q1A m c).2
def cv (l : List Crvd) (i : Nat) : Crvd := l.getD i ⟨⟨#[]⟩, [], 0⟩
def qek (c : Crvd) : ByteArray := c.ctl.getD (c.ctl.length - 1) ⟨#[]⟩
def qel (c : Crvd) : ByteArray := c.ctl.getD 0 ⟨#[]⟩
def linked (l : List Crvd) (i : Nat) : Prop := (qek (cv l i)).toList = (qel (cv l ((i + 1) % l.length))).toList
instance (l : List Crvd) (i : Nat) : Decidable (linked l i) := inferInstanceAs (Decidable (_ = _))
def q2l (p : List Nmd) (l : List Crvd) : List Edge × Int :=
 if 16 < l.length then ([], 5)
 else if trE (places p) l ≠ 0 then ([], trE (places p) l)
 else if ∀ i, i < l.length → linked l i then (if q0J (l.map (eg1 (places p))) = 0 then (l.map (eg1 (places p)), 0) else ([], q0J (l.map (eg1 (places p)))))
 else ([], 11)
theorem q55 {l : List Crvd} {i : Nat} (h : i < l.length) : cv l i = l[i] := by simp [cv, h]
theorem qcc {l : List Crvd} {i : Nat} (h : i < l.length) : (l.map Crvd.enc)[i]? = some (cv l i).enc := by
 rw [List.getElem?_map, List.getElem?_eq_getElem h, q55 h]; rfl
theorem mapM_len {α β : Type} (f : α → Option β) : ∀ (l : List α) (r : List β), l.mapM f = some r → r.length = l.length := by
 intro l
 induction l with
 | nil => intro r h; cases h; rfl
 | cons x l ih =>
   intro r h
   rw [List.mapM_cons] at h
   cases h1 : f x with
   | none => rw [h1] at h; cases h
   | some y =>
     rw [h1] at h
     cases h2 : l.mapM f with
     | none => rw [h2] at h; cases h
     | some qs => rw [h2] at h; cases h; simp [ih qs h2]
theorem qou {p : List Nmd} {i : Nat} (h : i < p.length) : (p.map Nmd.enc)[i]? = some (p[i]).enc := by
 rw [List.getElem?_map, List.getElem?_eq_getElem h]; rfl
theorem qsO {m : List (ByteArray × RP)} : ∀ {l : List Crvd}, trE m l = 0 → ∀ c ∈ l, 2 ≤ c.ctl.length := by
 intro l
 induction l with
 | nil => intro _ c hc; cases hc
 | cons d l ih =>
   intro h c hc
   rw [trE] at h
   by_cases e : (q1A m d).2 = 0
   ·rw [if_pos e] at h
    rcases List.mem_cons.1 hc with rfl | hc
    ·unfold q1A at e
     split at e
     ·simp at e
     ·rename_i ps hps
      have hl := mapM_len _ _ _ hps
      split at e
      ·rename_i e2
       unfold q38 at e2
       split at e2
       ·omega
       ·simp at e2
      ·rename_i e2; exact absurd e e2
    ·exact ih h c hc
   ·rw [if_neg e] at h; exact absurd h e
theorem Mm_dat (m : List (ByteArray × RP)) : ((Mm m).map (·.2)).all (dat 4) = true := by
 unfold Mm; rw [List.map_map]; exact q0T (fun _ => rfl) _
theorem qha (m : List (ByteArray × RP)) : ((Mm m).map (·.2)).all (plain 4) = true := by
 unfold Mm; rw [List.map_map]; exact q04 (fun _ => rfl) _
set_option maxHeartbeats 4000000 in
theorem q5i (p : List Nmd) (l : List Crvd) {k : Nat} (hm : ∀ n ∈ p, SzP n.at_ k) (hk : k ≤ 100) (hp : p.length ≤ 1000) (hl : l.length ≤ 1000) (hc : ∀ c ∈ l, c.ctl.length ≤ 1000) :
 PU q2E [q4I p, q1X l] = some (.tup [q0s (q2l p l).1, .int .i64 (q2l p l).2]) := by
 have hMB := qid hm
 refine q0f (fn := q84) rfl (q0a ?_)
 refine go 800 rfl ?_
 refine q02 rfl (fun e0 => ?_) (fun e0 => ?_)
 ·rw [q06, List.length_map] at e0
  have hr : q2l p l = ([], 5) := by rw [q2l, if_pos (by omega)]
  refine go 800 rfl ?_
  refine q0c rfl rfl rfl trivial ?_
  rw [hr]; rfl
 rw [q07, List.length_map] at e0
 refine go 800 rfl ?_
 rw [show (p.map Nmd.enc).length = p.length from List.length_map _]
 refine q0p (S := fun i : Nat => ([q1X l, .mref 1, q4I p, q01 p.length, q01 i], [none, some (.mp ((Mm (places (p.take i))).map (·.1)) ((Mm (places (p.take i))).map (·.2))), none, none, none], [0, 0, 0, 0, 0])) (C := fun i => i ≤ p.length) (m := fun i => p.length - i) 0 (Nat.zero_le _) (by omega) ?_ ?_
 ·exact qgH (o := [.p _]) (kp := ([q1X l, .mref 1, q4I p, q01 p.length, q01 0], [none, some (.mp [] []), none, none, none], [0, 0, 0, 0, 0])) [] rfl ⟨rfl, trivial⟩ rfl
 intro i hi N hN
 refine go 800 rfl ?_
 refine q02 rfl (fun e1 => ?_) (fun e1 => ?_)
 ·rw [q06] at e1
  have hlt : i < p.length := by omega
  have w1 : IntKind.i64.wrap ((i : Int) + 1) = ((i + 1 : Nat) : Int) := wrap64 (by omega) (by omega)
  have hst := qqm p hlt
  have hnd := qou hlt
  generalize p[i] = n at *
  generalize places (p.take i) = m at *
  refine go 800 rfl ?_
  refine q0i i rfl rfl rfl hnd rfl ?_
  refine go 800 rfl ?_
  refine atLook (m := Mm m) rfl rfl rfl (fun v hv => ?_) (fun hv => ?_)
  ·rw [qln, Option.map_eq_some_iff] at hv
   obtain ⟨r, hr, rfl⟩ := hv
   have hst : places (p.take (i + 1)) = m := by rw [hst, qiT, if_pos (by rw [hr]; rfl)]
   refine go 800 rfl ?_
   refine q0n rfl ?_
   refine go 800 rfl ?_
   refine q05 ?_
   refine hN (i + 1) hlt (by omega) (qgH (o := [.p _]) (kp := ([q1X l, .mref 1, q4I p, q01 p.length, .int .i64 (IntKind.i64.wrap ((i : Int) + 1))], [none, some (.mp ((Mm m).map (·.1)) ((Mm m).map (·.2))), none, none, none], [0, 0, 0, 0, 0])) [] rfl ⟨qha _, trivial⟩ ?_)
   rw [w1, hst]; rfl
  ·rw [qln, Option.map_eq_none_iff] at hv
   have hst : places (p.take (i + 1)) = m ++ [(n.name, n.at_)] := by rw [hst, qiT, if_neg (by rw [hv]; decide)]
   refine go 800 rfl ?_
   refine q0m rfl ?_
   refine go 800 rfl ?_
   refine atPut (m := Mm m) rfl rfl rfl rfl (by rw [qln, hv]; rfl) ?_
   refine go 800 rfl ?_
   refine q05 ?_
   have hM : Mm m ++ [(n.name, n.at_.enc)] = Mm (m ++ [(n.name, n.at_)]) := by simp [Mm]
   refine hN (i + 1) hlt (by omega) (qgH (o := [.p _]) (kp := ([q1X l, .mref 1, q4I p, q01 p.length, .int .i64 (IntKind.i64.wrap ((i : Int) + 1))], [none, some (.mp ((Mm m ++ [(n.name, n.at_.enc)]).map (·.1)) ((Mm m ++ [(n.name, n.at_.enc)]).map (·.2))), none, none, none], [0, 0, 0, 0, 0])) [] rfl ⟨?_, trivial⟩ ?_)
   ·show List.all ((Mm m ++ [(n.name, n.at_.enc)]).map (·.2)) _ = true
    rw [hM]; exact qha _
   ·rw [w1, hst, hM]; rfl
 rw [q07] at e1
 obtain rfl : i = p.length := by omega
 rw [List.take_length]
 clear hN
 have hrp : q2l p l = if trE (places p) l ≠ 0 then ([], trE (places p) l)
  else if ∀ i, i < l.length → linked l i then (if q0J (l.map (eg1 (places p))) = 0 then (l.map (eg1 (places p)), 0) else ([], q0J (l.map (eg1 (places p)))))
  else ([], 11) := by rw [q2l, if_neg (by omega)]
 rw [hrp]
 generalize places p = m at *
 refine go 800 rfl ?_
 refine q05 ?_
 refine go 800 rfl ?_
 rw [show (l.map Crvd.enc).length = l.length from List.length_map _]
 refine q0p (S := fun x : Nat × Nat => ([q1X l, .mref 1, .ref 2 0 x.1, q1X l, q01 l.length, q01 x.1], [none, some (.mp ((Mm m).map (·.1)) ((Mm m).map (·.2))), some (.row (((l.take x.1).map (eg1 m)).map Edge.enc) 2), none, none, none], [0, x.2, 0, 0, 0, 0])) (C := fun x => x.1 ≤ l.length ∧ trE m l = trE m (l.drop x.1)) (m := fun x => l.length - x.1) (0, 0) ⟨Nat.zero_le _, rfl⟩ (by show l.length - 0 < _; omega) ?_ ?_
 ·exact qgH (o := [.p _, .p []]) (kp := ([q1X l, .mref 1, .ref 2 0 0, q1X l, q01 l.length, q01 0], [none, some (.mp ((Mm m).map (·.1)) ((Mm m).map (·.2))), some (.row [] 2), none, none, none], [0, 0, 0, 0, 0, 0])) [none] rfl ⟨qha _, rfl, trivial⟩ rfl
 rintro ⟨i, zm⟩ ⟨hi, hie⟩ N hN
 simp only at hi hie
 refine go 800 rfl ?_
 refine q02 rfl (fun e2 => ?_) (fun e2 => ?_)
 ·rw [q06] at e2
  have hlt : i < l.length := by omega
  have w1 : IntKind.i64.wrap ((i : Int) + 1) = ((i + 1 : Nat) : Int) := wrap64 (by omega) (by omega)
  have hdr : l.drop i = cv l i :: l.drop (i + 1) := by rw [List.drop_eq_getElem_cons hlt, q55 hlt]
  have ht := qic m (cv l i) hMB hk (hc _ (by rw [q55 hlt]; exact List.getElem_mem _))
  have hst : ((l.take (i + 1)).map (eg1 m)).map Edge.enc = ((l.take i).map (eg1 m)).map Edge.enc ++ [(eg1 m (cv l i)).enc] := by
   rw [List.take_succ_eq_append_getElem hlt, List.map_append, List.map_append, q55 hlt]; rfl
  rw [hdr, trE] at hie
  refine go 800 rfl ?_
  refine q0i i rfl rfl rfl (qcc hlt) rfl ?_
  refine go 800 rfl ?_
  refine qw8 rfl rfl rfl (Mm_dat _) rfl (fun k hk => hk) rfl ht fun zn => ?_
  refine go 800 rfl ?_
  refine q02 rfl (fun e3 => ?_) (fun e3 => ?_)
  ·rw [q0O] at e3
   rw [if_neg e3] at hie
   refine go 800 rfl ?_
   refine q05 ?_
   refine go 800 rfl ?_
   refine q0c rfl rfl rfl trivial ?_
   rw [if_pos (by rw [hie]; exact e3), hie]; rfl
  ·rw [q0S] at e3
   rw [if_pos e3] at hie
   refine go 800 rfl ?_
   refine q1e rfl rfl rfl rfl rfl rfl (by simp; omega) (Nat.zero_le _) (by simp [q0K]; omega) ?_
   refine go 800 rfl ?_
   refine q05 ?_
   refine hN (i + 1, zn) ⟨hlt, hie⟩ (by show _ - (i + 1) < _ - i; omega) (qgH (o := [.p _, .p _]) (kp := ([q1X l, .mref 1, .ref 2 0 (i + 1), q1X l, q01 l.length, .int .i64 (IntKind.i64.wrap ((i : Int) + 1))], [none, some (.mp ((Mm m).map (·.1)) ((Mm m).map (·.2))), some (.row (((l.take i).map (eg1 m)).map Edge.enc ++ [(eg1 m (cv l i)).enc]) 2), none, none, none], [0, zn, 0, 0, 0, 0])) [none] rfl ⟨qha _, ?_, trivial⟩ ?_)
   ·show List.all _ _ = true
    rw [List.all_append, q04 q1G]; rfl
   ·rw [w1, ← hst]; rfl
 rw [q07] at e2
 obtain rfl : i = l.length := by have e2 : (l.length : Int) ≤ (i : Int) := e2; omega
 rw [List.take_length]
 clear hN
 have hie : trE m l = 0 := by rw [hie, List.drop_length]; rfl
 rw [if_neg (by rw [hie]; decide)]
 have hctl := qsO hie
 refine go 800 rfl ?_
 refine q05 ?_
 refine go 800 rfl ?_
 rw [show (l.map Crvd.enc).length = l.length from List.length_map _]
 refine q0p (S := fun i : Nat => ([q1X l, .ref 1 0 l.length, q1X l, q01 l.length, q01 i], [none, some (.row ((l.map (eg1 m)).map Edge.enc) 2), none, none, none], [0, 0, 0, 0, 0])) (C := fun i => i ≤ l.length ∧ ∀ j, j < i → linked l j) (m := fun i => l.length - i) 0 ⟨Nat.zero_le _, fun _ h => absurd h (by omega)⟩ (by omega) ?_ ?_
 ·exact q03 rfl ⟨q04 q1G _, trivial⟩ (by simp [q1X, q01])
 rintro i ⟨hi, hil⟩ N hN
 refine go 800 rfl ?_
 refine q02 rfl (fun e3 => ?_) (fun e3 => ?_)
 ·rw [q06] at e3
  have hlt : i < l.length := by omega
  have hm' : (i + 1) % l.length < l.length := Nat.mod_lt _ (by omega)
  have w1 : IntKind.i64.wrap ((i : Int) + 1) = ((i + 1 : Nat) : Int) := wrap64 (by omega) (by omega)
  have c1 := hctl (cv l i) (by rw [q55 hlt]; exact List.getElem_mem _)
  have c2 := hctl (cv l ((i + 1) % l.length)) (by rw [q55 hm']; exact List.getElem_mem _)
  have c3 := hc (cv l i) (by rw [q55 hlt]; exact List.getElem_mem _)
  have w2 : IntKind.i64.wrap ((((cv l i).ctl.map D.str).length : Int) - 1) = (((cv l i).ctl.length - 1 : Nat) : Int) := by rw [List.length_map, wrap64 (by omega) (by omega)]; omega
  refine go 800 rfl ?_
  refine q0i i rfl rfl rfl (qcc hlt) rfl ?_
  refine go 800 rfl ?_
  refine q3Y rfl rfl (by rw [List.length_map]; omega) ?_
  refine go 800 rfl ?_
  refine q0i ((i + 1) % l.length) rfl rfl (by rw [w1, List.length_map, q1m]) (qcc hm') rfl ?_
  refine go 800 rfl ?_
  refine q0i ((cv l i).ctl.length - 1) rfl rfl w2 (d := .str (qek (cv l i))) (by rw [List.getElem?_map, List.getElem?_eq_getElem (by omega)]; simp [qek, List.getD, (by omega : (cv l i).ctl.length - 1 < (cv l i).ctl.length)]) rfl ?_
  refine go 800 rfl ?_
  refine q0i 0 rfl rfl rfl (d := .str (qel (cv l ((i + 1) % l.length)))) (by rw [List.getElem?_map, List.getElem?_eq_getElem (by omega)]; simp [qel, List.getD, (by omega : 0 < (cv l ((i + 1) % l.length)).ctl.length)]) rfl ?_
  refine go 800 rfl ?_
  refine q02 rfl (fun e4 => ?_) (fun e4 => ?_)
  ·have e4 : ¬ linked l i := by
    intro g; unfold linked at g; rw [g] at e4; simp at e4
   rw [if_neg (fun g => e4 (g i hlt))]
   refine go 800 rfl ?_
   refine q05 ?_
   refine go 800 rfl ?_
   refine q0c rfl rfl rfl trivial ?_
   rfl
  ·have e4 : linked l i := by
    unfold linked; simpa using e4
   refine go 800 rfl ?_
   refine q05 ?_
   refine hN (i + 1) ⟨hlt, fun j hj => ?_⟩ (by omega) (q03 rfl ⟨q04 q1G _, trivial⟩ (by simp [q1X, q01, w1]))
   rcases Nat.lt_succ_iff_lt_or_eq.1 hj with h | rfl
   ·exact hil j h
   ·exact e4
 rw [q07] at e3
 obtain rfl : i = l.length := by omega
 rw [if_pos hil]
 clear hN
 refine go 800 rfl ?_
 refine q05 ?_
 refine go 800 rfl ?_
 refine q8C rfl rfl ⟨q2u (by simp) (q0T q5u _), trivial⟩ (by rw [q2q (by simp)]; exact q1h _) rfl ?_
 refine go 800 rfl ?_
 refine q02 rfl (fun e5 => ?_) (fun e5 => ?_)
 ·rw [q0O] at e5
  rw [if_neg e5]
  refine go 800 rfl ?_
  refine q0c rfl rfl rfl trivial ?_
  rfl
 ·rw [q0S] at e5
  rw [if_pos e5]
  refine go 800 rfl ?_
  refine q0c rfl rfl rfl ⟨q2u (by simp) (q0T q5u _), trivial⟩ ?_
  rw [q2q (by simp)]; rfl
end Go.F

namespace Go.F
attribute [local irreducible] IntKind.wrap wpM
theorem q9S {x S : Nat} (hY : x / 2 ^ S < 256) (h0 : S ≠ 0 → x / 2 ^ S ≠ 0) : S + (q2v (x / 2 ^ S)).toNat = bl x := by
 obtain ⟨_, g2, g3, g4⟩ := q2o (x / 2 ^ S) hY
 have hx : x < (x / 2 ^ S + 1) * 2 ^ S := by
  have := Nat.div_add_mod x (2 ^ S)
  have h2 := Nat.mod_lt x (Nat.pow_pos (n := S) (show 0 < 2 by decide))
  rw [Nat.add_mul, Nat.mul_comm (x / 2 ^ S)]; omega
 by_cases hy0 : x / 2 ^ S = 0
 ·have hS : S = 0 := by
   rcases Nat.eq_zero_or_pos S with h | h
   ·exact h
   ·exact absurd hy0 (h0 (by omega))
  subst hS
  rw [Nat.pow_zero, Nat.div_one] at hy0
  subst hy0
  decide +kernel
 ·have hd : x / 2 ^ S * 2 ^ S ≤ x := Nat.div_mul_le_self _ _
  have g4 := g4 hy0
  generalize (q2v (x / 2 ^ S)).toNat = e at *
  generalize x / 2 ^ S = Y at *
  have h1 : x < 2 ^ (S + e) := by
   rw [Nat.pow_add]
   calc x < (Y + 1) * 2 ^ S := hx
    _ ≤ 2 ^ e * 2 ^ S := Nat.mul_le_mul_right _ g3
    _ = 2 ^ S * 2 ^ e := Nat.mul_comm _ _
  have h2 : 2 ^ (S + e) ≤ 2 * x := by
   rw [Nat.pow_add]
   calc 2 ^ S * 2 ^ e ≤ 2 ^ S * (2 * Y) := Nat.mul_le_mul_left _ g4
    _ = 2 * (Y * 2 ^ S) := by ac_rfl
    _ ≤ 2 * x := Nat.mul_le_mul_left _ hd
  have hx0 : x ≠ 0 := by rintro rfl; have := Nat.pow_pos (n := S + e) (show 0 < 2 by decide); omega
  unfold bl
  rw [if_neg hx0]
  have a1 := (Nat.log2_lt hx0).2 h1
  have a2 : S + e - 1 ≤ x.log2 := by
   rcases Nat.eq_zero_or_pos (S + e) with h | h
   ·omega
   ·refine (Nat.le_log2 hx0).2 ?_
    have : 2 ^ (S + e) = 2 * 2 ^ (S + e - 1) := by rw [← Nat.pow_succ']; congr 1; omega
    omega
  omega
set_option maxHeartbeats 4000000 in
theorem qvI (x : Nat) (hx : x < 18446744073709551616) : PU qgA [.int .u64 x] = some (.int .i64 (bl x)) := by
 refine q0f (fn := qbx) rfl (q0a ?_)
 refine go 800 rfl ?_
 refine q02 rfl (fun g1 => ?_) (fun g1 => ?_)
 ·rw [q1k] at g1
  refine go 800 rfl ?_
  refine q1N x 32 rfl rfl rfl rfl (by decide) ?_
  refine go 800 rfl ?_
  refine q02 rfl (fun g2 => ?_) (fun g2 => ?_)
  ·rw [q1k] at g2
   refine go 800 rfl ?_
   refine q1N ((x / 2 ^ 32)) 16 rfl rfl rfl rfl (by decide) ?_
   refine go 800 rfl ?_
   refine q02 rfl (fun g3 => ?_) (fun g3 => ?_)
   ·rw [q1k] at g3
    refine go 800 rfl ?_
    refine q1N (((x / 2 ^ 32) / 2 ^ 16)) 8 rfl rfl rfl rfl (by decide) ?_
    have eY : (((x / 2 ^ 32) / 2 ^ 16) / 2 ^ 8) = x / 2 ^ 56 := by simp only [Nat.div_div_eq_div_mul]; try rfl
    have hy : x / 2 ^ 56 < 256 := by rw [← eY]; omega
    have hfin := q9S (x := x) (S := 56) hy (fun h => by rw [← eY]; omega)
    rw [eY]
    obtain ⟨_, g2, g3, g4⟩ := q2o (x / 2 ^ 56) hy
    have w8 : IntKind.u8.wrap ((x / 2 ^ 56 : Nat) : Int) = ((x / 2 ^ 56 : Nat) : Int) := by simp only [IntKind.wrap, IntKind.bits, IntKind.signed]; simp; omega
    have w9 : IntKind.i64.wrap (((q2v (x / 2 ^ 56)).toNat : Nat) : Int) = (((q2v (x / 2 ^ 56)).toNat : Nat) : Int) := wrap64 (by omega) (by omega)
    refine go 800 rfl ?_
    refine q5s (x / 2 ^ 56) rfl rfl w8 (q5U hy) ?_
    refine go 800 rfl ?_
    refine q0c rfl rfl rfl trivial ?_
    rw [w9, ← hfin]
    congr 1
    try simp only [wrap64 (x := 32 + 16) (by decide) (by decide), wrap64 (x := 32 + 8) (by decide) (by decide), wrap64 (x := 48 + 8) (by decide) (by decide), wrap64 (x := 0 + 16) (by decide) (by decide), wrap64 (x := 0 + 8) (by decide) (by decide), wrap64 (x := 16 + 8) (by decide) (by decide), wrap64 (x := 32 + 16 + 8) (by decide) (by decide), wrap64 (x := 0 + 16 + 8) (by decide) (by decide)]
    rw [wrap64 (by omega) (by omega)]
    omega
   ·rw [q1f] at g3
    have eY : (((x / 2 ^ 32) / 2 ^ 16)) = x / 2 ^ 48 := by simp only [Nat.div_div_eq_div_mul]; try rfl
    have hy : x / 2 ^ 48 < 256 := by rw [← eY]; omega
    have hfin := q9S (x := x) (S := 48) hy (fun h => by rw [← eY]; omega)
    rw [eY]
    obtain ⟨_, g2, g3, g4⟩ := q2o (x / 2 ^ 48) hy
    have w8 : IntKind.u8.wrap ((x / 2 ^ 48 : Nat) : Int) = ((x / 2 ^ 48 : Nat) : Int) := by simp only [IntKind.wrap, IntKind.bits, IntKind.signed]; simp; omega
    have w9 : IntKind.i64.wrap (((q2v (x / 2 ^ 48)).toNat : Nat) : Int) = (((q2v (x / 2 ^ 48)).toNat : Nat) : Int) := wrap64 (by omega) (by omega)
    refine go 800 rfl ?_
    refine q5s (x / 2 ^ 48) rfl rfl w8 (q5U hy) ?_
    refine go 800 rfl ?_
    refine q0c rfl rfl rfl trivial ?_
    rw [w9, ← hfin]
    congr 1
    try simp only [wrap64 (x := 32 + 16) (by decide) (by decide), wrap64 (x := 32 + 8) (by decide) (by decide), wrap64 (x := 48 + 8) (by decide) (by decide), wrap64 (x := 0 + 16) (by decide) (by decide), wrap64 (x := 0 + 8) (by decide) (by decide), wrap64 (x := 16 + 8) (by decide) (by decide), wrap64 (x := 32 + 16 + 8) (by decide) (by decide), wrap64 (x := 0 + 16 + 8) (by decide) (by decide)]
    rw [wrap64 (by omega) (by omega)]
    omega
  ·rw [q1f] at g2
   refine go 800 rfl ?_
   refine q02 rfl (fun g3 => ?_) (fun g3 => ?_)
   ·rw [q1k] at g3
    refine go 800 rfl ?_
    refine q1N (((x / 2 ^ 32))) 8 rfl rfl rfl rfl (by decide) ?_
    have eY : (((x / 2 ^ 32)) / 2 ^ 8) = x / 2 ^ 40 := by simp only [Nat.div_div_eq_div_mul]; try rfl
    have hy : x / 2 ^ 40 < 256 := by rw [← eY]; omega
    have hfin := q9S (x := x) (S := 40) hy (fun h => by rw [← eY]; omega)
    rw [eY]
    obtain ⟨_, g2, g3, g4⟩ := q2o (x / 2 ^ 40) hy
    have w8 : IntKind.u8.wrap ((x / 2 ^ 40 : Nat) : Int) = ((x / 2 ^ 40 : Nat) : Int) := by simp only [IntKind.wrap, IntKind.bits, IntKind.signed]; simp; omega
    have w9 : IntKind.i64.wrap (((q2v (x / 2 ^ 40)).toNat : Nat) : Int) = (((q2v (x / 2 ^ 40)).toNat : Nat) : Int) := wrap64 (by omega) (by omega)
    refine go 800 rfl ?_
    refine q5s (x / 2 ^ 40) rfl rfl w8 (q5U hy) ?_
    refine go 800 rfl ?_
    refine q0c rfl rfl rfl trivial ?_
    rw [w9, ← hfin]
    congr 1
    try simp only [wrap64 (x := 32 + 16) (by decide) (by decide), wrap64 (x := 32 + 8) (by decide) (by decide), wrap64 (x := 48 + 8) (by decide) (by decide), wrap64 (x := 0 + 16) (by decide) (by decide), wrap64 (x := 0 + 8) (by decide) (by decide), wrap64 (x := 16 + 8) (by decide) (by decide), wrap64 (x := 32 + 16 + 8) (by decide) (by decide), wrap64 (x := 0 + 16 + 8) (by decide) (by decide)]
    rw [wrap64 (by omega) (by omega)]
    omega
   ·rw [q1f] at g3
    have eY : (((x / 2 ^ 32))) = x / 2 ^ 32 := by simp only [Nat.div_div_eq_div_mul]; try rfl
    have hy : x / 2 ^ 32 < 256 := by rw [← eY]; omega
    have hfin := q9S (x := x) (S := 32) hy (fun h => by rw [← eY]; omega)
    rw [eY]
    obtain ⟨_, g2, g3, g4⟩ := q2o (x / 2 ^ 32) hy
    have w8 : IntKind.u8.wrap ((x / 2 ^ 32 : Nat) : Int) = ((x / 2 ^ 32 : Nat) : Int) := by simp only [IntKind.wrap, IntKind.bits, IntKind.signed]; simp; omega
    have w9 : IntKind.i64.wrap (((q2v (x / 2 ^ 32)).toNat : Nat) : Int) = (((q2v (x / 2 ^ 32)).toNat : Nat) : Int) := wrap64 (by omega) (by omega)
    refine go 800 rfl ?_
    refine q5s (x / 2 ^ 32) rfl rfl w8 (q5U hy) ?_
    refine go 800 rfl ?_
    refine q0c rfl rfl rfl trivial ?_
    rw [w9, ← hfin]
    congr 1
    try simp only [wrap64 (x := 32 + 16) (by decide) (by decide), wrap64 (x := 32 + 8) (by decide) (by decide), wrap64 (x := 48 + 8) (by decide) (by decide), wrap64 (x := 0 + 16) (by decide) (by decide), wrap64 (x := 0 + 8) (by decide) (by decide), wrap64 (x := 16 + 8) (by decide) (by decide), wrap64 (x := 32 + 16 + 8) (by decide) (by decide), wrap64 (x := 0 + 16 + 8) (by decide) (by decide)]
    rw [wrap64 (by omega) (by omega)]
    omega
 ·rw [q1f] at g1
  refine go 800 rfl ?_
  refine q02 rfl (fun g2 => ?_) (fun g2 => ?_)
  ·rw [q1k] at g2
   refine go 800 rfl ?_
   refine q1N (x) 16 rfl rfl rfl rfl (by decide) ?_
   refine go 800 rfl ?_
   refine q02 rfl (fun g3 => ?_) (fun g3 => ?_)
   ·rw [q1k] at g3
    refine go 800 rfl ?_
    refine q1N ((x / 2 ^ 16)) 8 rfl rfl rfl rfl (by decide) ?_
    have eY : ((x / 2 ^ 16) / 2 ^ 8) = x / 2 ^ 24 := by simp only [Nat.div_div_eq_div_mul]; try rfl
    have hy : x / 2 ^ 24 < 256 := by rw [← eY]; omega
    have hfin := q9S (x := x) (S := 24) hy (fun h => by rw [← eY]; omega)
    rw [eY]
    obtain ⟨_, g2, g3, g4⟩ := q2o (x / 2 ^ 24) hy
    have w8 : IntKind.u8.wrap ((x / 2 ^ 24 : Nat) : Int) = ((x / 2 ^ 24 : Nat) : Int) := by simp only [IntKind.wrap, IntKind.bits, IntKind.signed]; simp; omega
    have w9 : IntKind.i64.wrap (((q2v (x / 2 ^ 24)).toNat : Nat) : Int) = (((q2v (x / 2 ^ 24)).toNat : Nat) : Int) := wrap64 (by omega) (by omega)
    refine go 800 rfl ?_
    refine q5s (x / 2 ^ 24) rfl rfl w8 (q5U hy) ?_
    refine go 800 rfl ?_
    refine q0c rfl rfl rfl trivial ?_
    rw [w9, ← hfin]
    congr 1
    try simp only [wrap64 (x := 32 + 16) (by decide) (by decide), wrap64 (x := 32 + 8) (by decide) (by decide), wrap64 (x := 48 + 8) (by decide) (by decide), wrap64 (x := 0 + 16) (by decide) (by decide), wrap64 (x := 0 + 8) (by decide) (by decide), wrap64 (x := 16 + 8) (by decide) (by decide), wrap64 (x := 32 + 16 + 8) (by decide) (by decide), wrap64 (x := 0 + 16 + 8) (by decide) (by decide)]
    rw [wrap64 (by omega) (by omega)]
    omega
   ·rw [q1f] at g3
    have eY : ((x / 2 ^ 16)) = x / 2 ^ 16 := by simp only [Nat.div_div_eq_div_mul]; try rfl
    have hy : x / 2 ^ 16 < 256 := by rw [← eY]; omega
    have hfin := q9S (x := x) (S := 16) hy (fun h => by rw [← eY]; omega)
    rw [eY]
    obtain ⟨_, g2, g3, g4⟩ := q2o (x / 2 ^ 16) hy
    have w8 : IntKind.u8.wrap ((x / 2 ^ 16 : Nat) : Int) = ((x / 2 ^ 16 : Nat) : Int) := by simp only [IntKind.wrap, IntKind.bits, IntKind.signed]; simp; omega
    have w9 : IntKind.i64.wrap (((q2v (x / 2 ^ 16)).toNat : Nat) : Int) = (((q2v (x / 2 ^ 16)).toNat : Nat) : Int) := wrap64 (by omega) (by omega)
    refine go 800 rfl ?_
    refine q5s (x / 2 ^ 16) rfl rfl w8 (q5U hy) ?_
    refine go 800 rfl ?_
    refine q0c rfl rfl rfl trivial ?_
    rw [w9, ← hfin]
    congr 1
    try simp only [wrap64 (x := 32 + 16) (by decide) (by decide), wrap64 (x := 32 + 8) (by decide) (by decide), wrap64 (x := 48 + 8) (by decide) (by decide), wrap64 (x := 0 + 16) (by decide) (by decide), wrap64 (x := 0 + 8) (by decide) (by decide), wrap64 (x := 16 + 8) (by decide) (by decide), wrap64 (x := 32 + 16 + 8) (by decide) (by decide), wrap64 (x := 0 + 16 + 8) (by decide) (by decide)]
    rw [wrap64 (by omega) (by omega)]
    omega
  ·rw [q1f] at g2
   refine go 800 rfl ?_
   refine q02 rfl (fun g3 => ?_) (fun g3 => ?_)
   ·rw [q1k] at g3
    refine go 800 rfl ?_
    refine q1N ((x)) 8 rfl rfl rfl rfl (by decide) ?_
    have eY : ((x) / 2 ^ 8) = x / 2 ^ 8 := by simp only [Nat.div_div_eq_div_mul]; try rfl
    have hy : x / 2 ^ 8 < 256 := by rw [← eY]; omega
    have hfin := q9S (x := x) (S := 8) hy (fun h => by rw [← eY]; omega)
    rw [eY]
    obtain ⟨_, g2, g3, g4⟩ := q2o (x / 2 ^ 8) hy
    have w8 : IntKind.u8.wrap ((x / 2 ^ 8 : Nat) : Int) = ((x / 2 ^ 8 : Nat) : Int) := by simp only [IntKind.wrap, IntKind.bits, IntKind.signed]; simp; omega
    have w9 : IntKind.i64.wrap (((q2v (x / 2 ^ 8)).toNat : Nat) : Int) = (((q2v (x / 2 ^ 8)).toNat : Nat) : Int) := wrap64 (by omega) (by omega)
    refine go 800 rfl ?_
    refine q5s (x / 2 ^ 8) rfl rfl w8 (q5U hy) ?_
    refine go 800 rfl ?_
    refine q0c rfl rfl rfl trivial ?_
    rw [w9, ← hfin]
    congr 1
    try simp only [wrap64 (x := 32 + 16) (by decide) (by decide), wrap64 (x := 32 + 8) (by decide) (by decide), wrap64 (x := 48 + 8) (by decide) (by decide), wrap64 (x := 0 + 16) (by decide) (by decide), wrap64 (x := 0 + 8) (by decide) (by decide), wrap64 (x := 16 + 8) (by decide) (by decide), wrap64 (x := 32 + 16 + 8) (by decide) (by decide), wrap64 (x := 0 + 16 + 8) (by decide) (by decide)]
    rw [wrap64 (by omega) (by omega)]
    omega
   ·rw [q1f] at g3
    have hy : x < 256 := by omega
    have hfin := q9S (x := x) (S := 0) (by simpa using hy) (fun h => absurd rfl h)
    rw [Nat.pow_zero, Nat.div_one, Nat.zero_add] at hfin
    obtain ⟨_, g2, g3, g4⟩ := q2o x hy
    have w8 : IntKind.u8.wrap (x : Int) = (x : Int) := by simp only [IntKind.wrap, IntKind.bits, IntKind.signed]; simp; omega
    have w9 : IntKind.i64.wrap (((q2v x).toNat : Nat) : Int) = (((q2v x).toNat : Nat) : Int) := wrap64 (by omega) (by omega)
    refine go 800 rfl ?_
    refine q5s x rfl rfl w8 (q5U hy) ?_
    refine go 800 rfl ?_
    refine q0c rfl rfl rfl trivial ?_
    rw [w9, ← hfin, wrap64 (by omega) (by omega)]
    congr 1
    omega
theorem qpO (x : Nat) (hx : x < 18446744073709551616) : PU qkb [.int .u64 x] = some (.int .i64 (bl x)) := by
 refine q0f (fn := qfs) rfl (q0a ?_)
 refine go 800 rfl ?_
 refine q0n rfl ?_
 refine go 800 rfl ?_
 refine q00 rfl rfl (qvI x hx) ?_
 refine go 800 rfl ?_
 exact q0c rfl rfl rfl trivial rfl
def qkY (n : Nat) : Nat := qiX n 32 0
theorem qi4 {n : Nat} (h : n < 2 ^ 64) : qkY n * qkY n ≤ n ∧ n < (qkY n + 1) * (qkY n + 1) :=
 qm8 n 32 0 (Nat.zero_le _) (by simp; omega)
theorem qpP {n r : Nat} (h : n < 2 ^ 64) (h1 : r * r ≤ n) (h2 : n < (r + 1) * (r + 1)) : r = qkY n := by
 obtain ⟨g1, g2⟩ := qi4 h
 have := qg2 (Nat.lt_of_le_of_lt h1 g2)
 have := qg2 (Nat.lt_of_le_of_lt g1 h2)
 omega
theorem newton {n x : Nat} (hx : 0 < x) : n < ((x + n / x) / 2 + 1) * ((x + n / x) / 2 + 1) := by
 have h1 : n < x * (n / x + 1) := by
  have := Nat.div_add_mod n x
  have h2 := Nat.mod_lt n hx
  rw [Nat.mul_add]; omega
 generalize n / x = q at *
 have h2 : x + (q + 1) ≤ 2 * ((x + q) / 2 + 1) := by omega
 generalize (x + q) / 2 + 1 = s at *
 have h3 : 4 * (x * (q + 1)) ≤ (x + (q + 1)) * (x + (q + 1)) := by
  generalize q + 1 = r
  rcases Nat.le_total x r with h | h
  ·obtain ⟨d, rfl⟩ : ∃ d, r = x + d := ⟨r - x, by omega⟩
   have : (x + (x + d)) * (x + (x + d)) = 4 * (x * (x + d)) + d * d := by grind
   omega
  ·obtain ⟨d, rfl⟩ : ∃ d, x = r + d := ⟨x - r, by omega⟩
   have : (r + d + r) * (r + d + r) = 4 * ((r + d) * r) + d * d := by grind
   omega
 have h4 : (x + (q + 1)) * (x + (q + 1)) ≤ (2 * s) * (2 * s) := Nat.mul_le_mul h2 h2
 have h5 : (2 * s) * (2 * s) = 4 * (s * s) := by grind
 omega
theorem qi5 (n : Nat) (hn : n < 9223372036854775808) : PU qci [.int .i64 n] = some (.int .i64 (qkY n)) := by
 refine q0f (fn := q8b) rfl (q0a ?_)
 refine go 800 rfl ?_
 refine q02 rfl (fun h1 => ?_) (fun h1 => ?_)
 ·rw [q06] at h1
  refine go 800 rfl ?_
  refine q0c rfl rfl rfl trivial ?_
  have : n = 0 ∨ n = 1 := by omega
  rcases this with rfl | rfl <;> rfl
 rw [q07] at h1
 have wu : IntKind.u64.wrap (n : Int) = (n : Int) := q0L (by omega)
 have hbl : bl n ≤ 63 := by
  unfold bl
  rw [if_neg (by omega)]
  have := (Nat.log2_lt (n := n) (k := 63) (by omega)).2 (by omega)
  omega
 have hblt : n < 2 ^ bl n := by
  unfold bl
  rw [if_neg (by omega)]
  exact (Nat.log2_lt (by omega)).1 (Nat.lt_succ_self _)
 have w1 : IntKind.i64.wrap ((bl n : Int) + 1) = ((bl n + 1 : Nat) : Int) := wrap64 (by omega) (by omega)
 refine go 800 rfl ?_
 rw [wu]
 refine q00 rfl rfl (qpO n (by omega)) ?_
 refine go 800 rfl ?_
 rw [w1]
 refine q4X (bl n + 1) 2 rfl rfl rfl rfl (by decide) (wrap64 (by omega) (by omega)) ?_
 refine go 800 rfl ?_
 have hk : (bl n + 1) / 2 ≤ 32 := by omega
 have hp : 2 ^ ((bl n + 1) / 2) ≤ 4294967296 := by
  have := Nat.pow_le_pow_right (show 0 < 2 by decide) hk
  omega
 have hp0 : 0 < 2 ^ ((bl n + 1) / 2) := Nat.pow_pos (by decide)
 have hsq : n < (2 ^ ((bl n + 1) / 2) + 1) * (2 ^ ((bl n + 1) / 2) + 1) := by
  have e : 2 ^ bl n ≤ 2 ^ ((bl n + 1) / 2) * 2 ^ ((bl n + 1) / 2) := by rw [← Nat.pow_add]; exact Nat.pow_le_pow_right (by decide) (by omega)
  have e2 : 2 ^ ((bl n + 1) / 2) * 2 ^ ((bl n + 1) / 2) ≤ (2 ^ ((bl n + 1) / 2) + 1) * (2 ^ ((bl n + 1) / 2) + 1) := Nat.mul_le_mul (by omega) (by omega)
  omega
 generalize hX : 2 ^ ((bl n + 1) / 2) = X at *
 refine q9s 1 ((bl n + 1) / 2) rfl rfl rfl rfl (by show (bl n + 1) / 2 ≤ 64; omega) (by rw [hX, Nat.one_mul]; exact wrap64 (by omega) (by omega)) ?_
 rw [hX, Nat.one_mul]
 refine go 800 rfl ?_
 refine q0p (S := fun x : Nat => ([q01 n, q01 x], [none, none], [0, 0])) (C := fun x => 0 < x ∧ x ≤ 4294967296 ∧ n < (x + 1) * (x + 1)) (m := fun x => x) X ⟨hp0, hp, hsq⟩ (by omega) ?_ ?_
 ·exact q03 rfl trivial (by simp [q01])
 rintro x ⟨hx0, hx1, hx2⟩ N hN
 have hq : n / x ≤ n := Nat.div_le_self _ _
 have w2 : IntKind.i64.wrap ((x : Int) + ((n / x : Nat) : Int)) = ((x + n / x : Nat) : Int) := by rw [← Int.natCast_add]; exact qcF (by
  have h2 : n / x * x ≤ n := Nat.div_mul_le_self _ _
  rcases Nat.lt_or_ge x 2 with h | h
  ·obtain rfl : x = 1 := by omega
   simp at hx2; omega
  ·have : n / x * 2 ≤ n / x * x := Nat.mul_le_mul_left _ h
   omega)
 have hne := newton (n := n) hx0
 refine go 800 rfl ?_
 refine q4X n x rfl rfl rfl rfl (by omega) (qcF (by omega)) ?_
 refine go 800 rfl ?_
 rw [w2]
 refine q4X (x + n / x) 2 rfl rfl rfl rfl (by decide) (qcF (by omega)) ?_
 refine go 800 rfl ?_
 refine q02 rfl (fun g => ?_) (fun g => ?_)
 ·rw [q1k] at g
  have g' : x ≤ (x + n / x) / 2 := by omega
  have hxx : x * x ≤ n := by
   have : x ≤ n / x := by omega
   have h2 := Nat.div_mul_le_self n x
   have h3 := Nat.mul_le_mul_right x this
   omega
  refine go 800 rfl ?_
  refine q05 ?_
  refine go 800 rfl ?_
  refine q0c rfl rfl rfl trivial ?_
  rw [qpP (n := n) (r := x) (by omega) hxx hx2]
 ·rw [q1f] at g
  have g' : (x + n / x) / 2 < x := by omega
  have hy0 : 0 < (x + n / x) / 2 := by
   rcases Nat.lt_or_ge x 2 with h | h
   ·obtain rfl : x = 1 := by omega
    rw [Nat.div_one] at g' ⊢; omega
   ·clear hq w2 hne g g'
    generalize n / x = q
    omega
  refine go 800 rfl ?_
  refine q05 ?_
  exact hN ((x + n / x) / 2) ⟨hy0, by omega, hne⟩ g' (q03 rfl trivial (by simp [q01]))
theorem qnZ {a b : Spot} (ha : q0v a 1048576 = true) (hb : q0v b 1048576 = true) : sqd a b ≤ 8796093022208 := by
 rw [q1x] at ha hb
 have e := q75 a b
 have b1 : Bd (b.x - a.x) 2097152 := ⟨by omega⟩
 have b2 : Bd (b.y - a.y) 2097152 := ⟨by omega⟩
 have hb : Bd ((b.x - a.x) * (b.x - a.x) + (b.y - a.y) * (b.y - a.y)) _ := inferInstance
 have := hb.le
 omega
def q36 (a b : Spot) : Nat := qkY (1000000 * sqd a b)
theorem qc0 {a b : Spot} (ha : q0v a 1048576 = true) (hb : q0v b 1048576 = true) : q36 a b ≤ 4294967296 := by
 have h := qnZ ha hb
 obtain ⟨h1, _⟩ := qi4 (n := 1000000 * sqd a b) (by omega)
 unfold q36
 have : qkY (1000000 * sqd a b) < 4294967296 := qg2 (by omega)
 omega
theorem qb2 {a b : Spot} (ha : q0v a 1048576 = true) (hb : q0v b 1048576 = true) (hne : a ≠ b) : 0 < q36 a b := by
 have h := qnZ ha hb
 have hp := qeo hne
 obtain ⟨_, h2⟩ := qi4 (n := 1000000 * sqd a b) (by omega)
 unfold q36
 rcases Nat.eq_zero_or_pos (qkY (1000000 * sqd a b)) with g | g
 ·rw [g] at h2; omega
 ·exact g
theorem q8s (a b : Spot) (ha : q0v a 1048576 = true) (hb : q0v b 1048576 = true) : PU q6e [a.enc, b.enc] = some (.int .i64 (q36 a b)) := by
 refine q0f (fn := q64) rfl (q0a ?_)
 have h := qnZ ha hb
 have hse := q75 a b
 rw [q1x] at ha hb
 have bx : Bd (b.x - a.x) 2097152 := ⟨by omega⟩
 have by' : Bd (b.y - a.y) 2097152 := ⟨by omega⟩
 have c1 : IntKind.i64.wrap (b.x - a.x) = b.x - a.x := q0C (by decide)
 have c2 : IntKind.i64.wrap (b.y - a.y) = b.y - a.y := q0C (by decide)
 refine go 800 rfl ?_
 rw [c1, c2]
 have c4 : IntKind.i64.wrap ((b.x - a.x) * (b.x - a.x)) = (b.x - a.x) * (b.x - a.x) := q0C (by decide)
 have c5 : IntKind.i64.wrap ((b.y - a.y) * (b.y - a.y)) = (b.y - a.y) * (b.y - a.y) := q0C (by decide)
 have c6 : IntKind.i64.wrap ((b.x - a.x) * (b.x - a.x) + (b.y - a.y) * (b.y - a.y)) = (sqd a b : Int) := by rw [hse]; exact q0C (by decide)
 have c7 : IntKind.i64.wrap (1000000 * (sqd a b : Int)) = ((1000000 * sqd a b : Nat) : Int) := by rw [wrap64 (by omega) (by omega)]; omega
 rw [c4, c5, c6, c7]
 refine q00 rfl rfl (qi5 (1000000 * sqd a b) (by omega)) ?_
 refine go 800 rfl ?_
 exact q0c rfl rfl rfl trivial rfl
theorem qgQ (a b : Int) (h0 : 0 ≤ a) (ha : a ≤ 1152921504606846976) (hb : 0 < b) (hb' : b ≤ 1152921504606846976) : PU q2J [.int .i64 a, .int .i64 b] = some (.int .i64 (q1D a b)) := by
 refine q0f (fn := q3I) rfl (q0a ?_)
 refine go 800 rfl ?_
 have w1 : IntKind.i64.wrap (2 * a) = 2 * a := wrap64 (by omega) (by omega)
 have w2 : IntKind.i64.wrap (2 * a + b) = 2 * a + b := wrap64 (by omega) (by omega)
 have w3 : IntKind.i64.wrap (2 * b) = 2 * b := wrap64 (by omega) (by omega)
 refine q02 rfl (fun h => ?_) (fun h => ?_)
 ·rw [q06] at h; omega
 refine go 800 rfl ?_
 refine qlj rfl rfl (by rw [w3]; omega) ?_
 refine go 800 rfl ?_
 refine q0c rfl rfl rfl trivial ?_
 have hd : (2 * a + b).tdiv (2 * b) = (2 * a + b) / (2 * b) := Int.tdiv_eq_ediv_of_nonneg (by omega)
 have hq : (2 * a + b) / (2 * b) ≤ 2 * a + b := Int.ediv_le_self _ (by omega)
 have hq0 : 0 ≤ (2 * a + b) / (2 * b) := Int.ediv_nonneg (by omega) (by omega)
 rw [w1, w2, w3, hd, wrap64 (by omega) (by omega), q1D, if_neg (by omega)]
theorem qiK (a b : Int) (ha0 : -1152921504606846976 ≤ a) (ha : a ≤ 1152921504606846976) (hb : 0 < b) (hb' : b ≤ 1152921504606846976) : PU q2J [.int .i64 a, .int .i64 b] = some (.int .i64 (q1D a b)) := by
 by_cases h0 : 0 ≤ a
 ·exact qgQ a b h0 ha hb hb'
 refine q0f (fn := q3I) rfl (q0a ?_)
 refine go 800 rfl ?_
 refine q02 rfl (fun h => ?_) (fun h => ?_)
 ·refine go 800 rfl ?_
  have w1 : IntKind.i64.wrap (0 - a) = -a := by rw [wrap64 (by omega) (by omega)]; omega
  rw [w1]
  refine q00 rfl rfl (qgQ (-a) b (by omega) (by omega) hb hb') ?_
  refine go 800 rfl ?_
  refine q0c rfl rfl rfl trivial ?_
  have hq : (2 * (-a) + b) / (2 * b) ≤ 2 * (-a) + b := Int.ediv_le_self _ (by omega)
  have hq0 : 0 ≤ (2 * (-a) + b) / (2 * b) := Int.ediv_nonneg (by omega) (by omega)
  rw [q1D, if_neg (by omega), q1D, if_pos (by omega), wrap64 (by omega) (by omega)]
  simp
 ·rw [q07] at h; omega
end Go.F

namespace Go.F
attribute [local irreducible] IntKind.wrap wpM
def q0A (p : List Spot) : Nat → Nat
 | 0 => 0
 | k + 1 => q0A p k + q36 (pt p k) (pt p (k + 1))
theorem qe8 {p : List Spot} (h : ∀ i, i < p.length → q0v (pt p i) 1048576 = true) : ∀ k, k < p.length → q0A p k ≤ k * 4294967296 := by
 intro k
 induction k with
 | zero => intro _; simp [q0A]
 | succ k ih =>
   intro hk
   have := ih (by omega)
   have := qc0 (h k (by omega)) (h (k + 1) hk)
   rw [q0A]; omega
def atL (p : List Spot) (i : Nat) (s : Int) : Spot :=
 ⟨(pt p i).x + q1D ((s - q0A p i) * ((pt p (i + 1)).x - (pt p i).x)) (q36 (pt p i) (pt p (i + 1))), (pt p i).y + q1D ((s - q0A p i) * ((pt p (i + 1)).y - (pt p i).y)) (q36 (pt p i) (pt p (i + 1)))⟩
def qkZ (p : List Spot) (s : Int) : Option Nat := (List.range (p.length - 1)).find? fun i => decide (s ≤ (q0A p (i + 1) : Int))
def qlT (p : List Spot) (s : Int) : Nat × Spot × Int :=
 if q1v p = 0 then if s < 0 then (0, ⟨0, 0⟩, 3) else match qkZ p s with
  | some i => (i, atL p i s, 0)
  | none => (0, ⟨0, 0⟩, 3)
 else (0, ⟨0, 0⟩, q1v p)
def encLoc (r : Nat × Spot × Int) : D := .tup [q01 r.1, r.2.1.enc, .int .i64 r.2.2]
theorem find_range {P : Nat → Bool} {n k : Nat} (hk : k < n) (h1 : P k = true) (h0 : ∀ i, i < k → P i = false) : (List.range n).find? P = some k := by
 rw [List.find?_range_eq_some]
 exact ⟨h1, List.mem_range.2 hk, fun j hj => by simp [h0 j hj]⟩
theorem qj7 {P : Nat → Bool} {n : Nat} (h0 : ∀ i, i < n → P i = false) : (List.range n).find? P = none := by
 rw [List.find?_eq_none]
 intro i hi
 rw [h0 i (List.mem_range.1 hi)]; decide
theorem qfR {p : List Spot} {s : Int} {k : Nat} (hk : k < p.length - 1) (h1 : s ≤ (q0A p (k + 1) : Int)) (h0 : ∀ i, i < k → (q0A p (i + 1) : Int) < s) : qkZ p s = some k :=
 find_range hk (decide_eq_true h1) (fun i hi => by rw [decide_eq_false_iff_not]; have := h0 i hi; omega)
theorem qfS {p : List Spot} {s : Int} (h0 : ∀ i, i < p.length - 1 → (q0A p (i + 1) : Int) < s) : qkZ p s = none :=
 qj7 (fun i hi => by rw [decide_eq_false_iff_not]; have := h0 i hi; omega)
set_option maxHeartbeats 4000000 in
theorem qfT (p : List Spot) (s : Int) : PU q9H [q0g p, .int .i64 s] = some (encLoc (qlT p s)) := by
 refine q0f (fn := q6H) rfl (q0a ?_)
 refine go 800 rfl ?_
 refine q00 rfl rfl (q6M p) ?_
 refine go 800 rfl ?_
 refine q02 rfl (fun h => ?_) (fun h => ?_)
 ·rw [q0O] at h
  refine go 800 rfl ?_
  refine q0c rfl rfl rfl trivial ?_
  rw [qlT, if_neg h]; rfl
 rw [q0S] at h
 rw [qlT, if_pos h]
 obtain ⟨n2, n40, _⟩ := q1T h
 refine go 800 rfl ?_
 refine q02 rfl (fun h1 => ?_) (fun h1 => ?_)
 ·rw [q06] at h1
  refine go 800 rfl ?_
  refine q0c rfl rfl rfl trivial ?_
  rw [if_pos h1]; rfl
 rw [q07] at h1
 rw [if_neg (by omega)]
 have hin : ∀ i, i < p.length → q0v (pt p i) 1048576 = true := fun i hi => q3J h hi
 refine go 800 rfl ?_
 refine q0p (S := fun k : Nat => ([q0g p, .int .i64 s, .ptr 2 0 0, q01 (q0A p k), q01 (p.length - 1 : Nat), q01 k], [none, none, some (.row [Spot.enc ⟨0, 0⟩] 2), none, none, none], [0, 0, 0, 0, 0, 0])) (C := fun k => k ≤ p.length - 1 ∧ ∀ i, i < k → (q0A p (i + 1) : Int) < s) (m := fun k => p.length - k) 0 ⟨Nat.zero_le _, fun i hi => by omega⟩ (by omega) ?_ ?_
 ·refine q03 rfl ⟨rfl, trivial⟩ ?_
  have : IntKind.i64.wrap ((p.length : Int) - 1) = ((p.length - 1 : Nat) : Int) := by rw [wrap64 (by omega) (by omega)]; omega
  simp [q0g, q01, q0A, Spot.enc, this]
 rintro k ⟨hk, hno⟩ N hN
 refine go 800 rfl ?_
 refine q02 rfl (fun g1 => ?_) (fun g1 => ?_)
 ·rw [q06] at g1
  have hlt : k + 1 < p.length := by omega
  have w1 : IntKind.i64.wrap ((k : Int) + 1) = ((k + 1 : Nat) : Int) := wrap64 (by omega) (by omega)
  have hin1 := hin k (by omega)
  have hin2 := hin (k + 1) hlt
  have hsp := qb2 hin1 hin2 (q9W h hlt)
  have hsl' := qc0 hin1 hin2
  have hle := qe8 hin k (by omega)
  have hle1 : q0A p (k + 1) = q0A p k + q36 (pt p k) (pt p (k + 1)) := rfl
  have w2 : IntKind.i64.wrap ((q0A p k : Int) + (q36 (pt p k) (pt p (k + 1)) : Int)) = (q0A p (k + 1) : Int) := by rw [wrap64 (by omega) (by omega)]; omega
  have hlow : (q0A p k : Int) ≤ s := by
   cases k with
   | zero => simpa [q0A] using h1
   | succ j => have := hno j (by omega); omega
  refine go 800 rfl ?_
  refine q0i k rfl rfl rfl (q0D (by omega)) rfl ?_
  refine go 800 rfl ?_
  refine q0i (k + 1) rfl rfl w1 (q0D hlt) rfl ?_
  refine go 800 rfl ?_
  refine q00 rfl rfl (q8s (pt p k) (pt p (k + 1)) hin1 hin2) ?_
  refine go 800 rfl ?_
  rw [w2]
  refine q02 rfl (fun g2 => ?_) (fun g2 => ?_)
  ·rw [q1k] at g2
   have hsl : s - (q0A p k : Int) ≤ 4294967296 ∧ 0 ≤ s - (q0A p k : Int) := by omega
   have hq : (s - (q0A p k : Int)).natAbs ≤ 4294967296 := by
    have e := hsl
    omega
   have bq : Bd (s - (q0A p k : Int)) 4294967296 := ⟨hq⟩
   have hin1' := hin1
   have hin2' := hin2
   rw [q1x] at hin1' hin2'
   have bdx : Bd ((pt p (k + 1)).x - (pt p k).x) 2097152 := ⟨by omega⟩
   have bdy : Bd ((pt p (k + 1)).y - (pt p k).y) 2097152 := ⟨by omega⟩
   have m1 : Bd ((s - (q0A p k : Int)) * ((pt p (k + 1)).x - (pt p k).x)) _ := inferInstance
   have m2 : Bd ((s - (q0A p k : Int)) * ((pt p (k + 1)).y - (pt p k).y)) _ := inferInstance
   have l1 := m1.le
   have l2 := m2.le
   have d1 : IntKind.i64.wrap (s - (q0A p k : Int)) = s - (q0A p k : Int) := q0C (by decide)
   have d2 : IntKind.i64.wrap ((pt p (k + 1)).x - (pt p k).x) = (pt p (k + 1)).x - (pt p k).x := q0C (by decide)
   have d3 : IntKind.i64.wrap ((pt p (k + 1)).y - (pt p k).y) = (pt p (k + 1)).y - (pt p k).y := q0C (by decide)
   have d4 : IntKind.i64.wrap ((s - (q0A p k : Int)) * ((pt p (k + 1)).x - (pt p k).x)) = (s - (q0A p k : Int)) * ((pt p (k + 1)).x - (pt p k).x) := q0C (by decide)
   have d5 : IntKind.i64.wrap ((s - (q0A p k : Int)) * ((pt p (k + 1)).y - (pt p k).y)) = (s - (q0A p k : Int)) * ((pt p (k + 1)).y - (pt p k).y) := q0C (by decide)
   have r1 := q7B (a := (s - (q0A p k : Int)) * ((pt p (k + 1)).x - (pt p k).x)) (b := (q36 (pt p k) (pt p (k + 1)) : Int)) (m := 4294967296 * 2097152) (by omega) (by omega) (by omega)
   have r2 := q7B (a := (s - (q0A p k : Int)) * ((pt p (k + 1)).y - (pt p k).y)) (b := (q36 (pt p k) (pt p (k + 1)) : Int)) (m := 4294967296 * 2097152) (by omega) (by omega) (by omega)
   have q1 := qiK ((s - (q0A p k : Int)) * ((pt p (k + 1)).x - (pt p k).x)) (q36 (pt p k) (pt p (k + 1)) : Int) (by omega) (by omega) (by omega) (by omega)
   have q2 := qiK ((s - (q0A p k : Int)) * ((pt p (k + 1)).y - (pt p k).y)) (q36 (pt p k) (pt p (k + 1)) : Int) (by omega) (by omega) (by omega) (by omega)
   have d6 : IntKind.i64.wrap ((pt p k).x + q1D ((s - (q0A p k : Int)) * ((pt p (k + 1)).x - (pt p k).x)) (q36 (pt p k) (pt p (k + 1)) : Int)) = (pt p k).x + q1D ((s - (q0A p k : Int)) * ((pt p (k + 1)).x - (pt p k).x)) (q36 (pt p k) (pt p (k + 1)) : Int) := wrap64 (by omega) (by omega)
   have d7 : IntKind.i64.wrap ((pt p k).y + q1D ((s - (q0A p k : Int)) * ((pt p (k + 1)).y - (pt p k).y)) (q36 (pt p k) (pt p (k + 1)) : Int)) = (pt p k).y + q1D ((s - (q0A p k : Int)) * ((pt p (k + 1)).y - (pt p k).y)) (q36 (pt p k) (pt p (k + 1)) : Int) := wrap64 (by omega) (by omega)
   refine go 800 rfl ?_
   rw [d1, d2, d4]
   refine q00 rfl rfl q1 ?_
   refine go 800 rfl ?_
   rw [d1, d3, d5]
   refine q00 rfl rfl q2 ?_
   refine go 800 rfl ?_
   rw [d6, d7]
   refine q05 ?_
   refine go 800 rfl ?_
   refine q0c rfl rfl rfl trivial ?_
   rw [qfR (by omega) g2 hno]; rfl
  ·rw [q1f] at g2
   refine go 800 rfl ?_
   refine q05 ?_
   refine hN (k + 1) ⟨by omega, fun i hi => ?_⟩ (by omega) (q03 rfl ⟨rfl, trivial⟩ (by simp [q0g, q01, w1, w2, Spot.enc]))
   by_cases hik : i < k
   ·exact hno i hik
   ·obtain rfl : i = k := by omega
    exact g2
 rw [q07] at g1
 refine go 800 rfl ?_
 refine q05 ?_
 refine go 800 rfl ?_
 refine q0c rfl rfl rfl trivial ?_
 rw [qfS (fun i hi => hno i (by omega))]; rfl
def q6U (p : List Spot) (s : Int) : Spot × Int := (qlT p s).2
def qpQ (r : Spot × Int) : D := .tup [r.1.enc, .int .i64 r.2]
theorem qgR (p : List Spot) (s : Int) : PU qaM [q0g p, .int .i64 s] = some (qpQ (q6U p s)) := by
 refine q0f (fn := q7c) rfl (q0a ?_)
 refine go 800 rfl ?_
 refine q00 rfl rfl (qfT p s) ?_
 refine go 800 rfl ?_
 exact q0c rfl rfl rfl trivial rfl
def qeT (l : List Edge) (e a : Int) : Spot × Int :=
 if q0J l = 0 then if 0 ≤ e ∧ e < l.length then q6U (eg l e.toNat).line a else (⟨0, 0⟩, 3) else (⟨0, 0⟩, q0J l)
theorem q1B (l : List Edge) (e a : Int) : PU q1a [q0s l, .agg [.int .i64 e, .int .i64 a]] = some (qpQ (qeT l e a)) := by
 refine q0f (fn := q76) rfl (q0a ?_)
 refine go 800 rfl ?_
 refine q00 rfl rfl (q1h l) ?_
 refine go 800 rfl ?_
 refine q02 rfl (fun h => ?_) (fun h => ?_)
 ·rw [q0O] at h
  refine go 800 rfl ?_
  refine q0c rfl rfl rfl trivial ?_
  rw [qeT, if_neg h]; rfl
 rw [q0S] at h
 rw [qeT, if_pos h]
 refine go 800 rfl ?_
 refine q09 rfl (fun h1 => ?_) (fun h1 => ?_)
 ·rw [q06] at h1
  refine go 800 rfl ?_
  refine q0m rfl ?_
  refine go 800 rfl ?_
  refine q0c rfl rfl rfl trivial ?_
  rw [if_neg (by omega)]; rfl
 rw [q07] at h1
 refine go 800 rfl ?_
 rw [List.length_map]
 refine q02 rfl (fun h2 => ?_) (fun h2 => ?_)
 ·rw [q1k] at h2
  refine go 800 rfl ?_
  refine q0c rfl rfl rfl trivial ?_
  rw [if_neg (by omega)]; rfl
 rw [q1f] at h2
 rw [if_pos (by omega)]
 refine go 800 rfl ?_
 refine q0i e.toNat rfl rfl (by omega) (q15 (by omega)) rfl ?_
 refine go 800 rfl ?_
 refine q00 rfl rfl (qgR (eg l e.toNat).line a) ?_
 refine go 800 rfl ?_
 exact q0c rfl rfl rfl trivial rfl
end Go.F

namespace Go.F
attribute [local irreducible] IntKind.wrap wpM
end Go.F

namespace Go.F
def nmP : ByteArray := ⟨#[80]⟩
def nmQ : ByteArray := ⟨#[81]⟩
def nmR : ByteArray := ⟨#[82]⟩
def qnh : ByteArray := ⟨#[83]⟩
def qni : ByteArray := ⟨#[104, 101, 109]⟩
def qs6 : ByteArray := ⟨#[115, 105, 100, 101]⟩
def q9v (x y : Int) : RP := RP.of ⟨(x : Rat), (y : Rat)⟩
def awP : List Nmd := [⟨nmP, q9v 0 0⟩, ⟨nmQ, q9v 8 0⟩, ⟨nmR, q9v 8 6⟩, ⟨qnh, q9v 8 0⟩]
def awL (s : ByteArray) : List Crvd := [⟨qni, [nmP, nmQ], 1⟩, ⟨qs6, [s, nmR, nmP], 2⟩]
theorem aw_c1 : [nmP, nmQ].mapM (q3z (places awP)) = some [q9v 0 0, q9v 8 0] := by rfl
theorem aw_c2 : [nmQ, nmR, nmP].mapM (q3z (places awP)) = some [q9v 8 0, q9v 8 6, q9v 0 0] := by rfl
theorem aw_c3 : [qnh, nmR, nmP].mapM (q3z (places awP)) = some [q9v 8 0, q9v 8 6, q9v 0 0] := by rfl
theorem aw_l1 : qcx (q93 [q9v 0 0, q9v 8 0] 1) = ([⟨0, 0⟩, ⟨8, 0⟩], 0) := by decide +kernel
theorem aw_l2 : qcx (q93 [q9v 8 0, q9v 8 6, q9v 0 0] 2) = ([⟨8, 0⟩, ⟨6, 3⟩, ⟨0, 0⟩], 0) := by decide +kernel
def awW : List Edge := [⟨qni, [⟨0, 0⟩, ⟨8, 0⟩]⟩, ⟨qs6, [⟨8, 0⟩, ⟨8, 6⟩, ⟨0, 0⟩]⟩]
def awB : List Edge := [⟨qni, [⟨0, 0⟩, ⟨8, 0⟩]⟩, ⟨qni, [⟨8, 0⟩, ⟨8, 6⟩, ⟨0, 0⟩]⟩]
def awE : List Edge := [⟨qni, [⟨0, 0⟩, ⟨8, 0⟩]⟩, ⟨qs6, [⟨8, 0⟩, ⟨6, 3⟩, ⟨0, 0⟩]⟩]
def awF : List Edge := [⟨qni, [⟨-8, 0⟩, ⟨0, 0⟩]⟩, ⟨qs6, [⟨0, 0⟩, ⟨-8, 6⟩, ⟨-8, 0⟩]⟩]
theorem aw_w : q0J awW = 0 := by rw [qaD]; decide +kernel
theorem aw_e : q0J awE = 0 := by rw [qaD]; decide +kernel
theorem aw_b : q0J awB = 7 := by rw [qaD]; decide +kernel
theorem aw_h : q0J [⟨qni, [⟨0, 0⟩, ⟨8, 0⟩]⟩] = 11 := rfl
theorem qwh : q5A awW = .tup [q0g [⟨0, 0⟩, ⟨8, 0⟩, ⟨8, 6⟩], .int .i64 0] := by unfold q5A; rw [if_pos aw_w]; rfl
theorem qwi : q0N ⟨true, 0⟩ awW = awF := by rfl
theorem qwj : qeT awW 1 11000 = (⟨4, 3⟩, 0) := by unfold qeT; rw [aw_w]; decide +kernel
theorem qwk : (qeT awW 1 16001).2 = 3 := by unfold qeT; rw [aw_w]; decide +kernel
theorem quw (s : ByteArray) : q1A (places awP) ⟨s, [nmP, nmQ], 1⟩ = ([⟨0, 0⟩, ⟨8, 0⟩], 0) := by
 unfold q1A
 rw [aw_c1]
 exact aw_l1
theorem aw_t2 (s : ByteArray) : q1A (places awP) ⟨s, [nmQ, nmR, nmP], 2⟩ = ([⟨8, 0⟩, ⟨6, 3⟩, ⟨0, 0⟩], 0) := by
 unfold q1A
 rw [aw_c2]
 exact aw_l2
theorem aw_t3 (s : ByteArray) : q1A (places awP) ⟨s, [qnh, nmR, nmP], 2⟩ = ([⟨8, 0⟩, ⟨6, 3⟩, ⟨0, 0⟩], 0) := by
 unfold q1A
 rw [aw_c3]
 exact aw_l2
theorem aw_tr1 : q2l awP (awL nmQ) = (awE, 0) := by
 have e : (awL nmQ).map (eg1 (places awP)) = awE := by
  simp only [awL, List.map_cons, List.map_nil, eg1, quw, aw_t2]; rfl
 have g : trE (places awP) (awL nmQ) = 0 := by simp [awL, trE, quw, aw_t2]
 unfold q2l
 rw [if_neg (by decide), if_neg (by rw [g]; decide), if_pos, e, if_pos aw_e]
 intro i hi
 match i, hi with
 | 0, _ => simp only [linked, Go.ByteArray.toList_eq]; rfl
 | 1, _ => simp only [linked, Go.ByteArray.toList_eq]; rfl
theorem aw_tr2 : q2l awP (awL qnh) = ([], 11) := by
 have g : trE (places awP) (awL qnh) = 0 := by simp [awL, trE, quw, aw_t3]
 unfold q2l
 rw [if_neg (by decide), if_neg (by rw [g]; decide), if_neg]
 intro h
 have := h 0 (by decide)
 simp only [linked, Go.ByteArray.toList_eq] at this
 revert this; decide
end Go.F

namespace Go.F
attribute [local irreducible] IntKind.wrap wpM
section
variable {T : Tab} {sh : Shr} {nx0 : Nat} {s : List Fr} {t : q0z} {h : q0e} {z : Frz} {nx : Nat} {q : Ex → q0z → q0e → Frz → Nat → Prop}
variable {base i : Nat} {res : List Nat} {g : Gd} {rest : List KOper}
theorem q40 {f : FuncId} {dst : Nat} {args : List X} {r : D} (bs : List D) (hs : T.shared f = false) (ha : ∀ k : List D → Prop, k bs → qeS (g.h base h) (args.map (·.ev t)) k) (hp : T.pu f bs = some r)
 (hk : ∀ z, wpM T sh nx0 (.ops base res rest :: s) .normal (upd t dst r) h z nx q) :
 wpM T sh nx0 (.ops base res (⟨i, some dst, none, g, .callF f args⟩ :: rest) :: s) .normal t h z nx q := by
 refine q54 ?_
 simp only [kop, q9i, hs]
 refine ha _ ?_
 unfold qf3
 refine ⟨r, hp, ?_⟩
 simp only [q9q]
 split
 ·exact hk _
 ·split
  ·exact hk _
  ·exact hk _
end
theorem q5X {gh : q0e} {id n : Nat} {es l : List D} {e : Nat} {rest : List D} {bs : List D} (hr : gh id = some (.row es e)) (hn : n ≤ es.length) (hs : (es.take n).mapM (q13 gh 8) = some l) (hrest : ∀ k : List D → Prop, k bs → qeS gh rest k) :
 ∀ k : List D → Prop, k (.lst l :: bs) → qeS gh (.ref id 0 n :: rest) k := by
 intro k hk
 simp only [qeS, ws1, ws0, hr, qtb]
 refine ⟨l, by omega, by rw [List.drop_zero]; exact hs, hrest _ hk⟩
theorem qfa {gh : q0e} {id n : Nat} {es l a : List D} {e : Nat} (hr : gh id = some (.row es e)) (hn : n ≤ es.length) (hs : (es.take n).mapM (q13 gh 8) = some l) :
 ∀ k : List D → Prop, k [.lst a, .lst l] → qeS gh [.lst a, .ref id 0 n] k := by
 intro k hk
 exact q5X (rest := []) hr hn hs (bs := []) (fun _ h => h) (fun xs => k (.lst a :: xs)) hk
set_option maxHeartbeats 4000000 in
theorem q1F : PU q11 [] = some (.bool true) := by
 have hn : ∀ {x : Int} {P : Prop}, nqb x x = true → P := fun h => absurd rfl (q0O.1 h)
 have s1 : PU q1b [q0s awW] = some (.tup [q0g [⟨0, 0⟩, ⟨8, 0⟩, ⟨8, 6⟩], .int .i64 0]) := by rw [q1r, qwh]
 have s2 : PU q1a [q0s awW, .agg [.int .i64 1, .int .i64 11000]] = some (.tup [.agg [.int .i64 4, .int .i64 3], .int .i64 0]) := by rw [q1B, qwj]; rfl
 have s3 : PU q1a [q0s awW, .agg [.int .i64 1, .int .i64 16001]] = some (.tup [(qeT awW 1 16001).1.enc, .int .i64 3]) := by rw [q1B, qpQ, qwk]
 have s4 : PU q1i [q0s awW, .agg [.bool true, .int .i64 0]] = some (q0s awF) := by
  rw [← qwi]; exact q1Q awW ⟨true, 0⟩ (by decide) (by decide)
 have sz : ∀ n ∈ awP, SzP n.at_ 2 := by
  have q : ∀ x y : Int, x ≤ 8 → 0 ≤ x → y ≤ 8 → 0 ≤ y → SzP (q9v x y) 2 := by
   intro x y h1 h2 h3 h4
   have g1 : QB (x : Rat) 2 := ql5 (by omega) (by omega)
   have g2 : QB (y : Rat) 2 := ql5 (by omega) (by omega)
   have g3 : QPB (⟨(x : Rat), (y : Rat)⟩ : QP) 2 := ⟨g1, g2⟩
   exact szPOf
  intro n hn
  simp only [awP, List.mem_cons, List.mem_nil_iff, or_false] at hn
  rcases hn with rfl | rfl | rfl | rfl
  ·exact q 0 0 (by decide) (by decide) (by decide) (by decide)
  ·exact q 8 0 (by decide) (by decide) (by decide) (by decide)
  ·exact q 8 6 (by decide) (by decide) (by decide) (by decide)
  ·exact q 8 0 (by decide) (by decide) (by decide) (by decide)
 have s5 : PU q2E [q4I awP, q1X (awL nmQ)] = some (.tup [q0s awE, .int .i64 0]) := by
  rw [q5i awP (awL nmQ) sz (by decide) (by decide) (by decide) (by decide), aw_tr1]
 have s6 : PU q2E [q4I awP, q1X (awL qnh)] = some (.tup [.lst [], .int .i64 11]) := by
  rw [q5i awP (awL qnh) sz (by decide) (by decide) (by decide) (by decide), aw_tr2]; rfl
 have s7 : PU q12 [q0s awB] = some (.int .i64 7) := by rw [q1h, aw_b]
 have s8 : PU q12 [q0s [⟨qni, [⟨0, 0⟩, ⟨8, 0⟩]⟩]] = some (.int .i64 11) := by rw [q1h, aw_h]
 have s9 := q6x awF (by decide) (by decide)
 have s10 := q6x awE (by decide) (by decide)
 have s11 : PU q2b [q0g [⟨0, 0⟩, ⟨8, 0⟩, ⟨8, 6⟩], q0g [⟨0, 0⟩, ⟨8, 0⟩, ⟨8, 6⟩]] = some (.bool true) := by rw [q2W _ _ (by decide)]; rfl
 refine q0f (fn := qcJ) rfl (q0a ?_)
 refine go 800 rfl ?_
 refine q7A (fn := q3V) rfl rfl ?_
 refine go 800 rfl ?_
 refine qbO rfl rfl ?_
 refine go 800 rfl ?_
 refine q40 [q0s awW] rfl (q5X rfl (by decide) rfl (fun k hk => hk)) s1 fun z => ?_
 refine go 800 rfl ?_
 refine q7A (fn := q3V) rfl rfl ?_
 refine go 800 rfl ?_
 refine qbO rfl rfl ?_
 refine go 800 rfl ?_
 refine q40 [q0s awW, .agg [.int .i64 1, .int .i64 11000]] rfl (q5X rfl (by decide) rfl (fun k hk => hk)) s2 fun z => ?_
 refine go 800 rfl ?_
 refine q7A (fn := q3V) rfl rfl ?_
 refine go 800 rfl ?_
 refine qbO rfl rfl ?_
 refine go 800 rfl ?_
 refine q40 [q0s awW, .agg [.int .i64 1, .int .i64 16001]] rfl (q5X rfl (by decide) rfl (fun k hk => hk)) s3 fun z => ?_
 refine go 800 rfl ?_
 refine q7A (fn := q3V) rfl rfl ?_
 refine go 800 rfl ?_
 refine qbO rfl rfl ?_
 refine go 800 rfl ?_
 refine q40 [q0s awW, .agg [.bool true, .int .i64 0]] rfl (q5X rfl (by decide) rfl (fun k hk => hk)) s4 fun z => ?_
 refine go 800 rfl ?_
 refine q00 rfl rfl (qb3 0 0 (by decide) (by decide) (by decide) (by decide)) ?_
 refine go 800 rfl ?_
 refine q00 rfl rfl (qb3 8 0 (by decide) (by decide) (by decide) (by decide)) ?_
 refine go 800 rfl ?_
 refine q00 rfl rfl (qb3 8 6 (by decide) (by decide) (by decide) (by decide)) ?_
 refine go 800 rfl ?_
 refine q00 rfl rfl (qb3 8 0 (by decide) (by decide) (by decide) (by decide)) ?_
 refine go 800 rfl ?_
 refine q40 [q4I awP, q1X (awL nmQ)] rfl (q5X rfl (by decide) rfl (q5X rfl (by decide) rfl (fun k hk => hk))) s5 fun z => ?_
 refine go 800 rfl ?_
 refine q40 [q4I awP, q1X (awL qnh)] rfl (q5X rfl (by decide) rfl (q5X rfl (by decide) rfl (fun k hk => hk))) s6 fun z => ?_
 refine go 800 rfl ?_
 refine q7A (fn := q3V) rfl rfl ?_
 refine go 800 rfl ?_
 refine qbO rfl rfl ?_
 refine go 800 rfl ?_
 refine q0B 1 rfl rfl rfl rfl rfl (by decide) ?_
 refine go 800 rfl ?_
 refine qli (k := 1) rfl rfl rfl (Nat.zero_le 1) rfl rfl ?_
 refine go 800 rfl ?_
 refine q09 rfl hn (fun _ => ?_)
 refine go 800 rfl ?_
 refine q09 rfl hn (fun _ => ?_)
 refine go 800 rfl ?_
 refine q09 rfl hn (fun _ => ?_)
 refine go 800 rfl ?_
 refine q09 rfl hn (fun _ => ?_)
 refine go 800 rfl ?_
 refine q09 rfl hn (fun _ => ?_)
 refine go 800 rfl ?_
 refine q09 rfl (fun h => absurd h (by simp [eqb])) (fun _ => ?_)
 refine go 800 rfl ?_
 refine q40 [q0s awB] rfl (q5X rfl (by decide) rfl (fun k hk => hk)) s7 fun z => ?_
 refine go 800 rfl ?_
 refine q09 rfl hn (fun _ => ?_)
 refine go 800 rfl ?_
 refine q7A (fn := q3V) rfl rfl ?_
 refine go 800 rfl ?_
 refine qbO rfl rfl ?_
 refine go 800 rfl ?_
 refine q8n 1 rfl rfl rfl ⟨_, _, rfl, rfl⟩ (by decide) ?_
 refine go 800 rfl ?_
 refine q40 [q0s [⟨qni, [⟨0, 0⟩, ⟨8, 0⟩]⟩]] rfl (q5X rfl (by decide) rfl (fun k hk => hk)) s8 fun z => ?_
 refine go 800 rfl ?_
 refine q02 rfl hn (fun _ => ?_)
 refine go 800 rfl ?_
 refine q40 [q0s awF, q0s awF] rfl (qfa rfl (by decide) rfl) s9 fun z => ?_
 refine go 800 rfl ?_
 refine q0n rfl ?_
 refine go 800 rfl ?_
 refine q40 [q0g [⟨0, 0⟩, ⟨8, 0⟩, ⟨8, 6⟩], q0g [⟨0, 0⟩, ⟨8, 0⟩, ⟨8, 6⟩]] rfl (qfa rfl (by decide) rfl) s11 fun z => ?_
 refine go 800 rfl ?_
 refine q0o rfl ?_
 refine go 800 rfl ?_
 refine q40 [q0s awE, q0s awE] rfl (qfa rfl (by decide) rfl) s10 fun z => ?_
 refine go 800 rfl ?_
 exact q0c rfl rfl rfl trivial rfl
end Go.F
