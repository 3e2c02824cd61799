/- Parts of the proof, part 49: SSiz. -/
import Derived.Test.YtdhpbljlnlpibaaGreatZ48
set_option linter.all false
namespace Go.F
attribute [local irreducible] IntKind.wrap wpM
theorem qvL {hp : q0f} {es : List D} {n : Nat} (hd : es.all (dat 4) = true) (hn : 4 ≤ n) : es.mapM (q10 hp n) = some es := by
 induction es with
 | nil => rfl
 | cons x es ih =>
   simp only [List.all_cons, Bool.and_eq_true] at hd
   simp [List.mapM_cons, qog 4 n x hd.1 hn, ih hd.2]
theorem qvK {h : q0f} {id len sz n : Nat} {es : List D} (hh : h id = some (.row es sz)) (hl : len = es.length) (hd : es.all (dat 4) = true) (hn : 4 ≤ n) : q10 h (n + 1) (.ref id 0 len) = some (.lst es) := by
 subst hl
 simp only [q10, hh]
 rw [if_pos (by omega), List.drop_zero, List.take_length, qvL hd hn]; rfl
theorem qvJ {h : q0f} {id len sz n : Nat} {es : List D} (hh : h id = some (.row es sz)) (hd : es.all (dat 4) = true) : q0O h (n + 1) (.ref id 0 len) = [id] := by
 simp only [q0O, hh]
 rw [qdh]
 rw [List.all_eq_true] at hd ⊢
 intro x hx
 exact hd x (List.mem_of_mem_drop (List.mem_of_mem_take hx))
theorem qvP {h : q0f} {A B a b x y : Nat} {nm : ByteArray} {S M P U W O : List D} (hA : h A = some (.row S x)) (hB : h B = some (.row M y)) (ha : a = S.length) (hb : b = M.length) (hS : S.all (dat 4) = true) (hM : M.all (dat 4) = true) :
 Obl.ok (.s h [.agg [.str nm, .ref A 0 a, .ref B 0 b, .lst P, .lst U, .lst W, .lst O]] [.agg [.str nm, .lst S, .lst M, .lst P, .lst U, .lst W, .lst O]] [A, B]) := by
 refine ⟨rfl, ?_, ?_, rfl⟩
 ·have e : ∀ d : List D, q10 h 7 (.lst d) = some (.lst d) := fun _ => rfl
  have e2 : q10 h 7 (.str nm) = some (.str nm) := rfl
  show ([_] : List D).mapM (q10 h 8) = _
  rw [List.mapM_cons, List.mapM_nil]
  have e3 : q10 h 8 (.agg [.str nm, .ref A 0 a, .ref B 0 b, .lst P, .lst U, .lst W, .lst O]) = (([.str nm, .ref A 0 a, .ref B 0 b, .lst P, .lst U, .lst W, .lst O] : List D).mapM (q10 h 7)).map .agg := rfl
  rw [e3]
  simp only [List.mapM_cons, List.mapM_nil, e, e2, qvK hA ha hS (show 4 ≤ 6 by decide), qvK hB hb hM (show 4 ≤ 6 by decide)]
  rfl
 ·show List.flatMap (q0O h 12) [_] = _
  have e3 : q0O h 12 (.agg [.str nm, .ref A 0 a, .ref B 0 b, .lst P, .lst U, .lst W, .lst O]) = ([.str nm, .ref A 0 a, .ref B 0 b, .lst P, .lst U, .lst W, .lst O] : List D).flatMap (q0O h 11) := rfl
  rw [List.flatMap_cons, List.flatMap_nil, e3]
  simp only [List.flatMap_cons, List.flatMap_nil, qvJ hA hS (n := 10), qvJ hB hM (n := 10)]
  rfl
set_option maxRecDepth 100000 in
set_option maxHeartbeats 8000000 in
theorem qvQ (s : Sty) (at_ : Nat) (use : Int) (ha : at_ < 256) : PU qqM [s.enc, .int .u8 at_, .int .i64 use] = some (.bool true) := by
 obtain ⟨b, hb, hbs⟩ := qaY s
 have he : ∀ {x : Int} {P : Prop}, eqb x x = false → P := fun h => absurd rfl (q1a.1 h)
 have hn : ∀ {x : Int} {P : Prop}, nqb x x = true → P := fun h => absurd rfl (q0z.1 h)
 refine q0h (fn := q9X) rfl (q0c ?_)
 refine go 800 rfl ?_
 refine q01 rfl rfl hb ?_
 cases b with
 | false =>
   refine go 800 rfl ?_
   refine q0e rfl ?_
   refine go 800 rfl ?_
   refine q0e rfl ?_
   refine go 800 rfl ?_
   refine q0e rfl ?_
   refine go 800 rfl ?_
   refine q0g rfl ?_
   refine go 800 rfl ?_
   refine q01 rfl rfl q22 ?_
   refine go 800 rfl ?_
   exact q08 rfl rfl rfl trivial rfl
 | true =>
   have hL := hbs rfl
   have hB := hL.B
   have s1 := q1c s hB
   refine go 800 rfl ?_
   refine q0j rfl ?_
   refine go 800 rfl ?_
   refine q01 rfl rfl s1 ?_
   refine go 800 rfl ?_
   refine q05 rfl (fun g => ?_) (fun g => ?_)
   ·refine go 800 rfl ?_
    refine q0e rfl ?_
    refine go 800 rfl ?_
    refine q0g rfl ?_
    refine go 800 rfl ?_
    refine q01 rfl rfl q22 ?_
    refine go 800 rfl ?_
    exact q08 rfl rfl rfl trivial rfl
   have g : q32 s = 0 := q0A.1 g
   have hok := qdC g
   refine go 800 rfl ?_
   rw [List.length_map]
   refine q05 rfl (fun f1 => ?_) (fun f1 => ?_)
   ·refine go 800 rfl ?_
    refine q0g rfl ?_
    refine go 800 rfl ?_
    refine q01 rfl rfl q22 ?_
    refine go 800 rfl ?_
    exact q08 rfl rfl rfl trivial rfl
   rw [q07] at f1
   refine go 800 rfl ?_
   rw [List.length_map, List.length_map]
   refine q02 rfl (fun f2 => ?_) (fun f2 => ?_)
   ·refine go 800 rfl ?_
    refine q01 rfl rfl q22 ?_
    refine go 800 rfl ?_
    exact q08 rfl rfl rfl trivial rfl
   have h2 : 2 ≤ s.sizes.length := by omega
   have hm := hok.mults
   have hs12 := hok.sizes
   have hi : at_ % s.sizes.length < s.sizes.length := Nat.mod_lt _ (by omega)
   have w0 : IntKind.i64.wrap (at_ : Int) = at_ := wrap64 (by omega) (by omega)
   have hrem : ((at_ : Int)).tmod (s.sizes.length : Nat) = ((at_ % s.sizes.length : Nat) : Int) := by rw [Int.tmod_eq_emod_of_nonneg (by omega)]; omega
   refine go 800 rfl ?_
   rw [w0, List.length_map]
   refine q4R rfl rfl (by omega) ?_
   rw [hrem]
   generalize at_ % s.sizes.length = i at *
   have w1 : IntKind.i64.wrap ((i : Int) + 1) = ((i + 1 : Nat) : Int) := wrap64 (by omega) (by omega)
   have hd1 : ((s.sizes.map D.str).drop (i + 1)).take (s.sizes.length - (i + 1)) = (s.sizes.drop (i + 1)).map D.str := by rw [List.take_of_length_le (by simp), List.map_drop]
   have hd2 : ((s.mults.map q00).drop (i + 1)).take (s.mults.length - (i + 1)) = (s.mults.drop (i + 1)).map q00 := by rw [List.take_of_length_le (by simp), List.map_drop]
   have hE1 : ([] ++ (s.sizes.take i).map D.str) ++ (s.sizes.drop (i + 1)).map D.str = (s.sizes.eraseIdx i).map D.str := by rw [List.nil_append, ← List.map_append, List.eraseIdx_eq_take_drop_succ]
   have hE2 : ([] ++ (s.mults.take i).map q00) ++ (s.mults.drop (i + 1)).map q00 = (s.mults.eraseIdx i).map q00 := by rw [List.nil_append, ← List.map_append, List.eraseIdx_eq_take_drop_succ]
   refine go 800 rfl ?_
   refine qdM i rfl (q1X (n := 1) (fun _ => rfl) _) ⟨_, _, rfl, rfl⟩ (by rw [List.length_map]; omega) ?_
   rw [← List.map_take]
   refine go 800 rfl ?_
   refine qjO rfl rfl rfl (q1X (n := 1) (fun _ => rfl) _) rfl (Nat.zero_le _) (by simp [q0U]; omega) ?_
   refine go 800 rfl ?_
   rw [w1]
   refine atSl (i + 1) s.sizes.length rfl (q1X (n := 1) (fun _ => rfl) _) ⟨_, _, rfl, rfl⟩ (List.length_map _).symm ⟨by omega, by simp⟩ ?_
   rw [hd1]
   refine go 800 rfl ?_
   refine qjO rfl rfl rfl (q1X (n := 1) (fun _ => rfl) _) (by simp) (Nat.zero_le _) (by simp [q0U]; omega) ?_
   rw [hE1]
   refine go 800 rfl ?_
   refine qdM i rfl (q1X (n := 1) (fun _ => rfl) _) ⟨_, _, rfl, rfl⟩ (by rw [List.length_map]; omega) ?_
   rw [← List.map_take]
   refine go 800 rfl ?_
   refine qjO rfl rfl rfl (q1X (n := 1) (fun _ => rfl) _) rfl (Nat.zero_le _) (by simp [q0U]; omega) ?_
   refine go 800 rfl ?_
   rw [w1]
   refine atSl (i + 1) s.mults.length rfl (q1X (n := 1) (fun _ => rfl) _) ⟨_, _, rfl, rfl⟩ (List.length_map _).symm ⟨by omega, by simp⟩ ?_
   rw [hd2]
   refine go 800 rfl ?_
   refine qjO rfl rfl rfl (q1X (n := 1) (fun _ => rfl) _) (by simp) (Nat.zero_le _) (by simp [q0U]; omega) ?_
   rw [hE2]
   have hle : (s.sizes.eraseIdx i).length = s.sizes.length - 1 := List.length_eraseIdx_of_lt hi
   have hlm : (s.mults.eraseIdx i).length = s.mults.length - 1 := List.length_eraseIdx_of_lt (by omega)
   have hlS : (qak s i).sizes.length = s.sizes.length - 1 := hle
   have hlM : (qak s i).mults.length = s.mults.length - 1 := hlm
   have hLE : (qak s i).enc = .agg [.str s.name, .lst ((s.sizes.eraseIdx i).map .str), .lst ((s.mults.eraseIdx i).map q00), .lst (s.pieces.map Piece.enc), .lst (s.uses.map Use.enc), .lst (s.seams.map Sew.enc), .lst (s.ops.map Opn.enc)] := rfl
   have hLB : StyB (qak s i) := ⟨by show (s.sizes.eraseIdx i).length ≤ 1000; omega, fun x hx => hB.size x (List.mem_of_mem_eraseIdx hx), by show (s.mults.eraseIdx i).length ≤ 1000; omega, hB.pieces, hB.uses, hB.seams, hB.ops, hB.corners, hB.widths, hB.notches⟩
   have c1 := q1c (qak s i) hLB
   refine go 800 rfl ?_
   refine q0q (S := fun k : Nat => ([.int .i64 use, .ptr 1 0 0, q00 i, .ptr 3 0 0, .bool (decide (0 ∈ (s.mults.eraseIdx i).take k)), q00 k], [none, some (.row [s.enc] 7), none, some (.row [(qak s i).enc] 7), none, none], [0, 0, 0, 0, 0, 0])) (C := fun k => k ≤ (s.mults.eraseIdx i).length) (m := fun k => (s.mults.eraseIdx i).length - k) 0 (Nat.zero_le _) (by omega) ?_ ?_
   ·refine quS [none, some ([(qak s i).enc], [60, 74])] rfl ⟨rfl, qvP rfl rfl (by simp; omega) (by simp; omega) ?_ ?_, trivial⟩ (by simp [q00, qbd])
    ·exact q1t (fun _ => rfl) _
    ·exact q1t qln _
   intro k hk N hN
   refine go 800 rfl ?_
   rw [List.length_map]
   refine q02 rfl (fun e => ?_) (fun e => ?_)
   ·rw [q06] at e
    have hlt : k < (s.mults.eraseIdx i).length := by omega
    have w1 : IntKind.i64.wrap ((k : Int) + 1) = ((k + 1 : Nat) : Int) := wrap64 (by omega) (by omega)
    have hst : (0 ∈ (s.mults.eraseIdx i).take (k + 1)) ↔ (0 ∈ (s.mults.eraseIdx i).take k ∨ mu (s.mults.eraseIdx i) k = 0) := by
     rw [List.take_succ_eq_append_getElem hlt, List.mem_append, List.mem_singleton, qvO hlt]
     exact ⟨fun h => h.imp id Eq.symm, fun h => h.imp id Eq.symm⟩
    cases hb : decide (0 ∈ (s.mults.eraseIdx i).take k) with
    | true =>
      have hb := of_decide_eq_true hb
      refine go 800 rfl ?_
      refine q0e rfl ?_
      refine go 800 rfl ?_
      refine q04 ?_
      refine hN (k + 1) hlt (by omega) (q03 rfl ⟨rfl, rfl, trivial⟩ ?_)
      rw [w1, decide_eq_true (hst.2 (.inl hb))]; rfl
    | false =>
      have hb := of_decide_eq_false hb
      refine go 800 rfl ?_
      refine q0j rfl ?_
      refine go 800 rfl ?_
      refine q0k k rfl rfl rfl (qpw hlt) rfl ?_
      refine go 800 rfl ?_
      refine q04 ?_
      refine hN (k + 1) hlt (by omega) (q03 rfl ⟨rfl, rfl, trivial⟩ ?_)
      have e2 : decide (0 ∈ (s.mults.eraseIdx i).take (k + 1)) = eqb (mu (s.mults.eraseIdx i) k) 0 := by
       rw [q2i]
       exact decide_eq_decide.2 ⟨fun h => (hst.1 h).resolve_left hb, fun h => hst.2 (.inr h)⟩
      rw [w1, e2]; rfl
   rw [q07] at e
   obtain rfl : k = (s.mults.eraseIdx i).length := by omega
   clear hN
   rw [List.take_length]
   refine go 800 rfl ?_
   refine q04 ?_
   refine go 800 rfl ?_
   cases hz : decide (0 ∈ s.mults.eraseIdx i) with
   | false =>
     have hz := of_decide_eq_false hz
     rw [qvM g hi h2 hz] at c1
     refine go 800 rfl ?_
     refine q0g rfl ?_
     refine go 800 rfl ?_
     refine q01 rfl rfl c1 ?_
     refine go 800 rfl ?_
     refine q05 rfl (fun _ => ?_) he
     refine go 800 rfl ?_
     refine q01 rfl rfl q22 ?_
     refine go 800 rfl ?_
     exact q08 rfl rfl rfl trivial rfl
   | true =>
     have hz := of_decide_eq_true hz
     rw [quF g hi h2 hz] at c1
     refine go 800 rfl ?_
     refine q0m rfl ?_
     refine go 800 rfl ?_
     refine q01 rfl rfl c1 ?_
     refine go 800 rfl ?_
     refine q02 rfl hn (fun _ => ?_)
     refine go 800 rfl ?_
     refine q0q (S := fun k : Nat => ([.int .i64 use, .ptr 1 0 0, q00 i, .ptr 3 0 0, q00 k], [none, some (.row [s.enc] 7), none, some (.row [(qak s i).enc] 7), none], [0, 0, 0, 0, 0])) (C := fun k => k ≤ s.sizes.length - 1) (m := fun k => s.sizes.length - 1 - k) 0 (Nat.zero_le _) (by omega) ?_ ?_
     ·exact q03 rfl ⟨rfl, rfl, trivial⟩ rfl
     intro k hk N hN
     refine go 800 rfl ?_
     rw [List.length_map, hlS]
     refine q02 rfl (fun e => ?_) (fun e => ?_)
     ·rw [q06] at e
      have hlt : k < s.sizes.length - 1 := by omega
      have w1 : IntKind.i64.wrap ((k : Int) + 1) = ((k + 1 : Nat) : Int) := wrap64 (by omega) (by omega)
      have hc := qvN g hi h2 hz hlt use
      have k1 := qtJ (qak s i) k use hLB
      have hcl := qtx (qak s i) k use
      have hsm := qhv (qdL (qak s i) k use).1 (qdL (qak s i) k use).1 (by omega)
      rw [decide_eq_true rfl] at hsm
      refine go 800 rfl ?_
      refine q02 rfl (fun f => ?_) (fun f => ?_)
      ·rw [q0D] at f
       rw [if_neg (by omega)] at hc
       have k2 := qtJ s ((k + 1 : Nat) : Int) use hB
       rw [← hc] at k2
       refine go 800 rfl ?_
       rw [w1]
       refine go 800 rfl ?_
       refine q01 rfl rfl k1 ?_
       refine go 800 rfl ?_
       refine q01 rfl rfl k2 ?_
       refine go 800 rfl ?_
       refine q05 rfl hn (fun _ => ?_)
       refine go 800 rfl ?_
       refine q01 rfl rfl hsm ?_
       refine go 800 rfl ?_
       refine q0m rfl ?_
       refine go 800 rfl ?_
       refine q04 ?_
       exact hN (k + 1) hlt (by omega) (q03 rfl ⟨rfl, rfl, trivial⟩ (by rw [w1]; rfl))
      ·rw [q0E] at f
       rw [if_pos (by omega)] at hc
       have k2 := qtJ s (k : Int) use hB
       rw [← hc] at k2
       refine go 800 rfl ?_
       refine q01 rfl rfl k1 ?_
       refine go 800 rfl ?_
       refine q01 rfl rfl k2 ?_
       refine go 800 rfl ?_
       refine q05 rfl hn (fun _ => ?_)
       refine go 800 rfl ?_
       refine q01 rfl rfl hsm ?_
       refine go 800 rfl ?_
       refine q0m rfl ?_
       refine go 800 rfl ?_
       refine q04 ?_
       exact hN (k + 1) hlt (by omega) (q03 rfl ⟨rfl, rfl, trivial⟩ (by rw [w1]; rfl))
     rw [q07] at e
     clear hN
     refine go 800 rfl ?_
     refine q04 ?_
     refine go 800 rfl ?_
     refine q01 rfl rfl q22 ?_
     refine go 800 rfl ?_
     exact q08 rfl rfl rfl trivial rfl
end Go.F
