/- Parts of the proof, part 40: Dec. -/
import Derived.Test.YtdhpbljlnlpibaaGreatZ39
import Derived.Test.YtdhpbljlnlpibaaGreatZ37
set_option linter.all false
namespace Go.F
theorem qf4 {sh : Sh} {α : Type} {enc : α → D} (h : ∀ x, HasC sh x → ∃ a, mkD sh x = enc a) {c : List D} (hc : HasC (.sl sh) c) : ∃ l : List α, mkD (.sl sh) c = .lst (l.map enc) ∧ l.length ≤ maxLen := by
 cases hc with
 | sl _ es hl he =>
   have key : ∀ es : List (List D), (∀ x ∈ es, HasC sh x) → ∃ l : List α, es.map (mkD sh) = l.map enc ∧ l.length = es.length := by
    intro es
    induction es with
    | nil => intro _; exact ⟨[], rfl, rfl⟩
    | cons x es ih =>
      intro hx
      obtain ⟨l, h1, h2⟩ := ih fun y hy => hx y (List.mem_cons_of_mem _ hy)
      obtain ⟨a, ha⟩ := h x (hx x (List.mem_cons_self ..))
      exact ⟨a :: l, by rw [List.map_cons, ha, h1, List.map_cons], by simp [h2]⟩
   obtain ⟨l, h1, h2⟩ := key es he
   exact ⟨l, by show D.lst (es.map (mkD sh)) = _; rw [h1], by omega⟩
theorem q1V {k : IntKind} {x : List D} (h : HasC (.int k) x) : ∃ n : Int, x = [.int k n] ∧ k.min ≤ n ∧ n ≤ k.max := by
 cases h with
 | int _ n hn => exact ⟨n, rfl, hn⟩
theorem qiv {x : List D} (h : HasC .bool x) : ∃ b : Bool, x = [.bool b] := by
 cases h with
 | bool b => exact ⟨b, rfl⟩
theorem qf5 {x : List D} (h : HasC .str x) : ∃ s : ByteArray, x = [.str s] ∧ s.size ≤ maxLen := by
 cases h with
 | str s hs => exact ⟨s, rfl, hs⟩
theorem q7G {x : List D} (h : HasC (.st []) x) : x = [] := by
 cases h; rfl
theorem q0M {s : Sh} {ss : List Sh} {x : List D} (h : HasC (.st (s :: ss)) x) : ∃ a b, x = a ++ b ∧ HasC s a ∧ HasC (.st ss) b := by
 cases h with
 | stc _ _ a b ha hb => exact ⟨a, b, rfl, ha, hb⟩
def qiw : Sh := .st [.int .i64, .int .i64]
def qow : Sh := .st [.str, .sl qiw]
def qlr : Sh := .sl qow
def qgl : Sh := .sl (.int .i64)
theorem qmI {x : List D} (h : HasC qiw x) : ∃ s : Spot, mkD qiw x = s.enc ∧ x = [.int .i64 s.x, .int .i64 s.y] ∧ (IntKind.i64.min ≤ s.x ∧ s.x ≤ IntKind.i64.max) ∧ (IntKind.i64.min ≤ s.y ∧ s.y ≤ IntKind.i64.max) := by
 obtain ⟨a, b, rfl, ha, hb⟩ := q0M h
 obtain ⟨c, d, rfl, hc, hd⟩ := q0M hb
 obtain ⟨n, rfl, hn⟩ := q1V ha
 obtain ⟨m, rfl, hm⟩ := q1V hc
 obtain rfl := q7G hd
 exact ⟨⟨n, m⟩, rfl, rfl, hn, hm⟩
theorem qmJ {x : List D} (h : HasC qow x) : ∃ e : Edge, mkD qow x = e.enc := by
 obtain ⟨a, b, rfl, ha, hb⟩ := q0M h
 obtain ⟨c, d, rfl, hc, hd⟩ := q0M hb
 obtain ⟨s, rfl, _⟩ := qf5 ha
 obtain rfl := q7G hd
 obtain ⟨l, hl, _⟩ := qf4 (enc := Spot.enc) (fun x hx => by obtain ⟨s, h1, _⟩ := qmI hx; exact ⟨s, h1⟩) hc
 refine ⟨⟨s, l⟩, ?_⟩
 show D.agg ([.str s] ++ (c ++ [])) = .agg [.str s, q0o l]
 have : c = [q0o l] := by
  cases hc with
  | sl _ es _ _ => show [_] = [_]; rw [show D.lst (es.map (mkD qiw)) = q0o l from hl]
 rw [this]; rfl
theorem dec_ints {x : List D} (h : HasC qgl x) : ∃ l : List Int, mkD qgl x = ints l ∧ l.length ≤ maxLen :=
 qf4 (enc := q00) (fun x hx => by obtain ⟨n, rfl, _⟩ := q1V hx; exact ⟨n, rfl⟩) h
end Go.F
