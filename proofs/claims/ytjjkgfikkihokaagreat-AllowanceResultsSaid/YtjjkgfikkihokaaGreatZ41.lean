/- Parts of the proof, part 41: Dec. -/
import Derived.Test.YtjjkgfikkihokaaGreatZ40
import Derived.Test.YtjjkgfikkihokaaGreatZ38
set_option linter.all false
namespace Go.F
theorem qec {sh : Sh} {α : Type} {enc : α → D} (h : ∀ x, HasC sh x → ∃ a, mkD sh x = enc a) {c : List D} (hc : HasC (.sl sh) c) : ∃ l : List α, mkD (.sl sh) c = .lst (l.map enc) ∧ l.length ≤ maxLen := by
 cases hc with
 | sl _ es hl he =>
   have key : ∀ es : List (List D), (∀ x ∈ es, HasC sh x) → ∃ l : List α, es.map (mkD sh) = l.map enc ∧ l.length = es.length := by
    intro es
    induction es with
    | nil => intro _; exact ⟨[], rfl, rfl⟩
    | cons x es ih =>
      intro hx
      obtain ⟨l, h1, h2⟩ := ih fun y hy => hx y (List.mem_cons_of_mem _ hy)
      obtain ⟨a, ha⟩ := h x (hx x (List.mem_cons_self ..))
      exact ⟨a :: l, by rw [List.map_cons, ha, h1, List.map_cons], by simp [h2]⟩
   obtain ⟨l, h1, h2⟩ := key es he
   exact ⟨l, by show D.lst (es.map (mkD sh)) = _; rw [h1], by omega⟩
theorem qgH {k : IntKind} {x : List D} (h : HasC (.int k) x) : ∃ n : Int, x = [.int k n] ∧ k.min ≤ n ∧ n ≤ k.max := by
 cases h with
 | int _ n hn => exact ⟨n, rfl, hn⟩
theorem qoa {x : List D} (h : HasC .str x) : ∃ s : ByteArray, x = [.str s] ∧ s.size ≤ maxLen := by
 cases h with
 | str s hs => exact ⟨s, rfl, hs⟩
theorem qkl {x : List D} (h : HasC (.st []) x) : x = [] := by
 cases h; rfl
theorem qbh {s : Sh} {ss : List Sh} {x : List D} (h : HasC (.st (s :: ss)) x) : ∃ a b, x = a ++ b ∧ HasC s a ∧ HasC (.st ss) b := by
 cases h with
 | stc _ _ a b ha hb => exact ⟨a, b, rfl, ha, hb⟩
def qgI : Sh := .st [.int .i64, .int .i64]
def qjz : Sh := .st [.str, .sl qgI]
def qkm : Sh := .sl qjz
def qmU : Sh := .sl (.int .i64)
theorem qmV {x : List D} (h : HasC qgI x) : ∃ s : Spot, mkD qgI x = s.enc ∧ x = [.int .i64 s.x, .int .i64 s.y] ∧ (IntKind.i64.min ≤ s.x ∧ s.x ≤ IntKind.i64.max) ∧ (IntKind.i64.min ≤ s.y ∧ s.y ≤ IntKind.i64.max) := by
 obtain ⟨a, b, rfl, ha, hb⟩ := qbh h
 obtain ⟨c, d, rfl, hc, hd⟩ := qbh hb
 obtain ⟨n, rfl, hn⟩ := qgH ha
 obtain ⟨m, rfl, hm⟩ := qgH hc
 obtain rfl := qkl hd
 exact ⟨⟨n, m⟩, rfl, rfl, hn, hm⟩
theorem qmW {x : List D} (h : HasC qjz x) : ∃ e : Edge, mkD qjz x = e.enc := by
 obtain ⟨a, b, rfl, ha, hb⟩ := qbh h
 obtain ⟨c, d, rfl, hc, hd⟩ := qbh hb
 obtain ⟨s, rfl, _⟩ := qoa ha
 obtain rfl := qkl hd
 obtain ⟨l, hl, _⟩ := qec (enc := Spot.enc) (fun x hx => by obtain ⟨s, h1, _⟩ := qmV hx; exact ⟨s, h1⟩) hc
 refine ⟨⟨s, l⟩, ?_⟩
 show D.agg ([.str s] ++ (c ++ [])) = .agg [.str s, q0k l]
 have : c = [q0k l] := by
  cases hc with
  | sl _ es _ _ => show [_] = [_]; rw [show D.lst (es.map (mkD qgI)) = q0k l from hl]
 rw [this]; rfl
theorem dec_edges {x : List D} (h : HasC qkm x) : ∃ l : List Edge, mkD qkm x = q0A l ∧ l.length ≤ maxLen := qec (fun _ hx => qmW hx) h
theorem dec_ints {x : List D} (h : HasC qmU x) : ∃ l : List Int, mkD qmU x = ints l ∧ l.length ≤ maxLen :=
 qec (enc := q01) (fun x hx => by obtain ⟨n, rfl, _⟩ := qgH hx; exact ⟨n, rfl⟩) h
end Go.F
