/- Parts of the proof, part 40: Dec. -/
import Derived.Test.YtjjkgfikkihokaaZ39
import Derived.Test.YtjjkgfikkihokaaZ37
set_option linter.all false
/- What the arguments of the statements are. -/
namespace Go.F

theorem dec_list {sh : Sh} {α : Type} {enc : α → D} (h : ∀ x, HasC sh x → ∃ a, mkD sh x = enc a) {c : List D} (hc : HasC (.sl sh) c) : ∃ l : List α, mkD (.sl sh) c = .lst (l.map enc) ∧ l.length ≤ maxLen := by
  cases hc with
  | sl _ es hl he =>
    have key : ∀ es : List (List D), (∀ x ∈ es, HasC sh x) → ∃ l : List α, es.map (mkD sh) = l.map enc ∧ l.length = es.length := by
      intro es
      induction es with
      | nil => intro _; exact ⟨[], rfl, rfl⟩
      | cons x es ih =>
        intro hx
        obtain ⟨l, h1, h2⟩ := ih fun y hy => hx y (List.mem_cons_of_mem _ hy)
        obtain ⟨a, ha⟩ := h x (hx x (List.mem_cons_self ..))
        exact ⟨a :: l, by rw [List.map_cons, ha, h1, List.map_cons], by simp [h2]⟩
    obtain ⟨l, h1, h2⟩ := key es he
    exact ⟨l, by show D.lst (es.map (mkD sh)) = _; rw [h1], by omega⟩

theorem dec_int {k : IntKind} {x : List D} (h : HasC (.int k) x) : ∃ n : Int, x = [.int k n] ∧ k.min ≤ n ∧ n ≤ k.max := by
  cases h with
  | int _ n hn => exact ⟨n, rfl, hn⟩

theorem dec_bool {x : List D} (h : HasC .bool x) : ∃ b : Bool, x = [.bool b] := by
  cases h with
  | bool b => exact ⟨b, rfl⟩

theorem dec_str {x : List D} (h : HasC .str x) : ∃ s : ByteArray, x = [.str s] ∧ s.size ≤ maxLen := by
  cases h with
  | str s hs => exact ⟨s, rfl, hs⟩

theorem dec_nil {x : List D} (h : HasC (.st []) x) : x = [] := by
  cases h; rfl

theorem dec_cons {s : Sh} {ss : List Sh} {x : List D} (h : HasC (.st (s :: ss)) x) : ∃ a b, x = a ++ b ∧ HasC s a ∧ HasC (.st ss) b := by
  cases h with
  | stc _ _ a b ha hb => exact ⟨a, b, rfl, ha, hb⟩

def shSpot : Sh := .st [.int .i64, .int .i64]
def shEdge : Sh := .st [.str, .sl shSpot]
def shEdges : Sh := .sl shEdge
def shInts : Sh := .sl (.int .i64)

theorem dec_spot {x : List D} (h : HasC shSpot x) : ∃ s : Spot, mkD shSpot x = s.enc ∧ x = [.int .i64 s.x, .int .i64 s.y] ∧ (IntKind.i64.min ≤ s.x ∧ s.x ≤ IntKind.i64.max) ∧ (IntKind.i64.min ≤ s.y ∧ s.y ≤ IntKind.i64.max) := by
  obtain ⟨a, b, rfl, ha, hb⟩ := dec_cons h
  obtain ⟨c, d, rfl, hc, hd⟩ := dec_cons hb
  obtain ⟨n, rfl, hn⟩ := dec_int ha
  obtain ⟨m, rfl, hm⟩ := dec_int hc
  obtain rfl := dec_nil hd
  exact ⟨⟨n, m⟩, rfl, rfl, hn, hm⟩

theorem dec_edge {x : List D} (h : HasC shEdge x) : ∃ e : Edge, mkD shEdge x = e.enc := by
  obtain ⟨a, b, rfl, ha, hb⟩ := dec_cons h
  obtain ⟨c, d, rfl, hc, hd⟩ := dec_cons hb
  obtain ⟨s, rfl, _⟩ := dec_str ha
  obtain rfl := dec_nil hd
  obtain ⟨l, hl, _⟩ := dec_list (enc := Spot.enc) (fun x hx => by obtain ⟨s, h1, _⟩ := dec_spot hx; exact ⟨s, h1⟩) hc
  refine ⟨⟨s, l⟩, ?_⟩
  show D.agg ([.str s] ++ (c ++ [])) = .agg [.str s, spots l]
  have : c = [spots l] := by
    cases hc with
    | sl _ es _ _ => show [_] = [_]; rw [show D.lst (es.map (mkD shSpot)) = spots l from hl]
  rw [this]; rfl

theorem dec_edges {x : List D} (h : HasC shEdges x) : ∃ l : List Edge, mkD shEdges x = edges l ∧ l.length ≤ maxLen := dec_list (fun _ hx => dec_edge hx) h

theorem dec_ints {x : List D} (h : HasC shInts x) : ∃ l : List Int, mkD shInts x = ints l ∧ l.length ≤ maxLen :=
  dec_list (enc := encInt) (fun x hx => by obtain ⟨n, rfl, _⟩ := dec_int hx; exact ⟨n, rfl⟩) h

def shFour : Sh := .st [.int .i64, .int .i64, .int .i64, .int .i64]

theorem dec_four {x : List D} (h : HasC shFour x) : ∃ a b c d : Int, mkD shFour x = .agg [.int .i64 a, .int .i64 b, .int .i64 c, .int .i64 d] := by
  obtain ⟨x1, r1, rfl, h1, g1⟩ := dec_cons h
  obtain ⟨x2, r2, rfl, h2, g2⟩ := dec_cons g1
  obtain ⟨x3, r3, rfl, h3, g3⟩ := dec_cons g2
  obtain ⟨x4, r4, rfl, h4, g4⟩ := dec_cons g3
  obtain ⟨a, rfl, _⟩ := dec_int h1
  obtain ⟨b, rfl, _⟩ := dec_int h2
  obtain ⟨c, rfl, _⟩ := dec_int h3
  obtain ⟨d, rfl, _⟩ := dec_int h4
  obtain rfl := dec_nil g4
  exact ⟨a, b, c, d, rfl⟩

end Go.F
