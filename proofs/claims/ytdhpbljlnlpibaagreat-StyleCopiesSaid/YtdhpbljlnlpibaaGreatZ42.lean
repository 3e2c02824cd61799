/- Parts of the proof, part 42: SDec. -/
import Derived.Test.YtdhpbljlnlpibaaGreatZ40
import Derived.Test.YtdhpbljlnlpibaaGreatZ41
set_option linter.all false
namespace Go.F
theorem q57 {sh : Sh} {α : Type} {enc : α → D} (h : ∀ x, HasC sh x → ∃ a, mkD sh x = enc a) {c : List D} (hc : HasC (.sl sh) c) : ∃ l : List α, c = [.lst (l.map enc)] ∧ l.length ≤ maxLen := by
 obtain ⟨l, h1, h2⟩ := qf4 h hc
 refine ⟨l, ?_, h2⟩
 cases hc with
 | sl _ es _ _ => rw [← h1]; rfl
def qts : Sh := .st [.int .i64, .int .i64]
def qmq : Sh := .st [.str, qlr, .int .i64, .sl qts, .sl qiw, qgl, .bool]
def qtt : Sh := .st [.int .i64, .int .i64, .bool]
def qtu : Sh := .st [.int .i64, .int .i64, .int .i64, .int .i64, .bool, .int .i64]
def qtv : Sh := .st [.str, .int .i64, .int .i64, qgl, qgl]
def shSty : Sh := .st [.str, .sl .str, qgl, .sl qmq, .sl qtt, .sl qtu, .sl qtv]
theorem qfM {x : List D} (h : HasC (.int .i64) x) : ∃ n : Int, mkD (.int .i64) x = q00 n := by
 obtain ⟨n, rfl, _⟩ := q1V h
 exact ⟨n, rfl⟩
theorem qtw {x : List D} (h : HasC .str x) : ∃ s : ByteArray, mkD .str x = D.str s := by
 obtain ⟨s, rfl, _⟩ := qf5 h
 exact ⟨s, rfl⟩
theorem quB {x : List D} (h : HasC qts x) : ∃ n : Ntc, mkD qts x = n.enc := by
 obtain ⟨a, b, rfl, ha, hb⟩ := q0M h
 obtain ⟨c, d, rfl, hc, hd⟩ := q0M hb
 obtain ⟨n, rfl, _⟩ := q1V ha
 obtain ⟨m, rfl, _⟩ := q1V hc
 obtain rfl := q7G hd
 exact ⟨⟨n, m⟩, rfl⟩
theorem quC {x : List D} (h : HasC qtt x) : ∃ n : Use, mkD qtt x = n.enc := by
 obtain ⟨a, b, rfl, ha, hb⟩ := q0M h
 obtain ⟨c, d, rfl, hc, hd⟩ := q0M hb
 obtain ⟨e, f, rfl, he, hf⟩ := q0M hd
 obtain ⟨n, rfl, _⟩ := q1V ha
 obtain ⟨m, rfl, _⟩ := q1V hc
 obtain ⟨k, rfl⟩ := qiv he
 obtain rfl := q7G hf
 exact ⟨⟨n, m, k⟩, rfl⟩
theorem quD {x : List D} (h : HasC qtu x) : ∃ n : Sew, mkD qtu x = n.enc := by
 obtain ⟨a1, r1, rfl, h1, g1⟩ := q0M h
 obtain ⟨a2, r2, rfl, h2, g2⟩ := q0M g1
 obtain ⟨a3, r3, rfl, h3, g3⟩ := q0M g2
 obtain ⟨a4, r4, rfl, h4, g4⟩ := q0M g3
 obtain ⟨a5, r5, rfl, h5, g5⟩ := q0M g4
 obtain ⟨a6, r6, rfl, h6, g6⟩ := q0M g5
 obtain ⟨n1, rfl, _⟩ := q1V h1
 obtain ⟨n2, rfl, _⟩ := q1V h2
 obtain ⟨n3, rfl, _⟩ := q1V h3
 obtain ⟨n4, rfl, _⟩ := q1V h4
 obtain ⟨n5, rfl⟩ := qiv h5
 obtain ⟨n6, rfl, _⟩ := q1V h6
 obtain rfl := q7G g6
 exact ⟨⟨n1, n2, n3, n4, n5, n6⟩, rfl⟩
theorem quE {x : List D} (h : HasC qtv x) : ∃ n : Opn, mkD qtv x = n.enc := by
 obtain ⟨a1, r1, rfl, h1, g1⟩ := q0M h
 obtain ⟨a2, r2, rfl, h2, g2⟩ := q0M g1
 obtain ⟨a3, r3, rfl, h3, g3⟩ := q0M g2
 obtain ⟨a4, r4, rfl, h4, g4⟩ := q0M g3
 obtain ⟨a5, r5, rfl, h5, g5⟩ := q0M g4
 obtain ⟨n1, rfl, _⟩ := qf5 h1
 obtain ⟨n2, rfl, _⟩ := q1V h2
 obtain ⟨n3, rfl, _⟩ := q1V h3
 obtain ⟨n4, rfl, _⟩ := q57 (fun _ hx => qfM hx) h4
 obtain ⟨n5, rfl, _⟩ := q57 (fun _ hx => qfM hx) h5
 obtain rfl := q7G g5
 exact ⟨⟨n1, n2, n3, n4, n5⟩, rfl⟩
theorem qrG {x : List D} (h : HasC qmq x) : ∃ n : Piece, mkD qmq x = n.enc := by
 obtain ⟨a1, r1, rfl, h1, g1⟩ := q0M h
 obtain ⟨a2, r2, rfl, h2, g2⟩ := q0M g1
 obtain ⟨a3, r3, rfl, h3, g3⟩ := q0M g2
 obtain ⟨a4, r4, rfl, h4, g4⟩ := q0M g3
 obtain ⟨a5, r5, rfl, h5, g5⟩ := q0M g4
 obtain ⟨a6, r6, rfl, h6, g6⟩ := q0M g5
 obtain ⟨a7, r7, rfl, h7, g7⟩ := q0M g6
 obtain ⟨n1, rfl, _⟩ := qf5 h1
 obtain ⟨n2, rfl, _⟩ := q57 (fun _ hx => qmJ hx) h2
 obtain ⟨n3, rfl, _⟩ := q1V h3
 obtain ⟨n4, rfl, _⟩ := q57 (fun _ hx => quB hx) h4
 obtain ⟨n5, rfl, _⟩ := q57 (enc := Spot.enc) (fun _ hx => by obtain ⟨s, e, _⟩ := qmI hx; exact ⟨s, e⟩) h5
 obtain ⟨n6, rfl, _⟩ := q57 (fun _ hx => qfM hx) h6
 obtain ⟨n7, rfl⟩ := qiv h7
 obtain rfl := q7G g7
 exact ⟨⟨n1, n2, n3, n4, n5, n6, n7⟩, rfl⟩
theorem dec_sty {x : List D} (h : HasC shSty x) : ∃ n : Sty, mkD shSty x = n.enc := by
 obtain ⟨a1, r1, rfl, h1, g1⟩ := q0M h
 obtain ⟨a2, r2, rfl, h2, g2⟩ := q0M g1
 obtain ⟨a3, r3, rfl, h3, g3⟩ := q0M g2
 obtain ⟨a4, r4, rfl, h4, g4⟩ := q0M g3
 obtain ⟨a5, r5, rfl, h5, g5⟩ := q0M g4
 obtain ⟨a6, r6, rfl, h6, g6⟩ := q0M g5
 obtain ⟨a7, r7, rfl, h7, g7⟩ := q0M g6
 obtain ⟨n1, rfl, _⟩ := qf5 h1
 obtain ⟨n2, rfl, _⟩ := q57 (fun _ hx => qtw hx) h2
 obtain ⟨n3, rfl, _⟩ := q57 (fun _ hx => qfM hx) h3
 obtain ⟨n4, rfl, _⟩ := q57 (fun _ hx => qrG hx) h4
 obtain ⟨n5, rfl, _⟩ := q57 (fun _ hx => quC hx) h5
 obtain ⟨n6, rfl, _⟩ := q57 (fun _ hx => quD hx) h6
 obtain ⟨n7, rfl, _⟩ := q57 (fun _ hx => quE hx) h7
 obtain rfl := q7G g7
 exact ⟨⟨n1, n2, n3, n4, n5, n6, n7⟩, rfl⟩
end Go.F
