/- Parts of the proof, part 35: Table. -/
import Derived.Test.YtdhpbljlnlpibaaGreatZ34
import Derived.Test.YtdhpbljlnlpibaaGreatZ33
import Derived.Test.YtdhpbljlnlpibaaGreatZ25
import Derived.Test.YtdhpbljlnlpibaaGreatProg
import Derived.KernelRfl
set_option linter.all false
namespace Go.F
open Go.Proofs
def OkAt : Nat → List (Option KFn) → Prop
 | _, [] => True
 | i, none :: r => OkAt (i + 1) r
 | i, some k :: r => (Tryz.prog.funcs[i]?).bind (fun F => F.body.bind fun _ => cfn Tryz.prog (q0r i) F) = some k ∧ OkAt (i + 1) r
theorem OkAt.at : ∀ {l : List (Option KFn)} {i j : Nat} {k : KFn}, OkAt i l → l[j]? = some (some k) → (Tryz.prog.funcs[i + j]?).bind (fun F => F.body.bind fun _ => cfn Tryz.prog (q0r (i + j)) F) = some k := by
 intro l
 induction l with
 | nil => intro i j k _ h; simp at h
 | cons x l ih =>
   intro i j k h hj
   cases j with
   | zero => simp at hj; subst hj; exact h.1
   | succ j =>
     simp at hj
     have hr : OkAt (i + 1) l := by
      cases x with
      | none => exact h
      | some k => exact h.2
     have := ih hr hj
     rw [show i + (j + 1) = i + 1 + j by omega]
     exact this
set_option maxRecDepth 100000
theorem quU : OkAt 0 tabL :=
 ⟨by kernel_rfl, by kernel_rfl, by kernel_rfl, by kernel_rfl, by kernel_rfl, by kernel_rfl, by kernel_rfl, by kernel_rfl, by kernel_rfl, by kernel_rfl, by kernel_rfl, by kernel_rfl, by kernel_rfl, by kernel_rfl, by kernel_rfl, by kernel_rfl, by kernel_rfl, by kernel_rfl, by kernel_rfl, by kernel_rfl, by kernel_rfl, by kernel_rfl, by kernel_rfl, by kernel_rfl, by kernel_rfl, by kernel_rfl, by kernel_rfl, by kernel_rfl, by kernel_rfl, by kernel_rfl, by kernel_rfl, by kernel_rfl, by kernel_rfl, by kernel_rfl, by kernel_rfl, by kernel_rfl, by kernel_rfl, by kernel_rfl, by kernel_rfl, by kernel_rfl, by kernel_rfl, by kernel_rfl, by kernel_rfl, by kernel_rfl, by kernel_rfl, by kernel_rfl, by kernel_rfl, by kernel_rfl, by kernel_rfl, by kernel_rfl, by kernel_rfl, by kernel_rfl, by kernel_rfl, by kernel_rfl, by kernel_rfl, by kernel_rfl, by kernel_rfl, by kernel_rfl, by kernel_rfl, by kernel_rfl, by kernel_rfl, by kernel_rfl, by kernel_rfl, by kernel_rfl, by kernel_rfl, by kernel_rfl, by kernel_rfl, by kernel_rfl, by kernel_rfl, by kernel_rfl, by kernel_rfl, by kernel_rfl, by kernel_rfl, by kernel_rfl, by kernel_rfl, by kernel_rfl, by kernel_rfl, by kernel_rfl, by kernel_rfl, by kernel_rfl, by kernel_rfl, by kernel_rfl, by kernel_rfl, by kernel_rfl, by kernel_rfl, by kernel_rfl, by kernel_rfl, by kernel_rfl, by kernel_rfl, by kernel_rfl, by kernel_rfl, by kernel_rfl, by kernel_rfl, by kernel_rfl, by kernel_rfl, by kernel_rfl, by kernel_rfl, by kernel_rfl, by kernel_rfl, by kernel_rfl, by kernel_rfl, by kernel_rfl, by kernel_rfl, by kernel_rfl, by kernel_rfl, by kernel_rfl, by kernel_rfl, by kernel_rfl, by kernel_rfl, by kernel_rfl, by kernel_rfl, by kernel_rfl, by kernel_rfl, by kernel_rfl, by kernel_rfl, by kernel_rfl, by kernel_rfl, by kernel_rfl, by kernel_rfl, by kernel_rfl, by kernel_rfl, by kernel_rfl, by kernel_rfl, by kernel_rfl, by kernel_rfl, by kernel_rfl, by kernel_rfl, by kernel_rfl, by kernel_rfl, by kernel_rfl, by kernel_rfl, by kernel_rfl, by kernel_rfl, by kernel_rfl, by kernel_rfl, by kernel_rfl, by kernel_rfl, by kernel_rfl, by kernel_rfl, by kernel_rfl, by kernel_rfl, by kernel_rfl, by kernel_rfl, by kernel_rfl, by kernel_rfl, by kernel_rfl, by kernel_rfl, by kernel_rfl, by kernel_rfl, by kernel_rfl, by kernel_rfl, by kernel_rfl, by kernel_rfl, by kernel_rfl, by kernel_rfl, by kernel_rfl, by kernel_rfl, by kernel_rfl, by kernel_rfl, by kernel_rfl, by kernel_rfl, by kernel_rfl, by kernel_rfl, by kernel_rfl, by kernel_rfl, trivial⟩
theorem quV : qix Tryz.prog q6Z = true := by kernel_rfl
noncomputable def PU : Pure := PUof Tryz.prog q6Z q0r
noncomputable def TT : Tab := ⟨PU, q6Z, tab⟩
theorem tt_ok : TOK Tryz.prog q6Z q0r TT where
 sh := rfl
 pu := fun _ _ _ h => qq1 h
 tab := fun f fn h => by
  have h1 : tabL[f]? = some (some fn) := by
   have : tabL.getD f none = some fn := h
   rw [List.getD_eq_getElem?_getD] at this
   cases hx : tabL[f]? with
   | none => simp [hx] at this
   | some o => simp [hx] at this; rw [this]
  have h2 := OkAt.at quU h1
  rw [Nat.zero_add] at h2
  cases hF : Tryz.prog.funcs[f]? with
  | none => simp [hF] at h2
  | some F =>
    cases hb : F.body with
    | none => simp [hF, hb] at h2
    | some c => exact ⟨F, c, rfl, hb, by simpa [hF, hb] using h2⟩
theorem q0h {f : FuncId} {fn : KFn} {args : List D} {r : D} (hf : tab f = some fn) (hw : wfun TT fn args r) : PU f args = some r := qlO (qoQ tt_ok hf hw)
theorem PU_calls {f : FuncId} {fn : KFn} {args : List D} {r : D} (hf : tab f = some fn) (hp : PU f args = some r) {w : World} {vs : Array Value} (hl : q31 q1i (fun b _ => b < w.heap.size) w args vs) :
 Calls Tryz.prog f vs w fun e w' => ∃ v, e = .returned v ∧ VR q1i (fun b _ => b < w'.heap.size) w' r v ∧ RowKit.Below w.heap.size w w' := by
 obtain ⟨F, c, h1, h2, _⟩ := tt_ok.tab f fn hf
 obtain ⟨N, hN⟩ := qq1 hp
 exact qrQ q6Z q0r quV quG h1 h2 (N := N) (hN N (Nat.le_refl _)) hl
end Go.F
