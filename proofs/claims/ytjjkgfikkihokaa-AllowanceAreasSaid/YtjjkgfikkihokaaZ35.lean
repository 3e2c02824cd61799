/- Parts of the proof, part 35: Table. -/
import Derived.Test.YtjjkgfikkihokaaZ34
import Derived.Test.YtjjkgfikkihokaaZ33
set_option linter.all false
/- The table of this seat is right. -/
namespace Go.F
open Go.Proofs

def OkAt : Nat → List (Option KFn) → Prop
  | _, [] => True
  | i, none :: r => OkAt (i + 1) r
  | i, some k :: r => (Try.prog.funcs[i]?).bind (fun F => F.body.bind fun _ => cfn Try.prog (plan i) F) = some k ∧ OkAt (i + 1) r

theorem OkAt.at : ∀ {l : List (Option KFn)} {i j : Nat} {k : KFn}, OkAt i l → l[j]? = some (some k) → (Try.prog.funcs[i + j]?).bind (fun F => F.body.bind fun _ => cfn Try.prog (plan (i + j)) F) = some k := by
  intro l
  induction l with
  | nil => intro i j k _ h; simp at h
  | cons x l ih =>
    intro i j k h hj
    cases j with
    | zero => simp at hj; subst hj; exact h.1
    | succ j =>
      simp at hj
      have hr : OkAt (i + 1) l := by
        cases x with
        | none => exact h
        | some k => exact h.2
      have := ih hr hj
      rw [show i + (j + 1) = i + 1 + j by omega]
      exact this

set_option maxRecDepth 100000
theorem tab_all : OkAt 0 tabL :=
  ⟨ok3, ⟨ok4, ⟨ok5, ⟨ok6, ⟨ok7, ⟨ok8, ⟨ok9, ⟨ok10, ⟨ok11, ⟨ok12, ⟨ok13, ⟨ok14, ⟨ok15, ⟨ok16, ⟨ok17, ⟨ok18, ⟨ok19, ⟨ok20, ⟨ok21, ⟨ok22, ⟨ok23, ⟨ok24, ⟨ok25, ⟨ok26, ⟨ok27, ⟨ok28, ⟨ok29, ⟨ok30, ⟨ok31, ⟨ok32, ⟨ok33, ⟨ok34, ⟨ok35, ⟨ok36, ⟨ok37, ⟨ok38, ⟨ok39, ⟨ok40, ⟨ok41, ⟨ok42, ⟨ok43, ⟨ok44, ⟨ok45, ⟨ok46, ⟨ok47, ⟨ok48, ⟨ok49, ⟨ok50, ⟨ok51, ⟨ok52, ⟨ok53, ⟨ok54, ⟨ok56, ⟨ok57, ⟨ok58, ⟨ok59, ⟨ok60, ⟨ok61, ⟨ok62, ⟨ok63, ⟨ok64, ⟨ok65, ⟨ok66, ⟨ok67, ⟨ok68, ⟨ok69, ⟨ok70, ⟨ok71, ⟨ok72, ⟨ok73, ⟨ok74, ⟨ok75, ⟨ok76, ⟨ok77, ⟨ok78, ⟨ok79, ⟨ok80, ⟨ok81, ⟨ok82, ⟨ok83, ⟨ok84, ⟨ok85, ⟨ok86, ⟨ok87, ⟨ok88, ⟨ok89, ⟨ok90, ⟨ok91, ⟨ok92, ⟨ok93, ⟨ok94, ⟨ok95, ⟨ok96, ⟨ok97, ⟨ok98, ⟨ok99, ⟨ok100, ⟨ok101, ⟨ok102, trivial⟩⟩⟩⟩⟩⟩⟩⟩⟩⟩⟩⟩⟩⟩⟩⟩⟩⟩⟩⟩⟩⟩⟩⟩⟩⟩⟩⟩⟩⟩⟩⟩⟩⟩⟩⟩⟩⟩⟩⟩⟩⟩⟩⟩⟩⟩⟩⟩⟩⟩⟩⟩⟩⟩⟩⟩⟩⟩⟩⟩⟩⟩⟩⟩⟩⟩⟩⟩⟩⟩⟩⟩⟩⟩⟩⟩⟩⟩⟩⟩⟩⟩⟩⟩⟩⟩⟩⟩⟩⟩⟩⟩⟩⟩⟩⟩⟩⟩⟩

theorem prog_ok : okProg Try.prog sharedB = true := by kernel_rfl

/- the pure functions of the program -/
noncomputable def PU : Pure := PUof Try.prog sharedB plan

noncomputable def TT : Tab := ⟨PU, sharedB, tab⟩

theorem tt_ok : TOK Try.prog sharedB plan TT where
  sh := rfl
  pu := fun _ _ _ h => PUof_ev h
  tab := fun f fn h => by
    have h1 : tabL[f]? = some (some fn) := by
      have : tabL.getD f none = some fn := h
      rw [List.getD_eq_getElem?_getD] at this
      cases hx : tabL[f]? with
      | none => simp [hx] at this
      | some o => simp [hx] at this; rw [this]
    have h2 := OkAt.at tab_all h1
    rw [Nat.zero_add] at h2
    cases hF : Try.prog.funcs[f]? with
    | none => simp [hF] at h2
    | some F =>
      cases hb : F.body with
      | none => simp [hF, hb] at h2
      | some c => exact ⟨F, c, rfl, hb, by simpa [hF, hb] using h2⟩

/- A FUNCTION: what the K machine shows, the function gives -/
theorem PU_of {f : FuncId} {fn : KFn} {args : List D} {r : D} (hf : tab f = some fn) (hw : wfun TT fn args r) : PU f args = some r := PUof_of (wfun_sound tt_ok hf hw)

/- A CALL in the model -/
theorem PU_calls {f : FuncId} {fn : KFn} {args : List D} {r : D} (hf : tab f = some fn) (hp : PU f args = some r) {w : World} {vs : Array Value} (hl : ListVR noMap (fun b _ => b < w.heap.size) w args vs) :
    Calls Try.prog f vs w fun e w' => ∃ v, e = .returned v ∧ VR noMap (fun b _ => b < w'.heap.size) w' r v ∧ RowKit.Below w.heap.size w w' := by
  obtain ⟨F, c, h1, h2, _⟩ := tt_ok.tab f fn hf
  obtain ⟨N, hN⟩ := PUof_ev hp
  exact run_sound sharedB plan prog_ok sqrt_ok h1 h2 (N := N) (hN N (Nat.le_refl _)) hl

end Go.F
