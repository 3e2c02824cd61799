/- Parts of the proof, part 36: Table. -/
import Derived.Test.YtjjkgfikkihokaaGreatZ35
import Derived.Test.YtjjkgfikkihokaaGreatZ34
set_option linter.all false
namespace Go.F
open Go.Proofs
def OkAt : Nat → List (Option KFn) → Prop
 | _, [] => True
 | i, none :: r => OkAt (i + 1) r
 | i, some k :: r => (Tryz.prog.funcs[i]?).bind (fun F => F.body.bind fun _ => cfn Tryz.prog (q0t i) F) = some k ∧ OkAt (i + 1) r
theorem OkAt.at : ∀ {l : List (Option KFn)} {i j : Nat} {k : KFn}, OkAt i l → l[j]? = some (some k) → (Tryz.prog.funcs[i + j]?).bind (fun F => F.body.bind fun _ => cfn Tryz.prog (q0t (i + j)) F) = some k := by
 intro l
 induction l with
 | nil => intro i j k _ h; simp at h
 | cons x l ih =>
   intro i j k h hj
   cases j with
   | zero => simp at hj; subst hj; exact h.1
   | succ j =>
     simp at hj
     have hr : OkAt (i + 1) l := by
      cases x with
      | none => exact h
      | some k => exact h.2
     have := ih hr hj
     rw [show i + (j + 1) = i + 1 + j by omega]
     exact this
set_option maxRecDepth 100000
theorem qo7 : OkAt 0 tabL :=
 ⟨ok4, ⟨ok15, ⟨ok16, ⟨ok17, ⟨ok19, ⟨ok20, ⟨ok21, ⟨ok24, ⟨ok25, ⟨ok26, ⟨ok27, ⟨ok36, ⟨ok37, ⟨ok42, ⟨ok46, ⟨ok47, ⟨ok48, ⟨ok49, ⟨ok50, ⟨ok51, ⟨ok52, ⟨ok53, ⟨ok54, ⟨ok55, ⟨ok56, ⟨ok57, ⟨ok58, ⟨ok59, ⟨ok60, ⟨ok61, ⟨ok63, ⟨ok64, ⟨ok65, ⟨ok66, ⟨ok67, ⟨ok68, ⟨ok69, ⟨ok70, ⟨ok79, ⟨ok80, ⟨ok81, ⟨ok82, ⟨ok85, ⟨ok91, ⟨ok92, ⟨ok93, ⟨ok94, ⟨ok95, ⟨ok96, ⟨ok97, ⟨ok98, ⟨ok99, ⟨ok100, ⟨ok101, ⟨ok102, ⟨ok103, ⟨ok104, ⟨ok105, ⟨ok106, ⟨ok107, ⟨ok119, ⟨ok120, ⟨ok121, ⟨ok122, ⟨ok123, ⟨ok124, ⟨ok126, ⟨ok130, ⟨ok132, ⟨ok133, ⟨ok134, ⟨ok135, ⟨ok136, ⟨ok137, ⟨ok138, ⟨ok139, ⟨ok140, ⟨ok141, ⟨ok142, ⟨ok143, ⟨ok144, ⟨ok145, ⟨ok146, ⟨ok147, ⟨ok148, ⟨ok149, ⟨ok150, ⟨ok151, ⟨ok152, ⟨ok154, ⟨ok162, ⟨ok163, ⟨ok164, ⟨ok165, ⟨ok166, ⟨ok167, ⟨ok168, ⟨ok170, ⟨ok171, ⟨ok172, ⟨ok173, ⟨ok174, ⟨ok175, ⟨ok176, ⟨ok177, ⟨ok178, ⟨ok179, ⟨ok180, ⟨ok181, ⟨ok182, ⟨ok183, ⟨ok184, ⟨ok185, ⟨ok186, ⟨ok187, ⟨ok188, ⟨ok189, ⟨ok190, ⟨ok191, ⟨ok192, ⟨ok193, ⟨ok194, ⟨ok195, ⟨ok200, ⟨ok201, ⟨ok202, ⟨ok203, ⟨ok204, ⟨ok205, ⟨ok206, ⟨ok207, ⟨ok208, ⟨ok209, ⟨ok210, ⟨ok212, ⟨ok213, ⟨ok214, ⟨ok215, ⟨ok216, ⟨ok217, ⟨ok218, ⟨ok219, ⟨ok220, ⟨ok221, ⟨ok222, ⟨ok223, ⟨ok224, ⟨ok225, ⟨ok226, ⟨ok227, ⟨ok228, ⟨ok229, ⟨ok232, ⟨ok233, ⟨ok234, ⟨ok235, ⟨ok237, trivial⟩⟩⟩⟩⟩⟩⟩⟩⟩⟩⟩⟩⟩⟩⟩⟩⟩⟩⟩⟩⟩⟩⟩⟩⟩⟩⟩⟩⟩⟩⟩⟩⟩⟩⟩⟩⟩⟩⟩⟩⟩⟩⟩⟩⟩⟩⟩⟩⟩⟩⟩⟩⟩⟩⟩⟩⟩⟩⟩⟩⟩⟩⟩⟩⟩⟩⟩⟩⟩⟩⟩⟩⟩⟩⟩⟩⟩⟩⟩⟩⟩⟩⟩⟩⟩⟩⟩⟩⟩⟩⟩⟩⟩⟩⟩⟩⟩⟩⟩⟩⟩⟩⟩⟩⟩⟩⟩⟩⟩⟩⟩⟩⟩⟩⟩⟩⟩⟩⟩⟩⟩⟩⟩⟩⟩⟩⟩⟩⟩⟩⟩⟩⟩⟩⟩⟩⟩⟩⟩⟩⟩⟩⟩⟩⟩⟩⟩⟩⟩⟩⟩⟩⟩⟩⟩⟩⟩
theorem qo8 : qdm Tryz.prog q6E = true := by kernel_rfl
noncomputable def PU : Pure := PUof Tryz.prog q6E q0t
noncomputable def TT : Tab := ⟨PU, q6E, tab⟩
theorem tt_ok : TOK Tryz.prog q6E q0t TT where
 sh := rfl
 pu := fun _ _ _ h => qkh h
 tab := fun f fn h => by
  have h1 : tabL[f]? = some (some fn) := by
   have : tabL.getD f none = some fn := h
   rw [List.getD_eq_getElem?_getD] at this
   cases hx : tabL[f]? with
   | none => simp [hx] at this
   | some o => simp [hx] at this; rw [this]
  have h2 := OkAt.at qo7 h1
  rw [Nat.zero_add] at h2
  cases hF : Tryz.prog.funcs[f]? with
  | none => simp [hF] at h2
  | some F =>
    cases hb : F.body with
    | none => simp [hF, hb] at h2
    | some c => exact ⟨F, c, rfl, hb, by simpa [hF, hb] using h2⟩
theorem q0i {f : FuncId} {fn : KFn} {args : List D} {r : D} (hf : tab f = some fn) (hw : wfun TT fn args r) : PU f args = some r := qkg (qjt tt_ok hf hw)
theorem PU_calls {f : FuncId} {fn : KFn} {args : List D} {r : D} (hf : tab f = some fn) (hp : PU f args = some r) {w : World} {vs : Array Value} (hl : q28 q18 (fun b _ => b < w.heap.size) w args vs) :
 Calls Tryz.prog f vs w fun e w' => ∃ v, e = .returned v ∧ VR q18 (fun b _ => b < w'.heap.size) w' r v ∧ RowKit.Below w.heap.size w w' := by
 obtain ⟨F, c, h1, h2, _⟩ := tt_ok.tab f fn hf
 obtain ⟨N, hN⟩ := qkh hp
 exact ql2 q6E q0t qo8 qo6 h1 h2 (N := N) (hN N (Nat.le_refl _)) hl
end Go.F
