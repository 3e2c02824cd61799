/- Parts of the proof, part 39: Table. -/
import Derived.Test.YtjjkgfikkihokaaGreatZ35
import Derived.Test.YtjjkgfikkihokaaGreatZ36
import Derived.Test.YtjjkgfikkihokaaGreatZ37
import Derived.Test.YtjjkgfikkihokaaGreatZ38
import Derived.Test.YtjjkgfikkihokaaGreatZ34
set_option linter.all false
namespace Go.F
open Go.Proofs
def OkAt : Nat → List (Option KFn) → Prop
 | _, [] => True
 | i, none :: r => OkAt (i + 1) r
 | i, some k :: r => (Tryz.prog.funcs[i]?).bind (fun F => F.body.bind fun _ => cfn Tryz.prog (q0r i) F) = some k ∧ OkAt (i + 1) r
theorem OkAt.at : ∀ {l : List (Option KFn)} {i j : Nat} {k : KFn}, OkAt i l → l[j]? = some (some k) → (Tryz.prog.funcs[i + j]?).bind (fun F => F.body.bind fun _ => cfn Tryz.prog (q0r (i + j)) F) = some k := by
 intro l
 induction l with
 | nil => intro i j k _ h; simp at h
 | cons x l ih =>
   intro i j k h hj
   cases j with
   | zero => simp at hj; subst hj; exact h.1
   | succ j =>
     simp at hj
     have hr : OkAt (i + 1) l := by
      cases x with
      | none => exact h
      | some k => exact h.2
     have := ih hr hj
     rw [show i + (j + 1) = i + 1 + j by omega]
     exact this
set_option maxRecDepth 100000
theorem qx7 : OkAt 0 tabL :=
 ⟨ok6, ⟨ok9, ⟨ok19, ⟨ok23, ⟨ok24, ⟨ok26, ⟨ok27, ⟨ok28, ⟨ok29, ⟨ok30, ⟨ok31, ⟨ok32, ⟨ok34, ⟨ok36, ⟨ok37, ⟨ok38, ⟨ok59, ⟨ok60, ⟨ok62, ⟨ok63, ⟨ok64, ⟨ok65, ⟨ok66, ⟨ok67, ⟨ok68, ⟨ok69, ⟨ok70, ⟨ok71, ⟨ok72, ⟨ok73, ⟨ok74, ⟨ok76, ⟨ok77, ⟨ok79, ⟨ok80, ⟨ok81, ⟨ok82, ⟨ok83, ⟨ok91, ⟨ok96, ⟨ok101, ⟨ok103, ⟨ok104, ⟨ok105, ⟨ok106, ⟨ok107, ⟨ok108, ⟨ok109, ⟨ok110, ⟨ok111, ⟨ok112, ⟨ok113, ⟨ok114, ⟨ok119, ⟨ok120, ⟨ok121, ⟨ok122, ⟨ok123, ⟨ok124, ⟨ok125, ⟨ok126, ⟨ok130, ⟨ok136, ⟨ok138, ⟨ok141, ⟨ok142, ⟨ok143, ⟨ok144, ⟨ok145, ⟨ok146, ⟨ok147, ⟨ok148, ⟨ok150, ⟨ok151, ⟨ok152, ⟨ok153, ⟨ok154, ⟨ok155, ⟨ok156, ⟨ok157, ⟨ok158, ⟨ok162, ⟨ok163, ⟨ok164, ⟨ok165, ⟨ok166, ⟨ok167, ⟨ok168, ⟨ok169, ⟨ok170, ⟨ok171, ⟨ok172, ⟨ok173, ⟨ok174, ⟨ok175, ⟨ok176, ⟨ok177, ⟨ok178, ⟨ok179, ⟨ok180, ⟨ok181, ⟨ok182, ⟨ok183, ⟨ok184, ⟨ok185, ⟨ok186, ⟨ok187, ⟨ok188, ⟨ok189, ⟨ok190, ⟨ok191, ⟨ok192, ⟨ok193, ⟨ok194, ⟨ok195, ⟨ok196, ⟨ok197, ⟨ok198, ⟨ok200, ⟨ok201, ⟨ok202, ⟨ok203, ⟨ok204, ⟨ok205, ⟨ok206, ⟨ok207, ⟨ok208, ⟨ok209, ⟨ok210, ⟨ok211, ⟨ok212, ⟨ok213, ⟨ok214, ⟨ok215, ⟨ok216, ⟨ok217, ⟨ok218, ⟨ok219, ⟨ok220, ⟨ok221, ⟨ok222, ⟨ok223, ⟨ok224, ⟨ok225, ⟨ok226, ⟨ok227, ⟨ok228, ⟨ok229, ⟨ok232, ⟨ok233, ⟨ok234, ⟨ok235, ⟨ok237, trivial⟩⟩⟩⟩⟩⟩⟩⟩⟩⟩⟩⟩⟩⟩⟩⟩⟩⟩⟩⟩⟩⟩⟩⟩⟩⟩⟩⟩⟩⟩⟩⟩⟩⟩⟩⟩⟩⟩⟩⟩⟩⟩⟩⟩⟩⟩⟩⟩⟩⟩⟩⟩⟩⟩⟩⟩⟩⟩⟩⟩⟩⟩⟩⟩⟩⟩⟩⟩⟩⟩⟩⟩⟩⟩⟩⟩⟩⟩⟩⟩⟩⟩⟩⟩⟩⟩⟩⟩⟩⟩⟩⟩⟩⟩⟩⟩⟩⟩⟩⟩⟩⟩⟩⟩⟩⟩⟩⟩⟩⟩⟩⟩⟩⟩⟩⟩⟩⟩⟩⟩⟩⟩⟩⟩⟩⟩⟩⟩⟩⟩⟩⟩⟩⟩⟩⟩⟩⟩⟩⟩⟩⟩⟩⟩⟩⟩⟩⟩⟩⟩⟩⟩⟩
theorem qx8 : qjM Tryz.prog q9R = true := by kernel_rfl
noncomputable def PU : Pure := PUof Tryz.prog q9R q0r
noncomputable def TT : Tab := ⟨PU, q9R, tab⟩
theorem tt_ok : TOK Tryz.prog q9R q0r TT where
 sh := rfl
 pu := fun _ _ _ h => qsi h
 tab := fun f fn h => by
  have h1 : tabL[f]? = some (some fn) := by
   have : tabL.getD f none = some fn := h
   rw [List.getD_eq_getElem?_getD] at this
   cases hx : tabL[f]? with
   | none => simp [hx] at this
   | some o => simp [hx] at this; rw [this]
  have h2 := OkAt.at qx7 h1
  rw [Nat.zero_add] at h2
  cases hF : Tryz.prog.funcs[f]? with
  | none => simp [hF] at h2
  | some F =>
    cases hb : F.body with
    | none => simp [hF, hb] at h2
    | some c => exact ⟨F, c, rfl, hb, by simpa [hF, hb] using h2⟩
theorem q0f {f : FuncId} {fn : KFn} {args : List D} {r : D} (hf : tab f = some fn) (hw : wfun TT fn args r) : PU f args = some r := qsh (qr7 tt_ok hf hw)
theorem PU_calls {f : FuncId} {fn : KFn} {args : List D} {r : D} (hf : tab f = some fn) (hp : PU f args = some r) {w : World} {vs : Array Value} (hl : q3y q21 (fun b _ => b < w.heap.size) w args vs) :
 Calls Tryz.prog f vs w fun e w' => ∃ v, e = .returned v ∧ VR q21 (fun b _ => b < w'.heap.size) w' r v ∧ RowKit.Below w.heap.size w w' := by
 obtain ⟨F, c, h1, h2, _⟩ := tt_ok.tab f fn hf
 obtain ⟨N, hN⟩ := qsi hp
 exact qub q9R q0r qx8 qwZ h1 h2 (N := N) (hN N (Nat.le_refl _)) hl
end Go.F
