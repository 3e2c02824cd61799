/- For every input the statement AllowanceZero holds: its function returns true. There is no condition. -/
import Derived.Test.YtjjkgfikkihokaaZ35
import Derived.Test.YtjjkgfikkihokaaZ40
import Derived.Test.YtjjkgfikkihokaaZ42
import Derived.Test.YtjjkgfikkihokaaRows
import Derived.ProofKit
import Derived.Carry
namespace Go.Proofs.Ytjjkgfikkihokaa
open Go.ChangeShapes Go.WideShapes Go.ChangeAt Go.RowKit Go.F

theorem Try.own : ownKnob Try.prog.godebug = none := by kernel_rfl
theorem Try.laidOut : laidOutB Try.prog = true := by kernel_rfl

set_option maxRecDepth 100000 in
theorem law_lifted (hlaw : ∀ c0, HasC shEdges c0 → PU 3 [mkD shEdges c0] = some (.bool true)) (os : Os) (started : os.Started) (H : Type) (enc : TypeId × Value → H) :
    ReturnsInHanded {} Try.checked os 3 .any (Rows.allowanceZeroSpec.pre6 enc Try.prog Try.f3 Rows.allowanceZeroRow.domain false) (Rows.allowanceZeroSpec.post enc Try.prog Try.f3 false true false false) := by
  refine returnsInHanded_of_change (C := Try.checked) Try.own started (by kernel_rfl) Try.func3
    (ChangeSpec.witness6 (enc := enc) (C := Try.checked) false ⟨#[], #[.slice none 0 0], []⟩ 8 (by kernel_rfl) (by kernel_rfl) (by kernel_rfl) (by kernel_rfl)) ?_
  intro W base args ds gs before hval0 hW hcnd _
  have hval : ∀ (j : Nat) t v, Try.f3.params[j]? = some t → args[j]? = some v → Value.okWide Try.prog W .any base t v := hval0
  have hW' := hW
  obtain ⟨p, q, hA0, hV, rfl, hfz, hnd⟩ := hW
  have hA : DataW.TrodAll enc Try.prog W 0 (fun _ => true) true Try.f3.params.toList args.toList ds p := hA0
  rw [Try.params3] at hA hval
  obtain ⟨v0, d0, rfl, rfl, h0⟩ := trodAll_one hA
  obtain ⟨rfl, rfl⟩ := trodVars_none hV
  obtain ⟨c0, s0, r0⟩ := read_arg (s := shEdges) (n := 8) (by kernel_rfl) (ok_agg (s := shEdges) (n := 8) (by kernel_rfl) (hval 0 22 v0 rfl rfl)) h0
  refine (PU_calls (f := 3) (fn := k_l24_AllowanceZero) rfl (hlaw c0 s0) (vs := #[v0]) ?_).mono ?_
  · refine ⟨rfl, fun k hk hk' => ?_⟩
    match k, hk with
    | 0, _ => exact r0
  · rintro e W' ⟨v, rfl, hv, hb⟩
    cases hv
    refine ⟨_, rfl, ?_⟩
    have hlt : ∀ x ∈ p ++ [], x.block < W.heap.size := fun x hx => by simpa using hW'.lt x hx
    exact post_below (pa := p) (pv := []) hW' (fun _ _ _ => trodAll_mk1 (shut_bool Try.underlying4 true))
      (trodAll_mk1 (Below.trod Try.laidOut (by kernel_rfl) (of_decide_eq_true (by kernel_rfl)) h0 hb (fun x hx => hlt x (by simp [hx])))) rfl rfl hb

theorem allowanceZero_holds : Rows.AllowanceZeroSaid :=
  OpenClaim.holds_of_wide 3 Try.f3 rfl rfl rfl rfl rfl rfl rfl ⟨rfl, rfl, rfl, rfl, rfl⟩ rfl rfl rfl rfl rfl (by kernel_rfl) Try.func3 (by kernel_rfl)
    (of_decide_eq_true (by kernel_rfl)) (by unfold Func.isWrapper; first | (rw [if_pos (by decide +kernel)]; kernel_rfl) | (rw [if_neg (by decide +kernel)]; exact ⟨rfl, rfl⟩))
    (fun os started H enc _ => law_lifted (fun c0 s0 => by obtain ⟨l, e, _⟩ := dec_edges s0; rw [e]; exact zero_law_PU l) os started H enc)

end Go.Proofs.Ytjjkgfikkihokaa

