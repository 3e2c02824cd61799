/- For every input the statement StyleChecks holds: its function returns true. There is no condition. -/
import Derived.Test.YtdhpbljlnlpibaaGreatZ35
import Derived.Test.YtdhpbljlnlpibaaGreatZ42
import Derived.Test.YtdhpbljlnlpibaaGreatZ45
import Derived.Test.YtdhpbljlnlpibaaGreatRows
import Derived.ProofKit
import Derived.Carry
set_option linter.all false
namespace Go.Proofs.YtdhpbljlnlpibaaGreat
open Go.ChangeShapes Go.WideShapes Go.ChangeAt Go.RowKit Go.F

theorem Tryz.own : ownKnob Tryz.prog.godebug = none := by kernel_rfl
theorem Tryz.laidOut : laidOutB Tryz.prog = true := by kernel_rfl

set_option maxRecDepth 100000 in
theorem law_lifted (hlaw : ∀ c0, HasC shSty c0 → PU 3 [mkD shSty c0] = some (.bool true)) (os : Os) (started : os.Started) (H : Type) (enc : TypeId × Value → H) :
    ReturnsInHanded {} Tryz.checked os 3 .any (Rows.styleChecksSpec.pre6 enc Tryz.prog Tryz.f3 Rows.styleChecksRow.domain false) (Rows.styleChecksSpec.post enc Tryz.prog Tryz.f3 false true false false) := by
  refine returnsInHanded_of_change (C := Tryz.checked) Tryz.own started (by kernel_rfl) Tryz.func3
    (ChangeSpec.witness6 (enc := enc) (C := Tryz.checked) false ⟨#[], #[.agg #[.string ⟨#[]⟩, .slice none 0 0, .slice none 0 0, .slice none 0 0, .slice none 0 0, .slice none 0 0, .slice none 0 0]], []⟩ 8 (by kernel_rfl) (by kernel_rfl) (by kernel_rfl) (by kernel_rfl)) ?_
  intro W base args ds gs before hval0 hW hcnd _
  have hval : ∀ (j : Nat) t v, Tryz.f3.params[j]? = some t → args[j]? = some v → Value.okWide Tryz.prog W .any base t v := hval0
  have hW' := hW
  obtain ⟨p, q, hA0, hV, rfl, hfz, hnd⟩ := hW
  have hA : DataW.TrodAll enc Tryz.prog W 0 (fun _ => true) true Tryz.f3.params.toList args.toList ds p := hA0
  rw [Tryz.params3] at hA hval
  obtain ⟨v0, d0, rfl, rfl, h0⟩ := trodAll_one hA
  obtain ⟨rfl, rfl⟩ := trodVars_none hV
  obtain ⟨c0, s0, r0⟩ := read_arg (s := shSty) (n := 8) (by kernel_rfl) (ok_agg (s := shSty) (n := 8) (by kernel_rfl) (hval 0 29 v0 rfl rfl)) h0
  refine (PU_calls (f := 3) (fn := q8X) rfl (hlaw c0 s0) (vs := #[v0]) ?_).mono ?_
  · refine ⟨rfl, fun k hk hk' => ?_⟩
    match k, hk with
    | 0, _ => exact r0
  · rintro e W' ⟨v, rfl, hv, hb⟩
    cases hv
    refine ⟨_, rfl, ?_⟩
    have hlt : ∀ x ∈ p ++ [], x.block < W.heap.size := fun x hx => hW'.lt x (by simpa using hx)
    exact qv4 (pa := p) (pv := []) hW' (fun _ _ _ => trodAll_mk1 (shut_bool Tryz.underlying4 true))
      (trodAll_mk1 (Below.trod Tryz.laidOut (by kernel_rfl) (of_decide_eq_true (by kernel_rfl)) h0 hb (fun x hx => hlt x (by simp [hx])))) rfl (by simp) hb

theorem styleChecks_holds : Rows.StyleChecksSaid :=
  OpenClaim.holds_of_wide 3 Tryz.f3 rfl rfl rfl rfl rfl rfl rfl ⟨rfl, rfl, rfl, rfl, rfl⟩ rfl rfl rfl rfl rfl (by kernel_rfl) Tryz.func3 (by kernel_rfl)
    (of_decide_eq_true (by kernel_rfl)) (by unfold Func.isWrapper; first | (rw [if_pos (by decide +kernel)]; kernel_rfl) | (rw [if_neg (by decide +kernel)]; exact ⟨rfl, rfl⟩))
    (fun os started H enc _ => law_lifted (fun c0 s0 => by obtain ⟨s, e0⟩ := dec_sty s0; rw [e0]; exact qvG s) os started H enc)

end Go.Proofs.YtdhpbljlnlpibaaGreat

