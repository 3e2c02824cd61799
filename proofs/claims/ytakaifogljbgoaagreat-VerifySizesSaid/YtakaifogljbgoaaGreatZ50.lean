/- For every input the statement VerifySizes holds: its function returns true. There is no condition. -/
import Derived.Test.YtakaifogljbgoaaGreatZ39
import Derived.Test.YtakaifogljbgoaaGreatZ47
import Derived.Test.YtakaifogljbgoaaGreatZ49
import Derived.Test.YtakaifogljbgoaaGreatRows
import Derived.ProofKit
import Derived.Carry
set_option linter.all false
namespace Go.Proofs.YtakaifogljbgoaaGreat
open Go.ChangeShapes Go.WideShapes Go.ChangeAt Go.RowKit Go.F
theorem Tryz.own:ownKnob Tryz.prog.godebug=none:=by kernel_rfl
theorem Tryz.laidOut:laidOutB Tryz.prog=true:=by kernel_rfl
set_option maxRecDepth 100000 in
theorem law_lifted (hlaw:∀c0,HasC shSty c0→PU 8 [mkD shSty c0]=some (.bool true))(os:Os)(started:os.Started)(H:Type)(enc:TypeId×Value→H):
 ReturnsInHanded {} Tryz.checked os 8 .any (Rows.verifySizesSpec.pre6 enc Tryz.prog Tryz.f8 Rows.verifySizesRow.domain false) (Rows.verifySizesSpec.post enc Tryz.prog Tryz.f8 false true false false):=by
 refine returnsInHanded_of_change (C:=Tryz.checked) Tryz.own started (by kernel_rfl) Tryz.func8
  (ChangeSpec.witness6 (enc:=enc) (C:=Tryz.checked) false ⟨#[],#[.agg #[.string ⟨#[]⟩,.slice none 0 0,.slice none 0 0,.slice none 0 0,.slice none 0 0,.slice none 0 0,.slice none 0 0]],[]⟩ 8 (by kernel_rfl) (by kernel_rfl) (by kernel_rfl) (by kernel_rfl)) ?_
 intro W base args ds gs before hval0 hW hcnd _
 have hval:∀(j:Nat) t v,Tryz.f8.params[j]?=some t→args[j]?=some v→Value.okWide Tryz.prog W .any base t v:=hval0
 have hW':=hW
 obtain⟨p,q,hA0,hV,rfl,hfz,hnd⟩:=hW
 have hA:DataW.TrodAll enc Tryz.prog W 0 (fun _=>true) true Tryz.f8.params.toList args.toList ds p:=hA0
 rw[Tryz.params8]at hA hval
 obtain⟨v0,d0,rfl,rfl,h0⟩:=trodAll_one hA
 obtain⟨rfl,rfl⟩:=trodVars_none hV
 obtain⟨c0,s0,r0⟩:=read_arg (s:=shSty) (n:=8) (by kernel_rfl) (ok_agg (s:=shSty) (n:=8) (by kernel_rfl) (hval 0 46 v0 rfl rfl)) h0
 refine(PU_calls (f:=8) (fn:=qh3) rfl (hlaw c0 s0) (vs:= #[v0]) ?_).mono ?_
 ·refine⟨rfl,fun k hk hk'=>?_⟩
  match k,hk with
  |0,_=>exact r0
 ·rintro e W' ⟨v,rfl,hv,hb⟩
  cases hv
  refine⟨_,rfl,?_⟩
  have hlt:∀x∈p++[],x.block<W.heap.size:=fun x hx=>hW'.lt x (by simpa using hx)
  exact qIa (pa:=p) (pv:=[]) hW' (fun _ _ _=>trodAll_mk1 (shut_bool Tryz.underlying4 true))
   (trodAll_mk1 (Below.trod Tryz.laidOut (by kernel_rfl) (of_decide_eq_true (by kernel_rfl)) h0 hb (fun x hx=>hlt x (by simp[hx])))) rfl (by simp) hb
set_option maxHeartbeats 16000000 in
theorem verifySizes_holds:Rows.VerifySizesSaid:=
 OpenClaim.holds_of_wide 8 Tryz.f8 rfl rfl rfl rfl rfl rfl rfl ⟨rfl,rfl,rfl,rfl,rfl⟩ rfl rfl rfl rfl rfl (by as_aux_lemma=>kernel_rfl) Tryz.func8 (by as_aux_lemma=>kernel_rfl)
  (of_decide_eq_true (by as_aux_lemma=>kernel_rfl)) (by unfold Func.isWrapper;first|(rw[if_pos (by as_aux_lemma=>decide+kernel)];kernel_rfl) |(rw[if_neg (by as_aux_lemma=>decide+kernel)];exact⟨rfl,rfl⟩))
  (fun os started H enc _=>law_lifted (fun c0 s0=>by obtain⟨s,e0⟩:=dec_sty s0;rw[e0];exact qJm s) os started H enc)
end Go.Proofs.YtakaifogljbgoaaGreat
