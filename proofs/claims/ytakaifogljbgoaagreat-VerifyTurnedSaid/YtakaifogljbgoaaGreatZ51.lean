/- For every input the statement VerifyTurned holds: its function returns true. There is no condition. -/
import Derived.Test.YtakaifogljbgoaaGreatZ39
import Derived.Test.YtakaifogljbgoaaGreatZ46
import Derived.Test.YtakaifogljbgoaaGreatZ50
import Derived.Test.YtakaifogljbgoaaGreatRows
import Derived.ProofKit
import Derived.Carry
set_option linter.all false
namespace Go.Proofs.YtakaifogljbgoaaGreat
open Go.ChangeShapes Go.WideShapes Go.ChangeAt Go.RowKit Go.F
theorem Tryz.own:ownKnob Tryz.prog.godebug=none:=by kernel_rfl
theorem Tryz.laidOut:laidOutB Tryz.prog=true:=by kernel_rfl
set_option maxRecDepth 100000 in
theorem law_lifted (hlaw:∀c0 c1,HasC shSty c0→HasC (.int .u8) c1→PU 11 [mkD shSty c0,mkD (.int .u8) c1]=some (.bool true))(os:Os)(started:os.Started)(H:Type)(enc:TypeId×Value→H):
 ReturnsInHanded {} Tryz.checked os 11 .any (Rows.verifyTurnedSpec.pre6 enc Tryz.prog Tryz.f11 Rows.verifyTurnedRow.domain false) (Rows.verifyTurnedSpec.post enc Tryz.prog Tryz.f11 false true false false):=by
 refine returnsInHanded_of_change (C:=Tryz.checked) Tryz.own started (by kernel_rfl) Tryz.func11
  (ChangeSpec.witness6 (enc:=enc) (C:=Tryz.checked) false ⟨#[],#[.agg #[.string ⟨#[]⟩,.slice none 0 0,.slice none 0 0,.slice none 0 0,.slice none 0 0,.slice none 0 0,.slice none 0 0],.int .u8 0],[]⟩ 8 (by kernel_rfl) (by kernel_rfl) (by kernel_rfl) (by kernel_rfl)) ?_
 intro W base args ds gs before hval0 hW hcnd _
 have hval:∀(j:Nat) t v,Tryz.f11.params[j]?=some t→args[j]?=some v→Value.okWide Tryz.prog W .any base t v:=hval0
 have hW':=hW
 obtain⟨p,q,hA0,hV,rfl,hfz,hnd⟩:=hW
 have hA:DataW.TrodAll enc Tryz.prog W 0 (fun _=>true) true Tryz.f11.params.toList args.toList ds p:=hA0
 rw[Tryz.params11]at hA hval
 obtain⟨v0,v1,d0,d1,p0,p1,rfl,rfl,rfl,h0,h1⟩:=trodAll_two hA
 obtain⟨rfl,rfl⟩:=trodVars_none hV
 obtain⟨c0,s0,r0⟩:=read_arg (s:=shSty) (n:=8) (by kernel_rfl) (ok_agg (s:=shSty) (n:=8) (by kernel_rfl) (hval 0 46 v0 rfl rfl)) h0
 obtain⟨c1,s1,r1⟩:=read_arg (s:=(.int .u8)) (n:=8) (by kernel_rfl) (ok_agg (s:=(.int .u8)) (n:=8) (by kernel_rfl) (hval 1 5 v1 rfl rfl)) h1
 refine(PU_calls (f:=11) (fn:=qha) rfl (hlaw c0 c1 s0 s1) (vs:= #[v0,v1]) ?_).mono ?_
 ·refine⟨rfl,fun k hk hk'=>?_⟩
  match k,hk with
  |0,_=>exact r0
  |1,_=>exact r1
 ·rintro e W' ⟨v,rfl,hv,hb⟩
  cases hv
  refine⟨_,rfl,?_⟩
  have hlt:∀x∈p0++p1++[],x.block<W.heap.size:=fun x hx=>hW'.lt x (by simpa using hx)
  exact qJD (pa:=p0++p1) (pv:=[]) hW' (fun _ _ _=>trodAll_mk1 (shut_bool Tryz.underlying4 true))
   (trodAll_mk2 (Below.trod Tryz.laidOut (by kernel_rfl) (of_decide_eq_true (by kernel_rfl)) h0 hb (fun x hx=>hlt x (by simp[hx]))) (Below.trod Tryz.laidOut (by kernel_rfl) (of_decide_eq_true (by kernel_rfl)) h1 hb (fun x hx=>hlt x (by simp[hx])))) rfl (by simp) hb
set_option maxHeartbeats 16000000 in
theorem verifyTurned_holds:Rows.VerifyTurnedSaid:=
 OpenClaim.holds_of_wide 11 Tryz.f11 rfl rfl rfl rfl rfl rfl rfl ⟨rfl,rfl,rfl,rfl,rfl⟩ rfl rfl rfl rfl rfl (by as_aux_lemma=>kernel_rfl) Tryz.func11 (by as_aux_lemma=>kernel_rfl)
  (of_decide_eq_true (by as_aux_lemma=>kernel_rfl)) (by unfold Func.isWrapper;first|(rw[if_pos (by as_aux_lemma=>decide+kernel)];kernel_rfl) |(rw[if_neg (by as_aux_lemma=>decide+kernel)];exact⟨rfl,rfl⟩))
  (fun os started H enc _=>law_lifted (fun c0 c1 s0 s1=>by obtain⟨s,e0⟩:=dec_sty s0;obtain⟨a,e1,ha⟩:=dec_u8 s1;rw[e0,e1];exact qMd s a ⟨by omega,by omega⟩) os started H enc)
end Go.Proofs.YtakaifogljbgoaaGreat
