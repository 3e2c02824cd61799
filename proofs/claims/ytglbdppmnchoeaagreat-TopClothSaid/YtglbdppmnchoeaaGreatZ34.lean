/- For every input the statement TopCloth holds: its function returns true. There is no condition. -/
import Derived.Test.YtglbdppmnchoeaaGreatZ33
import Derived.Test.YtglbdppmnchoeaaGreatRows
import Derived.SizedLaws
set_option linter.all false
set_option maxHeartbeats 16000000
namespace Go.Proofs.YtglbdppmnchoeaaGreat
open Go.ChangeShapes Go.WideShapes Go.ChangeAt Go.RowKit Go.F
theorem Tryz.own:ownKnob Tryz.prog.godebug=none:=by kernel_rfl
theorem Tryz.laidOut:laidOutB Tryz.prog=true:=by kernel_rfl
set_option maxRecDepth 100000 in
theorem law_lifted (hlaw:∀c0 c1,HasC rt c0->HasC rR c1->PU 3 [mkD rt c0,mkD rR c1]=some (.bool true))(os:Os)(started:os.Started)(H:Type)(enc:TypeId×Value->H):
 ReturnsInHanded {} Tryz.checked os 3 .any (Rows.topClothSpec.pre6 enc Tryz.prog Tryz.f3 Rows.topClothRow.domain false) (Rows.topClothSpec.post enc Tryz.prog Tryz.f3 false true false false):=by
 refine returnsInHanded_of_change_sized (C:=Tryz.checked) Tryz.own started (by kernel_rfl) Tryz.func3
  (ChangeSpec.witness6 (enc:=enc) (C:=Tryz.checked) false ⟨#[],#[.agg #[.string ⟨#[]⟩,.slice none 0 0,.slice none 0 0,.slice none 0 0,.slice none 0 0,.slice none 0 0,.slice none 0 0,.int .i64 0,.int .i64 0,.int .i64 0,.int .i64 0,.slice none 0 0],.agg #[.slice none 0 0,.slice none 0 0,.slice none 0 0]],[]⟩ 8 (by kernel_rfl) (by kernel_rfl) (by kernel_rfl) (by kernel_rfl)) ?_
 intro W base args ds gs before hval0 hW hcnd hsz _;have hval:∀(j:Nat) t v,Tryz.f3.params[j]?=some t->args[j]?=some v->Value.okWide Tryz.prog W .any base t v:=hval0;have hW':=hW;obtain⟨p,q,hA0,hV,rfl,hfz,hnd⟩:=hW;have hA:DataW.TrodAll enc Tryz.prog W 0 (fun _=>true) true Tryz.f3.params.toList args.toList ds p:=hA0;rw[Tryz.params3]at hA hval;obtain⟨v0,v1,d0,d1,p0,p1,rfl,rfl,rfl,h0,h1⟩:=trodAll_two hA;obtain⟨rfl,rfl⟩:=trodVars_none hV;obtain⟨c0,s0,r0⟩:=read_arg (s:=rt) (n:=12) (by kernel_rfl) (ok_agg (s:=rt) (n:=12) (by kernel_rfl) (hval 0 35 v0 rfl rfl)) h0 (fun m hm=>of_decide_eq_true (List.all_eq_true.1 hsz m (DataW.weights_mem_each (j:=0) rfl rfl m hm)));obtain⟨c1,s1,r1⟩:=read_arg (s:=rR) (n:=12) (by kernel_rfl) (ok_agg (s:=rR) (n:=12) (by kernel_rfl) (hval 1 38 v1 rfl rfl)) h1 (fun m hm=>of_decide_eq_true (List.all_eq_true.1 hsz m (DataW.weights_mem_each (j:=1) rfl rfl m hm)));refine(PU_calls (f:=3) (fn:=ZQ.1) rfl (hlaw c0 c1 s0 s1) (vs:= #[v0,v1]) ?_).mono ?_
 .refine⟨rfl,fun k hk hk'=>?_⟩
  match k,hk with
  |0,_=>exact r0
  |1,_=>exact r1
 .rintro e W' ⟨v,rfl,hv,hb⟩;cases hv;refine⟨_,rfl,?_⟩;have hlt:∀x∈p0++p1++[],x.block<W.heap.size:=fun x hx=>hW'.lt x (by simpa using hx)
  exact Vc (pa:=p0++p1) (pv:=[]) hW' (fun _ _ _=>trodAll_mk1 (shut_bool Tryz.underlying4 true))
   (trodAll_mk2 (Below.trod Tryz.laidOut (by kernel_rfl) (of_decide_eq_true (by kernel_rfl)) h0 hb (fun x hx=>hlt x (by simp[hx]))) (Below.trod Tryz.laidOut (by kernel_rfl) (of_decide_eq_true (by kernel_rfl)) h1 hb (fun x hx=>hlt x (by simp[hx])))) rfl (by simp) hb
theorem topCloth_holds:Rows.TopClothSaid:=
 OpenClaim.holds_of_wide 3 Tryz.f3 rfl rfl rfl rfl rfl rfl rfl ⟨rfl,rfl,rfl,rfl,rfl⟩ rfl rfl rfl rfl rfl (by as_aux_lemma=>kernel_rfl) Tryz.func3 (by
  unfold joinedFacts
  iterate 31 refine Bool.and_eq_true_iff.2 ⟨?_,by as_aux_lemma=>kernel_rfl⟩
  as_aux_lemma=>kernel_rfl)
  (of_decide_eq_true (by as_aux_lemma=>kernel_rfl)) (by unfold Func.isWrapper;first|(rw[if_pos (by as_aux_lemma=>decide+kernel)];kernel_rfl) |(rw[if_neg (by as_aux_lemma=>decide+kernel)];exact⟨rfl,rfl⟩))
  (fun os started H enc _=>law_lifted (fun c0 c1 s0 s1=>by obtain⟨s,b,l,e0,q0⟩:=dec_case s0;obtain⟨rs,lots,plies,e1,q1⟩:=dec_cloth s1;rw[e0,e1];exact topC_all s b l rs lots plies q0 q1) os started H enc)
end Go.Proofs.YtglbdppmnchoeaaGreat
