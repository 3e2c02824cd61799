/- Parts of the proof, part 39: Table. -/
import Derived.Test.YtakaifogljbgoaaGreatZ33
import Derived.Test.YtakaifogljbgoaaGreatZ34
import Derived.Test.YtakaifogljbgoaaGreatZ35
import Derived.Test.YtakaifogljbgoaaGreatZ36
import Derived.Test.YtakaifogljbgoaaGreatZ37
import Derived.Test.YtakaifogljbgoaaGreatZ38
import Derived.KernelRfl
set_option linter.all false
namespace Go.F
open Go.Proofs
noncomputable def tabL:List (Option KFn):=[none,none,none,some q7y,none,none,none,none,none,none,none,none,some q3j,some q8H,some qe6,some q9G,some qlf,some qaM,some qoP,none,none,none,none,none,none,none,none,none,none,none,none,none,none,none,none,none,none,some q8x,some qlm,some qp1,some q8J,some qb9,some qis,some qbS,some q8Y,some k_grade_mirror,some q9X,some q54,some qcK,some q90,some q8L,some qcE,some q62,some qdS,some qdF,some k_slices_Reverse_Spot_Spot,some q56,none,none,none,none,none,none,none,none,none,none,some k_verify_outlines,none,none,some qcG,none,none,none,none,none,none,none,none,none,some qdH,none,none,some qdY,some q9R,some qaO,some q5d,some q5q,some qaK,some qcM,some q8B,some qie,some q9Z,some qhX,some qls,some q3C,some q9L,some qaQ,some q9N,some qct,some qcv,some q64,none,none,none,none,none,none,none,none,none,none,none,none,none,none,none,none,none,none,none,none,none,none,none,some qdJ,some qeo,some q5o,some qgm,some qgo,some qgq,some qgs,some qg3,some qlK,some q9V,some qaS,some qaU,some qlM,some qg5,some qoT,some qp4,some q8P,some qmx,some q4a,some q4r,some qb2,some qe3,some qcx,none,none,none,none,none,none,none,none,none,none,none,none,none,none,none,none,none,some qcU,none,none,some qeq,some q7P,some q8Q,some q8D,none,some q94,some q8S,some qg9,some qhS,some qgu,some qdL,some qlx,some qlU,some qgw,some qp8,some qcz,some qgb,some qmc,some qlW,some q5m,some qiC,some qaW,none,none,none,none,none,none,none,none,none,none,none,none,none,none,none,none,none,none,none,none,none,none,some qcB,none,none,none,none,none,none,some qhZ,some qiH,some qcQ,some qi1,some qgG,some qdN,some qgd,some qbb,some qef,some qgf,some qi3,some qgN,some qgP,some qaY,some qgI,none,none,none,none,none,none,none,none,none,none,none,none,none,none,none,none,none,none,none,none,some qcX,none,none,none,none,some q6F,some qoy,some q7w,some qet,some qcZ,some q6H,some k_natural_left,some k_natural_digit,some qd1,some qb4,some qgR,none,none,none,none,none,none,none,none,none,none,none,none,none,none,some q8F,some qbd,none,some qiq,some q6n,some q8W,none,some q9P]
noncomputable def tab (f:FuncId):Option KFn:=tabL.getD f none
def OkAt:Nat→List (Option KFn)→Prop
 |_,[]=>True
 |i,none::r=>OkAt (i+1) r
 |i,some k::r=>OkK i k∧OkAt (i+1) r
theorem OkAt.at:∀{l:List (Option KFn)} {i j:Nat} {k:KFn},OkAt i l→l[j]?=some (some k)→OkK (i+j) k:=by
 intro l
 induction l with
 |nil=>intro i j k _ h;simp at h
 |cons x l ih=>
  intro i j k h hj
  cases j with
  |zero=>simp at hj;subst hj;exact h.1
  |succ j=>
   simp at hj
   have hr:OkAt (i+1) l:=by
    cases x with
    |none=>exact h
    |some k=>exact h.2
   have:=ih hr hj
   rw[show i+(j+1)=i+1+j by omega]
   exact this
set_option maxRecDepth 100000
theorem qJc:OkAt 0 tabL:=
 ⟨q7x.2,qmr.2,q8G.2,qe5.2,q9F.2,qle.2,qaL.2,qoO.2,qdD.2,qll.2,qp0.2,q8I.2,qb8.2,qir.2,q6k.2,q4B.2,qeg.2,q9W.2,q53.2,qcJ.2,q8Z.2,q8K.2,qcD.2,q61.2,qdR.2,qdE.2,q4z.2,q55.2,q9J.2,qcF.2,qdG.2,qdX.2,q9Q.2,qaN.2,q80.2,q5p.2,qaJ.2,qcL.2,q8A.2,qid.2,q9Y.2,qhW.2,qlr.2,q3B.2,q9K.2,qaP.2,q9M.2,qcs.2,qcu.2,q63.2,qdI.2,qen.2,q5n.2,qgl.2,qgn.2,qgp.2,qgr.2,qg2.2,qlJ.2,q9U.2,qaR.2,qaT.2,qlL.2,qg4.2,qoS.2,qp3.2,q8O.2,qmw.2,q49.2,q4q.2,qb1.2,qe2.2,qcw.2,qcT.2,qep.2,qcV.2,qeb.2,q8C.2,q93.2,q8R.2,qg8.2,qhR.2,qgt.2,qdK.2,qlw.2,qlT.2,qgv.2,qp7.2,qcy.2,qga.2,qmb.2,qlV.2,q5l.2,qiB.2,qaV.2,qcA.2,qhY.2,qiG.2,qcP.2,qi0.2,qgF.2,qdM.2,qgc.2,qba.2,qee.2,qge.2,qi2.2,qgM.2,qgO.2,qaX.2,qgH.2,qcW.2,q6E.2,qox.2,q7v.2,qes.2,qcY.2,q6G.2,qdO.2,qcR.2,qd0.2,qb3.2,qgQ.2,q8E.2,qbc.2,qip.2,qiI.2,q8V.2,q9O.2,trivial⟩
theorem qJd:qpB Tryz.prog q7r (fun f=>(qnI f).sp)=true:=by kernel_rfl
noncomputable def PU:Pure:=PUof Tryz.prog q7r qnI
noncomputable def TT:Tab:=⟨PU,q7r,tab⟩
theorem tt_ok:TOK Tryz.prog q7r qnI TT where
 sh:=rfl
 pu:=fun _ _ _ h=>qCz h
 tab:=fun f fn h=>by
  have h1:tabL[f]?=some (some fn):=by
   have:tabL.getD f none=some fn:=h
   rw[List.getD_eq_getElem?_getD]at this
   cases hx:tabL[f]? with
   |none=>simp[hx]at this
   |some o=>simp[hx]at this;rw[this]
  have h2:=OkAt.at qJc h1
  unfold OkK at h2
  rw[Nat.zero_add]at h2
  cases hF:Tryz.prog.funcs[f]? with
  |none=>simp[hF]at h2
  |some F=>
   cases hb:F.body with
   |none=>simp[hF,hb]at h2
   |some c=>exact⟨F,c,rfl,hb,by simpa[hF,hb]using h2⟩
theorem q0g {f:FuncId}{fn:KFn}{args:List D}{r:D}(hf:tab f=some fn)(hw:wfun TT fn args r):PU f args=some r:=qvA (qB5 tt_ok hf hw)
theorem PU_calls {f:FuncId}{fn:KFn}{args:List D}{r:D}(hf:tab f=some fn)(hp:PU f args=some r){w:World}{vs:Array Value}(hl:q3y q1t (fun b _=>b<w.heap.size) w args vs):
 Calls Tryz.prog f vs w fun e w'=>∃v,e=.returned v∧VR q1t (fun b _=>b<w'.heap.size) w' r v∧RowKit.Below w.heap.size w w':=by
 obtain⟨F,c,h1,h2,_⟩:=tt_ok.tab f fn hf
 obtain⟨N,hN⟩:=qCz hp
 exact qFa q7r qnI qJd qJ1 em_ok h1 h2 (N:=N) (hN N (Nat.le_refl _)) hl
end Go.F
