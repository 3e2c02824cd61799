/- Parts of the proof, part 39: Table. -/
import Derived.Test.YtakaifogljbgoaaGreatZ33
import Derived.Test.YtakaifogljbgoaaGreatZ34
import Derived.Test.YtakaifogljbgoaaGreatZ35
import Derived.Test.YtakaifogljbgoaaGreatZ36
import Derived.Test.YtakaifogljbgoaaGreatZ37
import Derived.Test.YtakaifogljbgoaaGreatZ38
import Derived.KernelRfl
set_option linter.all false
namespace Go.F
open Go.Proofs
noncomputable def tabL:List (Option KFn):=[none,none,none,none,none,some qg8,none,none,none,none,none,none,none,none,none,some q8S,none,none,none,some qka,none,none,none,none,none,some qrI,some qvw,some qmf,some qtk,some qaj,some qnh,some qvz,some qlm,some qf2,none,none,none,none,none,none,some q7U,none,none,none,none,none,some q99,some q4F,some qbU,some q8b,some q7W,some qbO,some q5A,none,some qcP,none,none,some qkX,none,none,none,none,none,none,some qky,none,some q9V,some k_verify_outlines,some qdt,some qac,some qbQ,some qvr,some qkZ,some ql1,some qnj,some qkj,some qhd,some q8d,some q7Y,some qdv,some qcR,some qfD,none,some qd9,some q93,some qa0,some q4N,none,none,some qbX,some q7M,some qhf,some q9b,some qgY,some qkl,some q3k,some q8X,some qa2,some q8Z,some qbC,some qbE,none,some qgN,some qdb,some qhx,some qnl,some qhh,some qkA,some qfk,some q9d,none,some qnC,some qBO,some qqz,some qyy,some qvD,some qmg,some qnO,some qnn,some qgP,some qhj,some qgR,some qdx,some qdi,some q4J,some qcT,some qdz,some q4W,some qfn,some qfp,some qfr,some qft,some qf4,some qkC,some q97,some qa4,some qa6,some qkE,some qf6,some qnQ,some qo2,some q80,some qlq,some q3N,some q46,some qae,some qde,some qbG,some qhl,some qkn,some qhn,some qkG,some qo4,some qvy,some qrY,some qnS,some qhz,some qdk,some qkI,some ql3,some qf8,some qme,some qkK,some qhB,some q9z,some qc5,some qfF,some q5R,some qdB,some q74,some q81,some q7O,none,some q8f,some q83,some qfa,some qgT,some qfv,some qcV,some qkp,some qkM,some qfx,some qo6,some qbI,some qfc,some ql5,some qkO,some q4U,some qhD,some qa8,some qls,some ql7,some qkQ,some qnU,some ql9,some qsd,some qlv,some qsf,some qvt,some qvv,some qlb,some qkr,some qrK,some qld,some qfz,some qnE,some qlf,some qhF,some qnp,some qtn,some qlx,some qkt,some qbK,some qdn,none,none,some q3m,none,some qbZ,some qh0,some qhI,some qc1,some qh2,some qfH,some qcX,some qfe,some qan,some qdp,some qfg,some qh4,some qfO,some qfQ,some qaa,some qfJ,some qrM,some qo8,some qnr,some qhp,some qsh,some qrO,some qrQ,some qlh,some qlj,some qnt,some qvF,some qh6,some qs0,some qrS,some qs2,some qvB,some qkS,some qnH,some qyz,some qfL,some qc8,none,some q3P,none,none,some q69,some qnv,some q6Q,some qdE,some qca,some q6b,some k_natural_left,some k_natural_digit,some qcc,some qag,some qfS,some qsj,some qnJ,some qs9,some qnx,some qvH,some qkv,some qnz,some qlB,some qrU,some qnW,some qs4,some qsb,some qrW,some qoc,some q7Q,some qap,none,some qhr,some q5S,some q87,some qs6,some q91]
noncomputable def tab (f:FuncId):Option KFn:=tabL.getD f none
def OkAt:Nat→List (Option KFn)→Prop
 |_,[]=>True
 |i,none::r=>OkAt (i+1) r
 |i,some k::r=>OkK i k∧OkAt (i+1) r
theorem OkAt.at:∀{l:List (Option KFn)} {i j:Nat} {k:KFn},OkAt i l→l[j]?=some (some k)→OkK (i+j) k:=by
 intro l
 induction l with
 |nil=>intro i j k _ h;simp at h
 |cons x l ih=>
  intro i j k h hj
  cases j with
  |zero=>simp at hj;subst hj;exact h.1
  |succ j=>
   simp at hj
   have hr:OkAt (i+1) l:=by
    cases x with
    |none=>exact h
    |some k=>exact h.2
   have:=ih hr hj
   rw[show i+(j+1)=i+1+j by omega]
   exact this
set_option maxRecDepth 100000
theorem qHv:OkAt 0 tabL:=
 ⟨q7J.2,q8R.2,qk9.2,qrH.2,qkw.2,qbS.2,qgV.2,qai.2,qcL.2,qkV.2,qll.2,qf1.2,q7T.2,q98.2,q4E.2,qbT.2,q8a.2,q7V.2,qbN.2,q5z.2,qcO.2,qkW.2,qkx.2,q9U.2,q8V.2,qds.2,qab.2,qbP.2,qkh.2,qkY.2,ql0.2,qni.2,qki.2,qhc.2,q8c.2,q7X.2,qdu.2,qcQ.2,qfC.2,qd8.2,q92.2,q9Z.2,q7g.2,qbW.2,q7L.2,qhe.2,q9a.2,qgX.2,qkk.2,q3j.2,q8W.2,qa1.2,q8Y.2,qbB.2,qbD.2,qgM.2,qda.2,qhw.2,qnk.2,qhg.2,qkz.2,qfj.2,q9c.2,qdc.2,qs7.2,qfl.2,qo0.2,qlo.2,qc3.2,qnN.2,qnm.2,qgO.2,qhi.2,qgQ.2,qdw.2,qdh.2,q4I.2,qcS.2,qdy.2,q4V.2,qfm.2,qfo.2,qfq.2,qfs.2,qf3.2,qkB.2,q96.2,qa3.2,qa5.2,qkD.2,qf5.2,qnP.2,qo1.2,q7Z.2,qlp.2,q3M.2,q45.2,qad.2,qdd.2,qbF.2,qhk.2,qkm.2,qhm.2,qkF.2,qo3.2,qvx.2,qrX.2,qnR.2,qhy.2,qdj.2,qkH.2,ql2.2,qf7.2,qbR.2,qkJ.2,qhA.2,qfM.2,qc4.2,qfE.2,q5Q.2,qdA.2,qc6.2,qdl.2,q7N.2,q8e.2,q82.2,qf9.2,qgS.2,qfu.2,qcU.2,qko.2,qkL.2,qfw.2,qo5.2,qbH.2,qfb.2,ql4.2,qkN.2,q4T.2,qhC.2,qa7.2,qlr.2,ql6.2,qkP.2,qnT.2,ql8.2,qsc.2,qlu.2,qse.2,qvs.2,qvu.2,qla.2,qkq.2,qrJ.2,qlc.2,qfy.2,qnD.2,qle.2,qhE.2,qno.2,qhG.2,qlw.2,qks.2,qbJ.2,qdm.2,q3l.2,qbY.2,qgZ.2,qhH.2,qc0.2,qh1.2,qfG.2,qcW.2,qfd.2,qam.2,qdo.2,qff.2,qh3.2,qfN.2,qfP.2,qa9.2,qfI.2,qrL.2,qo7.2,qnq.2,qho.2,qsg.2,qrN.2,qrP.2,qlg.2,qli.2,qns.2,qvE.2,qh5.2,qrZ.2,qrR.2,qs1.2,qvA.2,qkR.2,qnG.2,qo9.2,qfK.2,qc7.2,q3O.2,q68.2,qnu.2,q6P.2,qdD.2,qc9.2,q6a.2,qcY.2,qc2.2,qcb.2,qaf.2,qfR.2,qsi.2,qnI.2,qs8.2,qnw.2,qvG.2,qku.2,qny.2,qlA.2,qrT.2,qnV.2,qs3.2,qsa.2,qrV.2,qob.2,q7P.2,qao.2,qhq.2,qhJ.2,q86.2,qs5.2,q90.2,trivial⟩
theorem qHw:qor Tryz.prog q6K (fun f=>(qmD f).sp)=true:=by kernel_rfl
noncomputable def PU:Pure:=PUof Tryz.prog q6K qmD
noncomputable def TT:Tab:=⟨PU,q6K,tab⟩
theorem tt_ok:TOK Tryz.prog q6K qmD TT where
 sh:=rfl
 pu:=fun _ _ _ h=>qAV h
 tab:=fun f fn h=>by
  have h1:tabL[f]?=some (some fn):=by
   have:tabL.getD f none=some fn:=h
   rw[List.getD_eq_getElem?_getD]at this
   cases hx:tabL[f]? with
   |none=>simp[hx]at this
   |some o=>simp[hx]at this;rw[this]
  have h2:=OkAt.at qHv h1
  unfold OkK at h2
  rw[Nat.zero_add]at h2
  cases hF:Tryz.prog.funcs[f]? with
  |none=>simp[hF]at h2
  |some F=>
   cases hb:F.body with
   |none=>simp[hF,hb]at h2
   |some c=>exact⟨F,c,rfl,hb,by simpa[hF,hb]using h2⟩
theorem q0g {f:FuncId}{fn:KFn}{args:List D}{r:D}(hf:tab f=some fn)(hw:wfun TT fn args r):PU f args=some r:=qua (qzv tt_ok hf hw)
theorem PU_calls {f:FuncId}{fn:KFn}{args:List D}{r:D}(hf:tab f=some fn)(hp:PU f args=some r){w:World}{vs:Array Value}(hl:q3g q1m (fun b _=>b<w.heap.size) w args vs):
 Calls Tryz.prog f vs w fun e w'=>∃v,e=.returned v∧VR q1m (fun b _=>b<w'.heap.size) w' r v∧RowKit.Below w.heap.size w w':=by
 obtain⟨F,c,h1,h2,_⟩:=tt_ok.tab f fn hf
 obtain⟨N,hN⟩:=qAV hp
 exact qDz q6K qmD qHw qHk em_ok h1 h2 (N:=N) (hN N (Nat.le_refl _)) hl
end Go.F
