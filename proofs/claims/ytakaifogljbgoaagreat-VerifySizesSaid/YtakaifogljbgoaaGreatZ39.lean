/- Parts of the proof, part 39: Table. -/
import Derived.Test.YtakaifogljbgoaaGreatZ33
import Derived.Test.YtakaifogljbgoaaGreatZ34
import Derived.Test.YtakaifogljbgoaaGreatZ35
import Derived.Test.YtakaifogljbgoaaGreatZ36
import Derived.Test.YtakaifogljbgoaaGreatZ37
import Derived.Test.YtakaifogljbgoaaGreatZ38
import Derived.KernelRfl
set_option linter.all false
namespace Go.F
open Go.Proofs
noncomputable def tabL:List (Option KFn):=[none,none,none,none,none,none,some qgH,some qg5,some qh3,some qj0,some qh4,none,none,none,none,some q8P,none,none,none,some qk2,none,some qk4,none,none,none,some qrv,some qvu,some qbN,none,some qae,some qn6,none,some qld,some qeX,some qt8,some qvn,some qvB,none,none,none,some q7V,none,none,none,none,none,some q96,some q4F,some qbP,some q8c,some q7X,some qbI,some q5z,none,some qcJ,none,none,some qkP,none,none,none,none,some q8R,none,none,none,some q9Q,some k_verify_outlines,some qnO,some qa7,some qbK,none,some qkR,some qkT,some qn8,some qkb,some qh9,some q8e,some q7Z,some qdo,some qcL,some qfx,some qno,some qd3,some q90,some q9V,some q4N,none,none,some qbR,some q7N,some qhb,some q98,some qgU,some qkd,some q3k,some q8U,some q9X,some q8W,some qbw,some qby,none,some qgJ,none,none,none,some qhd,some qks,none,none,none,none,none,none,none,none,none,some qnC,some qnc,some qgL,some qhf,some qgN,some qdq,some qdc,some q4J,some qcN,some qds,some q4W,some qfh,some qfj,some qfl,some qfn,some qeZ,some qku,some q94,some q9Z,some qa1,some qkw,some qf1,some qnE,some qnR,some q81,some qlh,some q3Q,some q47,some qa9,some qd8,some qbA,some qhh,some qkf,some qhj,none,none,none,none,none,some qhv,some qde,none,none,none,none,some qkC,some qhx,some q9v,some qc0,some qfz,some q5P,some qdu,some q74,some q82,some q7P,none,some q8g,some q84,some qf4,some qgP,some qfp,some qcP,some qkh,some qkE,some qfr,some qnV,some qbC,some qf6,some qkW,some qkG,some q4U,some qhz,some qa3,some qlj,some qkY,some qkI,none,none,none,none,none,none,none,none,none,none,none,some qft,some qns,none,none,none,none,some qln,some qkl,some qbE,some qdh,none,none,some q3m,none,some qbT,some qgW,some qhD,some qbW,some qgY,some qfB,some qcR,some qf8,some qai,some qdj,some qfa,some qh0,some qfI,some qfK,some qa5,some qfD,some qrz,none,none,none,none,none,none,none,none,none,none,none,none,none,none,none,some qkK,some qnv,none,some qfF,some qc3,none,some q3S,none,none,some q68,some qnj,some q6O,some qdx,some qc5,some q6a,some k_natural_left,some k_natural_digit,some qc7,some qab,some qfM,some qs6,none,none,none,none,none,none,none,none,none,none,none,none,some qo1,some q7R,some qak,none,some qhn,some q5Q,some q88,none,some q8Y]
noncomputable def tab (f:FuncId):Option KFn:=tabL.getD f none
def OkAt:Nat→List (Option KFn)→Prop
 |_,[]=>True
 |i,none::r=>OkAt (i+1) r
 |i,some k::r=>OkK i k∧OkAt (i+1) r
theorem OkAt.at:∀{l:List (Option KFn)} {i j:Nat} {k:KFn},OkAt i l→l[j]?=some (some k)→OkK (i+j) k:=by
 intro l
 induction l with
 |nil=>intro i j k _ h;simp at h
 |cons x l ih=>
  intro i j k h hj
  cases j with
  |zero=>simp at hj;subst hj;exact h.1
  |succ j=>
   simp at hj
   have hr:OkAt (i+1) l:=by
    cases x with
    |none=>exact h
    |some k=>exact h.2
   have:=ih hr hj
   rw[show i+(j+1)=i+1+j by omega]
   exact this
set_option maxRecDepth 100000
theorem qHB:OkAt 0 tabL:=
 ⟨q8N.2,q89.2,q91.2,qac.2,q92.2,q8O.2,qk1.2,qk3.2,qru.2,qko.2,qbM.2,qad.2,qcF.2,qlc.2,qeW.2,qgS.2,qk5.2,qle.2,q7U.2,q95.2,q4E.2,qbO.2,q8b.2,q7W.2,qbH.2,q5y.2,qcI.2,qkO.2,q8Q.2,q9P.2,q8S.2,qdm.2,qa6.2,qbJ.2,qkQ.2,qkS.2,qn7.2,qka.2,qh8.2,q8d.2,q7Y.2,qdn.2,qcK.2,qfw.2,qd1.2,qd2.2,q8Z.2,q9U.2,q7f.2,qbQ.2,q7M.2,qha.2,q97.2,qgT.2,qkc.2,q3j.2,q8T.2,q9W.2,q8V.2,qbv.2,qbx.2,qgI.2,qhc.2,qkr.2,qnB.2,qnb.2,qgK.2,qhe.2,qgM.2,qdp.2,qdb.2,q4I.2,qcM.2,qdr.2,q4V.2,qfg.2,qfi.2,qfk.2,qfm.2,qeY.2,qkt.2,q93.2,q9Y.2,qa0.2,qkv.2,qf0.2,qnD.2,qnQ.2,q80.2,qlg.2,q3P.2,q46.2,qa8.2,qd7.2,qbz.2,qhg.2,qke.2,qhi.2,qhu.2,qdd.2,qkB.2,qhw.2,qfG.2,qbZ.2,qfy.2,q5O.2,qdt.2,qc1.2,qdf.2,q7O.2,q8f.2,q83.2,qf3.2,qgO.2,qfo.2,qcO.2,qkg.2,qkD.2,qfq.2,qnU.2,qbB.2,qf5.2,qkV.2,qkF.2,q4T.2,qhy.2,qa2.2,qli.2,qkX.2,qkH.2,qfs.2,qnr.2,qlm.2,qkk.2,qbD.2,qdg.2,q3l.2,qbS.2,qgV.2,qhC.2,qbU.2,qgX.2,qfA.2,qcQ.2,qf7.2,qah.2,qdi.2,qf9.2,qgZ.2,qfH.2,qfJ.2,qa4.2,qfC.2,qry.2,qkJ.2,qnu.2,qfE.2,qc2.2,q3R.2,q67.2,qni.2,q6N.2,qdw.2,qc4.2,q69.2,qcS.2,qbX.2,qc6.2,qaa.2,qfL.2,qs5.2,qo0.2,q7Q.2,qaj.2,qhm.2,qhE.2,q87.2,q8X.2,trivial⟩
theorem qHC:qog Tryz.prog q4B (fun f=>(qgt f).sp)=true:=by kernel_rfl
noncomputable def PU:Pure:=PUof Tryz.prog q4B qgt
noncomputable def TT:Tab:=⟨PU,q4B,tab⟩
theorem tt_ok:TOK Tryz.prog q4B qgt TT where
 sh:=rfl
 pu:=fun _ _ _ h=>qB3 h
 tab:=fun f fn h=>by
  have h1:tabL[f]?=some (some fn):=by
   have:tabL.getD f none=some fn:=h
   rw[List.getD_eq_getElem?_getD]at this
   cases hx:tabL[f]? with
   |none=>simp[hx]at this
   |some o=>simp[hx]at this;rw[this]
  have h2:=OkAt.at qHB h1
  unfold OkK at h2
  rw[Nat.zero_add]at h2
  cases hF:Tryz.prog.funcs[f]? with
  |none=>simp[hF]at h2
  |some F=>
   cases hb:F.body with
   |none=>simp[hF,hb]at h2
   |some c=>exact⟨F,c,rfl,hb,by simpa[hF,hb]using h2⟩
theorem q0g {f:FuncId}{fn:KFn}{args:List D}{r:D}(hf:tab f=some fn)(hw:wfun TT fn args r):PU f args=some r:=qtX (qzw tt_ok hf hw)
theorem PU_calls {f:FuncId}{fn:KFn}{args:List D}{r:D}(hf:tab f=some fn)(hp:PU f args=some r){w:World}{vs:Array Value}(hl:q3g q1y (fun b _=>b<w.heap.size) w args vs):
 Calls Tryz.prog f vs w fun e w'=>∃v,e=.returned v∧VR q1y (fun b _=>b<w'.heap.size) w' r v∧RowKit.Below w.heap.size w w':=by
 obtain⟨F,c,h1,h2,_⟩:=tt_ok.tab f fn hf
 obtain⟨N,hN⟩:=qB3 hp
 exact qDC q4B qgt qHC qHq em_ok h1 h2 (N:=N) (hN N (Nat.le_refl _)) hl
end Go.F
