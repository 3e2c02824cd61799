/- Part 16. -/
import Derived.Test.YtglbdppmnchoeaaGreatZ13
import Derived.Test.YtglbdppmnchoeaaGreatZ14
import Derived.Test.YtglbdppmnchoeaaGreatZ15
import Derived.Test.YtglbdppmnchoeaaGreatZ25
namespace Go.F
open Go.Proofs
noncomputable def tabL:List (Option KFn):=[none,none,none,some ZQ.1,none,some LI.1,none,some Z8.1,some Im.1,some ZV.1,some Mw.1,some q9z.1,some NQ.1,none,some NN.1,some Mh.1,some sy.1,none,some FJ.1,some Ji.1,some L9.1,some Ju.1,some Jh.1,some LV.1,none,some Oa.1,some ZX.1,some qh9.1,some qg0.1,some GO.1,some Fk.1,some ZD.1,some MR.1,some Fp.1,some Ie.1,some IU.1,some IZ.1,none,some Lc.1,some HB.1,some NZ.1,some N7.1,some IY.1,some I6.1,some GT.1,some Of.1,some JA.1,some I1.1,some FE.1,some NK.1,some LP.1,some rM.1,some vk.1,some IX.1,some L6.1,some JN.1,some HS.1,some Jy.1,some K7.1,some Gg.1,some Om.1,some Jd.1,some Ge.1,some ZE.1,some Bf.1,none,some Kd.1,some Jg.1,some JL.1,some Mo.1,some Nc.1,some Hj.1,some Ka.1,some M9.1,some Mp.1,some NO.1,some IE.1,some Gl.1,some KA.1,some Hn.1,some Fj.1,some GV.1,some KZ.1,some KL.1,some qdO.1,some F8.1,some GW.1,some O3.1,some Ik.1,some Hg.1,some Nd.1,some MQ.1,some NM.1,some F0.1,some Oj.1,some GB.1,some IW.1,some Hw.1,some Nl.1,some Kf.1,some Gw.1,some Gj.1,some FR.1,some Lq.1,some GJ.1,some Fz.1,some Kk.1,some KQ.1,none,some Lx.1,some KK.1,some Is.1,some nI.1,some A4.1,some J0.1,some Ai.1,some Km.1,some ro.1,some KB.1,some Mg.1,some MV.1,some Kz.1,some FV.1,some Jf.1,some Ky.1,some L7.1,some Le.1,some OR.1,some FN.1,some Hc.1,some HU.1,some Mn.1,some OI.1,some Np.1,some Jw.1,some LB.1,some FA.1,some Aw.1,none,some HO.1,some KT.1,some NX.1,some Lf.1,some qN.1,some Oz.1,some Mk.1,some Jm.1,some GP.1,some Fg.1,some MJ.1,none,none,none,none,none,none,none,none,some KO.1,some OX.1,some M6.1,some qD.1,some KV.1,some Iz.1,some HJ.1,some GY.1,some HM.1,some If.1,some FG.1,none,some I2.1,some NP.1,some Ho.1,some KI.1,some Gn.1,some LX.1,some NT.1,some IK.1,some J6.1,some Ft.1,some OP.1,some NF.1,some Nj.1,some HP.1,some MK.1,some L0.1,some F2.1,none,some Nw.1,some Kc.1,some kG.1,some MY.1,some L8.1,some K9.1,some Ow.1,none,none,none,none,none,some G8.1,some KF.1,some KX.1,some Hq.1,some LK.1,some Jx.1,some Mi.1,some NA.1,some JT.1,some JW.1,some LY.1,some MS.1,some KJ.1,some GZ.1,some Jn.1,some OU.1,some Oe.1,none,some Au.1,some M7.1,some NI.1,none,some Li.1,none,some GF.1,some Ic.1,none,none,some GN.1,some Nx.1,some O9.1,some OB.1,some qK.1,some AT.1,some H6.1,some GL.1,some Lv.1,some Iw.1,none,some IM.1,none,some Jb.1,some NU.1,some K6.1,some HW.1,some Me.1,some Jv.1,some Ou.1,some FW.1,some Hy.1,none,none,none,none,none,none,none,none,some Kt.1,some Kp.1,none,some KN.1,some OH.1,none,none,some KU.1,some Ii.1,some Ko.1,some M1.1,some Mf.1,some HF.1,some OQ.1,some NE.1,some uS.1,some L3.1,some GC.1,some ON.1,some Lk.1,some On.1,none,none,none,some IQ.1,some OY.1,some MF.1,some OC.1,some JK.1,none,none,some FU.1,some Jq.1,some Bp.1,some pP.1,none,none,none,none,none,none,none,none,some H1.1]
noncomputable def tab (f:FuncId):Option KFn:=tabL.getD f none
def OkAt:Nat->List (Option KFn)->Prop
 |_,[]=>True
 |i,none::r=>OkAt (i+1) r
 |i,some k::r=>OkK i k/\OkAt (i+1) r
theorem OkAt.at:∀{l:List (Option KFn)} {i j:Nat} {k:KFn},OkAt i l->l[j]?=some (some k)->OkK (i+j) k:=by
 intro l
 induction l with
 |nil=>intro i j k _ h;simp at h
 |cons x l b=>
  intro i j k h a
  cases j with
  |zero=>simp at a;subst a;exact h.1
  |succ j=>
   simp at a
   have hr:OkAt (i+1) l:=by
    cases x with
    |none=>exact h
    |some k=>exact h.2
   have:=b hr a;rw[show i+(j+1)=i+1+j by omega];exact this
set_option maxRecDepth 100000
theorem QA:OkAt 0 tabL:=
 ⟨ZQ.2,LI.2,Z8.2,Im.2,ZV.2,Mw.2,q9z.2,NQ.2,NN.2,Mh.2,sy.2,FJ.2,Ji.2,L9.2,Ju.2,Jh.2,LV.2,Oa.2,ZX.2,qh9.2,qg0.2,GO.2,Fk.2,ZD.2,MR.2,Fp.2,Ie.2,IU.2,IZ.2,Lc.2,HB.2,NZ.2,N7.2,IY.2,I6.2,GT.2,Of.2,JA.2,I1.2,FE.2,NK.2,LP.2,rM.2,vk.2,IX.2,L6.2,JN.2,HS.2,Jy.2,K7.2,Gg.2,Om.2,Jd.2,Ge.2,ZE.2,Bf.2,Kd.2,Jg.2,JL.2,Mo.2,Nc.2,Hj.2,Ka.2,M9.2,Mp.2,NO.2,IE.2,Gl.2,KA.2,Hn.2,Fj.2,GV.2,KZ.2,KL.2,qdO.2,F8.2,GW.2,O3.2,Ik.2,Hg.2,Nd.2,MQ.2,NM.2,F0.2,Oj.2,GB.2,IW.2,Hw.2,Nl.2,Kf.2,Gw.2,Gj.2,FR.2,Lq.2,GJ.2,Fz.2,Kk.2,KQ.2,Lx.2,KK.2,Is.2,nI.2,A4.2,J0.2,Ai.2,Km.2,ro.2,KB.2,Mg.2,MV.2,Kz.2,FV.2,Jf.2,Ky.2,L7.2,Le.2,OR.2,FN.2,Hc.2,HU.2,Mn.2,OI.2,Np.2,Jw.2,LB.2,FA.2,Aw.2,HO.2,KT.2,NX.2,Lf.2,qN.2,Oz.2,Mk.2,Jm.2,GP.2,Fg.2,MJ.2,KO.2,OX.2,M6.2,qD.2,KV.2,Iz.2,HJ.2,GY.2,HM.2,If.2,FG.2,I2.2,NP.2,Ho.2,KI.2,Gn.2,LX.2,NT.2,IK.2,J6.2,Ft.2,OP.2,NF.2,Nj.2,HP.2,MK.2,L0.2,F2.2,Nw.2,Kc.2,kG.2,MY.2,L8.2,K9.2,Ow.2,G8.2,KF.2,KX.2,Hq.2,LK.2,Jx.2,Mi.2,NA.2,JT.2,JW.2,LY.2,MS.2,KJ.2,GZ.2,Jn.2,OU.2,Oe.2,Au.2,M7.2,NI.2,Li.2,GF.2,Ic.2,GN.2,Nx.2,O9.2,OB.2,qK.2,AT.2,H6.2,GL.2,Lv.2,Iw.2,IM.2,Jb.2,NU.2,K6.2,HW.2,Me.2,Jv.2,Ou.2,FW.2,Hy.2,Kt.2,Kp.2,KN.2,OH.2,KU.2,Ii.2,Ko.2,M1.2,Mf.2,HF.2,OQ.2,NE.2,uS.2,L3.2,GC.2,ON.2,Lk.2,On.2,IQ.2,OY.2,MF.2,OC.2,JK.2,FU.2,Jq.2,Bp.2,pP.2,H1.2,tr⟩
theorem Y5:tj Tryz.prog kK (fun f=>(fL f).sp) (fun f=>(fL f).hr)=true:=by kernel_rfl
noncomputable def PU:Pure:=PUof Tryz.prog kK fL
noncomputable def TT:Tab:=⟨PU,kK,tab⟩
theorem tt_ok:TOK Tryz.prog kK kK fL TT where
 sh:=rfl
 pu:=fun _ _ _ h=>Bt h
 tab:=fun f fn h=>by
  have h1:tabL[f]?=some (some fn):=by
   have:tabL.getD f none=some fn:=h;rw[yT]at this
   cases e:tabL[f]? with
   |none=>simp[e]at this
   |some o=>simp[e]at this;rw[this]
  have a:=OkAt.at QA h1;unfold OkK at a;rw[zC]at a
  cases b:Tryz.prog.funcs[f]? with
  |none=>simp[b]at a
  |some F=>
   cases d:F.body with
   |none=>simp[b,d]at a
   |some c=>exact⟨F,c,rfl,d,by simpa[b,d]using a⟩
theorem EQ {f:FuncId}{fn:KFn}{args:Hm}{r:D}(a:tab f=some fn)(b:wfun TT fn args r)(c:fn.gv=[]:=by rfl)(d:(fn.em&&fW args)=false:=by rfl):PU f args=some r:=rX (W3 tt_ok a b c d)
theorem PU_given {f:FuncId}{fn:KFn}{args:Hm}{r:D}(a:tab f=some fn)(b:fn.gv≠[])(c:ib PU fn.gv args=some r):PU f args=some r:=rX (JU tt_ok a b c)
theorem PU_calls {f:FuncId}{fn:KFn}{args:Hm}{r:D}(d:tab f=some fn)(g:PU f args=some r){w:World}{vs:Array Value}(h:cR aS (fun b _=>b<w.heap.size) w args vs):
 Calls Tryz.prog f vs w fun e w'=>∃v,e=.returned v/\VR aS (fun b _=>b<w'.heap.size) w' r v/\RowKit.Below w.heap.size w w':=by
 obtain⟨F,c,h1,a,_⟩:=tt_ok.tab f fn d;obtain⟨N,i⟩:=Bt g;exact(W8 kK fL Y5 X8 em_ok gv_ok h1 a (N:=N) (i N (zD _)) h).mono fun _ _ ⟨v,h1,a,h3⟩=>⟨v,h1,a,h3.toBelow⟩
end Go.F
