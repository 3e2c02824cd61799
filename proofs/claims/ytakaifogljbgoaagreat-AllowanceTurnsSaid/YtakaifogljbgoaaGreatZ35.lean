/- Parts of the proof, part 35: Code3. -/
import Derived.Test.YtakaifogljbgoaaGreatZ32
set_option linter.all false
namespace Go.F
noncomputable section
set_option maxRecDepth 100000
set_option maxHeartbeats 4000000
def q8G:=kof 13
def q8H:KFn:=q8G.1
def qe5:=kof 14
def qe6:KFn:=qe5.1
def qoO:=kof 18
def qoP:KFn:=qoO.1
def q8I:=kof 40
def q8J:KFn:=q8I.1
def qcJ:=kof 48
def qcK:KFn:=qcJ.1
def q8K:=kof 50
def q8L:KFn:=q8K.1
def q61:=kof 52
def q62:KFn:=q61.1
def q4z:=kof 55
def k_slices_Reverse_Spot_Spot:KFn:=q4z.1
def q5p:=kof 87
def q5q:KFn:=q5p.1
def qcL:=kof 89
def qcM:KFn:=qcL.1
def qid:=kof 91
def qie:KFn:=qid.1
def q3B:=kof 95
def q3C:KFn:=q3B.1
def q9U:=kof 134
def q9V:KFn:=q9U.1
def qoS:=kof 139
def qoT:KFn:=qoS.1
def q8O:=kof 141
def q8P:KFn:=q8O.1
def q49:=kof 143
def q4a:KFn:=q49.1
def qb1:=kof 145
def qb2:KFn:=qb1.1
def qeb:=kof 170
def q8Q:KFn:=qeb.1
def q8R:=kof 174
def q8S:KFn:=q8R.1
def qmb:=kof 185
def qmc:KFn:=qmb.1
def qcP:=kof 221
def qcQ:KFn:=qcP.1
def qgF:=kof 223
def qgG:KFn:=qgF.1
def qee:=kof 227
def qef:KFn:=qee.1
def qgH:=kof 233
def qgI:KFn:=qgH.1
def qcR:=kof 266
def k_natural_digit:KFn:=qcR.1
def qb3:=kof 268
def qb4:KFn:=qb3.1
def qip:=kof 287
def qiq:KFn:=qip.1
def q8V:=kof 289
def q8W:KFn:=q8V.1
end
end Go.F
