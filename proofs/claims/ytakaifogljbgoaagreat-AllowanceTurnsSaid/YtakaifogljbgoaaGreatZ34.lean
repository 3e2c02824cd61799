/- Parts of the proof, part 34: Code2. -/
import Derived.Test.YtakaifogljbgoaaGreatZ32
set_option linter.all false
namespace Go.F
noncomputable section
set_option maxRecDepth 100000
set_option maxHeartbeats 4000000
def qaL:=kof 17
def qaM:KFn:=qaL.1
def q6k:=kof 43
def qbS:KFn:=q6k.1
def qcD:=kof 51
def qcE:KFn:=qcD.1
def qdR:=kof 53
def qdS:KFn:=qdR.1
def qcF:=kof 70
def qcG:KFn:=qcF.1
def qdX:=kof 83
def qdY:KFn:=qdX.1
def q9Q:=kof 84
def q9R:KFn:=q9Q.1
def qaN:=kof 85
def qaO:KFn:=qaN.1
def q8A:=kof 90
def q8B:KFn:=q8A.1
def qhW:=kof 93
def qhX:KFn:=qhW.1
def qaP:=kof 97
def qaQ:KFn:=qaP.1
def q5n:=kof 127
def q5o:KFn:=q5n.1
def qgl:=kof 128
def qgm:KFn:=qgl.1
def qgn:=kof 129
def qgo:KFn:=qgn.1
def qgp:=kof 130
def qgq:KFn:=qgp.1
def qgr:=kof 131
def qgs:KFn:=qgr.1
def qlJ:=kof 133
def qlK:KFn:=qlJ.1
def qaR:=kof 135
def qaS:KFn:=qaR.1
def qaT:=kof 136
def qaU:KFn:=qaT.1
def qlL:=kof 137
def qlM:KFn:=qlL.1
def qe2:=kof 146
def qe3:KFn:=qe2.1
def q8C:=kof 171
def q8D:KFn:=q8C.1
def qgt:=kof 177
def qgu:KFn:=qgt.1
def qlT:=kof 180
def qlU:KFn:=qlT.1
def qgv:=kof 181
def qgw:KFn:=qgv.1
def qlV:=kof 186
def qlW:KFn:=qlV.1
def qaV:=kof 189
def qaW:KFn:=qaV.1
def qhY:=kof 219
def qhZ:KFn:=qhY.1
def qi0:=kof 222
def qi1:KFn:=qi0.1
def qi2:=kof 229
def qi3:KFn:=qi2.1
def qaX:=kof 232
def qaY:KFn:=qaX.1
def q6E:=kof 259
def q6F:KFn:=q6E.1
def q7v:=kof 261
def q7w:KFn:=q7v.1
def q8E:=kof 284
def q8F:KFn:=q8E.1
end
end Go.F
