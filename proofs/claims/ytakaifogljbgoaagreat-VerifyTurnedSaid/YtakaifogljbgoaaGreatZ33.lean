/- Parts of the proof, part 33: Code1. -/
import Derived.Test.YtakaifogljbgoaaGreatZ32
set_option linter.all false
namespace Go.F
noncomputable section
set_option maxRecDepth 100000
set_option maxHeartbeats 4000000
def q9F:=kof 15
def q9G:KFn:=q9F.1
def qlg:=kof 19
def qlh:KFn:=qlg.1
def qsS:=kof 25
def qsT:KFn:=qsS.1
def qdC:=kof 30
def qok:KFn:=qdC.1
def qg0:=kof 33
def qg1:KFn:=qg0.1
def q53:=kof 47
def q54:KFn:=q53.1
def qdE:=kof 54
def qdF:KFn:=qdE.1
def qaH:=kof 66
def qaI:KFn:=qaH.1
def q9J:=kof 67
def k_verify_outlines:KFn:=q9J.1
def qol:=kof 74
def qom:KFn:=qol.1
def qlp:=kof 75
def qlq:KFn:=qlp.1
def qdG:=kof 80
def qdH:KFn:=qdG.1
def qlr:=kof 94
def qls:KFn:=qlr.1
def q9K:=kof 96
def q9L:KFn:=q9K.1
def q9M:=kof 98
def q9N:KFn:=q9M.1
def qcs:=kof 99
def qct:KFn:=qcs.1
def qcu:=kof 100
def qcv:KFn:=qcu.1
def qhL:=kof 102
def qhM:KFn:=qhL.1
def qop:=kof 118
def qoq:KFn:=qop.1
def qhN:=kof 119
def qhO:KFn:=qhN.1
def qhP:=kof 121
def qhQ:KFn:=qhP.1
def qdI:=kof 125
def qdJ:KFn:=qdI.1
def qg2:=kof 132
def qg3:KFn:=qg2.1
def qg4:=kof 138
def qg5:KFn:=qg4.1
def q4q:=kof 144
def q4r:KFn:=q4q.1
def qcw:=kof 147
def qcx:KFn:=qcw.1
def qlu:=kof 149
def qlv:KFn:=qlu.1
def qg8:=kof 175
def qg9:KFn:=qg8.1
def qhR:=kof 176
def qhS:KFn:=qhR.1
def qdK:=kof 178
def qdL:KFn:=qdK.1
def qlw:=kof 179
def qlx:KFn:=qlw.1
def qcy:=kof 183
def qcz:KFn:=qcy.1
def qga:=kof 184
def qgb:KFn:=qga.1
def q5l:=kof 187
def q5m:KFn:=q5l.1
def qlA:=kof 211
def qlB:KFn:=qlA.1
def qcA:=kof 212
def qcB:KFn:=qcA.1
def qdM:=kof 224
def qdN:KFn:=qdM.1
def qgc:=kof 225
def qgd:KFn:=qgc.1
def qge:=kof 228
def qgf:KFn:=qge.1
def qsW:=kof 234
def qsX:KFn:=qsW.1
def qox:=kof 260
def qoy:KFn:=qox.1
def qdO:=kof 265
def k_natural_left:KFn:=qdO.1
def q9O:=kof 291
def q9P:KFn:=q9O.1
end
end Go.F
