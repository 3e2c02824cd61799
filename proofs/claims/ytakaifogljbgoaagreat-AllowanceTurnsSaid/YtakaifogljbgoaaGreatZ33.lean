/- Parts of the proof, part 33: Code1. -/
import Derived.Test.YtakaifogljbgoaaGreatZ32
set_option linter.all false
namespace Go.F
noncomputable section
set_option maxRecDepth 100000
set_option maxHeartbeats 4000000
def q9F:=kof 15
def q9G:KFn:=q9F.1
def qle:=kof 16
def qlf:KFn:=qle.1
def qdD:=kof 37
def q8x:KFn:=qdD.1
def qll:=kof 38
def qlm:KFn:=qll.1
def q53:=kof 47
def q54:KFn:=q53.1
def qdE:=kof 54
def qdF:KFn:=qdE.1
def q9J:=kof 67
def k_verify_outlines:KFn:=q9J.1
def qdG:=kof 80
def qdH:KFn:=qdG.1
def qaJ:=kof 88
def qaK:KFn:=qaJ.1
def qlr:=kof 94
def qls:KFn:=qlr.1
def q9K:=kof 96
def q9L:KFn:=q9K.1
def q9M:=kof 98
def q9N:KFn:=q9M.1
def qcs:=kof 99
def qct:KFn:=qcs.1
def qcu:=kof 100
def qcv:KFn:=qcu.1
def qdI:=kof 125
def qdJ:KFn:=qdI.1
def qg2:=kof 132
def qg3:KFn:=qg2.1
def qg4:=kof 138
def qg5:KFn:=qg4.1
def q4q:=kof 144
def q4r:KFn:=q4q.1
def qcw:=kof 147
def qcx:KFn:=qcw.1
def qg8:=kof 175
def qg9:KFn:=qg8.1
def qhR:=kof 176
def qhS:KFn:=qhR.1
def qdK:=kof 178
def qdL:KFn:=qdK.1
def qlw:=kof 179
def qlx:KFn:=qlw.1
def qcy:=kof 183
def qcz:KFn:=qcy.1
def qga:=kof 184
def qgb:KFn:=qga.1
def q5l:=kof 187
def q5m:KFn:=q5l.1
def qcA:=kof 212
def qcB:KFn:=qcA.1
def qdM:=kof 224
def qdN:KFn:=qdM.1
def qgc:=kof 225
def qgd:KFn:=qgc.1
def qge:=kof 228
def qgf:KFn:=qge.1
def qox:=kof 260
def qoy:KFn:=qox.1
def qdO:=kof 265
def k_natural_left:KFn:=qdO.1
def q9O:=kof 291
def q9P:KFn:=q9O.1
end
end Go.F
