/- Parts of the proof, part 36: Code4. -/
import Derived.Test.YtakaifogljbgoaaGreatZ32
set_option linter.all false
namespace Go.F
noncomputable section
set_option maxRecDepth 100000
set_option maxHeartbeats 4000000
def q89:=kof 7
def qg5:KFn:=q89.1
def qac:=kof 9
def qj0:KFn:=qac.1
def qad:=kof 29
def qae:KFn:=qad.1
def qlc:=kof 32
def qld:KFn:=qlc.1
def qle:=kof 36
def qvB:KFn:=qle.1
def q95:=kof 46
def q96:KFn:=q95.1
def q8b:=kof 49
def q8c:KFn:=q8b.1
def qdm:=kof 68
def qnO:KFn:=qdm.1
def q8d:=kof 77
def q8e:KFn:=q8d.1
def qdn:=kof 79
def qdo:KFn:=qdn.1
def q7f:=kof 86
def q4N:KFn:=q7f.1
def q97:=kof 92
def q98:KFn:=q97.1
def qdp:=kof 122
def qdq:KFn:=qdp.1
def q4I:=kof 124
def q4J:KFn:=q4I.1
def qdr:=kof 126
def qds:KFn:=qdr.1
def qnQ:=kof 140
def qnR:KFn:=qnQ.1
def qlg:=kof 142
def qlh:KFn:=qlg.1
def qhu:=kof 156
def qhv:KFn:=qhu.1
def qhw:=kof 163
def qhx:KFn:=qhw.1
def qfG:=kof 164
def q9v:KFn:=qfG.1
def qbZ:=kof 165
def qc0:KFn:=qbZ.1
def qdt:=kof 168
def qdu:KFn:=qdt.1
def qc1:=kof 169
def q74:KFn:=qc1.1
def q8f:=kof 173
def q8g:KFn:=q8f.1
def qnU:=kof 182
def qnV:KFn:=qnU.1
def qhy:=kof 188
def qhz:KFn:=qhy.1
def qli:=kof 190
def qlj:KFn:=qli.1
def qlm:=kof 210
def qln:KFn:=qlm.1
def qhC:=kof 220
def qhD:KFn:=qhC.1
def qah:=kof 226
def qai:KFn:=qah.1
def qfH:=kof 230
def qfI:KFn:=qfH.1
def qfJ:=kof 231
def qfK:KFn:=qfJ.1
def qc2:=kof 254
def qc3:KFn:=qc2.1
def q3R:=kof 256
def q3S:KFn:=q3R.1
def qdw:=kof 262
def qdx:KFn:=qdw.1
def qc4:=kof 263
def qc5:KFn:=qc4.1
def q69:=kof 264
def q6a:KFn:=q69.1
def qc6:=kof 267
def qc7:KFn:=qc6.1
def qfL:=kof 269
def qfM:KFn:=qfL.1
def qs5:=kof 270
def qs6:KFn:=qs5.1
def qo0:=kof 283
def qo1:KFn:=qo0.1
def qaj:=kof 285
def qak:KFn:=qaj.1
def qhE:=kof 288
def q5Q:KFn:=qhE.1
end
end Go.F
