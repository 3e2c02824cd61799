/- Parts of the proof, part 36: Code4. -/
import Derived.Test.YtakaifogljbgoaaGreatZ32
set_option linter.all false
namespace Go.F
noncomputable section
set_option maxRecDepth 100000
set_option maxHeartbeats 4000000
def q7x:=kof 3
def q7y:KFn:=q7x.1
def qmr:=kof 12
def q3j:KFn:=qmr.1
def qp0:=kof 39
def qp1:KFn:=qp0.1
def qb8:=kof 41
def qb9:KFn:=qb8.1
def qir:=kof 42
def qis:KFn:=qir.1
def q4B:=kof 44
def q8Y:KFn:=q4B.1
def qeg:=kof 45
def k_grade_mirror:KFn:=qeg.1
def q9W:=kof 46
def q9X:KFn:=q9W.1
def q8Z:=kof 49
def q90:KFn:=q8Z.1
def q55:=kof 56
def q56:KFn:=q55.1
def q80:=kof 86
def q5d:KFn:=q80.1
def q9Y:=kof 92
def q9Z:KFn:=q9Y.1
def q63:=kof 101
def q64:KFn:=q63.1
def qen:=kof 126
def qeo:KFn:=qen.1
def qp3:=kof 140
def qp4:KFn:=qp3.1
def qmw:=kof 142
def qmx:KFn:=qmw.1
def qcT:=kof 165
def qcU:KFn:=qcT.1
def qep:=kof 168
def qeq:KFn:=qep.1
def qcV:=kof 169
def q7P:KFn:=qcV.1
def q93:=kof 173
def q94:KFn:=q93.1
def qp7:=kof 182
def qp8:KFn:=qp7.1
def qiB:=kof 188
def qiC:KFn:=qiB.1
def qiG:=kof 220
def qiH:KFn:=qiG.1
def qba:=kof 226
def qbb:KFn:=qba.1
def qgM:=kof 230
def qgN:KFn:=qgM.1
def qgO:=kof 231
def qgP:KFn:=qgO.1
def qcW:=kof 254
def qcX:KFn:=qcW.1
def qes:=kof 262
def qet:KFn:=qes.1
def qcY:=kof 263
def qcZ:KFn:=qcY.1
def q6G:=kof 264
def q6H:KFn:=q6G.1
def qd0:=kof 267
def qd1:KFn:=qd0.1
def qgQ:=kof 269
def qgR:KFn:=qgQ.1
def qbc:=kof 285
def qbd:KFn:=qbc.1
def qiI:=kof 288
def q6n:KFn:=qiI.1
end
end Go.F
