/- Parts of the proof, part 34: Code2. -/
import Derived.Test.YtakaifogljbgoaaGreatZ32
set_option linter.all false
namespace Go.F
noncomputable section
set_option maxRecDepth 100000
set_option maxHeartbeats 4000000
def qko:=kof 26
def qvu:KFn:=qko.1
def qgS:=kof 34
def qt8:KFn:=qgS.1
def qbH:=kof 51
def qbI:KFn:=qbH.1
def qbJ:=kof 70
def qbK:KFn:=qbJ.1
def qd1:=kof 82
def qno:KFn:=qd1.1
def qd2:=kof 83
def qd3:KFn:=qd2.1
def q8Z:=kof 84
def q90:KFn:=q8Z.1
def q9U:=kof 85
def q9V:KFn:=q9U.1
def q7M:=kof 90
def q7N:KFn:=q7M.1
def qgT:=kof 93
def qgU:KFn:=qgT.1
def q9W:=kof 97
def q9X:KFn:=q9W.1
def qkr:=kof 107
def qks:KFn:=qkr.1
def q4V:=kof 127
def q4W:KFn:=q4V.1
def qfg:=kof 128
def qfh:KFn:=qfg.1
def qfi:=kof 129
def qfj:KFn:=qfi.1
def qfk:=kof 130
def qfl:KFn:=qfk.1
def qfm:=kof 131
def qfn:KFn:=qfm.1
def qkt:=kof 133
def qku:KFn:=qkt.1
def q9Y:=kof 135
def q9Z:KFn:=q9Y.1
def qa0:=kof 136
def qa1:KFn:=qa0.1
def qkv:=kof 137
def qkw:KFn:=qkv.1
def qd7:=kof 146
def qd8:KFn:=qd7.1
def qkB:=kof 162
def qkC:KFn:=qkB.1
def q5O:=kof 167
def q5P:KFn:=q5O.1
def q7O:=kof 171
def q7P:KFn:=q7O.1
def qfo:=kof 177
def qfp:KFn:=qfo.1
def qkD:=kof 180
def qkE:KFn:=qkD.1
def qfq:=kof 181
def qfr:KFn:=qfq.1
def qkF:=kof 186
def qkG:KFn:=qkF.1
def qa2:=kof 189
def qa3:KFn:=qa2.1
def qkH:=kof 192
def qkI:KFn:=qkH.1
def qfs:=kof 204
def qft:KFn:=qfs.1
def qnr:=kof 205
def qns:KFn:=qnr.1
def qgV:=kof 219
def qgW:KFn:=qgV.1
def qgX:=kof 222
def qgY:KFn:=qgX.1
def qgZ:=kof 229
def qh0:KFn:=qgZ.1
def qa4:=kof 232
def qa5:KFn:=qa4.1
def qkJ:=kof 250
def qkK:KFn:=qkJ.1
def qnu:=kof 251
def qnv:KFn:=qnu.1
def q67:=kof 259
def q68:KFn:=q67.1
def q6N:=kof 261
def q6O:KFn:=q6N.1
def q7Q:=kof 284
def q7R:KFn:=q7Q.1
end
end Go.F
