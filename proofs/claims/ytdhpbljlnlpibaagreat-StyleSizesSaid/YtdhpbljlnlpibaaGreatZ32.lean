/- Parts of the proof, part 32: Code2. -/
import Derived.Test.YtdhpbljlnlpibaaGreatZ30
set_option linter.all false
namespace Go.F
def q5g : KFn := ⟨
 (.seq (.ops 0 2 [oO 0 1 (.box 2 (.t 0)), oO 1 2 (.mov (.c (.bool false)))])
 (.seq (.ops 2 19 [fO 0 3 0 1, lO 1 4 true false 1 3, bC 2 5 .lss 4 (-1048576), mM 3 6 5, gG 4 7 6 false (.off 0 (.t 1)), gG 5 8 6 false (.load true false 1 (.t 7)), gG 6 9 6 false (.bin .gtr .no (.t 8) (.c (.int .i64 1048576))), oO 7 10 (.pick (.t 6) (.c (.bool true)) (.t 9)), mM 8 11 10, gG 9 12 11 false (.off 1 (.t 1)), gG 10 13 11 false (.load true false 1 (.t 12)), gG 11 14 11 false (.bin .lss .no (.t 13) (.c (.int .i64 (-1048576)))), oO 12 15 (.pick (.t 11) (.c (.bool true)) (.t 14)), mM 13 16 15, gG 14 17 16 false (.off 1 (.t 1)), gG 15 18 16 false (.load true false 1 (.t 17)), gG 16 19 16 false (.bin .gtr .no (.t 18) (.c (.int .i64 1048576))), oO 17 20 (.pick (.t 16) (.c (.bool true)) (.t 19)), mM 18 2 20]) .ret)),
 [.t 2]⟩
def qc1 : KFn := ⟨
 (.seq (.ops 0 1 [oO 0 2 (.mov (.c (.float .f64 0)))])
 (.seq (.ops 1 3 [mM 0 3 0, oO 1 4 (.callF q97 [(.t 3)]), mM 2 2 4]) .ret)),
 [.t 2]⟩
def qc2 : KFn := ⟨
 (.seq (.ops 0 4 [oO 0 2 (.box 3 (.t 0)), oO 1 3 (.box 3 (.t 1)), oO 2 4 (.new 3 (.agg [(.bool false), .nilsl, .nilsl])), oO 3 5 (.mov (.c (.bool false)))])
 (.seq (.ops 4 6 [lB 0 7 0 6 true true 3 2, oB 1 8 1 6 (.callF q1x [(.t 7)]), lB 2 9 0 6 true true 3 3, oB 3 10 7 6 (.callF q1x [(.t 9)]), ⟨4, none, none, (.bef 15 6), .store true 3 (.t 2) (.t 8)⟩, ⟨5, none, none, (.bef 31 6), .store true 3 (.t 3) (.t 10)⟩])
 (.seq (.seq
 (.ops 10 4 [fO 0 11 0 3, fO 1 12 1 11, lO 2 13 true false 1 12, oO 3 14 (.callF qaQ [(.t 13)])])
 (.cond (.t 14)
 (.seq (.ops 14 3 [oO 0 15 (.build [(.bool false), .nilsl, .nilsl] []), sT 1 true 3 4 15, oO 2 5 (.mov (.c (.bool false)))]) .ret) .skip))
 (.seq (.ops 17 16 [fO 0 16 0 2, fO 1 17 0 16, lB 2 18 3 16 true false 1 17, fO 3 19 0 3, fO 4 20 0 19, lB 5 21 24 16 true false 1 20, oO 6 22 (.bin .neq .bool (.t 18) (.t 21)), fO 7 23 0 2, fO 8 24 1 23, lB 9 25 384 16 true false 1 24, fO 10 26 2 3, lB 11 27 1024 16 true false 1 26, oB 12 28 3968 16 (.callF q3N [(.t 25), (.t 27)]), oO 13 29 (.build [(.bool false), .nilsl] [(0, 1, (.t 22)), (1, 1, (.t 28))]), oB 14 6 0 16 (.new 2 (.agg [(.bool false), .nilsl])), ⟨15, none, none, (.init 14), .store true 2 (.t 6) (.t 29)⟩])
 (.seq (.ops 33 10 [lB 0 30 0 10 true true 2 6, fO 1 31 2 2, lB 2 32 2 10 true false 1 31, fO 3 33 0 3, fO 4 34 1 33, lB 5 35 24 10 true false 1 34, oB 6 36 62 10 (.callF q3N [(.t 32), (.t 35)]), oB 7 37 127 10 (.callF q3d [(.t 30), (.t 36)]), ⟨8, none, none, (.bef 255 10), .store true 3 (.t 4) (.t 37)⟩, oO 9 5 (.mov (.c (.bool true)))]) .ret))))),
 [.cell 4 true 3, .t 5]⟩
def q9o : KFn := ⟨
 (.seq (.ops 0 3 [oO 0 2 (.box 6 (.t 0)), oO 1 3 (.box 6 (.t 1)), oO 2 4 (.new 3 (.agg [(.bool false), .nilsl, .nilsl]))])
 (.seq (.ops 3 12 [fO 0 5 0 2, lB 1 6 1 12 true true 3 5, fO 2 7 3 3, lB 3 8 4 12 true true 3 7, oB 4 9 15 12 (.callF q5F [(.t 6), (.t 8)]), fO 5 10 3 2, lB 6 11 32 12 true true 3 10, fO 7 12 0 3, lB 8 13 128 12 true true 3 12, oB 9 14 511 12 (.callF q5F [(.t 11), (.t 13)]), oB 10 15 1023 12 (.callF q96 [(.t 9), (.t 14)]), ⟨11, none, none, (.bef 2047 12), .store true 3 (.t 4) (.t 15)⟩]) .ret)),
 [.cell 4 true 3]⟩
def qeb : KFn := ⟨
 (.seq (.ops 0 4 [oO 0 3 (.box 6 (.t 0)), oO 1 4 (.box 6 (.t 1)), oO 2 5 (.box 3 (.t 2)), oO 3 6 (.new 6 (.agg [(.bool false), .nilsl, .nilsl, (.bool false), .nilsl, .nilsl]))])
 (.seq (.ops 4 8 [lB 0 7 0 8 true true 6 3, lB 1 8 0 8 true true 6 4, lB 2 9 0 8 true true 6 3, oB 3 10 6 8 (.callF q5E [(.t 8), (.t 9)]), lB 4 11 0 8 true true 3 5, oB 5 12 30 8 (.callF qdQ [(.t 10), (.t 11)]), oB 6 13 63 8 (.callF qhe [(.t 7), (.t 12)]), ⟨7, none, none, (.bef 127 8), .store true 6 (.t 6) (.t 13)⟩]) .ret)),
 [.cell 6 true 6]⟩
def qec : KFn := ⟨
 (.seq (.ops 0 1 [oO 0 4 (.new 6 (.agg [(.bool false), .nilsl, .nilsl, (.bool false), .nilsl, .nilsl]))])
 (.seq (.ops 1 8 [mM 0 10 0, oO 1 11 (.callF qaR [(.t 10), (.c (.int .i64 1))]), mM 2 9 11, eO 3 12 9 0, eO 4 13 9 1, oO 5 5 (.new 3 (.agg [(.bool false), .nilsl, .nilsl])), sT 6 true 3 5 12, mM 7 6 13])
 (.seq (.ops 9 8 [mM 0 15 1, oO 1 16 (.callF qaR [(.t 15), (.c (.int .i64 1))]), mM 2 14 16, eO 3 17 14 0, eO 4 18 14 1, oO 5 7 (.new 3 (.agg [(.bool false), .nilsl, .nilsl])), sT 6 true 3 7 17, mM 7 8 18])
 (.seq (.ops 17 4 [lO 0 19 true true 3 5, lO 1 20 true true 3 7, oO 2 21 (.build [(.bool false), .nilsl, .nilsl, (.bool false), .nilsl, .nilsl] [(0, 3, (.t 19)), (3, 3, (.t 20))]), sT 3 true 6 4 21]) .ret)))),
 [.cell 4 true 6]⟩
def q5h : KFn := ⟨
 (.seq (.ops 0 3 [oO 0 1 (.box 3 (.t 0)), mI 1 2 0, oO 2 3 (.mov (.c (.bool false)))])
 (.seq (.ops 3 8 [lO 0 7 true true 3 1, oO 1 8 (.callF qdR [(.t 7)]), oO 2 9 (.callF q7w [(.t 8)]), mM 3 6 9, eO 4 10 6 0, eO 5 11 6 1, mM 6 4 10, mM 7 5 11])
 (.seq (.ops 11 12 [mM 0 12 4, mM 1 13 5, mM 2 14 13, gM 3 15 14 true 4, gG 4 16 14 true (.bin .geq .no (.t 15) (.c (.int .i64 (-1048576)))), oO 5 17 (.pick (.t 14) (.t 16) (.c (.bool false))), mM 6 18 17, gM 7 19 18 true 4, gG 8 20 18 true (.bin .leq .no (.t 19) (.c (.int .i64 1048576))), oO 9 21 (.pick (.t 18) (.t 20) (.c (.bool false))), mM 10 2 12, mM 11 3 21]) .ret))),
 [.t 2, .t 3]⟩
def qc3 : KFn := ⟨
 (.seq (.ops 0 3 [oO 0 2 (.box 3 (.t 0)), oO 1 3 (.box 3 (.t 1)), oO 2 4 (.new 3 (.agg [(.bool false), .nilsl, .nilsl]))])
 (.seq (.ops 3 5 [lB 0 5 0 5 true true 3 2, lB 1 6 0 5 true true 3 3, oB 2 7 2 5 (.callF qhf [(.t 6)]), oB 3 8 7 5 (.callF q98 [(.t 5), (.t 7)]), ⟨4, none, none, (.bef 15 5), .store true 3 (.t 4) (.t 8)⟩]) .ret)),
 [.cell 4 true 3]⟩
def q2c : KFn := ⟨
 (.seq (.ops 8 1 [mI 0 4 0])
 (.seq (.seq
 (.ops 9 3 [mM 0 6 0, nO 1 7 6, mI 2 8 0])
 (.block 0
 (.loop [(0, 0), (1, 0), (7, 0), (8, 0)]
 (.seq (.ops 12 1 [bT 0 9 .lss 8 7])
 (.seq (.cond (.t 9) .skip
 (.exit 0))
 (.seq (.block 1
 (.seq (.ops 13 2 [mM 0 10 8, mM 1 5 10])
 (.seq (.ops 15 6 [mM 0 11 1, mM 1 12 0, mM 2 13 5, xO 3 14 2 12 13, lO 4 15 false true 2 14, oO 5 16 (.callV (.t 11) [(.t 15)])])
 (.cond (.t 16)
 (.seq (.ops 21 2 [mM 0 17 5, mM 1 4 17]) .ret) .skip))))
 (.ops 23 2 [bC 0 18 .add 8 1, mM 1 8 18])))))))
 (.seq (.ops 25 1 [mI 0 4 (-1)]) .ret))),
 [.t 4]⟩
def q2j : KFn := ⟨
 (.seq (.ops 0 2 [oO 0 3 (.box 2 (.t 1)), oO 1 4 (.mov (.c (.bool false)))])
 (.seq (.ops 2 5 [mM 0 5 0, lO 1 6 true true 2 3, oO 2 7 (.callF q2X [(.t 5), (.t 6)]), bC 3 8 .geq 7 0, mM 4 4 8]) .ret)),
 [.t 4]⟩
def q6o : KFn := ⟨
 (.seq (.ops 0 4 [oO 0 3 (.box 2 (.t 0)), oO 1 4 (.box 2 (.t 1)), oO 2 5 (.box 2 (.t 2)), oO 3 6 (.mov (.c (.bool false)))])
 (.seq (.ops 4 32 [lO 0 7 true true 2 3, lO 1 8 true true 2 4, lO 2 9 true true 2 5, oO 3 10 (.callF q1O [(.t 7), (.t 8), (.t 9)]), bC 4 11 .eql 10 0, mM 5 12 11, gG 6 13 12 true (.off 0 (.t 3)), gG 7 14 12 true (.load true false 1 (.t 13)), gG 8 15 12 true (.off 0 (.t 4)), gG 9 16 12 true (.load true false 1 (.t 15)), gG 10 17 12 true (.bin .sub .no (.t 14) (.t 16)), gG 11 18 12 true (.off 0 (.t 5)), gG 12 19 12 true (.load true false 1 (.t 18)), gG 13 20 12 true (.off 0 (.t 4)), gG 14 21 12 true (.load true false 1 (.t 20)), gG 15 22 12 true (.bin .sub .no (.t 19) (.t 21)), gG 16 23 12 true (.bin .mul .no (.t 17) (.t 22)), gG 17 24 12 true (.off 1 (.t 3)), gG 18 25 12 true (.load true false 1 (.t 24)), gG 19 26 12 true (.off 1 (.t 4)), gG 20 27 12 true (.load true false 1 (.t 26)), gG 21 28 12 true (.bin .sub .no (.t 25) (.t 27)), gG 22 29 12 true (.off 1 (.t 5)), gG 23 30 12 true (.load true false 1 (.t 29)), gG 24 31 12 true (.off 1 (.t 4)), gG 25 32 12 true (.load true false 1 (.t 31)), gG 26 33 12 true (.bin .sub .no (.t 30) (.t 32)), gG 27 34 12 true (.bin .mul .no (.t 28) (.t 33)), gG 28 35 12 true (.bin .add .no (.t 23) (.t 34)), gG 29 36 12 true (.bin .gtr .no (.t 35) (.c (.int .i64 0))), oO 30 37 (.pick (.t 12) (.t 36) (.c (.bool false))), mM 31 6 37]) .ret)),
 [.t 6]⟩
def q8c : KFn := ⟨
 (.seq (.ops 0 5 [oO 0 4 (.box 2 (.t 0)), oO 1 5 (.box 2 (.t 1)), oO 2 6 (.box 2 (.t 2)), oO 3 7 (.box 2 (.t 3)), oO 4 8 (.mov (.c (.bool false)))])
 (.seq (.ops 5 37 [lO 0 9 true true 2 4, lO 1 10 true true 2 5, lO 2 11 true true 2 6, oO 3 12 (.callF q4s [(.t 9), (.t 10), (.t 11)]), mM 4 13 12, gG 5 14 13 false (.load true true 2 (.t 4)), gG 6 15 13 false (.load true true 2 (.t 5)), gG 7 16 13 false (.load true true 2 (.t 7)), gG 8 17 13 false (.callF q4s [(.t 14), (.t 15), (.t 16)]), oO 9 18 (.pick (.t 13) (.c (.bool true)) (.t 17)), mM 10 19 18, gG 11 20 19 false (.load true true 2 (.t 6)), gG 12 21 19 false (.load true true 2 (.t 7)), gG 13 22 19 false (.load true true 2 (.t 4)), gG 14 23 19 false (.callF q4s [(.t 20), (.t 21), (.t 22)]), oO 15 24 (.pick (.t 19) (.c (.bool true)) (.t 23)), mM 16 25 24, gG 17 26 25 false (.load true true 2 (.t 6)), gG 18 27 25 false (.load true true 2 (.t 7)), gG 19 28 25 false (.load true true 2 (.t 5)), gG 20 29 25 false (.callF q4s [(.t 26), (.t 27), (.t 28)]), oO 21 30 (.pick (.t 25) (.c (.bool true)) (.t 29)), mM 22 31 30, gG 23 32 31 false (.load true true 2 (.t 4)), gG 24 33 31 false (.load true true 2 (.t 5)), gG 25 34 31 false (.load true true 2 (.t 6)), gG 26 35 31 false (.load true true 2 (.t 7)), gG 27 36 31 false (.callF q4t [(.t 32), (.t 33), (.t 34), (.t 35)]), gM 28 37 31 false 36, gG 29 38 37 true (.load true true 2 (.t 6)), gG 30 39 37 true (.load true true 2 (.t 7)), gG 31 40 37 true (.load true true 2 (.t 4)), gG 32 41 37 true (.load true true 2 (.t 5)), gG 33 42 37 true (.callF q4t [(.t 38), (.t 39), (.t 40), (.t 41)]), gG 34 43 31 false (.pick (.t 37) (.t 42) (.c (.bool false))), oO 35 44 (.pick (.t 31) (.c (.bool true)) (.t 43)), mM 36 8 44]) .ret)),
 [.t 8]⟩
def q7i : KFn := ⟨
 (.seq (.ops 0 1 [oO 0 2 (.mov (.c (.bool false)))])
 (.seq (.ops 1 4 [mM 0 3 0, mM 1 4 0, bT 2 5 .neq 3 4, mM 3 2 5]) .ret)),
 [.t 2]⟩
def q8d : KFn := ⟨
 (.seq (.ops 10 1 [mI 0 2 0])
 (.seq (.ops 11 1 [mI 0 3 0])
 (.seq (.seq
 (.ops 12 3 [mM 0 7 0, nO 1 8 7, mI 2 9 0])
 (.block 0
 (.loop [(0, 0), (3, 0), (7, 0), (8, 0), (9, 0)]
 (.seq (.ops 15 1 [bT 0 10 .lss 9 8])
 (.seq (.cond (.t 10) .skip
 (.exit 0))
 (.seq (.block 1
 (.seq (.ops 16 6 [mM 0 11 9, xO 1 12 2 7 9, lO 2 13 false true 2 12, oO 3 5 (.new 2 (.agg [(.int .i64 0), (.int .i64 0)])), mM 4 4 11, sT 5 true 2 5 13])
 (.seq (.ops 22 10 [mM 0 14 0, mM 1 15 4, bC 2 16 .add 15 1, mM 3 17 0, nO 4 18 17, bT 5 19 .rem 16 18, xO 6 20 2 14 19, lO 7 21 false true 2 20, oO 8 6 (.new 2 (.agg [(.int .i64 0), (.int .i64 0)])), sT 9 true 2 6 21])
 (.ops 32 14 [mM 0 22 3, fO 1 23 0 5, lO 2 24 true false 1 23, fO 3 25 1 6, lO 4 26 true false 1 25, bT 5 27 .mul 24 26, fO 6 28 1 5, lO 7 29 true false 1 28, fO 8 30 0 6, lO 9 31 true false 1 30, bT 10 32 .mul 29 31, bT 11 33 .sub 27 32, bT 12 34 .add 22 33, mM 13 3 34]))))
 (.ops 46 2 [bC 0 35 .add 9 1, mM 1 9 35])))))))
 (.seq (.ops 48 2 [mM 0 36 3, mM 1 2 36]) .ret)))),
 [.t 2]⟩
def q7j : KFn := ⟨
 (.seq (.ops 8 2 [oO 0 2 (.box 6 (.t 0)), mI 1 4 0])
 (.seq (.seq
 (.ops 10 2 [mM 0 8 1, bC 1 9 .gtr 8 12])
 (.cond (.t 9)
 (.seq (.ops 12 1 [mI 0 4 5]) .ret) .skip))
 (.seq (.seq
 (.ops 13 3 [lO 0 10 true true 6 2, oO 1 11 (.callF qbn [(.t 10)]), oO 2 12 (.un .not (.t 11))])
 (.cond (.t 12)
 (.seq (.ops 16 1 [mI 0 4 1]) .ret) .skip))
 (.seq (.seq
 (.ops 17 4 [fO 0 13 5 2, lO 1 14 true false 1 13, nO 2 15 14, mI 3 16 0])
 (.block 0
 (.loop [(1, 0), (14, 0), (15, 0), (16, 0)]
 (.seq (.ops 21 1 [bT 0 17 .lss 16 15])
 (.seq (.cond (.t 17) .skip
 (.exit 0))
 (.seq (.block 1
 (.seq (.ops 22 4 [xO 0 18 6 14 16, lO 1 19 false true 6 18, oO 2 6 (.new 6 (.agg [(.int .i64 0), (.bool false), .nilsl, .nilsl, (.str ⟨#[]⟩), .nilsl])), sT 3 true 6 6 19])
 (.seq (.ops 26 5 [lO 0 20 true true 6 6, mM 1 21 1, bC 2 22 .add 21 1, oO 3 23 (.callF q7v [(.t 20), (.t 22)]), mM 4 7 23])
 (.seq (.ops 31 2 [mM 0 24 7, bC 1 25 .neq 24 0])
 (.cond (.t 25)
 (.seq (.ops 33 2 [mM 0 26 7, mM 1 4 26]) .ret) .skip)))))
 (.ops 35 2 [bC 0 27 .add 16 1, mM 1 16 27])))))))
 (.seq (.ops 37 1 [mI 0 4 0]) .ret))))),
 [.t 4]⟩
def q8e : KFn := ⟨
 (.seq (.ops 6 1 [oO 0 2 (.mov (.c (.bool false)))])
 (.seq (.seq
 (.ops 7 3 [mM 0 6 0, oO 1 7 (.len .str (.t 6)), mI 2 8 0])
 (.block 0
 (.loop [(0, 0), (7, 0), (8, 0)]
 (.seq (.ops 10 1 [bT 0 9 .lss 8 7])
 (.seq (.cond (.t 9) .skip
 (.exit 0))
 (.seq (.block 1
 (.seq (.ops 11 2 [mM 0 10 8, mM 1 3 10])
 (.seq (.ops 13 11 [mM 0 11 0, mM 1 12 3, oO 2 13 (.istr (.t 11) (.t 12)), oO 3 14 (.bin .leq .no (.c (.int .u8 65)) (.t 13)), mM 4 15 14, gM 5 16 15 true 0, gM 6 17 15 true 3, gG 7 18 15 true (.istr (.t 16) (.t 17)), gG 8 19 15 true (.bin .leq .no (.t 18) (.c (.int .u8 90))), oO 9 20 (.pick (.t 15) (.t 19) (.c (.bool false))), mM 10 4 20])
 (.seq (.ops 24 11 [mM 0 21 0, mM 1 22 3, oO 2 23 (.istr (.t 21) (.t 22)), oO 3 24 (.bin .leq .no (.c (.int .u8 48)) (.t 23)), mM 4 25 24, gM 5 26 25 true 0, gM 6 27 25 true 3, gG 7 28 25 true (.istr (.t 26) (.t 27)), gG 8 29 25 true (.bin .leq .no (.t 28) (.c (.int .u8 57))), oO 9 30 (.pick (.t 25) (.t 29) (.c (.bool false))), mM 10 5 30])
 (.seq (.ops 35 6 [mM 0 31 4, oO 1 32 (.un .not (.t 31)), mM 2 33 32, gM 3 34 33 true 5, gG 4 35 33 true (.un .not (.t 34)), oO 5 36 (.pick (.t 33) (.t 35) (.c (.bool false)))])
 (.cond (.t 36)
 (.seq (.ops 41 1 [oO 0 2 (.mov (.c (.bool false)))]) .ret) .skip))))))
 (.ops 42 2 [bC 0 37 .add 8 1, mM 1 8 37])))))))
 (.seq (.ops 44 9 [mM 0 38 0, oO 1 39 (.len .str (.t 38)), oO 2 40 (.bin .leq .no (.c (.int .i64 1)) (.t 39)), mM 3 41 40, gM 4 42 41 true 0, gG 5 43 41 true (.len .str (.t 42)), gG 6 44 41 true (.bin .leq .no (.t 43) (.c (.int .i64 8))), oO 7 45 (.pick (.t 41) (.t 44) (.c (.bool false))), mM 8 2 45]) .ret))),
 [.t 2]⟩
def q1S : KFn := ⟨
 (.seq (.ops 0 1 [oO 0 4 (.mov (.c (.bool false)))])
 (.seq (.ops 1 5 [mM 0 5 0, mM 1 6 1, oO 2 7 (.callF q3H [(.t 5), (.t 6)]), bC 3 8 .geq 7 0, mM 4 4 8]) .ret)),
 [.t 4]⟩
def q7k : KFn := ⟨
 (.seq (.ops 0 2 [oO 0 2 (.box 3 (.t 0)), oO 1 4 (.mov (.c (.bool false)))])
 (.seq (.ops 2 10 [mM 0 5 1, oO 1 6 (.bin .leq .no (.c (.int .i64 0)) (.t 5)), mM 2 7 6, gM 3 8 7 true 1, gG 4 9 7 true (.off 0 (.t 2)), gG 5 10 7 true (.load true false 1 (.t 9)), gG 6 11 7 true (.len .sl (.t 10)), gG 7 12 7 true (.bin .lss .no (.t 8) (.t 11)), oO 8 13 (.pick (.t 7) (.t 12) (.c (.bool false))), mM 9 4 13]) .ret)),
 [.t 4]⟩
def q5T : KFn := ⟨
 (.seq (.ops 8 2 [mI 0 2 0, mI 1 3 0])
 (.seq (.seq
 (.ops 10 3 [mM 0 7 0, oO 1 8 (.callF q6z [(.t 7)]), mM 2 4 8])
 (.seq (.ops 13 2 [mM 0 9 4, bC 1 10 .neq 9 0])
 (.cond (.t 10)
 (.seq (.ops 15 3 [mM 0 11 4, mI 1 2 0, mM 2 3 11]) .ret) .skip)))
 (.seq (.ops 18 1 [mI 0 5 0])
 (.seq (.seq
 (.ops 19 4 [mM 0 12 0, nO 1 13 12, bC 2 14 .sub 13 1, mI 3 15 0])
 (.block 0
 (.loop [(0, 0), (5, 0), (14, 0), (15, 0)]
 (.seq (.ops 23 1 [bT 0 16 .lss 15 14])
 (.seq (.cond (.t 16) .skip
 (.exit 0))
 (.seq (.block 1
 (.seq (.ops 24 2 [mM 0 17 15, mM 1 6 17])
 (.ops 26 13 [mM 0 18 5, mM 1 19 0, mM 2 20 6, xB 3 21 6 13 2 19 20, lB 4 22 14 13 false true 2 21, mM 5 23 0, mM 6 24 6, bC 7 25 .add 24 1, xB 8 26 224 13 2 23 25, lB 9 27 480 13 false true 2 26, oB 10 28 1022 13 (.callF q8E [(.t 22), (.t 27)]), bT 11 29 .add 18 28, mM 12 5 29])))
 (.ops 39 2 [bC 0 30 .add 15 1, mM 1 15 30])))))))
 (.seq (.ops 41 3 [mM 0 31 5, mM 1 2 31, mI 2 3 0]) .ret))))),
 [.t 2, .t 3]⟩
def q5U : KFn := ⟨
 (.seq (.ops 0 2 [mI 0 8 0, mI 1 9 0])
 (.seq (.seq
 (.ops 2 23 [mM 0 15 0, bC 1 16 .lss 15 1, mM 2 17 16, gM 3 18 17 false 0, gG 4 19 17 false (.bin .gtr .no (.t 18) (.c (.int .i64 1099511627776))), oO 5 20 (.pick (.t 17) (.c (.bool true)) (.t 19)), mM 6 21 20, gM 7 22 21 false 1, gG 8 23 21 false (.bin .lss .no (.t 22) (.c (.int .i64 0))), oO 9 24 (.pick (.t 21) (.c (.bool true)) (.t 23)), mM 10 25 24, gM 11 26 25 false 1, gG 12 27 25 false (.bin .gtr .no (.t 26) (.c (.int .i64 1099511627776))), oO 13 28 (.pick (.t 25) (.c (.bool true)) (.t 27)), mM 14 29 28, gM 15 30 29 false 3, gG 16 31 29 false (.bin .lss .no (.t 30) (.c (.int .i64 0))), oO 17 32 (.pick (.t 29) (.c (.bool true)) (.t 31)), mM 18 33 32, gM 19 34 33 false 3, gM 20 35 33 false 0, gG 21 36 33 false (.bin .gtr .no (.t 34) (.t 35)), oO 22 37 (.pick (.t 33) (.c (.bool true)) (.t 36))])
 (.cond (.t 37)
 (.seq (.ops 25 2 [mI 0 8 0, mI 1 9 3]) .ret) .skip))
 (.seq (.ops 27 10 [mM 0 39 3, oO 1 40 (.conv (.int .u64) (.t 39)), mM 2 41 1, oO 3 42 (.conv (.int .u64) (.t 41)), oO 4 43 (.callF qfq [(.t 40), (.t 42)]), mM 5 38 43, eO 6 44 38 0, eO 7 45 38 1, mM 8 10 44, mM 9 11 45])
 (.seq (.ops 37 10 [mM 0 47 10, mM 1 48 11, mM 2 49 0, oO 3 50 (.conv (.int .u64) (.t 49)), oO 4 51 (.callF qfr [(.t 47), (.t 48), (.t 50)]), mM 5 46 51, eO 6 52 46 0, eO 7 53 46 1, mM 8 12 52, mM 9 13 53])
 (.seq (.seq
 (.ops 47 5 [mM 0 54 13, oO 1 55 (.bin .mul .no (.c (.int .u64 2)) (.t 54)), mM 2 56 0, oO 3 57 (.conv (.int .u64) (.t 56)), bT 4 58 .geq 55 57])
 (.cond (.t 58)
 (.ops 52 3 [mM 0 59 12, oO 1 60 (.bin .add .no (.t 59) (.c (.int .u64 1))), mM 2 12 60]) .skip))
 (.seq (.ops 55 3 [mM 0 61 12, oO 1 62 (.conv (.int .i64) (.t 61)), mM 2 14 62])
 (.seq (.seq
 (.ops 58 1 [mM 0 63 2])
 (.cond (.t 63)
 (.ops 59 4 [mM 0 64 1, mM 1 65 14, bT 2 66 .sub 64 65, mM 3 14 66]) .skip))
 (.seq (.ops 63 3 [mM 0 67 14, mM 1 8 67, mI 2 9 0]) .ret)))))))),
 [.t 8, .t 9]⟩
def q9q : KFn := ⟨
 (.seq (.ops 0 2 [oO 0 1 (.box 3 (.t 0)), oO 1 2 (.new 3 (.agg [(.bool false), .nilsl, .nilsl]))])
 (.seq (.seq
 (.ops 2 3 [fO 0 3 2 1, lO 1 4 true false 1 3, oO 2 5 (.callF qaQ [(.t 4)])])
 (.cond (.t 5)
 (.seq (.ops 5 3 [oO 0 6 (.callF q4w [(.c (.int .u64 1))]), oO 1 7 (.build [(.bool false), .nilsl, .nilsl] [(2, 1, (.t 6))]), sT 2 true 3 2 7]) .ret) .skip))
 (.seq (.ops 8 2 [lO 0 8 true true 3 1, sT 1 true 3 2 8]) .ret))),
 [.cell 2 true 3]⟩
def qay : KFn := ⟨
 (.seq (.ops 0 1 [oO 0 2 (.mov (.c (.bool false)))])
 (.seq (.ops 1 4 [mM 0 3 0, oO 1 4 (.callF q21 [(.t 3), (.c .nilsl)]), bC 2 5 .eql 4 0, mM 3 2 5]) .ret)),
 [.t 2]⟩
def q9r : KFn := ⟨
 (.seq (.ops 22 1 [oO 0 4 (.mov (.c .nilsl))])
 (.seq (.ops 23 6 [mM 0 11 0, oO 1 12 (.callF q0L [(.t 11)]), mM 2 13 1, oO 3 14 (.callF q0L [(.t 13)]), mM 4 0 12, mM 5 1 14])
 (.seq (.ops 29 7 [mM 0 15 0, nO 1 16 15, mM 2 17 1, nO 3 18 17, bT 4 19 .add 16 18, oO 5 20 (.mkslice ⟨1, 4, (.int .u32 0)⟩ (.t 19) (.t 19)), mM 6 5 20])
 (.seq (.seq
 (.ops 36 3 [mM 0 21 0, nO 1 22 21, mI 2 23 0])
 (.block 0
 (.loop [(1, 0), (5, 0), (21, 0), (22, 0), (23, 0)]
 (.seq (.ops 39 1 [bT 0 24 .lss 23 22])
 (.seq (.cond (.t 24) .skip
 (.exit 0))
 (.seq (.block 1
 (.seq (.ops 40 5 [mM 0 25 23, xO 1 26 1 21 23, lO 2 27 false false 1 26, mM 3 6 25, mM 4 7 27])
 (.seq (.ops 45 1 [oO 0 8 (.mov (.c (.int .u64 0)))])
 (.seq (.seq
 (.ops 46 3 [mM 0 28 1, nO 1 29 28, mI 2 30 0])
 (.block 2
 (.loop [(1, 0), (5, 0), (6, 0), (7, 0), (8, 0), (21, 0), (22, 0), (23, 0), (28, 0), (29, 0), (30, 0)]
 (.seq (.ops 49 1 [bT 0 31 .lss 30 29])
 (.seq (.cond (.t 31) .skip
 (.exit 2))
 (.seq (.block 3
 (.seq (.ops 50 5 [mM 0 32 30, xO 1 33 1 28 30, lO 2 34 false false 1 33, mM 3 9 32, mM 4 10 34])
 (.seq (.ops 55 16 [mM 0 35 8, mM 1 36 7, oO 2 37 (.conv (.int .u64) (.t 36)), mM 3 38 10, oO 4 39 (.conv (.int .u64) (.t 38)), bT 5 40 .mul 37 39, mM 6 41 5, mM 7 42 6, mM 8 43 9, bT 9 44 .add 42 43, xO 10 45 1 41 44, lO 11 46 false false 1 45, oO 12 47 (.conv (.int .u64) (.t 46)), bT 13 48 .add 40 47, bT 14 49 .add 35 48, mM 15 8 49])
 (.seq (.ops 71 8 [mM 0 50 5, mM 1 51 6, mM 2 52 9, bT 3 53 .add 51 52, mM 4 54 8, oO 5 55 (.conv (.int .u32) (.t 54)), xO 6 56 1 50 53, sT 7 false 1 56 55])
 (.ops 79 3 [mM 0 57 8, oO 1 58 (.bin .shr .no (.t 57) (.c (.int .u64 32))), mM 2 8 58])))))
 (.ops 82 2 [bC 0 59 .add 30 1, mM 1 30 59])))))))
 (.ops 84 9 [mM 0 60 5, mM 1 61 6, mM 2 62 1, nO 3 63 62, bT 4 64 .add 61 63, mM 5 65 8, oO 6 66 (.conv (.int .u32) (.t 65)), xO 7 67 1 60 64, sT 8 false 1 67 66])))))
 (.ops 93 2 [bC 0 68 .add 23 1, mM 1 23 68])))))))
 (.seq (.ops 95 3 [mM 0 69 5, oO 1 70 (.callF q0L [(.t 69)]), mM 2 4 70]) .ret))))),
 [.t 4]⟩
def q8f : KFn := ⟨
 (.seq (.ops 0 2 [oO 0 2 (.box 2 (.t 0)), oO 1 4 (.new 3 (.agg [(.bool false), .nilsl, .nilsl]))])
 (.seq (.ops 2 5 [fO 0 12 1 2, lO 1 13 true false 1 12, mM 2 14 1, oO 3 15 (.callF qdU [(.t 13), (.t 14)]), mM 4 5 15])
 (.seq (.ops 7 11 [fO 0 17 1 2, lO 1 18 true false 1 17, mM 2 19 5, oO 3 20 (.callF q3f [(.t 18), (.t 19)]), mM 4 16 20, eO 5 21 16 0, eO 6 22 16 1, eO 7 23 16 2, mM 8 6 21, mM 9 7 22, mM 10 8 23])
 (.seq (.ops 18 10 [mM 0 25 1, mM 1 26 5, oO 2 27 (.callF q3f [(.t 25), (.t 26)]), mM 3 24 27, eO 4 28 24 0, eO 5 29 24 1, eO 6 30 24 2, mM 7 9 28, mM 8 10 29, mM 9 11 30])
 (.seq (.ops 28 8 [fO 0 31 0 2, lO 1 32 true false 1 31, mM 2 33 6, oO 3 34 (.build [(.bool false), .nilsl] [(0, 1, (.t 32)), (1, 1, (.t 33))]), oO 4 35 (.callF q3g [(.t 34)]), mM 5 36 9, oO 6 37 (.build [(.bool false), .nilsl, .nilsl] [(0, 2, (.t 35)), (2, 1, (.t 36))]), sT 7 true 3 4 37]) .ret))))),
 [.cell 4 true 3]⟩
def qcg : KFn := ⟨
 (.seq (.ops 0 3 [oO 0 2 (.box 3 (.t 0)), oO 1 3 (.box 3 (.t 1)), oO 2 4 (.new 3 (.agg [(.bool false), .nilsl, .nilsl]))])
 (.seq (.ops 3 6 [lB 0 5 0 6 true true 3 2, oB 1 6 1 6 (.callF q1x [(.t 5)]), lB 2 7 0 6 true true 3 3, oB 3 8 7 6 (.callF q1x [(.t 7)]), ⟨4, none, none, (.bef 15 6), .store true 3 (.t 2) (.t 6)⟩, ⟨5, none, none, (.bef 31 6), .store true 3 (.t 3) (.t 8)⟩])
 (.seq (.ops 9 12 [fO 0 9 0 2, lB 1 10 1 12 true true 2 9, fO 2 11 0 3, lB 3 12 4 12 true true 2 11, oB 4 13 15 12 (.callF q3O [(.t 10), (.t 12)]), fO 5 14 2 2, lB 6 15 32 12 true false 1 14, fO 7 16 2 3, lB 8 17 128 12 true false 1 16, oB 9 18 511 12 (.callF q3N [(.t 15), (.t 17)]), oB 10 19 1023 12 (.callF q3d [(.t 13), (.t 18)]), ⟨11, none, none, (.bef 2047 12), .store true 3 (.t 4) (.t 19)⟩]) .ret))),
 [.cell 4 true 3]⟩
def qch : KFn := ⟨
 (.seq (.ops 0 3 [oO 0 2 (.box 6 (.t 0)), oO 1 3 (.box 6 (.t 1)), oO 2 4 (.new 6 (.agg [(.bool false), .nilsl, .nilsl, (.bool false), .nilsl, .nilsl]))])
 (.seq (.ops 3 12 [fO 0 5 0 2, lB 1 6 1 12 true true 3 5, fO 2 7 0 3, lB 3 8 4 12 true true 3 7, oB 4 9 15 12 (.callF q98 [(.t 6), (.t 8)]), fO 5 10 3 2, lB 6 11 32 12 true true 3 10, fO 7 12 3 3, lB 8 13 128 12 true true 3 12, oB 9 14 511 12 (.callF q98 [(.t 11), (.t 13)]), oO 10 15 (.build [(.bool false), .nilsl, .nilsl, (.bool false), .nilsl, .nilsl] [(0, 3, (.t 9)), (3, 3, (.t 14))]), ⟨11, none, none, (.bef 2047 12), .store true 6 (.t 4) (.t 15)⟩]) .ret)),
 [.cell 4 true 6]⟩
def q9s : KFn := ⟨
 (.seq (.ops 0 3 [oO 0 2 (.box 6 (.t 0)), oO 1 3 (.box 3 (.t 1)), oO 2 4 (.new 6 (.agg [(.bool false), .nilsl, .nilsl, (.bool false), .nilsl, .nilsl]))])
 (.seq (.ops 3 10 [fO 0 5 0 2, lB 1 6 1 10 true true 3 5, lB 2 7 0 10 true true 3 3, oB 3 8 7 10 (.callF q5F [(.t 6), (.t 7)]), fO 4 9 3 2, lB 5 10 16 10 true true 3 9, lB 6 11 0 10 true true 3 3, oB 7 12 127 10 (.callF q5F [(.t 10), (.t 11)]), oO 8 13 (.build [(.bool false), .nilsl, .nilsl, (.bool false), .nilsl, .nilsl] [(0, 3, (.t 8)), (3, 3, (.t 12))]), ⟨9, none, none, (.bef 511 10), .store true 6 (.t 4) (.t 13)⟩]) .ret)),
 [.cell 4 true 6]⟩
def qef : KFn := ⟨
 (.seq (.ops 0 2 [oO 0 4 (.new 3 (.agg [(.bool false), .nilsl, .nilsl])), oO 1 5 (.mov (.c (.bool false)))])
 (.seq (.seq
 (.ops 2 2 [mM 0 8 1, bC 1 9 .eql 8 0])
 (.cond (.t 9)
 (.seq (.ops 4 3 [oO 0 10 (.build [(.bool false), .nilsl, .nilsl] []), sT 1 true 3 4 10, oO 2 5 (.mov (.c (.bool false)))]) .ret) .skip))
 (.seq (.ops 7 8 [mM 0 11 0, oO 1 12 (.callF qaT [(.t 11)]), mM 2 13 1, oO 3 14 (.callF qaT [(.t 13)]), oO 4 6 (.new 2 (.agg [(.bool false), .nilsl])), oO 5 7 (.new 2 (.agg [(.bool false), .nilsl])), sT 6 true 2 6 12, sT 7 true 2 7 14])
 (.seq (.ops 15 7 [fO 0 15 0 6, lO 1 16 true false 1 15, fO 2 17 0 7, lO 3 18 true false 1 17, oO 4 19 (.bin .neq .bool (.t 16) (.t 18)), fO 5 20 0 6, sT 6 true 1 20 19])
 (.seq (.ops 22 6 [lO 0 21 true true 2 6, fO 1 22 1 7, lO 2 23 true false 1 22, oO 3 24 (.callF q3d [(.t 21), (.t 23)]), sT 4 true 3 4 24, oO 5 5 (.mov (.c (.bool true)))]) .ret))))),
 [.cell 4 true 3, .t 5]⟩
def q7l : KFn := ⟨
 (.seq (.ops 10 3 [oO 0 1 (.box 2 (.t 0)), mI 1 2 0, oO 2 3 (.mov (.c (.bool false)))])
 (.seq (.ops 13 3 [lO 0 7 true true 2 1, oO 1 8 (.callF q3g [(.t 7)]), sT 2 true 2 1 8])
 (.seq (.seq
 (.ops 16 4 [fO 0 9 1 1, lO 1 10 true false 1 9, nO 2 11 10, bC 3 12 .gtr 11 2])
 (.cond (.t 12)
 (.seq (.ops 20 2 [mI 0 2 0, oO 1 3 (.mov (.c (.bool false)))]) .ret) .skip))
 (.seq (.ops 22 1 [oO 0 4 (.mov (.c (.int .u64 0)))])
 (.seq (.seq
 (.ops 23 4 [fO 0 13 1 1, lO 1 14 true false 1 13, nO 2 15 14, mI 3 16 0])
 (.block 0
 (.loop [(1, 0), (4, 0), (14, 0), (15, 0), (16, 0)]
 (.seq (.ops 27 1 [bT 0 17 .lss 16 15])
 (.seq (.cond (.t 17) .skip
 (.exit 0))
 (.seq (.block 1
 (.seq (.ops 28 5 [mM 0 18 16, xO 1 19 1 14 16, lO 2 20 false false 1 19, mM 3 5 18, mM 4 6 20])
 (.ops 33 8 [mM 0 21 4, mM 1 22 6, oO 2 23 (.conv (.int .u64) (.t 22)), mM 3 24 5, oO 4 25 (.bin .mul .no (.c (.int .i64 32)) (.t 24)), bT 5 26 .shl 23 25, bT 6 27 .or 21 26, mM 7 4 27])))
 (.ops 41 2 [bC 0 28 .add 16 1, mM 1 16 28])))))))
 (.seq (.block 2
 (.seq (.ops 43 7 [fO 0 30 0 1, lO 1 31 true false 1 30, mM 2 32 31, gM 3 33 32 true 4, gG 4 34 32 true (.bin .leq .no (.t 33) (.c (.int .u64 9223372036854775808))), oO 5 35 (.pick (.t 32) (.t 34) (.c (.bool false))), mM 6 29 35])
 (.cond (.t 29)
 (.seq (.ops 50 5 [mM 0 36 4, oO 1 37 (.un .neg (.t 36)), oO 2 38 (.conv (.int .i64) (.t 37)), mM 3 2 38, oO 4 3 (.mov (.c (.bool true)))]) .ret)
 (.seq (.ops 55 8 [fO 0 40 0 1, lO 1 41 true false 1 40, oO 2 42 (.un .not (.t 41)), mM 3 43 42, gM 4 44 43 true 4, gG 5 45 43 true (.bin .lss .no (.t 44) (.c (.int .u64 9223372036854775808))), oO 6 46 (.pick (.t 43) (.t 45) (.c (.bool false))), mM 7 39 46])
 (.cond (.t 39)
 (.seq (.ops 63 4 [mM 0 47 4, oO 1 48 (.conv (.int .i64) (.t 47)), mM 2 2 48, oO 3 3 (.mov (.c (.bool true)))]) .ret) .skip)))))
 (.seq (.ops 67 2 [mI 0 2 0, oO 1 3 (.mov (.c (.bool false)))]) .ret))))))),
 [.t 2, .t 3]⟩
def q9t : KFn := ⟨
 (.seq (.ops 0 2 [oO 0 1 (.box 3 (.t 0)), oO 1 2 (.new 2 (.agg [(.bool false), .nilsl]))])
 (.seq (.ops 2 3 [lO 0 7 true true 3 1, oO 1 8 (.callF q1x [(.t 7)]), sT 2 true 3 1 8])
 (.seq (.ops 5 8 [fO 0 9 0 1, fO 1 10 1 9, lO 2 11 true false 1 10, fO 3 12 0 1, fO 4 13 1 12, lO 5 14 true false 1 13, oO 6 15 (.callF q4J [(.t 11), (.t 14)]), mM 7 3 15])
 (.seq (.ops 13 17 [mM 0 17 3, fO 1 18 2 1, lB 2 19 2 17 true false 1 18, oB 3 20 7 17 (.callF q4J [(.t 17), (.t 19)]), fO 4 21 2 1, lB 5 22 16 17 true false 1 21, fO 6 23 2 1, lB 7 24 64 17 true false 1 23, oB 8 25 255 17 (.callF q4J [(.t 22), (.t 24)]), oB 9 26 511 17 (.callF q3f [(.t 20), (.t 25)]), mM 10 16 26, eO 11 27 16 0, eO 12 28 16 1, eO 13 29 16 2, mM 14 4 27, mM 15 5 28, mM 16 6 29])
 (.seq (.ops 30 7 [fO 0 30 0 1, fO 1 31 0 30, lO 2 32 true false 1 31, mM 3 33 4, oO 4 34 (.build [(.bool false), .nilsl] [(0, 1, (.t 32)), (1, 1, (.t 33))]), oO 5 35 (.callF q3g [(.t 34)]), sT 6 true 2 2 35]) .ret))))),
 [.cell 2 true 2]⟩
def qci : KFn := ⟨
 (.seq (.ops 0 3 [oO 0 2 (.box 3 (.t 0)), oO 1 3 (.box 3 (.t 1)), oO 2 4 (.new 3 (.agg [(.bool false), .nilsl, .nilsl]))])
 (.seq (.ops 3 6 [lB 0 6 0 6 true true 3 2, oB 1 7 1 6 (.callF q1x [(.t 6)]), lB 2 8 0 6 true true 3 3, oB 3 9 7 6 (.callF q1x [(.t 8)]), ⟨4, none, none, (.bef 15 6), .store true 3 (.t 2) (.t 7)⟩, ⟨5, none, none, (.bef 31 6), .store true 3 (.t 3) (.t 9)⟩])
 (.seq (.ops 9 15 [fO 0 10 0 2, lB 1 11 1 15 true true 2 10, fO 2 12 2 3, lB 3 13 4 15 true false 1 12, oB 4 14 12 15 (.callF q3e [(.t 13)]), oB 5 15 31 15 (.callF q3O [(.t 11), (.t 14)]), fO 6 16 0 3, lB 7 17 64 15 true true 2 16, fO 8 18 2 2, lB 9 19 256 15 true false 1 18, oB 10 20 831 15 (.callF q3e [(.t 19)]), oB 11 21 2047 15 (.callF q3O [(.t 17), (.t 20)]), oB 12 22 4095 15 (.callF qdV [(.t 15), (.t 21)]), oB 13 5 0 15 (.new 2 (.agg [(.bool false), .nilsl])), ⟨14, none, none, (.init 13), .store true 2 (.t 5) (.t 22)⟩])
 (.seq (.ops 24 8 [lB 0 23 0 8 true true 2 5, fO 1 24 2 2, lB 2 25 2 8 true false 1 24, fO 3 26 2 3, lB 4 27 8 8 true false 1 26, oB 5 28 30 8 (.callF q3N [(.t 25), (.t 27)]), oB 6 29 63 8 (.callF q3d [(.t 23), (.t 28)]), ⟨7, none, none, (.bef 127 8), .store true 3 (.t 4) (.t 29)⟩]) .ret)))),
 [.cell 4 true 3]⟩
def qcj : KFn := ⟨
 (.seq (.ops 0 2 [oO 0 1 (.box 3 (.t 0)), oO 1 2 (.new 3 (.agg [(.bool false), .nilsl, .nilsl]))])
 (.seq (.ops 2 3 [lO 0 3 true true 3 1, oO 1 4 (.callF q1x [(.t 3)]), sT 2 true 3 1 4])
 (.seq (.ops 5 7 [fO 0 5 0 1, lB 1 6 1 7 true true 2 5, oB 2 7 3 7 (.callF qdW [(.t 6)]), fO 3 8 2 1, lB 4 9 8 7 true false 1 8, oB 5 10 31 7 (.callF q3d [(.t 7), (.t 9)]), ⟨6, none, none, (.bef 63 7), .store true 3 (.t 2) (.t 10)⟩]) .ret))),
 [.cell 2 true 3]⟩
def q2U : KFn := ⟨
 (.seq (.ops 8 2 [oO 0 3 (.box 2 (.t 1)), mI 1 4 0])
 (.seq (.seq
 (.ops 10 3 [mM 0 6 0, nO 1 7 6, mI 2 8 0])
 (.block 0
 (.loop [(0, 0), (3, 0), (7, 0), (8, 0)]
 (.seq (.ops 13 1 [bT 0 9 .lss 8 7])
 (.seq (.cond (.t 9) .skip
 (.exit 0))
 (.seq (.block 1
 (.seq (.ops 14 2 [mM 0 10 8, mM 1 5 10])
 (.seq (.ops 16 6 [lB 0 11 0 6 true true 2 3, mM 1 12 0, mM 2 13 5, xB 3 14 6 6 2 12 13, lB 4 15 14 6 false true 2 14, oO 5 16 (.bin .eql (.flat [.int, .int]) (.t 11) (.t 15))])
 (.cond (.t 16)
 (.seq (.ops 22 2 [mM 0 17 5, mM 1 4 17]) .ret) .skip))))
 (.ops 24 2 [bC 0 18 .add 8 1, mM 1 8 18])))))))
 (.seq (.ops 26 1 [mI 0 4 (-1)]) .ret))),
 [.t 4]⟩
def q7m : KFn := ⟨
 (.seq (.ops 0 4 [oO 0 3 (.box 2 (.t 0)), oO 1 4 (.box 2 (.t 1)), oO 2 5 (.box 2 (.t 2)), mI 3 6 0])
 (.seq (.ops 4 24 [fO 0 7 0 4, lO 1 8 true false 1 7, fO 2 9 0 3, lO 3 10 true false 1 9, bT 4 11 .sub 8 10, fO 5 12 1 5, lO 6 13 true false 1 12, fO 7 14 1 3, lO 8 15 true false 1 14, bT 9 16 .sub 13 15, bT 10 17 .mul 11 16, fO 11 18 1 4, lO 12 19 true false 1 18, fO 13 20 1 3, lO 14 21 true false 1 20, bT 15 22 .sub 19 21, fO 16 23 0 5, lO 17 24 true false 1 23, fO 18 25 0 3, lO 19 26 true false 1 25, bT 20 27 .sub 24 26, bT 21 28 .mul 22 27, bT 22 29 .sub 17 28, mM 23 6 29]) .ret)),
 [.t 6]⟩
def qaz : KFn := ⟨
 (.seq (.ops 0 4 [oO 0 3 (.box 2 (.t 0)), oO 1 4 (.box 2 (.t 1)), oO 2 5 (.box 2 (.t 2)), oO 3 6 (.mov (.c (.bool false)))])
 (.seq (.ops 4 46 [lO 0 7 true true 2 3, lO 1 8 true true 2 4, lO 2 9 true true 2 5, oO 3 10 (.callF q1O [(.t 7), (.t 8), (.t 9)]), bC 4 11 .eql 10 0, mM 5 12 11, gG 6 13 12 true (.off 0 (.t 3)), gG 7 14 12 true (.load true false 1 (.t 13)), gG 8 15 12 true (.off 0 (.t 4)), gG 9 16 12 true (.load true false 1 (.t 15)), gG 10 17 12 true (.mm false [(.t 14), (.t 16)]), gG 11 18 12 true (.off 0 (.t 5)), gG 12 19 12 true (.load true false 1 (.t 18)), gG 13 20 12 true (.bin .leq .no (.t 17) (.t 19)), oO 14 21 (.pick (.t 12) (.t 20) (.c (.bool false))), mM 15 22 21, gG 16 23 22 true (.off 0 (.t 5)), gG 17 24 22 true (.load true false 1 (.t 23)), gG 18 25 22 true (.off 0 (.t 3)), gG 19 26 22 true (.load true false 1 (.t 25)), gG 20 27 22 true (.off 0 (.t 4)), gG 21 28 22 true (.load true false 1 (.t 27)), gG 22 29 22 true (.mm true [(.t 26), (.t 28)]), gG 23 30 22 true (.bin .leq .no (.t 24) (.t 29)), oO 24 31 (.pick (.t 22) (.t 30) (.c (.bool false))), mM 25 32 31, gG 26 33 32 true (.off 1 (.t 3)), gG 27 34 32 true (.load true false 1 (.t 33)), gG 28 35 32 true (.off 1 (.t 4)), gG 29 36 32 true (.load true false 1 (.t 35)), gG 30 37 32 true (.mm false [(.t 34), (.t 36)]), gG 31 38 32 true (.off 1 (.t 5)), gG 32 39 32 true (.load true false 1 (.t 38)), gG 33 40 32 true (.bin .leq .no (.t 37) (.t 39)), oO 34 41 (.pick (.t 32) (.t 40) (.c (.bool false))), mM 35 42 41, gG 36 43 42 true (.off 1 (.t 5)), gG 37 44 42 true (.load true false 1 (.t 43)), gG 38 45 42 true (.off 1 (.t 3)), gG 39 46 42 true (.load true false 1 (.t 45)), gG 40 47 42 true (.off 1 (.t 4)), gG 41 48 42 true (.load true false 1 (.t 47)), gG 42 49 42 true (.mm true [(.t 46), (.t 48)]), gG 43 50 42 true (.bin .leq .no (.t 44) (.t 49)), oO 44 51 (.pick (.t 42) (.t 50) (.c (.bool false))), mM 45 6 51]) .ret)),
 [.t 6]⟩
def q6p : KFn := ⟨
 (.seq (.ops 0 5 [oO 0 4 (.box 2 (.t 0)), oO 1 5 (.box 2 (.t 1)), oO 2 6 (.box 2 (.t 2)), oO 3 7 (.box 2 (.t 3)), oO 4 8 (.mov (.c (.bool false)))])
 (.seq (.ops 5 13 [lB 0 9 0 13 true true 2 4, lB 1 10 0 13 true true 2 5, lB 2 11 0 13 true true 2 6, oB 3 12 7 13 (.callF q1O [(.t 9), (.t 10), (.t 11)]), oB 4 13 15 13 (.callF q1M [(.t 12), (.c (.int .i64 0))]), lB 5 14 0 13 true true 2 4, lB 6 15 0 13 true true 2 5, lB 7 16 0 13 true true 2 7, oB 8 17 255 13 (.callF q1O [(.t 14), (.t 15), (.t 16)]), oB 9 18 511 13 (.callF q1M [(.t 17), (.c (.int .i64 0))]), bT 10 19 .mul 13 18, bC 11 20 .lss 19 0, mM 12 8 20]) .ret)),
 [.t 8]⟩
def q7n : KFn := ⟨
 (.seq (.ops 0 2 [oO 0 1 (.box 6 (.t 0)), oO 1 2 (.mov (.c (.bool false)))])
 (.seq (.ops 2 8 [fO 0 8 0 1, lO 1 9 true false 1 8, oO 2 10 (.callF q5t [(.t 9)]), mM 3 7 10, eO 4 11 7 0, eO 5 12 7 1, mM 6 3 11, mM 7 4 12])
 (.seq (.seq
 (.ops 10 12 [fO 0 13 5 1, lO 1 14 true false 1 13, nO 2 15 14, mM 3 16 3, bT 4 17 .lss 15 16, mM 5 18 17, gG 6 19 18 false (.off 5 (.t 1)), gG 7 20 18 false (.load true false 1 (.t 19)), gG 8 21 18 false (.len .sl (.t 20)), gM 9 22 18 false 4, gG 10 23 18 false (.bin .gtr .no (.t 21) (.t 22)), oO 11 24 (.pick (.t 18) (.c (.bool true)) (.t 23))])
 (.cond (.t 24)
 (.seq (.ops 22 1 [oO 0 2 (.mov (.c (.bool false)))]) .ret) .skip))
 (.seq (.seq
 (.ops 23 3 [fO 0 25 0 1, lO 1 26 true false 1 25, bC 2 27 .eql 26 2])
 (.cond (.t 27)
 (.seq (.ops 26 4 [fO 0 28 4 1, lO 1 29 true false 1 28, oO 2 30 (.callF q6C [(.t 29)]), oO 3 31 (.un .not (.t 30))])
 (.cond (.t 31)
 (.seq (.ops 30 1 [oO 0 2 (.mov (.c (.bool false)))]) .ret) .skip))
 (.seq (.ops 31 3 [fO 0 32 4 1, lO 1 33 true false 1 32, oO 2 34 (.bin .neq .no (.t 33) (.c (.str ⟨#[]⟩)))])
 (.cond (.t 34)
 (.seq (.ops 34 1 [oO 0 2 (.mov (.c (.bool false)))]) .ret) .skip))))
 (.seq (.seq
 (.ops 35 3 [fO 0 35 0 1, lO 1 36 true false 1 35, bC 2 37 .eql 36 1])
 (.cond (.t 37)
 (.seq (.ops 38 8 [fO 0 39 1 1, lO 1 40 true true 3 39, oO 2 41 (.callF qeA [(.t 40)]), mM 3 38 41, eO 4 42 38 0, eO 5 43 38 1, mM 6 5 42, mM 7 6 43])
 (.seq (.ops 46 2 [mM 0 44 6, mM 1 2 44]) .ret)) .skip))
 (.seq (.ops 48 6 [fO 0 45 1 1, lO 1 46 true true 3 45, oO 2 47 (.build [(.bool false), .nilsl, .nilsl] []), oO 3 48 (.callF q73 [(.t 46), (.t 47)]), bC 4 49 .eql 48 0, mM 5 2 49]) .ret)))))),
 [.t 2]⟩
def q9v : KFn := ⟨
 (.seq (.ops 0 3 [oO 0 2 (.box 2 (.t 0)), oO 1 3 (.box 2 (.t 1)), oO 2 4 (.new 2 (.agg [(.bool false), .nilsl]))])
 (.seq (.ops 3 12 [fO 0 5 0 2, lB 1 6 1 12 true false 1 5, fO 2 7 0 3, lB 3 8 4 12 true false 1 7, oO 4 9 (.bin .neq .bool (.t 6) (.t 8)), fO 5 10 1 2, lB 6 11 32 12 true false 1 10, fO 7 12 1 3, lB 8 13 128 12 true false 1 12, oB 9 14 480 12 (.callF q3N [(.t 11), (.t 13)]), oB 10 15 1023 12 (.callF q1m [(.t 9), (.t 14)]), ⟨11, none, none, (.bef 2047 12), .store true 2 (.t 4) (.t 15)⟩]) .ret)),
 [.cell 4 true 2]⟩
def q6q : KFn := ⟨
 (.seq (.ops 0 1 [oO 0 2 (.new 2 (.agg [(.bool false), .nilsl]))])
 (.seq (.ops 1 3 [mM 0 3 0, oO 1 4 (.build [(.bool false), .nilsl] [(1, 1, (.t 3))]), sT 2 true 2 2 4]) .ret)),
 [.cell 2 true 2]⟩
def q2d : KFn := ⟨
 (.seq (.ops 8 1 [mI 0 4 0])
 (.seq (.seq
 (.ops 9 3 [mM 0 6 0, nO 1 7 6, mI 2 8 0])
 (.block 0
 (.loop [(0, 0), (1, 0), (7, 0), (8, 0)]
 (.seq (.ops 12 1 [bT 0 9 .lss 8 7])
 (.seq (.cond (.t 9) .skip
 (.exit 0))
 (.seq (.block 1
 (.seq (.ops 13 2 [mM 0 10 8, mM 1 5 10])
 (.seq (.ops 15 6 [mM 0 11 1, mM 1 12 0, mM 2 13 5, xO 3 14 1 12 13, lO 4 15 false false 1 14, bT 5 16 .eql 11 15])
 (.cond (.t 16)
 (.seq (.ops 21 2 [mM 0 17 5, mM 1 4 17]) .ret) .skip))))
 (.ops 23 2 [bC 0 18 .add 8 1, mM 1 8 18])))))))
 (.seq (.ops 25 1 [mI 0 4 (-1)]) .ret))),
 [.t 4]⟩
def q5i : KFn := ⟨
 (.seq (.ops 0 3 [oO 0 2 (.box 2 (.t 0)), oO 1 3 (.box 2 (.t 1)), mI 2 4 0])
 (.seq (.ops 3 12 [fO 0 7 0 3, lB 1 8 1 12 true false 1 7, fO 2 9 0 2, lB 3 10 4 12 true false 1 9, bT 4 11 .sub 8 10, fO 5 12 1 3, lB 6 13 32 12 true false 1 12, fO 7 14 1 2, lB 8 15 128 12 true false 1 14, bT 9 16 .sub 13 15, mM 10 5 11, mM 11 6 16])
 (.seq (.ops 15 10 [mM 0 17 5, mM 1 18 5, bT 2 19 .mul 17 18, mM 3 20 6, mM 4 21 6, bT 5 22 .mul 20 21, bT 6 23 .add 19 22, oO 7 24 (.bin .mul .no (.c (.int .i64 1000000)) (.t 23)), oO 8 25 (.callF qbo [(.t 24)]), mM 9 4 25]) .ret))),
 [.t 4]⟩
def qaA : KFn := ⟨
 (.seq (.ops 0 2 [oO 0 4 (.mov (.c (.int .u64 0))), oO 1 5 (.mov (.c (.int .u64 0)))])
 (.seq (.ops 2 3 [mM 0 14 0, oO 1 15 (.bin .and .no (.t 14) (.c (.int .u64 4294967295))), mM 2 6 15])
 (.seq (.ops 5 3 [mM 0 16 0, oO 1 17 (.bin .shr .no (.t 16) (.c (.int .u64 32))), mM 2 7 17])
 (.seq (.ops 8 3 [mM 0 18 1, oO 1 19 (.bin .and .no (.t 18) (.c (.int .u64 4294967295))), mM 2 8 19])
 (.seq (.ops 11 3 [mM 0 20 1, oO 1 21 (.bin .shr .no (.t 20) (.c (.int .u64 32))), mM 2 9 21])
 (.seq (.ops 14 4 [mM 0 22 6, mM 1 23 8, bT 2 24 .mul 22 23, mM 3 10 24])
 (.seq (.ops 18 7 [mM 0 25 7, mM 1 26 8, bT 2 27 .mul 25 26, mM 3 28 10, oO 4 29 (.bin .shr .no (.t 28) (.c (.int .u64 32))), bT 5 30 .add 27 29, mM 6 11 30])
 (.seq (.ops 25 3 [mM 0 31 11, oO 1 32 (.bin .and .no (.t 31) (.c (.int .u64 4294967295))), mM 2 12 32])
 (.seq (.ops 28 3 [mM 0 33 11, oO 1 34 (.bin .shr .no (.t 33) (.c (.int .u64 32))), mM 2 13 34])
 (.seq (.ops 31 6 [mM 0 35 12, mM 1 36 6, mM 2 37 9, bT 3 38 .mul 36 37, bT 4 39 .add 35 38, mM 5 12 39])
 (.seq (.ops 37 9 [mM 0 40 7, mM 1 41 9, bT 2 42 .mul 40 41, mM 3 43 13, bT 4 44 .add 42 43, mM 5 45 12, oO 6 46 (.bin .shr .no (.t 45) (.c (.int .u64 32))), bT 7 47 .add 44 46, mM 8 4 47])
 (.seq (.ops 46 4 [mM 0 48 0, mM 1 49 1, bT 2 50 .mul 48 49, mM 3 5 50]) .ret)))))))))))),
 [.t 4, .t 5]⟩
def qaB : KFn := ⟨
 (.seq (.ops 18 2 [oO 0 6 (.mov (.c (.int .u64 0))), oO 1 7 (.mov (.c (.int .u64 0)))])
 (.seq (.seq
 (.ops 20 2 [mM 0 19 2, oO 1 20 (.bin .eql .no (.t 19) (.c (.int .u64 0)))])
 (.cond (.t 20)
 (.ops 22 2 [oO 0 21 (.stuck), ⟨1, none, none, .all, .stuck⟩]) .skip))
 (.seq (.seq
 (.ops 24 3 [mM 0 22 2, mM 1 23 0, bT 2 24 .leq 22 23])
 (.cond (.t 24)
 (.ops 27 2 [oO 0 25 (.stuck), ⟨1, none, none, .all, .stuck⟩]) .skip))
 (.seq (.seq
 (.ops 29 2 [mM 0 26 0, oO 1 27 (.bin .eql .no (.t 26) (.c (.int .u64 0)))])
 (.cond (.t 27)
 (.seq (.ops 31 8 [mM 0 28 1, mM 1 29 2, bT 2 30 .quo 28 29, mM 3 31 1, mM 4 32 2, bT 5 33 .rem 31 32, mM 6 6 30, mM 7 7 33]) .ret) .skip))
 (.seq (.ops 39 4 [mM 0 34 2, oO 1 35 (.callF q6h [(.t 34)]), oO 2 36 (.conv (.int .u64) (.t 35)), mM 3 8 36])
 (.seq (.ops 43 4 [mM 0 37 2, mM 1 38 8, bT 2 39 .shl 37 38, mM 3 2 39])
 (.seq (.ops 47 3 [mM 0 40 2, oO 1 41 (.bin .shr .no (.t 40) (.c (.int .u64 32))), mM 2 9 41])
 (.seq (.ops 50 3 [mM 0 42 2, oO 1 43 (.bin .and .no (.t 42) (.c (.int .u64 4294967295))), mM 2 10 43])
 (.seq (.ops 53 9 [mM 0 44 0, mM 1 45 8, bT 2 46 .shl 44 45, mM 3 47 1, mM 4 48 8, oO 5 49 (.bin .sub .no (.c (.int .u64 64)) (.t 48)), bT 6 50 .shr 47 49, bT 7 51 .or 46 50, mM 8 11 51])
 (.seq (.ops 62 4 [mM 0 52 1, mM 1 53 8, bT 2 54 .shl 52 53, mM 3 12 54])
 (.seq (.ops 66 3 [mM 0 55 12, oO 1 56 (.bin .shr .no (.t 55) (.c (.int .u64 32))), mM 2 13 56])
 (.seq (.ops 69 3 [mM 0 57 12, oO 1 58 (.bin .and .no (.t 57) (.c (.int .u64 4294967295))), mM 2 14 58])
 (.seq (.ops 72 4 [mM 0 59 11, mM 1 60 9, bT 2 61 .quo 59 60, mM 3 15 61])
 (.seq (.ops 76 6 [mM 0 62 11, mM 1 63 15, mM 2 64 9, bT 3 65 .mul 63 64, bT 4 66 .sub 62 65, mM 5 16 66])
 (.seq (.block 0
 (.loop [(2, 0), (8, 0), (9, 0), (10, 0), (11, 0), (13, 0), (14, 0), (15, 0), (16, 0)]
 (.seq (.seq
 (.ops 82 12 [mM 0 67 15, oO 1 68 (.bin .geq .no (.t 67) (.c (.int .u64 4294967296))), mM 2 69 68, gM 3 70 69 false 15, gM 4 71 69 false 10, gG 5 72 69 false (.bin .mul .no (.t 70) (.t 71)), gM 6 73 69 false 16, gG 7 74 69 false (.bin .mul .no (.c (.int .u64 4294967296)) (.t 73)), gM 8 75 69 false 13, gG 9 76 69 false (.bin .add .no (.t 74) (.t 75)), gG 10 77 69 false (.bin .gtr .no (.t 72) (.t 76)), oO 11 78 (.pick (.t 69) (.c (.bool true)) (.t 77))])
 (.cond (.t 78) .skip
 (.exit 0)))
 (.block 1
 (.seq (.ops 94 3 [mM 0 79 15, oO 1 80 (.bin .sub .no (.t 79) (.c (.int .u64 1))), mM 2 15 80])
 (.seq (.ops 97 4 [mM 0 81 16, mM 1 82 9, bT 2 83 .add 81 82, mM 3 16 83])
 (.seq (.ops 101 2 [mM 0 84 16, oO 1 85 (.bin .geq .no (.t 84) (.c (.int .u64 4294967296)))])
 (.cond (.t 85)
 (.exit 0) .skip))))))))
 (.seq (.ops 103 9 [mM 0 86 11, oO 1 87 (.bin .mul .no (.t 86) (.c (.int .u64 4294967296))), mM 2 88 13, bT 3 89 .add 87 88, mM 4 90 15, mM 5 91 2, bT 6 92 .mul 90 91, bT 7 93 .sub 89 92, mM 8 17 93])
 (.seq (.ops 112 4 [mM 0 94 17, mM 1 95 9, bT 2 96 .quo 94 95, mM 3 18 96])
 (.seq (.ops 116 6 [mM 0 97 17, mM 1 98 18, mM 2 99 9, bT 3 100 .mul 98 99, bT 4 101 .sub 97 100, mM 5 16 101])
 (.seq (.block 2
 (.loop [(2, 0), (8, 0), (9, 0), (10, 0), (14, 0), (15, 0), (16, 0), (17, 0), (18, 0)]
 (.seq (.seq
 (.ops 122 12 [mM 0 102 18, oO 1 103 (.bin .geq .no (.t 102) (.c (.int .u64 4294967296))), mM 2 104 103, gM 3 105 104 false 18, gM 4 106 104 false 10, gG 5 107 104 false (.bin .mul .no (.t 105) (.t 106)), gM 6 108 104 false 16, gG 7 109 104 false (.bin .mul .no (.c (.int .u64 4294967296)) (.t 108)), gM 8 110 104 false 14, gG 9 111 104 false (.bin .add .no (.t 109) (.t 110)), gG 10 112 104 false (.bin .gtr .no (.t 107) (.t 111)), oO 11 113 (.pick (.t 104) (.c (.bool true)) (.t 112))])
 (.cond (.t 113) .skip
 (.exit 2)))
 (.block 3
 (.seq (.ops 134 3 [mM 0 114 18, oO 1 115 (.bin .sub .no (.t 114) (.c (.int .u64 1))), mM 2 18 115])
 (.seq (.ops 137 4 [mM 0 116 16, mM 1 117 9, bT 2 118 .add 116 117, mM 3 16 118])
 (.seq (.ops 141 2 [mM 0 119 16, oO 1 120 (.bin .geq .no (.t 119) (.c (.int .u64 4294967296)))])
 (.cond (.t 120)
 (.exit 2) .skip))))))))
 (.seq (.ops 143 16 [mM 0 121 15, oO 1 122 (.bin .mul .no (.t 121) (.c (.int .u64 4294967296))), mM 2 123 18, bT 3 124 .add 122 123, mM 4 125 17, oO 5 126 (.bin .mul .no (.t 125) (.c (.int .u64 4294967296))), mM 6 127 14, bT 7 128 .add 126 127, mM 8 129 18, mM 9 130 2, bT 10 131 .mul 129 130, bT 11 132 .sub 128 131, mM 12 133 8, bT 13 134 .shr 132 133, mM 14 6 124, mM 15 7 134]) .ret)))))))))))))))))))),
 [.t 6, .t 7]⟩
def qaE : KFn := ⟨
 (.seq (.ops 0 1 [oO 0 2 (.mov (.c .nilsl))])
 (.seq (.ops 1 8 [mM 0 3 0, oO 1 4 (.conv (.int .u32) (.t 3)), mM 2 5 0, oO 3 6 (.bin .shr .no (.t 5) (.c (.int .u64 32))), oO 4 7 (.conv (.int .u32) (.t 6)), oO 5 8 (.buildSlice 1 2 [(.int .u32 0), (.int .u32 0)] [(0, (.t 4)), (1, (.t 7))]), oO 6 9 (.callF q0L [(.t 8)]), mM 7 2 9]) .ret)),
 [.t 2]⟩
def q9x : KFn := ⟨
 (.seq (.ops 6 1 [mI 0 4 0])
 (.seq (.ops 7 6 [mM 0 8 0, oO 1 9 (.callF q0L [(.t 8)]), mM 2 10 1, oO 3 11 (.callF q0L [(.t 10)]), mM 4 0 9, mM 5 1 11])
 (.seq (.seq
 (.ops 13 6 [mM 0 12 0, nO 1 13 12, mM 2 14 1, nO 3 15 14, oO 4 16 (.callF q1M [(.t 13), (.t 15)]), mM 5 5 16])
 (.seq (.ops 19 2 [mM 0 17 5, bC 1 18 .neq 17 0])
 (.cond (.t 18)
 (.seq (.ops 21 2 [mM 0 19 5, mM 1 4 19]) .ret) .skip)))
 (.seq (.seq
 (.ops 23 4 [mM 0 20 0, nO 1 21 20, bC 2 22 .sub 21 1, mM 3 6 22])
 (.block 0
 (.loop [(0, 0), (1, 0), (6, 0)]
 (.seq (.seq
 (.ops 27 2 [mM 0 23 6, bC 1 24 .geq 23 0])
 (.cond (.t 24) .skip
 (.exit 0)))
 (.seq (.block 1
 (.seq (.ops 29 10 [mM 0 27 0, mM 1 28 6, xB 2 29 3 10 1 27 28, lB 3 30 7 10 false false 1 29, mM 4 31 1, mM 5 32 6, xB 6 33 48 10 1 31 32, lB 7 34 112 10 false false 1 33, oB 8 35 255 10 (.callF q74 [(.t 30), (.t 34)]), mM 9 7 35])
 (.seq (.ops 39 2 [mM 0 36 7, bC 1 37 .neq 36 0])
 (.cond (.t 37)
 (.seq (.ops 41 2 [mM 0 38 7, mM 1 4 38]) .ret) .skip))))
 (.ops 43 3 [mM 0 25 6, bC 1 26 .sub 25 1, mM 2 6 26]))))))
 (.seq (.ops 46 1 [mI 0 4 0]) .ret))))),
 [.t 4]⟩
def q8g : KFn := ⟨
 (.seq (.ops 4 1 [oO 0 2 (.mov (.c .nilsl))])
 (.seq (.ops 5 3 [mM 0 4 0, nO 1 5 4, mM 2 3 5])
 (.seq (.block 0
 (.loop [(0, 0), (3, 0)]
 (.seq (.seq
 (.ops 8 10 [mM 0 6 3, bC 1 7 .gtr 6 0, mM 2 8 7, gM 3 9 8 true 0, gM 4 10 8 true 3, gG 5 11 8 true (.bin .sub .no (.t 10) (.c (.int .i64 1))), gG 6 12 8 true (.ixs 1 (.t 9) (.t 11)), gG 7 13 8 true (.load false false 1 (.t 12)), gG 8 14 8 true (.bin .eql .no (.t 13) (.c (.int .u32 0))), oO 9 15 (.pick (.t 8) (.t 14) (.c (.bool false)))])
 (.cond (.t 15) .skip
 (.exit 0)))
 (.block 1
 (.ops 18 3 [mM 0 16 3, bC 1 17 .sub 16 1, mM 2 3 17])))))
 (.seq (.ops 21 4 [mM 0 18 0, mM 1 19 3, oO 2 20 (.slsl 1 (.t 18) none (some (.t 19)) none), mM 3 2 20]) .ret)))),
 [.t 2]⟩
def q9y : KFn := ⟨
 (.seq (.ops 4 1 [oO 0 4 (.mov (.c .nilsl))])
 (.seq (.ops 5 6 [mM 0 8 0, oO 1 9 (.callF q4c [(.t 8)]), mM 2 10 1, oO 3 11 (.callF q4c [(.t 10)]), mM 4 0 9, mM 5 1 11])
 (.seq (.block 0
 (.loop [(0, 0), (1, 0)]
 (.seq (.seq
 (.ops 11 3 [mM 0 12 1, nO 1 13 12, bC 2 14 .gtr 13 0])
 (.cond (.t 14) .skip
 (.exit 0)))
 (.block 1
 (.seq (.ops 14 10 [mM 0 16 0, mM 1 17 1, oO 2 18 (.callF q3f [(.t 16), (.t 17)]), mM 3 15 18, eO 4 19 15 0, eO 5 20 15 1, eO 6 21 15 2, mM 7 5 19, mM 8 6 20, mM 9 7 21])
 (.ops 24 4 [mM 0 22 1, mM 1 23 6, mM 2 0 22, mM 3 1 23]))))))
 (.seq (.ops 28 2 [mM 0 24 0, mM 1 4 24]) .ret)))),
 [.t 4]⟩
def q6r : KFn := ⟨
 (.seq (.ops 12 3 [oO 0 4 (.mov (.c .nilsl)), oO 1 5 (.mov (.c .nilsl)), oO 2 6 (.mov (.c (.bool false)))])
 (.seq (.ops 15 6 [mM 0 15 0, oO 1 16 (.callF q0L [(.t 15)]), mM 2 17 1, oO 3 18 (.callF q0L [(.t 17)]), mM 4 0 16, mM 5 1 18])
 (.seq (.block 0
 (.seq (.ops 21 4 [mM 0 20 1, nO 1 21 20, bC 2 22 .eql 21 0, mM 3 19 22])
 (.cond (.t 19)
 (.seq (.ops 25 3 [oO 0 4 (.mov (.c .nilsl)), oO 1 5 (.mov (.c .nilsl)), oO 2 6 (.mov (.c (.bool false)))]) .ret)
 (.seq (.ops 28 5 [mM 0 24 0, mM 1 25 1, oO 2 26 (.callF q21 [(.t 24), (.t 25)]), bC 3 27 .lss 26 0, mM 4 23 27])
 (.cond (.t 23)
 (.seq (.ops 33 5 [mM 0 28 0, oO 1 29 (.callF q4c [(.t 28)]), oO 2 4 (.mov (.c .nilsl)), mM 3 5 29, oO 4 6 (.mov (.c (.bool true)))]) .ret)
 (.seq (.ops 38 4 [mM 0 31 1, nO 1 32 31, bC 2 33 .eql 32 1, mM 3 30 33])
 (.cond (.t 30)
 (.seq (.ops 42 10 [mM 0 35 0, mM 1 36 1, oO 2 37 (.ixs 1 (.t 36) (.c (.int .i64 0))), lO 3 38 false false 1 37, oO 4 39 (.callF qbp [(.t 35), (.t 38)]), mM 5 34 39, eO 6 40 34 0, eO 7 41 34 1, mM 8 7 40, mM 9 8 41])
 (.seq (.ops 52 7 [mM 0 42 7, mM 1 43 8, oO 2 44 (.conv (.int .u64) (.t 43)), oO 3 45 (.callF q4w [(.t 44)]), mM 4 4 42, mM 5 5 45, oO 6 6 (.mov (.c (.bool true)))]) .ret)) .skip)))))))
 (.seq (.ops 59 3 [mM 0 46 1, nO 1 47 46, mM 2 9 47])
 (.seq (.ops 62 7 [mM 0 48 1, mM 1 49 9, bC 2 50 .sub 49 1, xO 3 51 1 48 50, lO 4 52 false false 1 51, oO 5 53 (.callF q6i [(.t 52)]), mM 6 10 53])
 (.seq (.ops 69 10 [mM 0 54 0, mM 1 55 10, oB 2 56 3 10 (.callF qcQ [(.t 54), (.t 55)]), mM 3 57 1, mM 4 58 10, oB 5 59 31 10 (.callF qcQ [(.t 57), (.t 58)]), mM 6 60 9, oB 7 61 127 10 (.slsl 1 (.t 59) none (some (.t 60)) none), mM 8 11 56, mM 9 12 61])
 (.seq (.ops 181 6 [mM 0 62 11, nO 1 63 62, mM 2 64 9, bT 3 65 .sub 63 64, oO 4 66 (.mkslice ⟨1, 4, (.int .u32 0)⟩ (.t 65) (.t 65)), mM 5 13 66])
 (.seq (.seq
 (.ops 187 4 [mM 0 67 13, nO 1 68 67, bC 2 69 .sub 68 1, mM 3 14 69])
 (.block 1
 (.loop [(9, 0), (10, 0), (11, 0), (12, 0), (13, 0), (14, 0)]
 (.seq (.seq
 (.ops 191 2 [mM 0 70 14, bC 1 71 .geq 70 0])
 (.cond (.t 71) .skip
 (.exit 1)))
 (.seq (.block 2
 (.ops 193 13 [mM 0 74 13, mM 1 75 14, mM 2 76 11, mM 3 77 14, mM 4 78 14, mM 5 79 9, bT 6 80 .add 78 79, bC 7 81 .add 80 1, oO 8 82 (.slsl 1 (.t 76) (some (.t 77)) (some (.t 81)) none), mM 9 83 12, oO 10 84 (.callF qhL [(.t 82), (.t 83)]), xO 11 85 1 74 75, sT 12 false 1 85 84]))
 (.ops 401 3 [mM 0 72 14, bC 1 73 .sub 72 1, mM 2 14 73]))))))
 (.seq (.ops 404 10 [mM 0 86 13, oB 1 87 1 10 (.callF q0L [(.t 86)]), mM 2 88 11, mM 3 89 9, oB 4 90 12 10 (.slsl 1 (.t 88) none (some (.t 89)) none), mM 5 91 10, oB 6 92 63 10 (.callF qbq [(.t 90), (.t 91)]), mM 7 4 87, mM 8 5 92, oO 9 6 (.mov (.c (.bool true)))]) .ret))))))))),
 [.t 4, .t 5, .t 6]⟩
def q8h : KFn := ⟨
 (.seq (.ops 0 2 [oO 0 1 (.box 2 (.t 0)), oO 1 2 (.new 2 (.agg [(.bool false), .nilsl]))])
 (.seq (.ops 2 6 [fO 0 3 0 1, lO 1 4 true false 1 3, fO 2 5 1 1, lO 3 6 true false 1 5, oO 4 7 (.callF q1m [(.t 4), (.t 6)]), sT 5 true 2 2 7]) .ret)),
 [.cell 2 true 2]⟩
def qaF : KFn := ⟨
 (.seq (.ops 0 1 [oO 0 2 (.new 2 (.agg [(.bool false), .nilsl]))])
 (.seq (.seq
 (.ops 1 2 [mM 0 3 0, bC 1 4 .lss 3 0])
 (.cond (.t 4)
 (.seq (.ops 3 6 [mM 0 5 0, oO 1 6 (.conv (.int .u64) (.t 5)), oO 2 7 (.un .neg (.t 6)), oO 3 8 (.callF q4w [(.t 7)]), oO 4 9 (.callF q1m [(.c (.bool true)), (.t 8)]), sT 5 true 2 2 9]) .ret) .skip))
 (.seq (.ops 9 5 [mM 0 10 0, oO 1 11 (.conv (.int .u64) (.t 10)), oO 2 12 (.callF q4w [(.t 11)]), oO 3 13 (.callF q1m [(.c (.bool false)), (.t 12)]), sT 4 true 2 2 13]) .ret))),
 [.cell 2 true 2]⟩
def q9z : KFn := ⟨
 (.seq (.ops 12 1 [oO 0 4 (.mov (.c .nilsl))])
 (.seq (.ops 13 6 [mM 0 9 0, oO 1 10 (.callF q0L [(.t 9)]), mM 2 11 1, oO 3 12 (.callF q0L [(.t 11)]), mM 4 0 10, mM 5 1 12])
 (.seq (.seq
 (.ops 19 5 [mM 0 13 0, nO 1 14 13, mM 2 15 1, nO 3 16 15, bT 4 17 .lss 14 16])
 (.cond (.t 17)
 (.ops 24 4 [mM 0 18 1, mM 1 19 0, mM 2 0 18, mM 3 1 19]) .skip))
 (.seq (.ops 28 5 [mM 0 20 0, nO 1 21 20, bC 2 22 .add 21 1, oO 3 23 (.mkslice ⟨1, 4, (.int .u32 0)⟩ (.c (.int .i64 0)) (.t 22)), mM 4 5 23])
 (.seq (.ops 33 1 [oO 0 6 (.mov (.c (.int .u64 0)))])
 (.seq (.seq
 (.ops 34 3 [mM 0 24 0, nO 1 25 24, mI 2 26 0])
 (.block 0
 (.loop [(1, 0), (5, 1), (6, 0), (24, 0), (25, 0), (26, 0)]
 (.seq (.ops 37 1 [bT 0 27 .lss 26 25])
 (.seq (.cond (.t 27) .skip
 (.exit 0))
 (.seq (.block 1
 (.seq (.ops 38 5 [mM 0 28 26, xO 1 29 1 24 26, lO 2 30 false false 1 29, mM 3 7 28, mM 4 8 30])
 (.seq (.ops 43 5 [mM 0 31 6, mM 1 32 8, oO 2 33 (.conv (.int .u64) (.t 32)), bT 3 34 .add 31 33, mM 4 6 34])
 (.seq (.seq
 (.ops 48 4 [mM 0 35 7, mM 1 36 1, nO 2 37 36, bT 3 38 .lss 35 37])
 (.cond (.t 38)
 (.ops 52 8 [mM 0 39 6, mM 1 40 1, mM 2 41 7, xO 3 42 1 40 41, lO 4 43 false false 1 42, oO 5 44 (.conv (.int .u64) (.t 43)), bT 6 45 .add 39 44, mM 7 6 45]) .skip))
 (.seq (.ops 60 6 [mM 0 46 5, mM 1 47 6, oO 2 48 (.conv (.int .u32) (.t 47)), oO 3 49 (.buildSlice 1 1 [(.int .u32 0)] [(0, (.t 48))]), oO 4 50 (.append ⟨1, 4, (.int .u32 0)⟩ .sl (.t 46) (.t 49)), mM 5 5 50])
 (.ops 66 3 [mM 0 51 6, oO 1 52 (.bin .shr .no (.t 51) (.c (.int .u64 32))), mM 2 6 52]))))))
 (.ops 69 2 [bC 0 53 .add 26 1, mM 1 26 53])))))))
 (.seq (.ops 71 7 [mM 0 54 5, mM 1 55 6, oO 2 56 (.conv (.int .u32) (.t 55)), oO 3 57 (.buildSlice 1 1 [(.int .u32 0)] [(0, (.t 56))]), oO 4 58 (.append ⟨1, 4, (.int .u32 0)⟩ .sl (.t 54) (.t 57)), oO 5 59 (.callF q0L [(.t 58)]), mM 6 4 59]) .ret))))))),
 [.t 4]⟩
def q9A : KFn := ⟨
 (.seq (.ops 0 3 [oO 0 2 (.box 2 (.t 0)), oO 1 3 (.box 2 (.t 1)), oO 2 4 (.new 2 (.agg [(.bool false), .nilsl]))])
 (.seq (.seq
 (.ops 3 5 [fO 0 9 0 2, lO 1 10 true false 1 9, fO 2 11 0 3, lO 3 12 true false 1 11, oO 4 13 (.bin .eql .bool (.t 10) (.t 12))])
 (.cond (.t 13)
 (.seq (.ops 8 9 [fO 0 14 0 2, lB 1 15 1 9 true false 1 14, fO 2 16 1 2, lB 3 17 4 9 true false 1 16, fO 4 18 1 3, lB 5 19 16 9 true false 1 18, oB 6 20 60 9 (.callF q4J [(.t 17), (.t 19)]), oB 7 21 127 9 (.callF q1m [(.t 15), (.t 20)]), ⟨8, none, none, (.bef 255 9), .store true 2 (.t 4) (.t 21)⟩]) .ret) .skip))
 (.seq (.seq
 (.ops 17 10 [fO 0 23 1 2, lO 1 24 true false 1 23, fO 2 25 1 3, lO 3 26 true false 1 25, oO 4 27 (.callF q9G [(.t 24), (.t 26)]), mM 5 22 27, eO 6 28 22 0, eO 7 29 22 1, mM 8 5 28, mM 9 6 29])
 (.seq (.ops 27 1 [mM 0 30 6])
 (.cond (.t 30)
 (.seq (.ops 28 5 [fO 0 31 0 2, lO 1 32 true false 1 31, mM 2 33 5, oO 3 34 (.callF q1m [(.t 32), (.t 33)]), sT 4 true 2 4 34]) .ret) .skip)))
 (.seq (.ops 33 10 [fO 0 36 1 3, lO 1 37 true false 1 36, fO 2 38 1 2, lO 3 39 true false 1 38, oO 4 40 (.callF q9G [(.t 37), (.t 39)]), mM 5 35 40, eO 6 41 35 0, eO 7 42 35 1, mM 8 7 41, mM 9 8 42])
 (.seq (.ops 43 5 [fO 0 43 0 3, lO 1 44 true false 1 43, mM 2 45 7, oO 3 46 (.callF q1m [(.t 44), (.t 45)]), sT 4 true 2 4 46]) .ret))))),
 [.cell 4 true 2]⟩
def q9B : KFn := ⟨
 (.seq (.ops 0 2 [oO 0 1 (.box 2 (.t 0)), oO 1 2 (.new 2 (.agg [(.bool false), .nilsl]))])
 (.seq (.ops 2 7 [fO 0 3 0 1, lO 1 4 true false 1 3, oO 2 5 (.un .not (.t 4)), fO 3 6 1 1, lO 4 7 true false 1 6, oO 5 8 (.callF q1m [(.t 5), (.t 7)]), sT 6 true 2 2 8]) .ret)),
 [.cell 2 true 2]⟩
def q5j : KFn := ⟨
 (.seq (.ops 0 2 [mI 0 2 0, mI 1 3 0])
 (.seq (.seq
 (.ops 2 1 [mM 0 4 0])
 (.block 0
 (.seq (.seq
 (.ops 3 2 [bC 0 6 .eql 4 1, mM 1 5 6])
 (.cond (.t 5) .skip
 (.ops 5 2 [bC 0 7 .eql 4 2, mM 1 5 7])))
 (.cond (.t 5)
 (.seq (.ops 7 2 [mI 0 2 0, mI 1 3 0]) .ret)
 (.seq (.seq
 (.ops 9 2 [bC 0 9 .eql 4 3, mM 1 8 9])
 (.cond (.t 8) .skip
 (.seq (.ops 11 2 [bC 0 10 .eql 4 4, mM 1 8 10])
 (.cond (.t 8) .skip
 (.seq (.ops 13 2 [bC 0 11 .eql 4 5, mM 1 8 11])
 (.cond (.t 8) .skip
 (.ops 15 2 [bC 0 12 .eql 4 6, mM 1 8 12])))))))
 (.cond (.t 8)
 (.seq (.ops 17 2 [mI 0 2 2, mI 1 3 2]) .ret)
 (.seq (.ops 19 2 [bC 0 14 .eql 4 7, mM 1 13 14])
 (.cond (.t 13)
 (.seq (.ops 21 2 [mI 0 2 1, mI 1 3 1]) .ret)
 (.seq (.seq
 (.ops 23 2 [bC 0 16 .eql 4 8, mM 1 15 16])
 (.cond (.t 15) .skip
 (.ops 25 2 [bC 0 17 .eql 4 9, mM 1 15 17])))
 (.cond (.t 15)
 (.seq (.ops 27 2 [mI 0 2 1, mI 1 3 8]) .ret) .skip))))))))))
 (.seq (.ops 29 2 [mI 0 2 0, mI 1 3 (-1)]) .ret))),
 [.t 2, .t 3]⟩
def q6s : KFn := ⟨
 (.seq (.ops 6 1 [oO 0 2 (.mov (.c (.bool false)))])
 (.seq (.seq
 (.ops 7 16 [mM 0 6 0, oO 1 7 (.len .str (.t 6)), bC 2 8 .eql 7 0, mM 3 9 8, gM 4 10 9 false 0, gG 5 11 9 false (.len .str (.t 10)), gG 6 12 9 false (.bin .gtr .no (.t 11) (.c (.int .i64 24))), oO 7 13 (.pick (.t 9) (.c (.bool true)) (.t 12)), mM 8 14 13, gM 9 15 14 false 0, gG 10 16 14 false (.bin .eql .no (.t 15) (.c (.str ⟨#[109, 105, 110]⟩))), oO 11 17 (.pick (.t 14) (.c (.bool true)) (.t 16)), mM 12 18 17, gM 13 19 18 false 0, gG 14 20 18 false (.bin .eql .no (.t 19) (.c (.str ⟨#[109, 97, 120]⟩))), oO 15 21 (.pick (.t 18) (.c (.bool true)) (.t 20))])
 (.cond (.t 21)
 (.seq (.ops 23 1 [oO 0 2 (.mov (.c (.bool false)))]) .ret) .skip))
 (.seq (.seq
 (.ops 24 3 [mM 0 22 0, oO 1 23 (.len .str (.t 22)), mI 2 24 0])
 (.block 0
 (.loop [(0, 0), (23, 0), (24, 0)]
 (.seq (.ops 27 1 [bT 0 25 .lss 24 23])
 (.seq (.cond (.t 25) .skip
 (.exit 0))
 (.seq (.block 1
 (.seq (.ops 28 2 [mM 0 26 24, mM 1 3 26])
 (.seq (.ops 30 4 [mM 0 27 0, mM 1 28 3, oO 2 29 (.istr (.t 27) (.t 28)), mM 3 4 29])
 (.seq (.ops 34 7 [mM 0 30 4, oO 1 31 (.bin .leq .no (.c (.int .u8 97)) (.t 30)), mM 2 32 31, gM 3 33 32 true 4, gG 4 34 32 true (.bin .leq .no (.t 33) (.c (.int .u8 122))), oO 5 35 (.pick (.t 32) (.t 34) (.c (.bool false))), mM 6 5 35])
 (.seq (.ops 41 15 [mM 0 36 5, oO 1 37 (.un .not (.t 36)), mM 2 38 37, gM 3 39 38 true 3, gG 4 40 38 true (.bin .eql .no (.t 39) (.c (.int .i64 0))), gM 5 41 38 true 40, gM 6 42 41 false 4, gG 7 43 41 false (.bin .neq .no (.t 42) (.c (.int .u8 95))), gM 8 44 41 false 43, gM 9 45 44 true 4, gG 10 46 44 true (.callF q67 [(.t 45)]), gG 11 47 44 true (.un .not (.t 46)), gG 12 48 41 false (.pick (.t 44) (.t 47) (.c (.bool false))), gG 13 49 38 true (.pick (.t 41) (.c (.bool true)) (.t 48)), oO 14 50 (.pick (.t 38) (.t 49) (.c (.bool false)))])
 (.cond (.t 50)
 (.seq (.ops 56 1 [oO 0 2 (.mov (.c (.bool false)))]) .ret) .skip))))))
 (.ops 57 2 [bC 0 51 .add 24 1, mM 1 24 51])))))))
 (.seq (.ops 59 1 [oO 0 2 (.mov (.c (.bool true)))]) .ret)))),
 [.t 2]⟩
def q6t : KFn := ⟨
 (.seq (.ops 0 1 [oO 0 4 (.new 2 (.agg [(.bool false), .nilsl]))])
 (.seq (.ops 1 3 [mM 0 5 1, oO 1 6 (.callF q4c [(.t 5)]), mM 2 1 6])
 (.seq (.ops 4 9 [mM 0 7 0, mM 1 8 7, gM 2 9 8 true 1, gG 3 10 8 true (.len .sl (.t 9)), gG 4 11 8 true (.bin .gtr .no (.t 10) (.c (.int .i64 0))), oO 5 12 (.pick (.t 8) (.t 11) (.c (.bool false))), mM 6 13 1, oO 7 14 (.build [(.bool false), .nilsl] [(0, 1, (.t 12)), (1, 1, (.t 13))]), sT 8 true 2 4 14]) .ret))),
 [.cell 4 true 2]⟩
def q7o : KFn := ⟨
 (.seq (.ops 4 1 [mI 0 2 0])
 (.seq (.seq
 (.ops 5 2 [mM 0 5 0, bC 1 6 .lss 5 2])
 (.cond (.t 6)
 (.seq (.ops 7 2 [mM 0 7 0, mM 1 2 7]) .ret) .skip))
 (.seq (.ops 9 7 [mM 0 8 0, oO 1 9 (.conv (.int .u64) (.t 8)), oO 2 10 (.callF qiP [(.t 9)]), bC 3 11 .add 10 1, bC 4 12 .quo 11 2, oO 5 13 (.bin .shl .no (.c (.int .i64 1)) (.t 12)), mM 6 3 13])
 (.block 0
 (.loop [(0, 0), (3, 0)]
 (.block 1
 (.seq (.ops 16 7 [mM 0 14 3, mM 1 15 0, mM 2 16 3, bT 3 17 .quo 15 16, bT 4 18 .add 14 17, bC 5 19 .quo 18 2, mM 6 4 19])
 (.seq (.seq
 (.ops 23 3 [mM 0 20 4, mM 1 21 3, bT 2 22 .geq 20 21])
 (.cond (.t 22)
 (.seq (.ops 26 2 [mM 0 23 3, mM 1 2 23]) .ret) .skip))
 (.ops 28 2 [mM 0 24 4, mM 1 3 24]))))))))),
 [.t 2]⟩
def q3R : KFn := ⟨
 (.seq (.ops 0 1 [mI 0 2 0])
 (.seq (.ops 1 4 [mM 0 3 0, oO 1 4 (.callF qaV [(.t 3)]), oO 2 5 (.bin .sub .no (.c (.int .i64 64)) (.t 4)), mM 3 2 5]) .ret)),
 [.t 2]⟩
def q44 : KFn := ⟨
 (.seq (.ops 0 1 [mI 0 4 0])
 (.seq (.ops 1 3 [mM 0 7 0, oO 1 8 (.callF q3v [(.t 7)]), mM 2 5 8])
 (.seq (.ops 4 3 [mM 0 9 1, oO 1 10 (.callF q3v [(.t 9)]), mM 2 6 10])
 (.seq (.seq
 (.ops 7 1 [mM 0 11 5])
 (.cond (.t 11)
 (.seq (.seq
 (.ops 8 1 [mM 0 12 6])
 (.cond (.t 12)
 (.seq (.ops 9 1 [mI 0 4 0]) .ret) .skip))
 (.seq (.ops 10 1 [mI 0 4 (-1)]) .ret)) .skip))
 (.seq (.seq
 (.ops 11 1 [mM 0 13 6])
 (.cond (.t 13)
 (.seq (.ops 12 1 [mI 0 4 1]) .ret) .skip))
 (.seq (.seq
 (.ops 13 3 [mM 0 14 0, mM 1 15 1, bT 2 16 .lss 14 15])
 (.cond (.t 16)
 (.seq (.ops 16 1 [mI 0 4 (-1)]) .ret) .skip))
 (.seq (.seq
 (.ops 17 3 [mM 0 17 0, mM 1 18 1, bT 2 19 .gtr 17 18])
 (.cond (.t 19)
 (.seq (.ops 20 1 [mI 0 4 1]) .ret) .skip))
 (.seq (.ops 21 1 [mI 0 4 0]) .ret)))))))),
 [.t 4]⟩
def q8j : KFn := ⟨
 (.seq (.ops 0 1 [oO 0 2 (.mov (.c .nilsl))])
 (.seq (.ops 1 3 [mM 0 4 0, oO 1 5 (.callF q0L [(.t 4)]), mM 2 0 5])
 (.seq (.ops 4 4 [mM 0 6 0, nO 1 7 6, oO 2 8 (.mkslice ⟨1, 4, (.int .u32 0)⟩ (.t 7) (.t 7)), mM 3 3 8])
 (.seq (.ops 8 3 [mM 0 9 3, mM 1 10 0, oO 2 11 (.copy 1 (.t 9) (.t 10))])
 (.seq (.ops 11 2 [mM 0 12 3, mM 1 2 12]) .ret))))),
 [.t 2]⟩
def q7p : KFn := ⟨
 (.seq (.ops 10 2 [oO 0 4 (.mov (.c .nilsl)), oO 1 5 (.mov (.c (.int .u32 0)))])
 (.seq (.ops 12 4 [mM 0 9 0, nO 1 10 9, oO 2 11 (.mkslice ⟨1, 4, (.int .u32 0)⟩ (.t 10) (.t 10)), mM 3 6 11])
 (.seq (.ops 16 1 [oO 0 7 (.mov (.c (.int .u64 0)))])
 (.seq (.seq
 (.ops 17 4 [mM 0 12 0, nO 1 13 12, bC 2 14 .sub 13 1, mM 3 8 14])
 (.block 0
 (.loop [(0, 0), (1, 0), (6, 0), (7, 0), (8, 0)]
 (.seq (.seq
 (.ops 21 2 [mM 0 15 8, bC 1 16 .geq 15 0])
 (.cond (.t 16) .skip
 (.exit 0)))
 (.seq (.block 1
 (.seq (.ops 23 9 [mM 0 19 7, oO 1 20 (.bin .shl .no (.t 19) (.c (.int .u64 32))), mM 2 21 0, mM 3 22 8, xO 4 23 1 21 22, lO 5 24 false false 1 23, oO 6 25 (.conv (.int .u64) (.t 24)), bT 7 26 .or 20 25, mM 8 7 26])
 (.seq (.ops 32 9 [mM 0 27 6, mM 1 28 8, mM 2 29 7, mM 3 30 1, oO 4 31 (.conv (.int .u64) (.t 30)), bT 5 32 .quo 29 31, oO 6 33 (.conv (.int .u32) (.t 32)), xO 7 34 1 27 28, sT 8 false 1 34 33])
 (.ops 41 5 [mM 0 35 7, mM 1 36 1, oO 2 37 (.conv (.int .u64) (.t 36)), bT 3 38 .rem 35 37, mM 4 7 38]))))
 (.ops 46 3 [mM 0 17 8, bC 1 18 .sub 17 1, mM 2 8 18]))))))
 (.seq (.ops 49 6 [mM 0 39 6, oO 1 40 (.callF q0L [(.t 39)]), mM 2 41 7, oO 3 42 (.conv (.int .u32) (.t 41)), mM 4 4 40, mM 5 5 42]) .ret))))),
 [.t 4, .t 5]⟩
def q3S : KFn := ⟨
 (.seq (.ops 0 1 [mI 0 2 0])
 (.seq (.ops 1 4 [mM 0 3 0, oO 1 4 (.callF qaW [(.t 3)]), oO 2 5 (.bin .sub .no (.c (.int .i64 32)) (.t 4)), mM 3 2 5]) .ret)),
 [.t 2]⟩
def k_natural_left : KFn := ⟨
 (.seq (.ops 10 1 [oO 0 4 (.mov (.c .nilsl))])
 (.seq (.ops 11 5 [mM 0 9 0, nO 1 10 9, bC 2 11 .add 10 1, oO 3 12 (.mkslice ⟨1, 4, (.int .u32 0)⟩ (.t 11) (.t 11)), mM 4 5 12])
 (.seq (.seq
 (.ops 16 3 [mM 0 13 0, nO 1 14 13, mI 2 15 0])
 (.block 0
 (.loop [(1, 0), (5, 0), (13, 0), (14, 0), (15, 0)]
 (.seq (.ops 19 1 [bT 0 16 .lss 15 14])
 (.seq (.cond (.t 16) .skip
 (.exit 0))
 (.seq (.block 1
 (.seq (.ops 20 5 [mM 0 17 15, xO 1 18 1 13 15, lO 2 19 false false 1 18, mM 3 6 17, mM 4 7 19])
 (.seq (.ops 25 5 [mM 0 20 7, oO 1 21 (.conv (.int .u64) (.t 20)), mM 2 22 1, bT 3 23 .shl 21 22, mM 4 8 23])
 (.seq (.ops 30 9 [mM 0 24 5, mM 1 25 6, xO 2 26 1 24 25, lO 3 27 false false 1 26, mM 4 28 8, oO 5 29 (.conv (.int .u32) (.t 28)), bT 6 30 .or 27 29, xO 7 31 1 24 25, sT 8 false 1 31 30])
 (.ops 39 8 [mM 0 32 5, mM 1 33 6, bC 2 34 .add 33 1, mM 3 35 8, oO 4 36 (.bin .shr .no (.t 35) (.c (.int .u64 32))), oO 5 37 (.conv (.int .u32) (.t 36)), xO 6 38 1 32 34, sT 7 false 1 38 37])))))
 (.ops 47 2 [bC 0 39 .add 15 1, mM 1 15 39])))))))
 (.seq (.ops 49 2 [mM 0 40 5, mM 1 4 40]) .ret)))),
 [.t 4]⟩
def k_natural_digit : KFn := ⟨
 (.seq (.ops 18 1 [oO 0 4 (.mov (.c (.int .u32 0)))])
 (.seq (.ops 19 3 [mM 0 18 1, nO 1 19 18, mM 2 5 19])
 (.seq (.ops 22 21 [mM 0 20 0, mM 1 21 5, xB 2 22 3 21 1 20 21, lB 3 23 7 21 false false 1 22, oB 4 24 15 21 (.conv (.int .u64) (.t 23)), oO 5 25 (.bin .shl .no (.t 24) (.c (.int .u64 32))), mM 6 26 0, mM 7 27 5, bC 8 28 .sub 27 1, xB 9 29 448 21 1 26 28, lB 10 30 960 21 false false 1 29, oB 11 31 1984 21 (.conv (.int .u64) (.t 30)), bT 12 32 .or 25 31, mM 13 33 1, mM 14 34 5, bC 15 35 .sub 34 1, xB 16 36 57344 21 1 33 35, lB 17 37 122880 21 false false 1 36, oB 18 38 253952 21 (.conv (.int .u64) (.t 37)), mM 19 6 32, mM 20 7 38])
 (.seq (.ops 43 8 [mM 0 39 6, mM 1 40 7, bT 2 41 .quo 39 40, mM 3 42 6, mM 4 43 7, bT 5 44 .rem 42 43, mM 6 8 41, mM 7 9 44])
 (.seq (.block 0
 (.loop [(0, 0), (1, 0), (5, 0), (7, 0), (8, 0), (9, 0)]
 (.seq (.seq
 (.ops 51 26 [mM 0 45 9, oO 1 46 (.bin .lss .no (.t 45) (.c (.int .u64 4294967296))), mM 2 47 46, gM 3 48 47 true 8, gG 4 49 47 true (.bin .geq .no (.t 48) (.c (.int .u64 4294967296))), gM 5 50 47 true 49, gM 6 51 50 false 8, gM 7 52 50 false 1, gM 8 53 50 false 5, gG 9 54 50 false (.bin .sub .no (.t 53) (.c (.int .i64 2))), ⟨10, some 55, some (50, false), (.bef 959 26), .ixs 1 (.t 52) (.t 54)⟩, ⟨11, some 56, some (50, false), (.bef 1983 26), .load false false 1 (.t 55)⟩, ⟨12, some 57, some (50, false), (.bef 4031 26), .conv (.int .u64) (.t 56)⟩, gG 13 58 50 false (.bin .mul .no (.t 51) (.t 57)), gM 14 59 50 false 9, gG 15 60 50 false (.bin .shl .no (.t 59) (.c (.int .u64 32))), gM 16 61 50 false 0, gM 17 62 50 false 5, gG 18 63 50 false (.bin .sub .no (.t 62) (.c (.int .i64 2))), ⟨19, some 64, some (50, false), (.bef 458815 26), .ixs 1 (.t 61) (.t 63)⟩, ⟨20, some 65, some (50, false), (.bef 983103 26), .load false false 1 (.t 64)⟩, ⟨21, some 66, some (50, false), (.bef 2031679 26), .conv (.int .u64) (.t 65)⟩, gG 22 67 50 false (.bin .or .no (.t 60) (.t 66)), gG 23 68 50 false (.bin .gtr .no (.t 58) (.t 67)), gG 24 69 47 true (.pick (.t 50) (.c (.bool true)) (.t 68)), oO 25 70 (.pick (.t 47) (.t 69) (.c (.bool false)))])
 (.cond (.t 70) .skip
 (.exit 0)))
 (.block 1
 (.seq (.ops 77 3 [mM 0 71 8, oO 1 72 (.bin .sub .no (.t 71) (.c (.int .u64 1))), mM 2 8 72])
 (.ops 80 4 [mM 0 73 9, mM 1 74 7, bT 2 75 .add 73 74, mM 3 9 75]))))))
 (.seq (.ops 84 2 [oO 0 10 (.mov (.c (.int .u64 0))), oO 1 11 (.mov (.c (.int .u64 0)))])
 (.seq (.seq
 (.ops 86 3 [mM 0 76 1, nO 1 77 76, mI 2 78 0])
 (.block 2
 (.loop [(0, 0), (1, 0), (5, 0), (8, 0), (10, 0), (11, 0), (76, 0), (77, 0), (78, 0)]
 (.seq (.ops 89 1 [bT 0 79 .lss 78 77])
 (.seq (.cond (.t 79) .skip
 (.exit 2))
 (.seq (.block 3
 (.seq (.ops 90 5 [mM 0 80 78, xO 1 81 1 76 78, lO 2 82 false false 1 81, mM 3 12 80, mM 4 13 82])
 (.seq (.ops 95 7 [mM 0 83 10, mM 1 84 8, mM 2 85 13, oO 3 86 (.conv (.int .u64) (.t 85)), bT 4 87 .mul 84 86, bT 5 88 .add 83 87, mM 6 10 88])
 (.seq (.ops 102 12 [mM 0 89 0, mM 1 90 12, xO 2 91 1 89 90, lO 3 92 false false 1 91, oO 4 93 (.conv (.int .u64) (.t 92)), mM 5 94 10, oO 6 95 (.conv (.int .u32) (.t 94)), oO 7 96 (.conv (.int .u64) (.t 95)), bT 8 97 .sub 93 96, mM 9 98 11, bT 10 99 .sub 97 98, mM 11 14 99])
 (.seq (.ops 114 6 [mM 0 100 0, mM 1 101 12, mM 2 102 14, oO 3 103 (.conv (.int .u32) (.t 102)), xO 4 104 1 100 101, sT 5 false 1 104 103])
 (.seq (.ops 120 3 [mM 0 105 14, oO 1 106 (.bin .shr .no (.t 105) (.c (.int .u64 63))), mM 2 11 106])
 (.ops 123 3 [mM 0 107 10, oO 1 108 (.bin .shr .no (.t 107) (.c (.int .u64 32))), mM 2 10 108])))))))
 (.ops 126 2 [bC 0 109 .add 78 1, mM 1 78 109])))))))
 (.seq (.ops 128 10 [mM 0 110 0, mM 1 111 5, xO 2 112 1 110 111, lO 3 113 false false 1 112, oO 4 114 (.conv (.int .u64) (.t 113)), mM 5 115 10, bT 6 116 .sub 114 115, mM 7 117 11, bT 8 118 .sub 116 117, mM 9 15 118])
 (.seq (.ops 138 6 [mM 0 119 0, mM 1 120 5, mM 2 121 15, oO 3 122 (.conv (.int .u32) (.t 121)), xO 4 123 1 119 120, sT 5 false 1 123 122])
 (.seq (.seq
 (.ops 144 3 [mM 0 124 15, oO 1 125 (.bin .shr .no (.t 124) (.c (.int .u64 63))), oO 2 126 (.bin .eql .no (.t 125) (.c (.int .u64 0)))])
 (.cond (.t 126)
 (.seq (.ops 147 3 [mM 0 127 8, oO 1 128 (.conv (.int .u32) (.t 127)), mM 2 4 128]) .ret) .skip))
 (.seq (.ops 150 1 [oO 0 10 (.mov (.c (.int .u64 0)))])
 (.seq (.seq
 (.ops 151 3 [mM 0 129 1, nO 1 130 129, mI 2 131 0])
 (.block 4
 (.loop [(0, 0), (5, 0), (8, 0), (10, 0), (129, 0), (130, 0), (131, 0)]
 (.seq (.ops 154 1 [bT 0 132 .lss 131 130])
 (.seq (.cond (.t 132) .skip
 (.exit 4))
 (.seq (.block 5
 (.seq (.ops 155 5 [mM 0 133 131, xO 1 134 1 129 131, lO 2 135 false false 1 134, mM 3 16 133, mM 4 17 135])
 (.seq (.ops 160 11 [mM 0 136 10, mM 1 137 0, mM 2 138 16, xO 3 139 1 137 138, lO 4 140 false false 1 139, oO 5 141 (.conv (.int .u64) (.t 140)), mM 6 142 17, oO 7 143 (.conv (.int .u64) (.t 142)), bT 8 144 .add 141 143, bT 9 145 .add 136 144, mM 10 10 145])
 (.seq (.ops 171 6 [mM 0 146 0, mM 1 147 16, mM 2 148 10, oO 3 149 (.conv (.int .u32) (.t 148)), xO 4 150 1 146 147, sT 5 false 1 150 149])
 (.ops 177 3 [mM 0 151 10, oO 1 152 (.bin .shr .no (.t 151) (.c (.int .u64 32))), mM 2 10 152])))))
 (.ops 180 2 [bC 0 153 .add 131 1, mM 1 131 153])))))))
 (.seq (.ops 182 9 [mM 0 154 0, mM 1 155 5, xO 2 156 1 154 155, lO 3 157 false false 1 156, mM 4 158 10, oO 5 159 (.conv (.int .u32) (.t 158)), bT 6 160 .add 157 159, xO 7 161 1 154 155, sT 8 false 1 161 160])
 (.seq (.ops 191 4 [mM 0 162 8, oO 1 163 (.bin .sub .no (.t 162) (.c (.int .u64 1))), oO 2 164 (.conv (.int .u32) (.t 163)), mM 3 4 164]) .ret)))))))))))))),
 [.t 4]⟩
def q7q : KFn := ⟨
 (.seq (.ops 12 1 [oO 0 4 (.mov (.c .nilsl))])
 (.seq (.ops 13 4 [mM 0 9 0, nO 1 10 9, oO 2 11 (.mkslice ⟨1, 4, (.int .u32 0)⟩ (.t 10) (.t 10)), mM 3 5 11])
 (.seq (.seq
 (.ops 17 3 [mM 0 12 0, nO 1 13 12, mI 2 14 0])
 (.block 0
 (.loop [(0, 0), (1, 0), (5, 0), (12, 0), (13, 0), (14, 0)]
 (.seq (.ops 20 1 [bT 0 15 .lss 14 13])
 (.seq (.cond (.t 15) .skip
 (.exit 0))
 (.seq (.block 1
 (.seq (.ops 21 5 [mM 0 16 14, xO 1 17 1 12 14, lO 2 18 false false 1 17, mM 3 6 16, mM 4 7 18])
 (.seq (.ops 26 3 [mM 0 19 7, oO 1 20 (.conv (.int .u64) (.t 19)), mM 2 8 20])
 (.seq (.seq
 (.ops 29 5 [mM 0 21 6, bC 1 22 .add 21 1, mM 2 23 0, nO 3 24 23, bT 4 25 .lss 22 24])
 (.cond (.t 25)
 (.ops 34 10 [mM 0 26 8, mM 1 27 0, mM 2 28 6, bC 3 29 .add 28 1, xO 4 30 1 27 29, lO 5 31 false false 1 30, oO 6 32 (.conv (.int .u64) (.t 31)), oO 7 33 (.bin .shl .no (.t 32) (.c (.int .u64 32))), bT 8 34 .or 26 33, mM 9 8 34]) .skip))
 (.ops 44 8 [mM 0 35 5, mM 1 36 6, mM 2 37 8, mM 3 38 1, bT 4 39 .shr 37 38, oO 5 40 (.conv (.int .u32) (.t 39)), xO 6 41 1 35 36, sT 7 false 1 41 40])))))
 (.ops 52 2 [bC 0 42 .add 14 1, mM 1 14 42])))))))
 (.seq (.ops 54 3 [mM 0 43 5, oO 1 44 (.callF q0L [(.t 43)]), mM 2 4 44]) .ret)))),
 [.t 4]⟩
def q9C : KFn := ⟨
 (.seq (.ops 12 2 [oO 0 4 (.mov (.c .nilsl)), oO 1 5 (.mov (.c (.bool false)))])
 (.seq (.ops 14 6 [mM 0 11 0, oO 1 12 (.callF q0L [(.t 11)]), mM 2 13 1, oO 3 14 (.callF q0L [(.t 13)]), mM 4 0 12, mM 5 1 14])
 (.seq (.seq
 (.ops 20 4 [mM 0 15 0, mM 1 16 1, oO 2 17 (.callF q21 [(.t 15), (.t 16)]), bC 3 18 .lss 17 0])
 (.cond (.t 18)
 (.seq (.ops 24 2 [oO 0 4 (.mov (.c .nilsl)), oO 1 5 (.mov (.c (.bool false)))]) .ret) .skip))
 (.seq (.ops 26 4 [mM 0 19 0, nO 1 20 19, oO 2 21 (.mkslice ⟨1, 4, (.int .u32 0)⟩ (.t 20) (.t 20)), mM 3 6 21])
 (.seq (.ops 30 1 [oO 0 7 (.mov (.c (.int .u64 0)))])
 (.seq (.seq
 (.ops 31 3 [mM 0 22 0, nO 1 23 22, mI 2 24 0])
 (.block 0
 (.loop [(1, 0), (6, 0), (7, 0), (22, 0), (23, 0), (24, 0)]
 (.seq (.ops 34 1 [bT 0 25 .lss 24 23])
 (.seq (.cond (.t 25) .skip
 (.exit 0))
 (.seq (.block 1
 (.seq (.ops 35 5 [mM 0 26 24, xO 1 27 1 22 24, lO 2 28 false false 1 27, mM 3 8 26, mM 4 9 28])
 (.seq (.ops 40 5 [mM 0 29 9, oO 1 30 (.conv (.int .u64) (.t 29)), mM 2 31 7, bT 3 32 .sub 30 31, mM 4 10 32])
 (.seq (.seq
 (.ops 45 4 [mM 0 33 8, mM 1 34 1, nO 2 35 34, bT 3 36 .lss 33 35])
 (.cond (.t 36)
 (.ops 49 8 [mM 0 37 10, mM 1 38 1, mM 2 39 8, xO 3 40 1 38 39, lO 4 41 false false 1 40, oO 5 42 (.conv (.int .u64) (.t 41)), bT 6 43 .sub 37 42, mM 7 10 43]) .skip))
 (.seq (.ops 57 6 [mM 0 44 6, mM 1 45 8, mM 2 46 10, oO 3 47 (.conv (.int .u32) (.t 46)), xO 4 48 1 44 45, sT 5 false 1 48 47])
 (.ops 63 3 [mM 0 49 10, oO 1 50 (.bin .shr .no (.t 49) (.c (.int .u64 63))), mM 2 7 50]))))))
 (.ops 66 2 [bC 0 51 .add 24 1, mM 1 24 51])))))))
 (.seq (.ops 68 4 [mM 0 52 6, oO 1 53 (.callF q0L [(.t 52)]), mM 2 4 53, oO 3 5 (.mov (.c (.bool true)))]) .ret))))))),
 [.t 4, .t 5]⟩
def q5V : KFn := ⟨
 (.seq (.ops 0 1 [oO 0 2 (.mov (.c (.bool false)))])
 (.seq (.ops 1 7 [mM 0 3 0, oO 1 4 (.bin .leq .no (.c (.int .u8 48)) (.t 3)), mM 2 5 4, gM 3 6 5 true 0, gG 4 7 5 true (.bin .leq .no (.t 6) (.c (.int .u8 57))), oO 5 8 (.pick (.t 5) (.t 7) (.c (.bool false))), mM 6 2 8]) .ret)),
 [.t 2]⟩
def qep : KFn := ⟨
 (.seq (.ops 0 1 [mI 0 2 0])
 (.seq (.cond (.c (.bool false))
 (.seq (.ops 1 4 [mM 0 3 0, oO 1 4 (.conv (.int .u32) (.t 3)), oO 2 5 (.callF qaW [(.t 4)]), mM 3 2 5]) .ret) .skip)
 (.seq (.ops 5 3 [mM 0 6 0, oO 1 7 (.callF qaV [(.t 6)]), mM 2 2 7]) .ret))),
 [.t 2]⟩
def qaG : KFn := ⟨
 (.seq (.ops 0 1 [mI 0 2 0])
 (.seq (.seq
 (.ops 1 2 [mM 0 3 0, oO 1 4 (.bin .geq .no (.t 3) (.c (.int .u64 4294967296)))])
 (.cond (.t 4)
 (.seq (.ops 3 3 [mM 0 5 0, oO 1 6 (.bin .shr .no (.t 5) (.c (.int .u64 32))), mM 2 0 6])
 (.ops 6 1 [mI 0 2 32])) .skip))
 (.seq (.seq
 (.ops 7 2 [mM 0 7 0, oO 1 8 (.bin .geq .no (.t 7) (.c (.int .u64 65536)))])
 (.cond (.t 8)
 (.seq (.ops 9 3 [mM 0 9 0, oO 1 10 (.bin .shr .no (.t 9) (.c (.int .u64 16))), mM 2 0 10])
 (.ops 12 3 [mM 0 11 2, bC 1 12 .add 11 16, mM 2 2 12])) .skip))
 (.seq (.seq
 (.ops 15 2 [mM 0 13 0, oO 1 14 (.bin .geq .no (.t 13) (.c (.int .u64 256)))])
 (.cond (.t 14)
 (.seq (.ops 17 3 [mM 0 15 0, oO 1 16 (.bin .shr .no (.t 15) (.c (.int .u64 8))), mM 2 0 16])
 (.ops 20 3 [mM 0 17 2, bC 1 18 .add 17 8, mM 2 2 18])) .skip))
 (.seq (.ops 23 7 [mM 0 19 2, mM 1 20 0, oO 2 21 (.conv (.int .u8) (.t 20)), oO 3 22 (.istr (.c (.str ⟨#[0, 1, 2, 2, 3, 3, 3, 3, 4, 4, 4, 4, 4, 4, 4, 4, 5, 5, 5, 5, 5, 5, 5, 5, 5, 5, 5, 5, 5, 5, 5, 5, 6, 6, 6, 6, 6, 6, 6, 6, 6, 6, 6, 6, 6, 6, 6, 6, 6, 6, 6, 6, 6, 6, 6, 6, 6, 6, 6, 6, 6, 6, 6, 6, 7, 7, 7, 7, 7, 7, 7, 7, 7, 7, 7, 7, 7, 7, 7, 7, 7, 7, 7, 7, 7, 7, 7, 7, 7, 7, 7, 7, 7, 7, 7, 7, 7, 7, 7, 7, 7, 7, 7, 7, 7, 7, 7, 7, 7, 7, 7, 7, 7, 7, 7, 7, 7, 7, 7, 7, 7, 7, 7, 7, 7, 7, 7, 7, 8, 8, 8, 8, 8, 8, 8, 8, 8, 8, 8, 8, 8, 8, 8, 8, 8, 8, 8, 8, 8, 8, 8, 8, 8, 8, 8, 8, 8, 8, 8, 8, 8, 8, 8, 8, 8, 8, 8, 8, 8, 8, 8, 8, 8, 8, 8, 8, 8, 8, 8, 8, 8, 8, 8, 8, 8, 8, 8, 8, 8, 8, 8, 8, 8, 8, 8, 8, 8, 8, 8, 8, 8, 8, 8, 8, 8, 8, 8, 8, 8, 8, 8, 8, 8, 8, 8, 8, 8, 8, 8, 8, 8, 8, 8, 8, 8, 8, 8, 8, 8, 8, 8, 8, 8, 8, 8, 8, 8, 8, 8, 8, 8, 8, 8, 8, 8, 8, 8, 8, 8, 8, 8, 8, 8, 8, 8, 8]⟩)) (.t 21)), oO 4 23 (.conv (.int .i64) (.t 22)), bT 5 24 .add 19 23, mM 6 2 24]) .ret))))),
 [.t 2]⟩
def q5k : KFn := ⟨
 (.seq (.ops 0 1 [oO 0 2 (.mov (.c (.bool false)))])
 (.seq (.ops 1 4 [mM 0 3 0, mM 1 4 0, bT 2 5 .neq 3 4, mM 3 2 5]) .ret)),
 [.t 2]⟩
def q4p : KFn := ⟨
 (.seq (.ops 0 1 [mI 0 2 0])
 (.seq (.seq
 (.ops 1 2 [mM 0 3 0, oO 1 4 (.bin .geq .no (.t 3) (.c (.int .u32 65536)))])
 (.cond (.t 4)
 (.seq (.ops 3 3 [mM 0 5 0, oO 1 6 (.bin .shr .no (.t 5) (.c (.int .u64 16))), mM 2 0 6])
 (.ops 6 1 [mI 0 2 16])) .skip))
 (.seq (.seq
 (.ops 7 2 [mM 0 7 0, oO 1 8 (.bin .geq .no (.t 7) (.c (.int .u32 256)))])
 (.cond (.t 8)
 (.seq (.ops 9 3 [mM 0 9 0, oO 1 10 (.bin .shr .no (.t 9) (.c (.int .u64 8))), mM 2 0 10])
 (.ops 12 3 [mM 0 11 2, bC 1 12 .add 11 8, mM 2 2 12])) .skip))
 (.seq (.ops 15 7 [mM 0 13 2, mM 1 14 0, oO 2 15 (.conv (.int .u8) (.t 14)), oO 3 16 (.istr (.c (.str ⟨#[0, 1, 2, 2, 3, 3, 3, 3, 4, 4, 4, 4, 4, 4, 4, 4, 5, 5, 5, 5, 5, 5, 5, 5, 5, 5, 5, 5, 5, 5, 5, 5, 6, 6, 6, 6, 6, 6, 6, 6, 6, 6, 6, 6, 6, 6, 6, 6, 6, 6, 6, 6, 6, 6, 6, 6, 6, 6, 6, 6, 6, 6, 6, 6, 7, 7, 7, 7, 7, 7, 7, 7, 7, 7, 7, 7, 7, 7, 7, 7, 7, 7, 7, 7, 7, 7, 7, 7, 7, 7, 7, 7, 7, 7, 7, 7, 7, 7, 7, 7, 7, 7, 7, 7, 7, 7, 7, 7, 7, 7, 7, 7, 7, 7, 7, 7, 7, 7, 7, 7, 7, 7, 7, 7, 7, 7, 7, 7, 8, 8, 8, 8, 8, 8, 8, 8, 8, 8, 8, 8, 8, 8, 8, 8, 8, 8, 8, 8, 8, 8, 8, 8, 8, 8, 8, 8, 8, 8, 8, 8, 8, 8, 8, 8, 8, 8, 8, 8, 8, 8, 8, 8, 8, 8, 8, 8, 8, 8, 8, 8, 8, 8, 8, 8, 8, 8, 8, 8, 8, 8, 8, 8, 8, 8, 8, 8, 8, 8, 8, 8, 8, 8, 8, 8, 8, 8, 8, 8, 8, 8, 8, 8, 8, 8, 8, 8, 8, 8, 8, 8, 8, 8, 8, 8, 8, 8, 8, 8, 8, 8, 8, 8, 8, 8, 8, 8, 8, 8, 8, 8, 8, 8, 8, 8, 8, 8, 8, 8, 8, 8, 8, 8, 8, 8, 8, 8]⟩)) (.t 15)), oO 4 17 (.conv (.int .i64) (.t 16)), bT 5 18 .add 13 17, mM 6 2 18]) .ret)))),
 [.t 2]⟩
end Go.F
