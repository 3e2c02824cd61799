/- Parts of the proof, part 32: Code2. -/
import Derived.Test.YtjjkgfikkihokaaGreatZ30
set_option linter.all false
namespace Go.F
def k_slices_Compact_Spot_Spot : KFn := ⟨
 (.seq (.ops 8 1 [oO 0 2 (.mov (.c .nilsl))])
 (.seq (.seq
 (.ops 9 3 [mM 0 6 0, nO 1 7 6, bC 2 8 .lss 7 2])
 (.cond (.t 8)
 (.seq (.ops 12 2 [mM 0 9 0, mM 1 2 9]) .ret) .skip))
 (.seq (.seq
 (.ops 14 1 [mI 0 3 1])
 (.block 0
 (.loop [(0, 0), (3, 0)]
 (.seq (.seq
 (.ops 15 4 [mM 0 10 3, mM 1 11 0, nO 2 12 11, bT 3 13 .lss 10 12])
 (.cond (.t 13) .skip
 (.exit 0)))
 (.seq (.block 1
 (.seq (.ops 19 10 [mM 0 16 0, mM 1 17 3, xB 2 18 3 10 2 16 17, lB 3 19 7 10 false true 2 18, mM 4 20 0, mM 5 21 3, bC 6 22 .sub 21 1, xB 7 23 112 10 2 20 22, lB 8 24 240 10 false true 2 23, oO 9 25 (.bin .eql (.flat [.int, .int]) (.t 19) (.t 24))])
 (.cond (.t 25)
 (.seq (.ops 29 4 [mM 0 26 0, mM 1 27 3, oO 2 28 (.slsl 2 (.t 26) (some (.t 27)) none none), mM 3 4 28])
 (.seq (.seq
 (.ops 33 1 [mI 0 5 1])
 (.block 2
 (.loop [(0, 0), (3, 0), (4, 0), (5, 0)]
 (.seq (.seq
 (.ops 34 4 [mM 0 29 5, mM 1 30 4, nO 2 31 30, bT 3 32 .lss 29 31])
 (.cond (.t 32) .skip
 (.exit 2)))
 (.seq (.block 3
 (.seq (.ops 38 10 [mM 0 35 4, mM 1 36 5, xB 2 37 3 10 2 35 36, lB 3 38 7 10 false true 2 37, mM 4 39 4, mM 5 40 5, bC 6 41 .sub 40 1, xB 7 42 112 10 2 39 41, lB 8 43 240 10 false true 2 42, oO 9 44 (.bin .neq (.flat [.int, .int]) (.t 38) (.t 43))])
 (.cond (.t 44)
 (.seq (.ops 48 8 [mM 0 45 0, mM 1 46 3, mM 2 47 4, mM 3 48 5, xO 4 49 2 47 48, lO 5 50 false true 2 49, xO 6 51 2 45 46, sT 7 false 2 51 50])
 (.ops 56 3 [mM 0 52 3, bC 1 53 .add 52 1, mM 2 3 53])) .skip)))
 (.ops 59 3 [mM 0 33 5, bC 1 34 .add 33 1, mM 2 5 34]))))))
 (.seq (.ops 62 4 [mM 0 54 0, mM 1 55 3, oO 2 56 (.slsl 2 (.t 54) (some (.t 55)) none none), ⟨3, none, none, .all, .clear ⟨2, 16, (.agg [(.int .i64 0), (.int .i64 0)])⟩ (.t 56)⟩])
 (.seq (.ops 66 4 [mM 0 57 0, mM 1 58 3, oO 2 59 (.slsl 2 (.t 57) none (some (.t 58)) none), mM 3 2 59]) .ret)))) .skip)))
 (.ops 70 3 [mM 0 14 3, bC 1 15 .add 14 1, mM 2 3 15]))))))
 (.seq (.ops 73 2 [mM 0 60 0, mM 1 2 60]) .ret)))),
 [.t 2]⟩
def qfk : KFn := ⟨
 (.seq (.ops 8 2 [oO 0 4 (.new 6 (.agg [(.bool false), .nilsl, .nilsl, (.bool false), .nilsl, .nilsl])), oO 1 5 (.mov (.c (.bool false)))])
 (.seq (.seq
 (.ops 10 1 [mI 0 6 0])
 (.block 0
 (.loop [(0, 0), (1, 0), (4, 0), (6, 0)]
 (.seq (.seq
 (.ops 11 4 [mM 0 7 6, mM 1 8 0, nO 2 9 8, bT 3 10 .lss 7 9])
 (.cond (.t 10) .skip
 (.exit 0)))
 (.seq (.block 1
 (.seq (.ops 15 7 [mM 0 13 0, mM 1 14 6, xO 2 15 7 13 14, fO 3 16 0 15, lO 4 17 false false 1 16, mM 5 18 1, bT 6 19 .eql 17 18])
 (.cond (.t 19)
 (.seq (.ops 22 7 [mM 0 20 0, mM 1 21 6, xO 2 22 7 20 21, fO 3 23 1 22, lO 4 24 false true 6 23, sT 5 true 6 4 24, oO 6 5 (.mov (.c (.bool true)))]) .ret) .skip)))
 (.ops 29 3 [mM 0 11 6, bC 1 12 .add 11 1, mM 2 6 12]))))))
 (.seq (.ops 32 3 [oO 0 25 (.build [(.bool false), .nilsl, .nilsl, (.bool false), .nilsl, .nilsl] []), sT 1 true 6 4 25, oO 2 5 (.mov (.c (.bool false)))]) .ret))),
 [.cell 4 true 6, .t 5]⟩
def q5v : KFn := ⟨
 (.seq (.ops 8 2 [oO 0 4 (.mov (.c .nilsl)), mI 1 5 0])
 (.seq (.seq
 (.ops 10 3 [mM 0 12 0, oO 1 13 (.callF qdP [(.t 12)]), oO 2 14 (.un .not (.t 13))])
 (.cond (.t 14)
 (.seq (.ops 13 2 [oO 0 4 (.mov (.c .nilsl)), mI 1 5 1]) .ret) .skip))
 (.seq (.seq
 (.ops 15 6 [mM 0 15 1, bC 1 16 .lss 15 1, mM 2 17 16, gM 3 18 17 false 1, gG 4 19 17 false (.bin .gtr .no (.t 18) (.c (.int .i64 39))), oO 5 20 (.pick (.t 17) (.c (.bool true)) (.t 19))])
 (.cond (.t 20)
 (.seq (.ops 21 2 [oO 0 4 (.mov (.c .nilsl)), mI 1 5 3]) .ret) .skip))
 (.seq (.ops 23 1 [oO 0 6 (.mov (.c .nilsl))])
 (.seq (.seq
 (.ops 24 1 [mI 0 7 0])
 (.block 0
 (.loop [(0, 0), (1, 0), (6, 6), (7, 0)]
 (.seq (.seq
 (.ops 25 3 [mM 0 21 7, mM 1 22 1, bT 2 23 .leq 21 22])
 (.cond (.t 23) .skip
 (.exit 0)))
 (.seq (.block 1
 (.seq (.ops 28 9 [mM 0 27 7, mM 1 28 1, oO 2 29 (.callF qk8 [(.t 27), (.t 28)]), mM 3 26 29, eO 4 30 26 0, eO 5 31 26 1, oO 6 8 (.new 3 (.agg [(.bool false), .nilsl, .nilsl])), sT 7 true 3 8 30, mM 8 9 31])
 (.seq (.ops 37 9 [mM 0 33 0, lO 1 34 true true 3 8, oO 2 35 (.callF qp6 [(.t 33), (.t 34)]), mM 3 32 35, eO 4 36 32 0, eO 5 37 32 1, oO 6 10 (.new 6 (.agg [(.bool false), .nilsl, .nilsl, (.bool false), .nilsl, .nilsl])), sT 7 true 6 10 36, mM 8 11 37])
 (.ops 46 5 [mM 0 38 6, lO 1 39 true true 6 10, oO 2 40 (.buildSlice 6 1 [(.agg [(.bool false), .nilsl, .nilsl, (.bool false), .nilsl, .nilsl])] [(0, (.t 39))]), oO 3 41 (.append ⟨6, 112, (.agg [(.bool false), .nilsl, .nilsl, (.bool false), .nilsl, .nilsl])⟩ .sl (.t 38) (.t 40)), mM 4 6 41]))))
 (.ops 51 3 [mM 0 24 7, bC 1 25 .add 24 1, mM 2 7 25]))))))
 (.seq (.ops 54 3 [mM 0 42 6, mM 1 4 42, mI 2 5 0]) .ret)))))),
 [.t 4, .t 5]⟩
def qfl : KFn := ⟨
 (.seq (.ops 0 3 [oO 0 1 (.box 6 (.t 0)), oO 1 2 (.new 2 (.agg [(.int .i64 0), (.int .i64 0)])), mI 2 3 0])
 (.seq (.ops 3 9 [fO 0 9 0 1, lO 1 10 true true 3 9, oO 2 11 (.callF q9L [(.t 10)]), oO 3 12 (.callF q9K [(.t 11)]), mM 4 8 12, eO 5 13 8 0, eO 6 14 8 1, mM 7 4 13, mM 8 5 14])
 (.seq (.ops 12 9 [fO 0 16 3 1, lO 1 17 true true 3 16, oO 2 18 (.callF q9L [(.t 17)]), oO 3 19 (.callF q9K [(.t 18)]), mM 4 15 19, eO 5 20 15 0, eO 6 21 15 1, mM 7 6 20, mM 8 7 21])
 (.seq (.seq
 (.ops 21 22 [mM 0 22 5, oO 1 23 (.un .not (.t 22)), mM 2 24 23, gM 3 25 24 false 7, gG 4 26 24 false (.un .not (.t 25)), oO 5 27 (.pick (.t 24) (.c (.bool true)) (.t 26)), mM 6 28 27, gM 7 29 28 false 4, gG 8 30 28 false (.bin .lss .no (.t 29) (.c (.int .i64 (-1048576)))), oO 9 31 (.pick (.t 28) (.c (.bool true)) (.t 30)), mM 10 32 31, gM 11 33 32 false 4, gG 12 34 32 false (.bin .gtr .no (.t 33) (.c (.int .i64 1048576))), oO 13 35 (.pick (.t 32) (.c (.bool true)) (.t 34)), mM 14 36 35, gM 15 37 36 false 6, gG 16 38 36 false (.bin .lss .no (.t 37) (.c (.int .i64 (-1048576)))), oO 17 39 (.pick (.t 36) (.c (.bool true)) (.t 38)), mM 18 40 39, gM 19 41 40 false 6, gG 20 42 40 false (.bin .gtr .no (.t 41) (.c (.int .i64 1048576))), oO 21 43 (.pick (.t 40) (.c (.bool true)) (.t 42))])
 (.cond (.t 43)
 (.seq (.ops 43 3 [oO 0 44 (.build [(.int .i64 0), (.int .i64 0)] []), sT 1 true 2 2 44, mI 2 3 3]) .ret) .skip))
 (.seq (.ops 46 5 [mM 0 45 4, mM 1 46 6, oO 2 47 (.build [(.int .i64 0), (.int .i64 0)] [(0, 1, (.t 45)), (1, 1, (.t 46))]), sT 3 true 2 2 47, mI 4 3 0]) .ret))))),
 [.cell 2 true 2, .t 3]⟩
def q6H : KFn := ⟨
 (.seq (.ops 12 3 [mI 0 4 0, oO 1 5 (.new 2 (.agg [(.int .i64 0), (.int .i64 0)])), mI 2 6 0])
 (.seq (.seq
 (.ops 15 3 [mM 0 15 0, oO 1 16 (.callF q58 [(.t 15)]), mM 2 7 16])
 (.seq (.ops 18 2 [mM 0 17 7, bC 1 18 .neq 17 0])
 (.cond (.t 18)
 (.seq (.ops 20 5 [oO 0 19 (.build [(.int .i64 0), (.int .i64 0)] []), mM 1 20 7, mI 2 4 0, sT 3 true 2 5 19, mM 4 6 20]) .ret) .skip)))
 (.seq (.seq
 (.ops 25 2 [mM 0 21 1, bC 1 22 .lss 21 0])
 (.cond (.t 22)
 (.seq (.ops 27 4 [oO 0 23 (.build [(.int .i64 0), (.int .i64 0)] []), mI 1 4 0, sT 2 true 2 5 23, mI 3 6 3]) .ret) .skip))
 (.seq (.ops 31 1 [mI 0 8 0])
 (.seq (.seq
 (.ops 32 4 [mM 0 24 0, nO 1 25 24, bC 2 26 .sub 25 1, mI 3 27 0])
 (.block 0
 (.loop [(0, 0), (1, 0), (5, 0), (8, 0), (26, 0), (27, 0)]
 (.seq (.ops 36 1 [bT 0 28 .lss 27 26])
 (.seq (.cond (.t 28) .skip
 (.exit 0))
 (.seq (.block 1
 (.seq (.ops 37 2 [mM 0 29 27, mM 1 9 29])
 (.seq (.ops 39 13 [mM 0 30 0, mM 1 31 9, xB 2 32 3 13 2 30 31, lB 3 33 7 13 false true 2 32, mM 4 34 0, mM 5 35 9, bC 6 36 .add 35 1, xB 7 37 112 13 2 34 36, lB 8 38 240 13 false true 2 37, oB 9 10 0 13 (.new 2 (.agg [(.int .i64 0), (.int .i64 0)])), oB 10 11 0 13 (.new 2 (.agg [(.int .i64 0), (.int .i64 0)])), ⟨11, none, none, (.init 9), .store true 2 (.t 10) (.t 33)⟩, ⟨12, none, none, (.init 10), .store true 2 (.t 11) (.t 38)⟩])
 (.seq (.ops 52 4 [lO 0 39 true true 2 10, lO 1 40 true true 2 11, oO 2 41 (.callF q6e [(.t 39), (.t 40)]), mM 3 12 41])
 (.seq (.seq
 (.ops 56 5 [mM 0 42 8, mM 1 43 12, bT 2 44 .add 42 43, mM 3 45 1, bT 4 46 .geq 44 45])
 (.cond (.t 46)
 (.seq (.ops 61 15 [fO 0 47 0 10, lB 1 48 1 15 true false 1 47, mM 2 49 1, mM 3 50 8, bT 4 51 .sub 49 50, fO 5 52 0 11, lB 6 53 32 15 true false 1 52, fO 7 54 0 10, lB 8 55 128 15 true false 1 54, bT 9 56 .sub 53 55, bT 10 57 .mul 51 56, mM 11 58 12, oB 12 59 4092 15 (.callF q2J [(.t 57), (.t 58)]), bT 13 60 .add 48 59, mM 14 13 60])
 (.seq (.ops 76 15 [fO 0 61 1 10, lB 1 62 1 15 true false 1 61, mM 2 63 1, mM 3 64 8, bT 4 65 .sub 63 64, fO 5 66 1 11, lB 6 67 32 15 true false 1 66, fO 7 68 1 10, lB 8 69 128 15 true false 1 68, bT 9 70 .sub 67 69, bT 10 71 .mul 65 70, mM 11 72 12, oB 12 73 4092 15 (.callF q2J [(.t 71), (.t 72)]), bT 13 74 .add 62 73, mM 14 14 74])
 (.seq (.ops 91 7 [mM 0 75 9, mM 1 76 13, mM 2 77 14, oO 3 78 (.build [(.int .i64 0), (.int .i64 0)] [(0, 1, (.t 76)), (1, 1, (.t 77))]), mM 4 4 75, sT 5 true 2 5 78, mI 6 6 0]) .ret))) .skip))
 (.ops 98 4 [mM 0 79 8, mM 1 80 12, bT 2 81 .add 79 80, mM 3 8 81]))))))
 (.ops 102 2 [bC 0 82 .add 27 1, mM 1 27 82])))))))
 (.seq (.ops 104 4 [oO 0 83 (.build [(.int .i64 0), (.int .i64 0)] []), mI 1 4 0, sT 2 true 2 5 83, mI 3 6 3]) .ret)))))),
 [.t 4, .cell 5 true 2, .t 6]⟩
def q2D : KFn := ⟨
 (.seq (.ops 8 1 [mI 0 4 0])
 (.seq (.seq
 (.ops 9 3 [mM 0 6 0, nO 1 7 6, mI 2 8 0])
 (.block 0
 (.loop [(0, 0), (1, 0), (7, 0), (8, 0)]
 (.seq (.ops 12 1 [bT 0 9 .lss 8 7])
 (.seq (.cond (.t 9) .skip
 (.exit 0))
 (.seq (.block 1
 (.seq (.ops 13 2 [mM 0 10 8, mM 1 5 10])
 (.seq (.ops 15 6 [mM 0 11 1, mM 1 12 0, mM 2 13 5, xO 3 14 2 12 13, lO 4 15 false true 2 14, oO 5 16 (.callV (.t 11) [(.t 15)])])
 (.cond (.t 16)
 (.seq (.ops 21 2 [mM 0 17 5, mM 1 4 17]) .ret) .skip))))
 (.ops 23 2 [bC 0 18 .add 8 1, mM 1 8 18])))))))
 (.seq (.ops 25 1 [mI 0 4 (-1)]) .ret))),
 [.t 4]⟩
def q2L : KFn := ⟨
 (.seq (.ops 0 2 [oO 0 3 (.box 2 (.t 1)), oO 1 4 (.mov (.c (.bool false)))])
 (.seq (.ops 2 5 [mM 0 5 0, lO 1 6 true true 2 3, oO 2 7 (.callF q3u [(.t 5), (.t 6)]), bC 3 8 .geq 7 0, mM 4 4 8]) .ret)),
 [.t 4]⟩
def q7e : KFn := ⟨
 (.seq (.ops 0 4 [oO 0 3 (.box 2 (.t 0)), oO 1 4 (.box 2 (.t 1)), oO 2 5 (.box 2 (.t 2)), oO 3 6 (.mov (.c (.bool false)))])
 (.seq (.ops 4 32 [lO 0 7 true true 2 3, lO 1 8 true true 2 4, lO 2 9 true true 2 5, oO 3 10 (.callF q1Y [(.t 7), (.t 8), (.t 9)]), bC 4 11 .eql 10 0, mM 5 12 11, gG 6 13 12 true (.off 0 (.t 3)), gG 7 14 12 true (.load true false 1 (.t 13)), gG 8 15 12 true (.off 0 (.t 4)), gG 9 16 12 true (.load true false 1 (.t 15)), gG 10 17 12 true (.bin .sub .no (.t 14) (.t 16)), gG 11 18 12 true (.off 0 (.t 5)), gG 12 19 12 true (.load true false 1 (.t 18)), gG 13 20 12 true (.off 0 (.t 4)), gG 14 21 12 true (.load true false 1 (.t 20)), gG 15 22 12 true (.bin .sub .no (.t 19) (.t 21)), gG 16 23 12 true (.bin .mul .no (.t 17) (.t 22)), gG 17 24 12 true (.off 1 (.t 3)), gG 18 25 12 true (.load true false 1 (.t 24)), gG 19 26 12 true (.off 1 (.t 4)), gG 20 27 12 true (.load true false 1 (.t 26)), gG 21 28 12 true (.bin .sub .no (.t 25) (.t 27)), gG 22 29 12 true (.off 1 (.t 5)), gG 23 30 12 true (.load true false 1 (.t 29)), gG 24 31 12 true (.off 1 (.t 4)), gG 25 32 12 true (.load true false 1 (.t 31)), gG 26 33 12 true (.bin .sub .no (.t 30) (.t 32)), gG 27 34 12 true (.bin .mul .no (.t 28) (.t 33)), gG 28 35 12 true (.bin .add .no (.t 23) (.t 34)), gG 29 36 12 true (.bin .gtr .no (.t 35) (.c (.int .i64 0))), oO 30 37 (.pick (.t 12) (.t 36) (.c (.bool false))), mM 31 6 37]) .ret)),
 [.t 6]⟩
def q8W : KFn := ⟨
 (.seq (.ops 0 5 [oO 0 4 (.box 2 (.t 0)), oO 1 5 (.box 2 (.t 1)), oO 2 6 (.box 2 (.t 2)), oO 3 7 (.box 2 (.t 3)), oO 4 8 (.mov (.c (.bool false)))])
 (.seq (.ops 5 37 [lO 0 9 true true 2 4, lO 1 10 true true 2 5, lO 2 11 true true 2 6, oO 3 12 (.callF q59 [(.t 9), (.t 10), (.t 11)]), mM 4 13 12, gG 5 14 13 false (.load true true 2 (.t 4)), gG 6 15 13 false (.load true true 2 (.t 5)), gG 7 16 13 false (.load true true 2 (.t 7)), gG 8 17 13 false (.callF q59 [(.t 14), (.t 15), (.t 16)]), oO 9 18 (.pick (.t 13) (.c (.bool true)) (.t 17)), mM 10 19 18, gG 11 20 19 false (.load true true 2 (.t 6)), gG 12 21 19 false (.load true true 2 (.t 7)), gG 13 22 19 false (.load true true 2 (.t 4)), gG 14 23 19 false (.callF q59 [(.t 20), (.t 21), (.t 22)]), oO 15 24 (.pick (.t 19) (.c (.bool true)) (.t 23)), mM 16 25 24, gG 17 26 25 false (.load true true 2 (.t 6)), gG 18 27 25 false (.load true true 2 (.t 7)), gG 19 28 25 false (.load true true 2 (.t 5)), gG 20 29 25 false (.callF q59 [(.t 26), (.t 27), (.t 28)]), oO 21 30 (.pick (.t 25) (.c (.bool true)) (.t 29)), mM 22 31 30, gG 23 32 31 false (.load true true 2 (.t 4)), gG 24 33 31 false (.load true true 2 (.t 5)), gG 25 34 31 false (.load true true 2 (.t 6)), gG 26 35 31 false (.load true true 2 (.t 7)), gG 27 36 31 false (.callF q5a [(.t 32), (.t 33), (.t 34), (.t 35)]), gM 28 37 31 false 36, gG 29 38 37 true (.load true true 2 (.t 6)), gG 30 39 37 true (.load true true 2 (.t 7)), gG 31 40 37 true (.load true true 2 (.t 4)), gG 32 41 37 true (.load true true 2 (.t 5)), gG 33 42 37 true (.callF q5a [(.t 38), (.t 39), (.t 40), (.t 41)]), gG 34 43 31 false (.pick (.t 37) (.t 42) (.c (.bool false))), oO 35 44 (.pick (.t 31) (.c (.bool true)) (.t 43)), mM 36 8 44]) .ret)),
 [.t 8]⟩
def q8a : KFn := ⟨
 (.seq (.ops 10 3 [oO 0 1 (.box 2 (.t 0)), mI 1 2 0, oO 2 3 (.mov (.c (.bool false)))])
 (.seq (.ops 13 3 [lO 0 7 true true 2 1, oO 1 8 (.callF q3Q [(.t 7)]), sT 2 true 2 1 8])
 (.seq (.seq
 (.ops 16 4 [fO 0 9 1 1, lO 1 10 true false 1 9, nO 2 11 10, bC 3 12 .gtr 11 2])
 (.cond (.t 12)
 (.seq (.ops 20 2 [mI 0 2 0, oO 1 3 (.mov (.c (.bool false)))]) .ret) .skip))
 (.seq (.ops 22 1 [oO 0 4 (.mov (.c (.int .u64 0)))])
 (.seq (.seq
 (.ops 23 4 [fO 0 13 1 1, lO 1 14 true false 1 13, nO 2 15 14, mI 3 16 0])
 (.block 0
 (.loop [(1, 0), (4, 0), (14, 0), (15, 0), (16, 0)]
 (.seq (.ops 27 1 [bT 0 17 .lss 16 15])
 (.seq (.cond (.t 17) .skip
 (.exit 0))
 (.seq (.block 1
 (.seq (.ops 28 5 [mM 0 18 16, xO 1 19 1 14 16, lO 2 20 false false 1 19, mM 3 5 18, mM 4 6 20])
 (.ops 33 8 [mM 0 21 4, mM 1 22 6, oO 2 23 (.conv (.int .u64) (.t 22)), mM 3 24 5, oO 4 25 (.bin .mul .no (.c (.int .i64 32)) (.t 24)), bT 5 26 .shl 23 25, bT 6 27 .or 21 26, mM 7 4 27])))
 (.ops 41 2 [bC 0 28 .add 16 1, mM 1 16 28])))))))
 (.seq (.block 2
 (.seq (.ops 43 7 [fO 0 30 0 1, lO 1 31 true false 1 30, mM 2 32 31, gM 3 33 32 true 4, gG 4 34 32 true (.bin .leq .no (.t 33) (.c (.int .u64 9223372036854775808))), oO 5 35 (.pick (.t 32) (.t 34) (.c (.bool false))), mM 6 29 35])
 (.cond (.t 29)
 (.seq (.ops 50 5 [mM 0 36 4, oO 1 37 (.un .neg (.t 36)), oO 2 38 (.conv (.int .i64) (.t 37)), mM 3 2 38, oO 4 3 (.mov (.c (.bool true)))]) .ret)
 (.seq (.ops 55 8 [fO 0 40 0 1, lO 1 41 true false 1 40, oO 2 42 (.un .not (.t 41)), mM 3 43 42, gM 4 44 43 true 4, gG 5 45 43 true (.bin .lss .no (.t 44) (.c (.int .u64 9223372036854775808))), oO 6 46 (.pick (.t 43) (.t 45) (.c (.bool false))), mM 7 39 46])
 (.cond (.t 39)
 (.seq (.ops 63 4 [mM 0 47 4, oO 1 48 (.conv (.int .i64) (.t 47)), mM 2 2 48, oO 3 3 (.mov (.c (.bool true)))]) .ret) .skip)))))
 (.seq (.ops 67 2 [mI 0 2 0, oO 1 3 (.mov (.c (.bool false)))]) .ret))))))),
 [.t 2, .t 3]⟩
def qa1 : KFn := ⟨
 (.seq (.ops 0 2 [oO 0 1 (.box 3 (.t 0)), oO 1 2 (.new 2 (.agg [(.bool false), .nilsl]))])
 (.seq (.ops 2 3 [lO 0 7 true true 3 1, oO 1 8 (.callF q1W [(.t 7)]), sT 2 true 3 1 8])
 (.seq (.ops 5 8 [fO 0 9 0 1, fO 1 10 1 9, lO 2 11 true false 1 10, fO 3 12 0 1, fO 4 13 1 12, lO 5 14 true false 1 13, oO 6 15 (.callF q5C [(.t 11), (.t 14)]), mM 7 3 15])
 (.seq (.ops 13 17 [mM 0 17 3, fO 1 18 2 1, lB 2 19 2 17 true false 1 18, oB 3 20 7 17 (.callF q5C [(.t 17), (.t 19)]), fO 4 21 2 1, lB 5 22 16 17 true false 1 21, fO 6 23 2 1, lB 7 24 64 17 true false 1 23, oB 8 25 255 17 (.callF q5C [(.t 22), (.t 24)]), oB 9 26 511 17 (.callF q3R [(.t 20), (.t 25)]), mM 10 16 26, eO 11 27 16 0, eO 12 28 16 1, eO 13 29 16 2, mM 14 4 27, mM 15 5 28, mM 16 6 29])
 (.seq (.ops 30 7 [fO 0 30 0 1, fO 1 31 0 30, lO 2 32 true false 1 31, mM 3 33 4, oO 4 34 (.build [(.bool false), .nilsl] [(0, 1, (.t 32)), (1, 1, (.t 33))]), oO 5 35 (.callF q3Q [(.t 34)]), sT 6 true 2 2 35]) .ret))))),
 [.cell 2 true 2]⟩
def q8b : KFn := ⟨
 (.seq (.ops 4 1 [mI 0 2 0])
 (.seq (.seq
 (.ops 5 2 [mM 0 5 0, bC 1 6 .lss 5 2])
 (.cond (.t 6)
 (.seq (.ops 7 2 [mM 0 7 0, mM 1 2 7]) .ret) .skip))
 (.seq (.ops 9 7 [mM 0 8 0, oO 1 9 (.conv (.int .u64) (.t 8)), oO 2 10 (.callF qkb [(.t 9)]), bC 3 11 .add 10 1, bC 4 12 .quo 11 2, oO 5 13 (.bin .shl .no (.c (.int .i64 1)) (.t 12)), mM 6 3 13])
 (.block 0
 (.loop [(0, 0), (3, 0)]
 (.block 1
 (.seq (.ops 16 7 [mM 0 14 3, mM 1 15 0, mM 2 16 3, bT 3 17 .quo 15 16, bT 4 18 .add 14 17, bC 5 19 .quo 18 2, mM 6 4 19])
 (.seq (.seq
 (.ops 23 3 [mM 0 20 4, mM 1 21 3, bT 2 22 .geq 20 21])
 (.cond (.t 22)
 (.seq (.ops 26 2 [mM 0 23 3, mM 1 2 23]) .ret) .skip))
 (.ops 28 2 [mM 0 24 4, mM 1 3 24]))))))))),
 [.t 2]⟩
def q8c : KFn := ⟨
 (.seq (.ops 0 4 [oO 0 3 (.box 2 (.t 0)), oO 1 4 (.box 2 (.t 1)), oO 2 5 (.box 2 (.t 2)), mI 3 6 0])
 (.seq (.ops 4 24 [fO 0 7 0 4, lO 1 8 true false 1 7, fO 2 9 0 3, lO 3 10 true false 1 9, bT 4 11 .sub 8 10, fO 5 12 1 5, lO 6 13 true false 1 12, fO 7 14 1 3, lO 8 15 true false 1 14, bT 9 16 .sub 13 15, bT 10 17 .mul 11 16, fO 11 18 1 4, lO 12 19 true false 1 18, fO 13 20 1 3, lO 14 21 true false 1 20, bT 15 22 .sub 19 21, fO 16 23 0 5, lO 17 24 true false 1 23, fO 18 25 0 3, lO 19 26 true false 1 25, bT 20 27 .sub 24 26, bT 21 28 .mul 22 27, bT 22 29 .sub 17 28, mM 23 6 29]) .ret)),
 [.t 6]⟩
def q8d : KFn := ⟨
 (.seq (.ops 0 1 [oO 0 2 (.mov (.c (.bool false)))])
 (.seq (.ops 1 4 [mM 0 3 0, mM 1 4 0, bT 2 5 .neq 3 4, mM 3 2 5]) .ret)),
 [.t 2]⟩
def qfn : KFn := ⟨
 (.seq (.ops 0 4 [oO 0 3 (.box 6 (.t 0)), oO 1 4 (.box 6 (.t 1)), oO 2 5 (.box 3 (.t 2)), oO 3 6 (.new 6 (.agg [(.bool false), .nilsl, .nilsl, (.bool false), .nilsl, .nilsl]))])
 (.seq (.ops 4 8 [lB 0 7 0 8 true true 6 3, lB 1 8 0 8 true true 6 4, lB 2 9 0 8 true true 6 3, oB 3 10 6 8 (.callF q6q [(.t 8), (.t 9)]), lB 4 11 0 8 true true 3 5, oB 5 12 30 8 (.callF qeX [(.t 10), (.t 11)]), oB 6 13 63 8 (.callF qiu [(.t 7), (.t 12)]), ⟨7, none, none, (.bef 127 8), .store true 6 (.t 6) (.t 13)⟩]) .ret)),
 [.cell 6 true 6]⟩
def qd6 : KFn := ⟨
 (.seq (.ops 0 3 [oO 0 2 (.box 3 (.t 0)), oO 1 3 (.box 3 (.t 1)), oO 2 4 (.new 3 (.agg [(.bool false), .nilsl, .nilsl]))])
 (.seq (.ops 3 5 [lB 0 5 0 5 true true 3 2, lB 1 6 0 5 true true 3 3, oB 2 7 2 5 (.callF qiv [(.t 6)]), oB 3 8 7 5 (.callF q9M [(.t 5), (.t 7)]), ⟨4, none, none, (.bef 15 5), .store true 3 (.t 4) (.t 8)⟩]) .ret)),
 [.cell 4 true 3]⟩
def qhm : KFn := ⟨
 (.seq (.ops 0 3 [oO 0 2 (.box 6 (.t 0)), oO 1 3 (.box 6 (.t 1)), oO 2 4 (.new 6 (.agg [(.bool false), .nilsl, .nilsl, (.bool false), .nilsl, .nilsl]))])
 (.seq (.ops 3 12 [fO 0 5 0 2, lB 1 6 1 12 true true 3 5, fO 2 7 0 3, lB 3 8 4 12 true true 3 7, oB 4 9 15 12 (.callF qaQ [(.t 6), (.t 8)]), fO 5 10 3 2, lB 6 11 32 12 true true 3 10, fO 7 12 3 3, lB 8 13 128 12 true true 3 12, oB 9 14 511 12 (.callF qaQ [(.t 11), (.t 13)]), oO 10 15 (.build [(.bool false), .nilsl, .nilsl, (.bool false), .nilsl, .nilsl] [(0, 3, (.t 9)), (3, 3, (.t 14))]), ⟨11, none, none, (.bef 2047 12), .store true 6 (.t 4) (.t 15)⟩]) .ret)),
 [.cell 4 true 6]⟩
def qjw : KFn := ⟨
 (.seq (.ops 0 4 [oO 0 3 (.box 6 (.t 0)), oO 1 4 (.box 6 (.t 1)), oO 2 5 (.box 3 (.t 2)), oO 3 6 (.new 6 (.agg [(.bool false), .nilsl, .nilsl, (.bool false), .nilsl, .nilsl]))])
 (.seq (.ops 4 8 [lB 0 7 0 8 true true 6 3, lB 1 8 0 8 true true 6 4, lB 2 9 0 8 true true 6 3, oB 3 10 6 8 (.callF q8G [(.t 8), (.t 9)]), lB 4 11 0 8 true true 3 5, oB 5 12 30 8 (.callF qiw [(.t 10), (.t 11)]), oB 6 13 63 8 (.callF qmi [(.t 7), (.t 12)]), ⟨7, none, none, (.bef 127 8), .store true 6 (.t 6) (.t 13)⟩]) .ret)),
 [.cell 6 true 6]⟩
def qd8 : KFn := ⟨
 (.seq (.ops 6 3 [oO 0 1 (.box 2 (.t 0)), mI 1 2 0, oO 2 3 (.mov (.c (.bool false)))])
 (.seq (.ops 9 4 [lO 0 7 true true 2 1, oO 1 8 (.callF qbJ [(.t 7)]), oO 2 4 (.new 2 (.agg [(.bool false), .nilsl])), sT 3 true 2 4 8])
 (.seq (.seq
 (.ops 13 4 [fO 0 9 1 4, lO 1 10 true false 1 9, nO 2 11 10, bC 3 12 .gtr 11 2])
 (.cond (.t 12)
 (.seq (.ops 17 2 [mI 0 2 0, oO 1 3 (.mov (.c (.bool false)))]) .ret) .skip))
 (.seq (.ops 19 1 [oO 0 5 (.mov (.c (.int .u64 0)))])
 (.seq (.seq
 (.ops 20 5 [fO 0 13 1 4, lO 1 14 true false 1 13, nO 2 15 14, bC 3 16 .sub 15 1, mM 4 6 16])
 (.block 0
 (.loop [(4, 0), (5, 0), (6, 0)]
 (.seq (.seq
 (.ops 25 2 [mM 0 17 6, bC 1 18 .geq 17 0])
 (.cond (.t 18) .skip
 (.exit 0)))
 (.seq (.block 1
 (.ops 27 10 [mM 0 21 5, oO 1 22 (.bin .mul .no (.t 21) (.c (.int .u64 4294967296))), fO 2 23 1 4, lO 3 24 true false 1 23, mM 4 25 6, xO 5 26 1 24 25, lO 6 27 false false 1 26, oO 7 28 (.conv (.int .u64) (.t 27)), bT 8 29 .add 22 28, mM 9 5 29]))
 (.ops 37 3 [mM 0 19 6, bC 1 20 .sub 19 1, mM 2 6 20]))))))
 (.seq (.seq
 (.ops 40 6 [fO 0 30 0 4, lO 1 31 true false 1 30, mM 2 32 31, gM 3 33 32 true 5, gG 4 34 32 true (.bin .leq .no (.t 33) (.c (.int .u64 9223372036854775808))), oO 5 35 (.pick (.t 32) (.t 34) (.c (.bool false)))])
 (.cond (.t 35)
 (.seq (.ops 46 7 [mM 0 36 5, oO 1 37 (.bin .sub .no (.t 36) (.c (.int .u64 1))), oO 2 38 (.conv (.int .i64) (.t 37)), oO 3 39 (.un .neg (.t 38)), bC 4 40 .sub 39 1, mM 5 2 40, oO 6 3 (.mov (.c (.bool true)))]) .ret) .skip))
 (.seq (.seq
 (.ops 53 7 [fO 0 41 0 4, lO 1 42 true false 1 41, oO 2 43 (.un .not (.t 42)), mM 3 44 43, gM 4 45 44 true 5, gG 5 46 44 true (.bin .leq .no (.t 45) (.c (.int .u64 9223372036854775807))), oO 6 47 (.pick (.t 44) (.t 46) (.c (.bool false)))])
 (.cond (.t 47)
 (.seq (.ops 60 4 [mM 0 48 5, oO 1 49 (.conv (.int .i64) (.t 48)), mM 2 2 49, oO 3 3 (.mov (.c (.bool true)))]) .ret) .skip))
 (.seq (.ops 64 2 [mI 0 2 0, oO 1 3 (.mov (.c (.bool false)))]) .ret)))))))),
 [.t 2, .t 3]⟩
def qd9 : KFn := ⟨
 (.seq (.ops 0 2 [oO 0 1 (.box 3 (.t 0)), oO 1 2 (.new 2 (.agg [(.bool false), .nilsl]))])
 (.seq (.ops 2 4 [lO 0 8 true true 3 1, oO 1 9 (.callF q33 [(.t 8)]), oO 2 3 (.new 3 (.agg [(.bool false), .nilsl, .nilsl])), sT 3 true 3 3 9])
 (.seq (.ops 6 2 [oO 0 10 (.callF qdQ [(.c (.int .u64 2))]), mM 1 4 10])
 (.seq (.ops 8 20 [mM 0 12 4, fO 1 13 0 3, fO 2 14 1 13, lB 3 15 6 20 true false 1 14, oB 4 16 15 20 (.callF q5c [(.t 12), (.t 15)]), fO 5 17 2 3, lB 6 18 32 20 true false 1 17, oB 7 19 127 20 (.callF qhP [(.t 16), (.t 18)]), mM 8 20 4, fO 9 21 2 3, lB 10 22 512 20 true false 1 21, oB 11 23 2047 20 (.callF q5c [(.t 20), (.t 22)]), oB 12 24 4095 20 (.callF q6P [(.t 19), (.t 23)]), mM 13 11 24, eO 14 25 11 0, eO 15 26 11 1, eO 16 27 11 2, mM 17 5 25, mM 18 6 26, mM 19 7 27])
 (.seq (.ops 28 7 [fO 0 28 0 3, fO 1 29 0 28, lO 2 30 true false 1 29, mM 3 31 5, oO 4 32 (.build [(.bool false), .nilsl] [(0, 1, (.t 30)), (1, 1, (.t 31))]), oO 5 33 (.callF qbJ [(.t 32)]), sT 6 true 2 2 33]) .ret))))),
 [.cell 2 true 2]⟩
def qhn : KFn := ⟨
 (.seq (.ops 0 3 [oO 0 2 (.box 3 (.t 0)), oO 1 3 (.box 3 (.t 1)), oO 2 4 (.new 3 (.agg [(.bool false), .nilsl, .nilsl]))])
 (.seq (.ops 3 5 [lB 0 5 0 5 true true 3 2, lB 1 6 0 5 true true 3 3, oB 2 7 2 5 (.callF qmj [(.t 6)]), oB 3 8 7 5 (.callF qeA [(.t 5), (.t 7)]), ⟨4, none, none, (.bef 15 5), .store true 3 (.t 4) (.t 8)⟩]) .ret)),
 [.cell 4 true 3]⟩
def qda : KFn := ⟨
 (.seq (.ops 0 1 [oO 0 2 (.new 3 (.agg [(.bool false), .nilsl, .nilsl]))])
 (.seq (.ops 1 5 [mM 0 3 0, oO 1 4 (.callF qgy [(.t 3)]), oO 2 5 (.callF qdQ [(.c (.int .u64 1))]), oO 3 6 (.build [(.bool false), .nilsl, .nilsl] [(0, 2, (.t 4)), (2, 1, (.t 5))]), sT 4 true 3 2 6]) .ret)),
 [.cell 2 true 3]⟩
def qa3 : KFn := ⟨
 (.seq (.ops 0 4 [oO 0 3 (.box 2 (.t 0)), oO 1 4 (.box 2 (.t 1)), oO 2 5 (.box 2 (.t 2)), oO 3 6 (.mov (.c (.bool false)))])
 (.seq (.ops 4 46 [lO 0 7 true true 2 3, lO 1 8 true true 2 4, lO 2 9 true true 2 5, oO 3 10 (.callF q3W [(.t 7), (.t 8), (.t 9)]), bC 4 11 .eql 10 0, mM 5 12 11, gG 6 13 12 true (.off 0 (.t 3)), gG 7 14 12 true (.load true false 1 (.t 13)), gG 8 15 12 true (.off 0 (.t 4)), gG 9 16 12 true (.load true false 1 (.t 15)), gG 10 17 12 true (.mm false [(.t 14), (.t 16)]), gG 11 18 12 true (.off 0 (.t 5)), gG 12 19 12 true (.load true false 1 (.t 18)), gG 13 20 12 true (.bin .leq .no (.t 17) (.t 19)), oO 14 21 (.pick (.t 12) (.t 20) (.c (.bool false))), mM 15 22 21, gG 16 23 22 true (.off 0 (.t 5)), gG 17 24 22 true (.load true false 1 (.t 23)), gG 18 25 22 true (.off 0 (.t 3)), gG 19 26 22 true (.load true false 1 (.t 25)), gG 20 27 22 true (.off 0 (.t 4)), gG 21 28 22 true (.load true false 1 (.t 27)), gG 22 29 22 true (.mm true [(.t 26), (.t 28)]), gG 23 30 22 true (.bin .leq .no (.t 24) (.t 29)), oO 24 31 (.pick (.t 22) (.t 30) (.c (.bool false))), mM 25 32 31, gG 26 33 32 true (.off 1 (.t 3)), gG 27 34 32 true (.load true false 1 (.t 33)), gG 28 35 32 true (.off 1 (.t 4)), gG 29 36 32 true (.load true false 1 (.t 35)), gG 30 37 32 true (.mm false [(.t 34), (.t 36)]), gG 31 38 32 true (.off 1 (.t 5)), gG 32 39 32 true (.load true false 1 (.t 38)), gG 33 40 32 true (.bin .leq .no (.t 37) (.t 39)), oO 34 41 (.pick (.t 32) (.t 40) (.c (.bool false))), mM 35 42 41, gG 36 43 42 true (.off 1 (.t 5)), gG 37 44 42 true (.load true false 1 (.t 43)), gG 38 45 42 true (.off 1 (.t 3)), gG 39 46 42 true (.load true false 1 (.t 45)), gG 40 47 42 true (.off 1 (.t 4)), gG 41 48 42 true (.load true false 1 (.t 47)), gG 42 49 42 true (.mm true [(.t 46), (.t 48)]), gG 43 50 42 true (.bin .leq .no (.t 44) (.t 49)), oO 44 51 (.pick (.t 42) (.t 50) (.c (.bool false))), mM 45 6 51]) .ret)),
 [.t 6]⟩
def qfp : KFn := ⟨
 (.seq (.ops 0 5 [oO 0 4 (.box 2 (.t 0)), oO 1 5 (.box 2 (.t 1)), oO 2 6 (.box 2 (.t 2)), oO 3 7 (.box 2 (.t 3)), oO 4 8 (.mov (.c (.bool false)))])
 (.seq (.seq
 (.ops 5 22 [lO 0 9 true true 2 4, lO 1 10 true true 2 5, lO 2 11 true true 2 6, oO 3 12 (.callF q2T [(.t 9), (.t 10), (.t 11)]), mM 4 13 12, gG 5 14 13 false (.load true true 2 (.t 4)), gG 6 15 13 false (.load true true 2 (.t 5)), gG 7 16 13 false (.load true true 2 (.t 7)), gG 8 17 13 false (.callF q2T [(.t 14), (.t 15), (.t 16)]), oO 9 18 (.pick (.t 13) (.c (.bool true)) (.t 17)), mM 10 19 18, gG 11 20 19 false (.load true true 2 (.t 6)), gG 12 21 19 false (.load true true 2 (.t 7)), gG 13 22 19 false (.load true true 2 (.t 4)), gG 14 23 19 false (.callF q2T [(.t 20), (.t 21), (.t 22)]), oO 15 24 (.pick (.t 19) (.c (.bool true)) (.t 23)), mM 16 25 24, gG 17 26 25 false (.load true true 2 (.t 6)), gG 18 27 25 false (.load true true 2 (.t 7)), gG 19 28 25 false (.load true true 2 (.t 5)), gG 20 29 25 false (.callF q2T [(.t 26), (.t 27), (.t 28)]), oO 21 30 (.pick (.t 25) (.c (.bool true)) (.t 29))])
 (.cond (.t 30)
 (.seq (.ops 27 1 [oO 0 8 (.mov (.c (.bool true)))]) .ret) .skip))
 (.seq (.ops 28 27 [lB 0 31 0 27 true true 2 4, lB 1 32 0 27 true true 2 5, lB 2 33 0 27 true true 2 6, oB 3 34 7 27 (.callF q3W [(.t 31), (.t 32), (.t 33)]), oB 4 35 15 27 (.callF q7q [(.t 34)]), lB 5 36 0 27 true true 2 4, lB 6 37 0 27 true true 2 5, lB 7 38 0 27 true true 2 7, oB 8 39 255 27 (.callF q3W [(.t 36), (.t 37), (.t 38)]), oB 9 40 511 27 (.callF q7q [(.t 39)]), bT 10 41 .mul 35 40, bC 11 42 .lss 41 0, mM 12 43 42, ⟨13, some 44, some (43, true), (.bef 8191 27), .load true true 2 (.t 6)⟩, ⟨14, some 45, some (43, true), (.bef 8191 27), .load true true 2 (.t 7)⟩, ⟨15, some 46, some (43, true), (.bef 8191 27), .load true true 2 (.t 4)⟩, ⟨16, some 47, some (43, true), (.bef 65535 27), .callF q3W [(.t 44), (.t 45), (.t 46)]⟩, ⟨17, some 48, some (43, true), (.bef 131071 27), .callF q7q [(.t 47)]⟩, ⟨18, some 49, some (43, true), (.bef 8191 27), .load true true 2 (.t 6)⟩, ⟨19, some 50, some (43, true), (.bef 8191 27), .load true true 2 (.t 7)⟩, ⟨20, some 51, some (43, true), (.bef 8191 27), .load true true 2 (.t 5)⟩, ⟨21, some 52, some (43, true), (.bef 2097151 27), .callF q3W [(.t 49), (.t 50), (.t 51)]⟩, ⟨22, some 53, some (43, true), (.bef 4194303 27), .callF q7q [(.t 52)]⟩, gG 23 54 43 true (.bin .mul .no (.t 48) (.t 53)), gG 24 55 43 true (.bin .lss .no (.t 54) (.c (.int .i64 0))), oO 25 56 (.pick (.t 43) (.t 55) (.c (.bool false))), mM 26 8 56]) .ret))),
 [.t 8]⟩
def qjx : KFn := ⟨
 (.seq (.ops 0 2 [oO 0 4 (.new 3 (.agg [(.bool false), .nilsl, .nilsl])), oO 1 5 (.mov (.c (.bool false)))])
 (.seq (.seq
 (.ops 2 2 [mM 0 8 1, bC 1 9 .eql 8 0])
 (.cond (.t 9)
 (.seq (.ops 4 3 [oO 0 10 (.build [(.bool false), .nilsl, .nilsl] []), sT 1 true 3 4 10, oO 2 5 (.mov (.c (.bool false)))]) .ret) .skip))
 (.seq (.ops 7 8 [mM 0 11 0, oO 1 12 (.callF qgy [(.t 11)]), mM 2 13 1, oO 3 14 (.callF qgy [(.t 13)]), oO 4 6 (.new 2 (.agg [(.bool false), .nilsl])), oO 5 7 (.new 2 (.agg [(.bool false), .nilsl])), sT 6 true 2 6 12, sT 7 true 2 7 14])
 (.seq (.ops 15 12 [fO 0 15 0 6, lO 1 16 true false 1 15, fO 2 17 0 7, lO 3 18 true false 1 17, oO 4 19 (.bin .neq .bool (.t 16) (.t 18)), fO 5 20 1 6, lO 6 21 true false 1 20, fO 7 22 1 7, lO 8 23 true false 1 22, oO 9 24 (.callF q5b [(.t 19), (.t 21), (.t 23)]), sT 10 true 3 4 24, oO 11 5 (.mov (.c (.bool true)))]) .ret)))),
 [.cell 4 true 3, .t 5]⟩
def q8e : KFn := ⟨
 (.seq (.ops 8 2 [oO 0 2 (.box 6 (.t 0)), mI 1 4 0])
 (.seq (.seq
 (.ops 10 2 [mM 0 8 1, bC 1 9 .gtr 8 12])
 (.cond (.t 9)
 (.seq (.ops 12 1 [mI 0 4 5]) .ret) .skip))
 (.seq (.seq
 (.ops 13 3 [lO 0 10 true true 6 2, oO 1 11 (.callF qcj [(.t 10)]), oO 2 12 (.un .not (.t 11))])
 (.cond (.t 12)
 (.seq (.ops 16 1 [mI 0 4 1]) .ret) .skip))
 (.seq (.seq
 (.ops 17 4 [fO 0 13 5 2, lO 1 14 true false 1 13, nO 2 15 14, mI 3 16 0])
 (.block 0
 (.loop [(1, 0), (14, 0), (15, 0), (16, 0)]
 (.seq (.ops 21 1 [bT 0 17 .lss 16 15])
 (.seq (.cond (.t 17) .skip
 (.exit 0))
 (.seq (.block 1
 (.seq (.ops 22 4 [xO 0 18 6 14 16, lO 1 19 false true 6 18, oO 2 6 (.new 6 (.agg [(.int .i64 0), (.bool false), .nilsl, .nilsl, (.str ⟨#[]⟩), .nilsl])), sT 3 true 6 6 19])
 (.seq (.ops 26 5 [lO 0 20 true true 6 6, mM 1 21 1, bC 2 22 .add 21 1, oO 3 23 (.callF q8k [(.t 20), (.t 22)]), mM 4 7 23])
 (.seq (.ops 31 2 [mM 0 24 7, bC 1 25 .neq 24 0])
 (.cond (.t 25)
 (.seq (.ops 33 2 [mM 0 26 7, mM 1 4 26]) .ret) .skip)))))
 (.ops 35 2 [bC 0 27 .add 16 1, mM 1 16 27])))))))
 (.seq (.ops 37 1 [mI 0 4 0]) .ret))))),
 [.t 4]⟩
def qho : KFn := ⟨
 (.seq (.ops 0 1 [oO 0 2 (.mov (.c (.bool false)))])
 (.seq (.ops 1 7 [mM 0 3 0, bC 1 4 .gtr 3 1048576, mM 2 5 4, gM 3 6 5 false 0, gG 4 7 5 false (.bin .lss .no (.t 6) (.c (.int .i64 (-1048576)))), oO 5 8 (.pick (.t 5) (.c (.bool true)) (.t 7)), mM 6 2 8]) .ret)),
 [.t 2]⟩
def qa4 : KFn := ⟨
 (.seq (.ops 0 1 [oO 0 2 (.mov (.c (.bool false)))])
 (.seq (.ops 1 9 [mM 0 3 0, nO 1 4 3, bC 2 5 .geq 4 2, mM 3 6 5, gM 4 7 6 true 0, gG 5 8 6 true (.len .sl (.t 7)), gG 6 9 6 true (.bin .leq .no (.t 8) (.c (.int .i64 4))), oO 7 10 (.pick (.t 6) (.t 9) (.c (.bool false))), mM 8 2 10]) .ret)),
 [.t 2]⟩
def qfq : KFn := ⟨
 (.seq (.ops 0 2 [oO 0 4 (.new 3 (.agg [(.bool false), .nilsl, .nilsl])), oO 1 5 (.mov (.c (.bool false)))])
 (.seq (.seq
 (.ops 2 2 [mM 0 8 1, bC 1 9 .eql 8 0])
 (.cond (.t 9)
 (.seq (.ops 4 3 [oO 0 10 (.build [(.bool false), .nilsl, .nilsl] []), sT 1 true 3 4 10, oO 2 5 (.mov (.c (.bool false)))]) .ret) .skip))
 (.seq (.ops 7 8 [mM 0 11 0, oO 1 12 (.callF qbK [(.t 11)]), mM 2 13 1, oO 3 14 (.callF qbK [(.t 13)]), oO 4 6 (.new 2 (.agg [(.bool false), .nilsl])), oO 5 7 (.new 2 (.agg [(.bool false), .nilsl])), sT 6 true 2 6 12, sT 7 true 2 7 14])
 (.seq (.ops 15 7 [fO 0 15 0 6, lO 1 16 true false 1 15, fO 2 17 0 7, lO 3 18 true false 1 17, oO 4 19 (.bin .neq .bool (.t 16) (.t 18)), fO 5 20 0 6, sT 6 true 1 20 19])
 (.seq (.ops 22 6 [lO 0 21 true true 2 6, fO 1 22 1 7, lO 2 23 true false 1 22, oO 3 24 (.callF q3S [(.t 21), (.t 23)]), sT 4 true 3 4 24, oO 5 5 (.mov (.c (.bool true)))]) .ret))))),
 [.cell 4 true 3, .t 5]⟩
def qbp : KFn := ⟨
 (.seq (.ops 0 3 [oO 0 3 (.box 3 (.t 1)), oO 1 4 (.new 6 (.agg [(.bool false), .nilsl, .nilsl, (.bool false), .nilsl, .nilsl])), mI 2 5 0])
 (.seq (.seq
 (.ops 3 3 [mM 0 7 0, oO 1 8 (.callF qan [(.t 7)]), oO 2 9 (.un .not (.t 8))])
 (.cond (.t 9)
 (.seq (.ops 6 3 [oO 0 10 (.build [(.bool false), .nilsl, .nilsl, (.bool false), .nilsl, .nilsl] []), sT 1 true 6 4 10, mI 2 5 1]) .ret) .skip))
 (.seq (.ops 9 4 [mM 0 11 0, lO 1 12 true true 3 3, oO 2 13 (.callF qdR [(.t 11), (.t 12)]), mM 3 6 13])
 (.seq (.ops 13 10 [mM 0 14 6, mM 1 15 6, nO 2 16 15, bC 3 17 .sub 16 1, xO 4 18 1 14 17, lO 5 19 false false 1 18, oO 6 20 (.ixs 6 (.t 19) (.c (.int .i64 0))), lO 7 21 false true 6 20, sT 8 true 6 4 21, mI 9 5 0]) .ret)))),
 [.cell 4 true 6, .t 5]⟩
def qdc : KFn := ⟨
 (.seq (.ops 0 1 [oO 0 2 (.mov (.c (.bool false)))])
 (.seq (.ops 1 9 [mM 0 3 0, nO 1 4 3, bC 2 5 .geq 4 2, mM 3 6 5, gM 4 7 6 true 0, gG 5 8 6 true (.len .sl (.t 7)), gG 6 9 6 true (.bin .leq .no (.t 8) (.c (.int .i64 4))), oO 7 10 (.pick (.t 6) (.t 9) (.c (.bool false))), mM 8 2 10]) .ret)),
 [.t 2]⟩
def qg7 : KFn := ⟨
 (.seq (.ops 6 3 [oO 0 3 (.box 3 (.t 1)), oO 1 4 (.new 6 (.agg [(.bool false), .nilsl, .nilsl, (.bool false), .nilsl, .nilsl])), mI 2 5 0])
 (.seq (.seq
 (.ops 9 3 [mM 0 7 0, oO 1 8 (.callF qdP [(.t 7)]), oO 2 9 (.un .not (.t 8))])
 (.cond (.t 9)
 (.seq (.ops 12 3 [oO 0 10 (.build [(.bool false), .nilsl, .nilsl, (.bool false), .nilsl, .nilsl] []), sT 1 true 6 4 10, mI 2 5 1]) .ret) .skip))
 (.seq (.ops 15 3 [mM 0 11 0, oO 1 12 (.callF qkc [(.t 11)]), mM 2 6 12])
 (.seq (.block 0
 (.loop [(3, 0), (4, 0), (6, 0)]
 (.seq (.seq
 (.ops 18 3 [mM 0 13 6, nO 1 14 13, bC 2 15 .gtr 14 1])
 (.cond (.t 15) .skip
 (.exit 0)))
 (.block 1
 (.ops 21 4 [mM 0 16 6, lO 1 17 true true 3 3, oO 2 18 (.callF qgz [(.t 16), (.t 17)]), mM 3 6 18])))))
 (.seq (.ops 25 5 [mM 0 19 6, oO 1 20 (.ixs 6 (.t 19) (.c (.int .i64 0))), lO 2 21 false true 6 20, sT 3 true 6 4 21, mI 4 5 0]) .ret))))),
 [.cell 4 true 6, .t 5]⟩
def q3I : KFn := ⟨
 (.seq (.ops 0 1 [mI 0 4 0])
 (.seq (.seq
 (.ops 1 2 [mM 0 5 0, bC 1 6 .lss 5 0])
 (.cond (.t 6)
 (.seq (.ops 3 6 [mM 0 7 0, oO 1 8 (.un .neg (.t 7)), mM 2 9 1, oO 3 10 (.callF q2J [(.t 8), (.t 9)]), oO 4 11 (.un .neg (.t 10)), mM 5 4 11]) .ret) .skip))
 (.seq (.ops 9 8 [mM 0 12 0, oO 1 13 (.bin .mul .no (.c (.int .i64 2)) (.t 12)), mM 2 14 1, bT 3 15 .add 13 14, mM 4 16 1, oO 5 17 (.bin .mul .no (.c (.int .i64 2)) (.t 16)), bT 6 18 .quo 15 17, mM 7 4 18]) .ret))),
 [.t 4]⟩
def q3t : KFn := ⟨
 (.seq (.ops 8 2 [oO 0 3 (.box 2 (.t 1)), mI 1 4 0])
 (.seq (.seq
 (.ops 10 3 [mM 0 6 0, nO 1 7 6, mI 2 8 0])
 (.block 0
 (.loop [(0, 0), (3, 0), (7, 0), (8, 0)]
 (.seq (.ops 13 1 [bT 0 9 .lss 8 7])
 (.seq (.cond (.t 9) .skip
 (.exit 0))
 (.seq (.block 1
 (.seq (.ops 14 2 [mM 0 10 8, mM 1 5 10])
 (.seq (.ops 16 6 [lB 0 11 0 6 true true 2 3, mM 1 12 0, mM 2 13 5, xB 3 14 6 6 2 12 13, lB 4 15 14 6 false true 2 14, oO 5 16 (.bin .eql (.flat [.int, .int]) (.t 11) (.t 15))])
 (.cond (.t 16)
 (.seq (.ops 22 2 [mM 0 17 5, mM 1 4 17]) .ret) .skip))))
 (.ops 24 2 [bC 0 18 .add 8 1, mM 1 8 18])))))))
 (.seq (.ops 26 1 [mI 0 4 (-1)]) .ret))),
 [.t 4]⟩
def qbq : KFn := ⟨
 (.seq (.ops 0 4 [oO 0 3 (.box 2 (.t 0)), oO 1 4 (.box 2 (.t 1)), oO 2 5 (.box 2 (.t 2)), oO 3 6 (.mov (.c (.bool false)))])
 (.seq (.ops 4 46 [lO 0 7 true true 2 3, lO 1 8 true true 2 4, lO 2 9 true true 2 5, oO 3 10 (.callF q1Y [(.t 7), (.t 8), (.t 9)]), bC 4 11 .eql 10 0, mM 5 12 11, gG 6 13 12 true (.off 0 (.t 3)), gG 7 14 12 true (.load true false 1 (.t 13)), gG 8 15 12 true (.off 0 (.t 4)), gG 9 16 12 true (.load true false 1 (.t 15)), gG 10 17 12 true (.mm false [(.t 14), (.t 16)]), gG 11 18 12 true (.off 0 (.t 5)), gG 12 19 12 true (.load true false 1 (.t 18)), gG 13 20 12 true (.bin .leq .no (.t 17) (.t 19)), oO 14 21 (.pick (.t 12) (.t 20) (.c (.bool false))), mM 15 22 21, gG 16 23 22 true (.off 0 (.t 5)), gG 17 24 22 true (.load true false 1 (.t 23)), gG 18 25 22 true (.off 0 (.t 3)), gG 19 26 22 true (.load true false 1 (.t 25)), gG 20 27 22 true (.off 0 (.t 4)), gG 21 28 22 true (.load true false 1 (.t 27)), gG 22 29 22 true (.mm true [(.t 26), (.t 28)]), gG 23 30 22 true (.bin .leq .no (.t 24) (.t 29)), oO 24 31 (.pick (.t 22) (.t 30) (.c (.bool false))), mM 25 32 31, gG 26 33 32 true (.off 1 (.t 3)), gG 27 34 32 true (.load true false 1 (.t 33)), gG 28 35 32 true (.off 1 (.t 4)), gG 29 36 32 true (.load true false 1 (.t 35)), gG 30 37 32 true (.mm false [(.t 34), (.t 36)]), gG 31 38 32 true (.off 1 (.t 5)), gG 32 39 32 true (.load true false 1 (.t 38)), gG 33 40 32 true (.bin .leq .no (.t 37) (.t 39)), oO 34 41 (.pick (.t 32) (.t 40) (.c (.bool false))), mM 35 42 41, gG 36 43 42 true (.off 1 (.t 5)), gG 37 44 42 true (.load true false 1 (.t 43)), gG 38 45 42 true (.off 1 (.t 3)), gG 39 46 42 true (.load true false 1 (.t 45)), gG 40 47 42 true (.off 1 (.t 4)), gG 41 48 42 true (.load true false 1 (.t 47)), gG 42 49 42 true (.mm true [(.t 46), (.t 48)]), gG 43 50 42 true (.bin .leq .no (.t 44) (.t 49)), oO 44 51 (.pick (.t 42) (.t 50) (.c (.bool false))), mM 45 6 51]) .ret)),
 [.t 6]⟩
def q7f : KFn := ⟨
 (.seq (.ops 0 5 [oO 0 4 (.box 2 (.t 0)), oO 1 5 (.box 2 (.t 1)), oO 2 6 (.box 2 (.t 2)), oO 3 7 (.box 2 (.t 3)), oO 4 8 (.mov (.c (.bool false)))])
 (.seq (.ops 5 13 [lB 0 9 0 13 true true 2 4, lB 1 10 0 13 true true 2 5, lB 2 11 0 13 true true 2 6, oB 3 12 7 13 (.callF q1Y [(.t 9), (.t 10), (.t 11)]), oB 4 13 15 13 (.callF q2d [(.t 12), (.c (.int .i64 0))]), lB 5 14 0 13 true true 2 4, lB 6 15 0 13 true true 2 5, lB 7 16 0 13 true true 2 7, oB 8 17 255 13 (.callF q1Y [(.t 14), (.t 15), (.t 16)]), oB 9 18 511 13 (.callF q2d [(.t 17), (.c (.int .i64 0))]), bT 10 19 .mul 13 18, bC 11 20 .lss 19 0, mM 12 8 20]) .ret)),
 [.t 8]⟩
def q8X : KFn := ⟨
 (.seq (.ops 0 2 [oO 0 1 (.box 2 (.t 0)), oO 1 2 (.new 2 (.agg [(.bool false), .nilsl]))])
 (.seq (.ops 2 6 [fO 0 3 0 1, lO 1 4 true false 1 3, fO 2 5 1 1, lO 3 6 true false 1 5, oO 4 7 (.callF q1I [(.t 4), (.t 6)]), sT 5 true 2 2 7]) .ret)),
 [.cell 2 true 2]⟩
def qa6 : KFn := ⟨
 (.seq (.ops 0 2 [oO 0 1 (.box 3 (.t 0)), oO 1 2 (.new 3 (.agg [(.bool false), .nilsl, .nilsl]))])
 (.seq (.seq
 (.ops 2 3 [fO 0 3 2 1, lO 1 4 true false 1 3, oO 2 5 (.callF qbI [(.t 4)])])
 (.cond (.t 5)
 (.seq (.ops 5 3 [oO 0 6 (.callF q5d [(.c (.int .u64 1))]), oO 1 7 (.build [(.bool false), .nilsl, .nilsl] [(2, 1, (.t 6))]), sT 2 true 3 2 7]) .ret) .skip))
 (.seq (.ops 8 2 [lO 0 8 true true 3 1, sT 1 true 3 2 8]) .ret))),
 [.cell 2 true 3]⟩
def qa7 : KFn := ⟨
 (.seq (.ops 12 1 [oO 0 4 (.mov (.c .nilsl))])
 (.seq (.ops 13 6 [mM 0 9 0, oO 1 10 (.callF q0P [(.t 9)]), mM 2 11 1, oO 3 12 (.callF q0P [(.t 11)]), mM 4 0 10, mM 5 1 12])
 (.seq (.seq
 (.ops 19 5 [mM 0 13 0, nO 1 14 13, mM 2 15 1, nO 3 16 15, bT 4 17 .lss 14 16])
 (.cond (.t 17)
 (.ops 24 4 [mM 0 18 1, mM 1 19 0, mM 2 0 18, mM 3 1 19]) .skip))
 (.seq (.ops 28 5 [mM 0 20 0, nO 1 21 20, bC 2 22 .add 21 1, oO 3 23 (.mkslice ⟨1, 4, (.int .u32 0)⟩ (.c (.int .i64 0)) (.t 22)), mM 4 5 23])
 (.seq (.ops 33 1 [oO 0 6 (.mov (.c (.int .u64 0)))])
 (.seq (.seq
 (.ops 34 3 [mM 0 24 0, nO 1 25 24, mI 2 26 0])
 (.block 0
 (.loop [(1, 0), (5, 1), (6, 0), (24, 0), (25, 0), (26, 0)]
 (.seq (.ops 37 1 [bT 0 27 .lss 26 25])
 (.seq (.cond (.t 27) .skip
 (.exit 0))
 (.seq (.block 1
 (.seq (.ops 38 5 [mM 0 28 26, xO 1 29 1 24 26, lO 2 30 false false 1 29, mM 3 7 28, mM 4 8 30])
 (.seq (.ops 43 5 [mM 0 31 6, mM 1 32 8, oO 2 33 (.conv (.int .u64) (.t 32)), bT 3 34 .add 31 33, mM 4 6 34])
 (.seq (.seq
 (.ops 48 4 [mM 0 35 7, mM 1 36 1, nO 2 37 36, bT 3 38 .lss 35 37])
 (.cond (.t 38)
 (.ops 52 8 [mM 0 39 6, mM 1 40 1, mM 2 41 7, xO 3 42 1 40 41, lO 4 43 false false 1 42, oO 5 44 (.conv (.int .u64) (.t 43)), bT 6 45 .add 39 44, mM 7 6 45]) .skip))
 (.seq (.ops 60 6 [mM 0 46 5, mM 1 47 6, oO 2 48 (.conv (.int .u32) (.t 47)), oO 3 49 (.buildSlice 1 1 [(.int .u32 0)] [(0, (.t 48))]), oO 4 50 (.append ⟨1, 4, (.int .u32 0)⟩ .sl (.t 46) (.t 49)), mM 5 5 50])
 (.ops 66 3 [mM 0 51 6, oO 1 52 (.bin .shr .no (.t 51) (.c (.int .u64 32))), mM 2 6 52]))))))
 (.ops 69 2 [bC 0 53 .add 26 1, mM 1 26 53])))))))
 (.seq (.ops 71 7 [mM 0 54 5, mM 1 55 6, oO 2 56 (.conv (.int .u32) (.t 55)), oO 3 57 (.buildSlice 1 1 [(.int .u32 0)] [(0, (.t 56))]), oO 4 58 (.append ⟨1, 4, (.int .u32 0)⟩ .sl (.t 54) (.t 57)), oO 5 59 (.callF q0P [(.t 58)]), mM 6 4 59]) .ret))))))),
 [.t 4]⟩
def q7g : KFn := ⟨
 (.seq (.ops 12 3 [oO 0 4 (.mov (.c .nilsl)), oO 1 5 (.mov (.c .nilsl)), oO 2 6 (.mov (.c (.bool false)))])
 (.seq (.ops 15 6 [mM 0 15 0, oO 1 16 (.callF q0P [(.t 15)]), mM 2 17 1, oO 3 18 (.callF q0P [(.t 17)]), mM 4 0 16, mM 5 1 18])
 (.seq (.block 0
 (.seq (.ops 21 4 [mM 0 20 1, nO 1 21 20, bC 2 22 .eql 21 0, mM 3 19 22])
 (.cond (.t 19)
 (.seq (.ops 25 3 [oO 0 4 (.mov (.c .nilsl)), oO 1 5 (.mov (.c .nilsl)), oO 2 6 (.mov (.c (.bool false)))]) .ret)
 (.seq (.ops 28 5 [mM 0 24 0, mM 1 25 1, oO 2 26 (.callF q2t [(.t 24), (.t 25)]), bC 3 27 .lss 26 0, mM 4 23 27])
 (.cond (.t 23)
 (.seq (.ops 33 5 [mM 0 28 0, oO 1 29 (.callF q4S [(.t 28)]), oO 2 4 (.mov (.c .nilsl)), mM 3 5 29, oO 4 6 (.mov (.c (.bool true)))]) .ret)
 (.seq (.ops 38 4 [mM 0 31 1, nO 1 32 31, bC 2 33 .eql 32 1, mM 3 30 33])
 (.cond (.t 30)
 (.seq (.ops 42 10 [mM 0 35 0, mM 1 36 1, oO 2 37 (.ixs 1 (.t 36) (.c (.int .i64 0))), lO 3 38 false false 1 37, oO 4 39 (.callF qck [(.t 35), (.t 38)]), mM 5 34 39, eO 6 40 34 0, eO 7 41 34 1, mM 8 7 40, mM 9 8 41])
 (.seq (.ops 52 7 [mM 0 42 7, mM 1 43 8, oO 2 44 (.conv (.int .u64) (.t 43)), oO 3 45 (.callF q5d [(.t 44)]), mM 4 4 42, mM 5 5 45, oO 6 6 (.mov (.c (.bool true)))]) .ret)) .skip)))))))
 (.seq (.ops 59 3 [mM 0 46 1, nO 1 47 46, mM 2 9 47])
 (.seq (.ops 62 7 [mM 0 48 1, mM 1 49 9, bC 2 50 .sub 49 1, xO 3 51 1 48 50, lO 4 52 false false 1 51, oO 5 53 (.callF q73 [(.t 52)]), mM 6 10 53])
 (.seq (.ops 69 10 [mM 0 54 0, mM 1 55 10, oB 2 56 3 10 (.callF qdS [(.t 54), (.t 55)]), mM 3 57 1, mM 4 58 10, oB 5 59 31 10 (.callF qdS [(.t 57), (.t 58)]), mM 6 60 9, oB 7 61 127 10 (.slsl 1 (.t 59) none (some (.t 60)) none), mM 8 11 56, mM 9 12 61])
 (.seq (.ops 181 6 [mM 0 62 11, nO 1 63 62, mM 2 64 9, bT 3 65 .sub 63 64, oO 4 66 (.mkslice ⟨1, 4, (.int .u32 0)⟩ (.t 65) (.t 65)), mM 5 13 66])
 (.seq (.seq
 (.ops 187 4 [mM 0 67 13, nO 1 68 67, bC 2 69 .sub 68 1, mM 3 14 69])
 (.block 1
 (.loop [(9, 0), (10, 0), (11, 0), (12, 0), (13, 0), (14, 0)]
 (.seq (.seq
 (.ops 191 2 [mM 0 70 14, bC 1 71 .geq 70 0])
 (.cond (.t 71) .skip
 (.exit 1)))
 (.seq (.block 2
 (.ops 193 13 [mM 0 74 13, mM 1 75 14, mM 2 76 11, mM 3 77 14, mM 4 78 14, mM 5 79 9, bT 6 80 .add 78 79, bC 7 81 .add 80 1, oO 8 82 (.slsl 1 (.t 76) (some (.t 77)) (some (.t 81)) none), mM 9 83 12, oO 10 84 (.callF qj1 [(.t 82), (.t 83)]), xO 11 85 1 74 75, sT 12 false 1 85 84]))
 (.ops 401 3 [mM 0 72 14, bC 1 73 .sub 72 1, mM 2 14 73]))))))
 (.seq (.ops 404 10 [mM 0 86 13, oB 1 87 1 10 (.callF q0P [(.t 86)]), mM 2 88 11, mM 3 89 9, oB 4 90 12 10 (.slsl 1 (.t 88) none (some (.t 89)) none), mM 5 91 10, oB 6 92 63 10 (.callF qcl [(.t 90), (.t 91)]), mM 7 4 87, mM 8 5 92, oO 9 6 (.mov (.c (.bool true)))]) .ret))))))))),
 [.t 4, .t 5, .t 6]⟩
def qfs : KFn := ⟨
 (.seq (.ops 0 1 [mI 0 2 0])
 (.seq (.cond (.c (.bool false))
 (.seq (.ops 1 4 [mM 0 3 0, oO 1 4 (.conv (.int .u32) (.t 3)), oO 2 5 (.callF qbL [(.t 4)]), mM 3 2 5]) .ret) .skip)
 (.seq (.ops 5 3 [mM 0 6 0, oO 1 7 (.callF qgA [(.t 6)]), mM 2 2 7]) .ret))),
 [.t 2]⟩
def qbr : KFn := ⟨
 (.seq (.ops 0 1 [oO 0 2 (.mov (.c (.bool false)))])
 (.seq (.ops 1 4 [mM 0 3 0, oO 1 4 (.callF q2t [(.t 3), (.c .nilsl)]), bC 2 5 .eql 4 0, mM 3 2 5]) .ret)),
 [.t 2]⟩
def qa8 : KFn := ⟨
 (.seq (.ops 22 1 [oO 0 4 (.mov (.c .nilsl))])
 (.seq (.ops 23 6 [mM 0 11 0, oO 1 12 (.callF q0P [(.t 11)]), mM 2 13 1, oO 3 14 (.callF q0P [(.t 13)]), mM 4 0 12, mM 5 1 14])
 (.seq (.ops 29 7 [mM 0 15 0, nO 1 16 15, mM 2 17 1, nO 3 18 17, bT 4 19 .add 16 18, oO 5 20 (.mkslice ⟨1, 4, (.int .u32 0)⟩ (.t 19) (.t 19)), mM 6 5 20])
 (.seq (.seq
 (.ops 36 3 [mM 0 21 0, nO 1 22 21, mI 2 23 0])
 (.block 0
 (.loop [(1, 0), (5, 0), (21, 0), (22, 0), (23, 0)]
 (.seq (.ops 39 1 [bT 0 24 .lss 23 22])
 (.seq (.cond (.t 24) .skip
 (.exit 0))
 (.seq (.block 1
 (.seq (.ops 40 5 [mM 0 25 23, xO 1 26 1 21 23, lO 2 27 false false 1 26, mM 3 6 25, mM 4 7 27])
 (.seq (.ops 45 1 [oO 0 8 (.mov (.c (.int .u64 0)))])
 (.seq (.seq
 (.ops 46 3 [mM 0 28 1, nO 1 29 28, mI 2 30 0])
 (.block 2
 (.loop [(1, 0), (5, 0), (6, 0), (7, 0), (8, 0), (21, 0), (22, 0), (23, 0), (28, 0), (29, 0), (30, 0)]
 (.seq (.ops 49 1 [bT 0 31 .lss 30 29])
 (.seq (.cond (.t 31) .skip
 (.exit 2))
 (.seq (.block 3
 (.seq (.ops 50 5 [mM 0 32 30, xO 1 33 1 28 30, lO 2 34 false false 1 33, mM 3 9 32, mM 4 10 34])
 (.seq (.ops 55 16 [mM 0 35 8, mM 1 36 7, oO 2 37 (.conv (.int .u64) (.t 36)), mM 3 38 10, oO 4 39 (.conv (.int .u64) (.t 38)), bT 5 40 .mul 37 39, mM 6 41 5, mM 7 42 6, mM 8 43 9, bT 9 44 .add 42 43, xO 10 45 1 41 44, lO 11 46 false false 1 45, oO 12 47 (.conv (.int .u64) (.t 46)), bT 13 48 .add 40 47, bT 14 49 .add 35 48, mM 15 8 49])
 (.seq (.ops 71 8 [mM 0 50 5, mM 1 51 6, mM 2 52 9, bT 3 53 .add 51 52, mM 4 54 8, oO 5 55 (.conv (.int .u32) (.t 54)), xO 6 56 1 50 53, sT 7 false 1 56 55])
 (.ops 79 3 [mM 0 57 8, oO 1 58 (.bin .shr .no (.t 57) (.c (.int .u64 32))), mM 2 8 58])))))
 (.ops 82 2 [bC 0 59 .add 30 1, mM 1 30 59])))))))
 (.ops 84 9 [mM 0 60 5, mM 1 61 6, mM 2 62 1, nO 3 63 62, bT 4 64 .add 61 63, mM 5 65 8, oO 6 66 (.conv (.int .u32) (.t 65)), xO 7 67 1 60 64, sT 8 false 1 67 66])))))
 (.ops 93 2 [bC 0 68 .add 23 1, mM 1 23 68])))))))
 (.seq (.ops 95 3 [mM 0 69 5, oO 1 70 (.callF q0P [(.t 69)]), mM 2 4 70]) .ret))))),
 [.t 4]⟩
def q8Y : KFn := ⟨
 (.seq (.ops 0 2 [oO 0 2 (.box 2 (.t 0)), oO 1 4 (.new 3 (.agg [(.bool false), .nilsl, .nilsl]))])
 (.seq (.ops 2 5 [fO 0 12 1 2, lO 1 13 true false 1 12, mM 2 14 1, oO 3 15 (.callF qeY [(.t 13), (.t 14)]), mM 4 5 15])
 (.seq (.ops 7 11 [fO 0 17 1 2, lO 1 18 true false 1 17, mM 2 19 5, oO 3 20 (.callF q3R [(.t 18), (.t 19)]), mM 4 16 20, eO 5 21 16 0, eO 6 22 16 1, eO 7 23 16 2, mM 8 6 21, mM 9 7 22, mM 10 8 23])
 (.seq (.ops 18 10 [mM 0 25 1, mM 1 26 5, oO 2 27 (.callF q3R [(.t 25), (.t 26)]), mM 3 24 27, eO 4 28 24 0, eO 5 29 24 1, eO 6 30 24 2, mM 7 9 28, mM 8 10 29, mM 9 11 30])
 (.seq (.ops 28 8 [fO 0 31 0 2, lO 1 32 true false 1 31, mM 2 33 6, oO 3 34 (.build [(.bool false), .nilsl] [(0, 1, (.t 32)), (1, 1, (.t 33))]), oO 4 35 (.callF q3Q [(.t 34)]), mM 5 36 9, oO 6 37 (.build [(.bool false), .nilsl, .nilsl] [(0, 2, (.t 35)), (2, 1, (.t 36))]), sT 7 true 3 4 37]) .ret))))),
 [.cell 4 true 3]⟩
def qdd : KFn := ⟨
 (.seq (.ops 0 3 [oO 0 2 (.box 3 (.t 0)), oO 1 3 (.box 3 (.t 1)), oO 2 4 (.new 3 (.agg [(.bool false), .nilsl, .nilsl]))])
 (.seq (.ops 3 6 [lB 0 5 0 6 true true 3 2, oB 1 6 1 6 (.callF q1W [(.t 5)]), lB 2 7 0 6 true true 3 3, oB 3 8 7 6 (.callF q1W [(.t 7)]), ⟨4, none, none, (.bef 15 6), .store true 3 (.t 2) (.t 6)⟩, ⟨5, none, none, (.bef 31 6), .store true 3 (.t 3) (.t 8)⟩])
 (.seq (.ops 9 12 [fO 0 9 0 2, lB 1 10 1 12 true true 2 9, fO 2 11 0 3, lB 3 12 4 12 true true 2 11, oB 4 13 15 12 (.callF q4t [(.t 10), (.t 12)]), fO 5 14 2 2, lB 6 15 32 12 true false 1 14, fO 7 16 2 3, lB 8 17 128 12 true false 1 16, oB 9 18 511 12 (.callF q4s [(.t 15), (.t 17)]), oB 10 19 1023 12 (.callF q3S [(.t 13), (.t 18)]), ⟨11, none, none, (.bef 2047 12), .store true 3 (.t 4) (.t 19)⟩]) .ret))),
 [.cell 4 true 3]⟩
def qde : KFn := ⟨
 (.seq (.ops 0 3 [oO 0 2 (.box 6 (.t 0)), oO 1 3 (.box 6 (.t 1)), oO 2 4 (.new 6 (.agg [(.bool false), .nilsl, .nilsl, (.bool false), .nilsl, .nilsl]))])
 (.seq (.ops 3 12 [fO 0 5 0 2, lB 1 6 1 12 true true 3 5, fO 2 7 0 3, lB 3 8 4 12 true true 3 7, oB 4 9 15 12 (.callF q9M [(.t 6), (.t 8)]), fO 5 10 3 2, lB 6 11 32 12 true true 3 10, fO 7 12 3 3, lB 8 13 128 12 true true 3 12, oB 9 14 511 12 (.callF q9M [(.t 11), (.t 13)]), oO 10 15 (.build [(.bool false), .nilsl, .nilsl, (.bool false), .nilsl, .nilsl] [(0, 3, (.t 9)), (3, 3, (.t 14))]), ⟨11, none, none, (.bef 2047 12), .store true 6 (.t 4) (.t 15)⟩]) .ret)),
 [.cell 4 true 6]⟩
def qa9 : KFn := ⟨
 (.seq (.ops 0 3 [oO 0 2 (.box 6 (.t 0)), oO 1 3 (.box 3 (.t 1)), oO 2 4 (.new 6 (.agg [(.bool false), .nilsl, .nilsl, (.bool false), .nilsl, .nilsl]))])
 (.seq (.ops 3 10 [fO 0 5 0 2, lB 1 6 1 10 true true 3 5, lB 2 7 0 10 true true 3 3, oB 3 8 7 10 (.callF q6r [(.t 6), (.t 7)]), fO 4 9 3 2, lB 5 10 16 10 true true 3 9, lB 6 11 0 10 true true 3 3, oB 7 12 127 10 (.callF q6r [(.t 10), (.t 11)]), oO 8 13 (.build [(.bool false), .nilsl, .nilsl, (.bool false), .nilsl, .nilsl] [(0, 3, (.t 8)), (3, 3, (.t 12))]), ⟨9, none, none, (.bef 511 10), .store true 6 (.t 4) (.t 13)⟩]) .ret)),
 [.cell 4 true 6]⟩
def qdf : KFn := ⟨
 (.seq (.ops 0 3 [oO 0 2 (.box 3 (.t 0)), oO 1 3 (.box 3 (.t 1)), oO 2 4 (.new 3 (.agg [(.bool false), .nilsl, .nilsl]))])
 (.seq (.ops 3 6 [lB 0 6 0 6 true true 3 2, oB 1 7 1 6 (.callF q1W [(.t 6)]), lB 2 8 0 6 true true 3 3, oB 3 9 7 6 (.callF q1W [(.t 8)]), ⟨4, none, none, (.bef 15 6), .store true 3 (.t 2) (.t 7)⟩, ⟨5, none, none, (.bef 31 6), .store true 3 (.t 3) (.t 9)⟩])
 (.seq (.ops 9 15 [fO 0 10 0 2, lB 1 11 1 15 true true 2 10, fO 2 12 2 3, lB 3 13 4 15 true false 1 12, oB 4 14 12 15 (.callF q3T [(.t 13)]), oB 5 15 31 15 (.callF q4t [(.t 11), (.t 14)]), fO 6 16 0 3, lB 7 17 64 15 true true 2 16, fO 8 18 2 2, lB 9 19 256 15 true false 1 18, oB 10 20 831 15 (.callF q3T [(.t 19)]), oB 11 21 2047 15 (.callF q4t [(.t 17), (.t 20)]), oB 12 22 4095 15 (.callF qeZ [(.t 15), (.t 21)]), oB 13 5 0 15 (.new 2 (.agg [(.bool false), .nilsl])), ⟨14, none, none, (.init 13), .store true 2 (.t 5) (.t 22)⟩])
 (.seq (.ops 24 8 [lB 0 23 0 8 true true 2 5, fO 1 24 2 2, lB 2 25 2 8 true false 1 24, fO 3 26 2 3, lB 4 27 8 8 true false 1 26, oB 5 28 30 8 (.callF q4s [(.t 25), (.t 27)]), oB 6 29 63 8 (.callF q3S [(.t 23), (.t 28)]), ⟨7, none, none, (.bef 127 8), .store true 3 (.t 4) (.t 29)⟩]) .ret)))),
 [.cell 4 true 3]⟩
def qdg : KFn := ⟨
 (.seq (.ops 0 2 [oO 0 1 (.box 3 (.t 0)), oO 1 2 (.new 3 (.agg [(.bool false), .nilsl, .nilsl]))])
 (.seq (.ops 2 3 [lO 0 3 true true 3 1, oO 1 4 (.callF q1W [(.t 3)]), sT 2 true 3 1 4])
 (.seq (.ops 5 7 [fO 0 5 0 1, lB 1 6 1 7 true true 2 5, oB 2 7 3 7 (.callF qf0 [(.t 6)]), fO 3 8 2 1, lB 4 9 8 7 true false 1 8, oB 5 10 31 7 (.callF q3S [(.t 7), (.t 9)]), ⟨6, none, none, (.bef 63 7), .store true 3 (.t 2) (.t 10)⟩]) .ret))),
 [.cell 2 true 3]⟩
def qft : KFn := ⟨
 (.seq (.ops 0 2 [oO 0 1 (.box 3 (.t 0)), oO 1 2 (.mov (.c (.bool false)))])
 (.seq (.ops 2 14 [fO 0 3 0 1, fO 1 4 1 3, lO 2 5 true false 1 4, oO 3 6 (.callF q2e [(.t 5)]), nO 4 7 6, bC 5 8 .eql 7 0, mM 6 9 8, gG 7 10 9 false (.off 2 (.t 1)), gG 8 11 9 false (.load true false 1 (.t 10)), gG 9 12 9 false (.callF q2e [(.t 11)]), gG 10 13 9 false (.len .sl (.t 12)), gG 11 14 9 false (.bin .eql .no (.t 13) (.c (.int .i64 0))), oO 12 15 (.pick (.t 9) (.c (.bool true)) (.t 14)), mM 13 2 15]) .ret)),
 [.t 2]⟩
def qfu : KFn := ⟨
 (.seq (.ops 0 2 [oO 0 1 (.box 3 (.t 0)), oO 1 2 (.new 3 (.agg [(.bool false), .nilsl, .nilsl]))])
 (.seq (.seq
 (.ops 2 2 [lO 0 3 true true 3 1, oO 1 4 (.callF qfL [(.t 3)])])
 (.cond (.t 4)
 (.seq (.ops 4 2 [oO 0 5 (.callF qdO [(.c (.int .i64 0))]), sT 1 true 3 2 5]) .ret) .skip))
 (.seq (.ops 6 10 [fO 0 6 0 1, fO 1 7 0 6, lO 2 8 true false 1 7, fO 3 9 0 1, fO 4 10 1 9, lO 5 11 true false 1 10, fO 6 12 2 1, lO 7 13 true false 1 12, oO 8 14 (.callF q5b [(.t 8), (.t 11), (.t 13)]), sT 9 true 3 2 14]) .ret))),
 [.cell 2 true 3]⟩
def qbs : KFn := ⟨
 (.seq (.ops 0 1 [oO 0 6 (.new 3 (.agg [(.bool false), .nilsl, .nilsl]))])
 (.seq (.ops 1 4 [mM 0 14 1, mM 1 15 2, oO 2 16 (.callF qmk [(.t 14), (.t 15)]), mM 3 7 16])
 (.seq (.ops 5 10 [mM 0 18 1, mM 1 19 7, oO 2 20 (.callF q6P [(.t 18), (.t 19)]), mM 3 17 20, eO 4 21 17 0, eO 5 22 17 1, eO 6 23 17 2, mM 7 8 21, mM 8 9 22, mM 9 10 23])
 (.seq (.ops 15 10 [mM 0 25 2, mM 1 26 7, oO 2 27 (.callF q6P [(.t 25), (.t 26)]), mM 3 24 27, eO 4 28 24 0, eO 5 29 24 1, eO 6 30 24 2, mM 7 11 28, mM 8 12 29, mM 9 13 30])
 (.seq (.ops 25 7 [mM 0 31 0, mM 1 32 8, oO 2 33 (.build [(.bool false), .nilsl] [(0, 1, (.t 31)), (1, 1, (.t 32))]), oO 3 34 (.callF qbJ [(.t 33)]), mM 4 35 11, oO 5 36 (.build [(.bool false), .nilsl, .nilsl] [(0, 2, (.t 34)), (2, 1, (.t 35))]), sT 6 true 3 6 36]) .ret))))),
 [.cell 6 true 3]⟩
def qhp : KFn := ⟨
 (.seq (.ops 12 1 [oO 0 4 (.mov (.c .nilsl))])
 (.seq (.ops 13 7 [mM 0 10 0, nO 1 11 10, mM 2 12 1, nO 3 13 12, bT 4 14 .add 11 13, oO 5 15 (.mkslice ⟨1, 4, (.int .u32 0)⟩ (.t 14) (.t 14)), mM 6 5 15])
 (.seq (.seq
 (.ops 20 1 [mI 0 6 0])
 (.block 0
 (.loop [(0, 0), (1, 0), (5, 0), (6, 0)]
 (.seq (.seq
 (.ops 21 4 [mM 0 16 6, mM 1 17 0, nO 2 18 17, bT 3 19 .lss 16 18])
 (.cond (.t 19) .skip
 (.exit 0)))
 (.seq (.block 1
 (.seq (.ops 25 1 [oO 0 7 (.mov (.c (.int .u64 0)))])
 (.seq (.seq
 (.ops 26 1 [mI 0 8 0])
 (.block 2
 (.loop [(0, 0), (1, 0), (5, 0), (6, 0), (7, 0), (8, 0)]
 (.seq (.seq
 (.ops 27 4 [mM 0 22 8, mM 1 23 1, nO 2 24 23, bT 3 25 .lss 22 24])
 (.cond (.t 25) .skip
 (.exit 2)))
 (.seq (.block 3
 (.seq (.ops 31 16 [mM 0 28 0, mM 1 29 6, oO 2 30 (.callF q23 [(.t 28), (.t 29)]), mM 3 31 1, mM 4 32 8, oO 5 33 (.callF q23 [(.t 31), (.t 32)]), bT 6 34 .mul 30 33, mM 7 35 5, mM 8 36 6, mM 9 37 8, bT 10 38 .add 36 37, oO 11 39 (.callF q23 [(.t 35), (.t 38)]), bT 12 40 .add 34 39, mM 13 41 7, bT 14 42 .add 40 41, mM 15 9 42])
 (.seq (.ops 47 9 [mM 0 43 5, mM 1 44 6, mM 2 45 8, bT 3 46 .add 44 45, mM 4 47 9, oO 5 48 (.bin .rem .no (.t 47) (.c (.int .u64 4294967296))), oO 6 49 (.conv (.int .u32) (.t 48)), xO 7 50 1 43 46, sT 8 false 1 50 49])
 (.ops 56 3 [mM 0 51 9, oO 1 52 (.bin .quo .no (.t 51) (.c (.int .u64 4294967296))), mM 2 7 52]))))
 (.ops 59 3 [mM 0 26 8, bC 1 27 .add 26 1, mM 2 8 27]))))))
 (.ops 62 9 [mM 0 53 5, mM 1 54 6, mM 2 55 1, nO 3 56 55, bT 4 57 .add 54 56, mM 5 58 7, oO 6 59 (.conv (.int .u32) (.t 58)), xO 7 60 1 53 57, sT 8 false 1 60 59]))))
 (.ops 71 3 [mM 0 20 6, bC 1 21 .add 20 1, mM 2 6 21]))))))
 (.seq (.ops 74 3 [mM 0 61 5, oO 1 62 (.callF q2e [(.t 61)]), mM 2 4 62]) .ret)))),
 [.t 4]⟩
def qhq : KFn := ⟨
 (.seq (.ops 0 3 [oO 0 2 (.box 3 (.t 0)), oO 1 3 (.box 3 (.t 1)), oO 2 4 (.new 3 (.agg [(.bool false), .nilsl, .nilsl]))])
 (.seq (.ops 3 8 [lB 0 7 0 8 true true 3 2, oB 1 8 1 8 (.callF q33 [(.t 7)]), lB 2 9 0 8 true true 3 3, oB 3 10 7 8 (.callF q33 [(.t 9)]), oB 4 5 0 8 (.new 3 (.agg [(.bool false), .nilsl, .nilsl])), oB 5 6 0 8 (.new 3 (.agg [(.bool false), .nilsl, .nilsl])), ⟨6, none, none, (.init 4), .store true 3 (.t 5) (.t 8)⟩, ⟨7, none, none, (.init 5), .store true 3 (.t 6) (.t 10)⟩])
 (.seq (.ops 11 21 [fO 0 11 0 5, fO 1 12 0 11, lB 2 13 3 21 true false 1 12, fO 3 14 0 6, fO 4 15 0 14, lB 5 16 24 21 true false 1 15, oO 6 17 (.bin .neq .bool (.t 13) (.t 16)), fO 7 18 0 5, fO 8 19 1 18, lB 9 20 384 21 true false 1 19, fO 10 21 0 6, fO 11 22 1 21, lB 12 23 3072 21 true false 1 22, oB 13 24 8064 21 (.callF q5c [(.t 20), (.t 23)]), fO 14 25 2 5, lB 15 26 16384 21 true false 1 25, fO 16 27 2 6, lB 17 28 65536 21 true false 1 27, oB 18 29 262016 21 (.callF q5c [(.t 26), (.t 28)]), oB 19 30 524287 21 (.callF q5b [(.t 17), (.t 24), (.t 29)]), ⟨20, none, none, (.bef 1048575 21), .store true 3 (.t 4) (.t 30)⟩]) .ret))),
 [.cell 4 true 3]⟩
def qhr : KFn := ⟨
 (.seq (.ops 0 3 [oO 0 2 (.box 6 (.t 0)), oO 1 3 (.box 6 (.t 1)), oO 2 4 (.new 6 (.agg [(.bool false), .nilsl, .nilsl, (.bool false), .nilsl, .nilsl]))])
 (.seq (.ops 3 12 [fO 0 5 0 2, lB 1 6 1 12 true true 3 5, fO 2 7 0 3, lB 3 8 4 12 true true 3 7, oB 4 9 15 12 (.callF qeA [(.t 6), (.t 8)]), fO 5 10 3 2, lB 6 11 32 12 true true 3 10, fO 7 12 3 3, lB 8 13 128 12 true true 3 12, oB 9 14 511 12 (.callF qeA [(.t 11), (.t 13)]), oO 10 15 (.build [(.bool false), .nilsl, .nilsl, (.bool false), .nilsl, .nilsl] [(0, 3, (.t 9)), (3, 3, (.t 14))]), ⟨11, none, none, (.bef 2047 12), .store true 6 (.t 4) (.t 15)⟩]) .ret)),
 [.cell 4 true 6]⟩
def qdh : KFn := ⟨
 (.seq (.ops 0 3 [oO 0 2 (.box 6 (.t 0)), oO 1 3 (.box 3 (.t 1)), oO 2 4 (.new 6 (.agg [(.bool false), .nilsl, .nilsl, (.bool false), .nilsl, .nilsl]))])
 (.seq (.ops 3 10 [fO 0 5 0 2, lB 1 6 1 10 true true 3 5, lB 2 7 0 10 true true 3 3, oB 3 8 7 10 (.callF qaR [(.t 6), (.t 7)]), fO 4 9 3 2, lB 5 10 16 10 true true 3 9, lB 6 11 0 10 true true 3 3, oB 7 12 127 10 (.callF qaR [(.t 10), (.t 11)]), oO 8 13 (.build [(.bool false), .nilsl, .nilsl, (.bool false), .nilsl, .nilsl] [(0, 3, (.t 8)), (3, 3, (.t 12))]), ⟨9, none, none, (.bef 511 10), .store true 6 (.t 4) (.t 13)⟩]) .ret)),
 [.cell 4 true 6]⟩
def qfv : KFn := ⟨
 (.seq (.ops 0 2 [oO 0 1 (.box 2 (.t 0)), oO 1 2 (.new 2 (.agg [(.bool false), .nilsl]))])
 (.seq (.ops 2 6 [fO 0 3 0 1, lO 1 4 true false 1 3, fO 2 5 1 1, lO 3 6 true false 1 5, oO 4 7 (.callF q4T [(.t 4), (.t 6)]), sT 5 true 2 2 7]) .ret)),
 [.cell 2 true 2]⟩
def qjy : KFn := ⟨
 (.seq (.ops 4 1 [oO 0 2 (.mov (.c .nilsl))])
 (.seq (.ops 5 1 [oO 0 3 (.mov (.c .nilsl))])
 (.seq (.block 0
 (.loop [(0, 0), (3, 1)]
 (.seq (.seq
 (.ops 6 2 [mM 0 4 0, oO 1 5 (.bin .gtr .no (.t 4) (.c (.int .u64 0)))])
 (.cond (.t 5) .skip
 (.exit 0)))
 (.block 1
 (.seq (.ops 8 7 [mM 0 6 3, mM 1 7 0, oO 2 8 (.bin .rem .no (.t 7) (.c (.int .u64 4294967296))), oO 3 9 (.conv (.int .u32) (.t 8)), oO 4 10 (.buildSlice 1 1 [(.int .u32 0)] [(0, (.t 9))]), oO 5 11 (.append ⟨1, 4, (.int .u32 0)⟩ .sl (.t 6) (.t 10)), mM 6 3 11])
 (.ops 15 3 [mM 0 12 0, oO 1 13 (.bin .quo .no (.t 12) (.c (.int .u64 4294967296))), mM 2 0 13]))))))
 (.seq (.ops 18 2 [mM 0 14 3, mM 1 2 14]) .ret)))),
 [.t 2]⟩
def qbt : KFn := ⟨
 (.seq (.ops 8 3 [oO 0 4 (.mov (.c .nilsl)), oO 1 5 (.mov (.c .nilsl)), oO 2 6 (.mov (.c (.bool false)))])
 (.seq (.seq
 (.ops 11 3 [mM 0 14 1, oO 1 15 (.callF qbM [(.t 14)]), bC 2 16 .eql 15 0])
 (.cond (.t 16)
 (.seq (.ops 14 3 [oO 0 4 (.mov (.c .nilsl)), oO 1 5 (.mov (.c .nilsl)), oO 2 6 (.mov (.c (.bool false)))]) .ret) .skip))
 (.seq (.ops 17 3 [mM 0 17 0, oO 1 18 (.callF q2e [(.t 17)]), mM 2 7 18])
 (.seq (.ops 20 6 [mM 0 19 7, oO 1 20 (.callF qbM [(.t 19)]), mM 2 21 1, oO 3 22 (.callF qbM [(.t 21)]), bT 4 23 .sub 20 22, mM 5 8 23])
 (.seq (.seq
 (.ops 26 2 [mM 0 24 8, bC 1 25 .lss 24 0])
 (.cond (.t 25)
 (.seq (.ops 28 4 [mM 0 26 7, oO 1 4 (.mov (.c .nilsl)), mM 2 5 26, oO 3 6 (.mov (.c (.bool true)))]) .ret) .skip))
 (.seq (.ops 32 5 [mM 0 27 8, bC 1 28 .quo 27 32, bC 2 29 .add 28 1, oO 3 30 (.mkslice ⟨1, 4, (.int .u32 0)⟩ (.t 29) (.t 29)), mM 4 9 30])
 (.seq (.ops 37 4 [mM 0 31 1, mM 1 32 8, oO 2 33 (.callF qix [(.t 31), (.t 32)]), mM 3 10 33])
 (.seq (.seq
 (.ops 41 2 [mM 0 34 8, mM 1 11 34])
 (.block 0
 (.loop [(7, 0), (9, 0), (10, 0), (11, 0)]
 (.seq (.seq
 (.ops 43 2 [mM 0 35 11, bC 1 36 .geq 35 0])
 (.cond (.t 36) .skip
 (.exit 0)))
 (.seq (.block 1
 (.seq (.ops 45 8 [mM 0 40 7, mM 1 41 10, oO 2 42 (.callF qeB [(.t 40), (.t 41)]), mM 3 39 42, eO 4 43 39 0, eO 5 44 39 1, mM 6 12 43, mM 7 13 44])
 (.seq (.seq
 (.ops 53 1 [mM 0 45 13])
 (.cond (.t 45)
 (.seq (.ops 54 2 [mM 0 46 12, mM 1 7 46])
 (.ops 56 15 [mM 0 47 9, mM 1 48 11, bC 2 49 .quo 48 32, mM 3 50 9, mM 4 51 11, bC 5 52 .quo 51 32, xO 6 53 1 50 52, lO 7 54 false false 1 53, mM 8 55 11, bC 9 56 .rem 55 32, oO 10 57 (.conv (.int .u64) (.t 56)), oO 11 58 (.bin .shl .no (.c (.int .u32 1)) (.t 57)), bT 12 59 .add 54 58, xO 13 60 1 47 49, sT 14 false 1 60 59])) .skip))
 (.ops 71 3 [mM 0 61 10, oO 1 62 (.callF qke [(.t 61)]), mM 2 10 62]))))
 (.ops 74 3 [mM 0 37 11, bC 1 38 .sub 37 1, mM 2 11 38]))))))
 (.seq (.ops 77 6 [mM 0 63 9, oO 1 64 (.callF q2e [(.t 63)]), mM 2 65 7, mM 3 4 64, mM 4 5 65, oO 5 6 (.mov (.c (.bool true)))]) .ret))))))))),
 [.t 4, .t 5, .t 6]⟩
def qhs : KFn := ⟨
 (.seq (.ops 10 1 [oO 0 4 (.mov (.c .nilsl))])
 (.seq (.ops 11 1 [oO 0 5 (.mov (.c .nilsl))])
 (.seq (.ops 12 1 [oO 0 6 (.mov (.c (.int .u64 0)))])
 (.seq (.seq
 (.ops 13 1 [mI 0 7 0])
 (.block 0
 (.loop [(0, 0), (1, 0), (5, 1), (6, 0), (7, 0)]
 (.seq (.seq
 (.ops 14 11 [mM 0 9 7, mM 1 10 0, nO 2 11 10, mM 3 12 1, nO 4 13 12, oO 5 14 (.mm true [(.t 11), (.t 13)]), bT 6 15 .lss 9 14, mM 7 16 15, gM 8 17 16 false 6, gG 9 18 16 false (.bin .gtr .no (.t 17) (.c (.int .u64 0))), oO 10 19 (.pick (.t 16) (.c (.bool true)) (.t 18))])
 (.cond (.t 19) .skip
 (.exit 0)))
 (.seq (.block 1
 (.seq (.ops 25 10 [mM 0 22 0, mM 1 23 7, oO 2 24 (.callF q23 [(.t 22), (.t 23)]), mM 3 25 1, mM 4 26 7, oO 5 27 (.callF q23 [(.t 25), (.t 26)]), bT 6 28 .add 24 27, mM 7 29 6, bT 8 30 .add 28 29, mM 9 8 30])
 (.seq (.ops 35 7 [mM 0 31 5, mM 1 32 8, oO 2 33 (.bin .rem .no (.t 32) (.c (.int .u64 4294967296))), oO 3 34 (.conv (.int .u32) (.t 33)), oO 4 35 (.buildSlice 1 1 [(.int .u32 0)] [(0, (.t 34))]), oO 5 36 (.append ⟨1, 4, (.int .u32 0)⟩ .sl (.t 31) (.t 35)), mM 6 5 36])
 (.ops 42 3 [mM 0 37 8, oO 1 38 (.bin .quo .no (.t 37) (.c (.int .u64 4294967296))), mM 2 6 38]))))
 (.ops 45 3 [mM 0 20 7, bC 1 21 .add 20 1, mM 2 7 21]))))))
 (.seq (.ops 48 3 [mM 0 39 5, oO 1 40 (.callF q2e [(.t 39)]), mM 2 4 40]) .ret))))),
 [.t 4]⟩
def qht : KFn := ⟨
 (.seq (.ops 0 3 [oO 0 2 (.box 3 (.t 0)), oO 1 3 (.box 3 (.t 1)), oO 2 4 (.new 3 (.agg [(.bool false), .nilsl, .nilsl]))])
 (.seq (.ops 3 8 [lB 0 8 0 8 true true 3 2, oB 1 9 1 8 (.callF q33 [(.t 8)]), lB 2 10 0 8 true true 3 3, oB 3 11 7 8 (.callF q33 [(.t 10)]), oB 4 5 0 8 (.new 3 (.agg [(.bool false), .nilsl, .nilsl])), oB 5 6 0 8 (.new 3 (.agg [(.bool false), .nilsl, .nilsl])), ⟨6, none, none, (.init 4), .store true 3 (.t 5) (.t 9)⟩, ⟨7, none, none, (.init 5), .store true 3 (.t 6) (.t 11)⟩])
 (.seq (.ops 11 15 [fO 0 12 0 5, lB 1 13 1 15 true true 2 12, fO 2 14 2 6, lB 3 15 4 15 true false 1 14, oO 4 16 (.build [(.bool false), .nilsl] [(1, 1, (.t 15))]), oB 5 17 31 15 (.callF qhQ [(.t 13), (.t 16)]), fO 6 18 0 6, lB 7 19 64 15 true true 2 18, fO 8 20 2 5, lB 9 21 256 15 true false 1 20, oO 10 22 (.build [(.bool false), .nilsl] [(1, 1, (.t 21))]), oB 11 23 2047 15 (.callF qhQ [(.t 19), (.t 22)]), oB 12 24 4095 15 (.callF qml [(.t 17), (.t 23)]), oB 13 7 0 15 (.new 2 (.agg [(.bool false), .nilsl])), ⟨14, none, none, (.init 13), .store true 2 (.t 7) (.t 24)⟩])
 (.seq (.ops 26 11 [fO 0 25 0 7, lB 1 26 1 11 true false 1 25, fO 2 27 1 7, lB 3 28 4 11 true false 1 27, fO 4 29 2 5, lB 5 30 16 11 true false 1 29, fO 6 31 2 6, lB 7 32 64 11 true false 1 31, oB 8 33 240 11 (.callF q5c [(.t 30), (.t 32)]), oB 9 34 511 11 (.callF q5b [(.t 26), (.t 28), (.t 33)]), ⟨10, none, none, (.bef 1023 11), .store true 3 (.t 4) (.t 34)⟩]) .ret)))),
 [.cell 4 true 3]⟩
def qhu : KFn := ⟨
 (.seq (.ops 0 2 [oO 0 1 (.box 3 (.t 0)), oO 1 2 (.new 3 (.agg [(.bool false), .nilsl, .nilsl]))])
 (.seq (.ops 2 4 [lO 0 4 true true 3 1, oO 1 5 (.callF q33 [(.t 4)]), oO 2 3 (.new 3 (.agg [(.bool false), .nilsl, .nilsl])), sT 3 true 3 3 5])
 (.seq (.ops 6 7 [fO 0 6 0 3, lB 1 7 1 7 true true 2 6, oB 2 8 3 7 (.callF qmm [(.t 7)]), fO 3 9 2 3, lB 4 10 8 7 true false 1 9, oO 5 11 (.build [(.bool false), .nilsl, .nilsl] [(0, 2, (.t 8)), (2, 1, (.t 10))]), ⟨6, none, none, (.bef 63 7), .store true 3 (.t 2) (.t 11)⟩]) .ret))),
 [.cell 2 true 3]⟩
def qjz : KFn := ⟨
 (.seq (.ops 0 1 [oO 0 2 (.new 2 (.agg [(.bool false), .nilsl]))])
 (.seq (.seq
 (.ops 1 2 [mM 0 3 0, bC 1 4 .lss 3 0])
 (.cond (.t 4)
 (.seq (.ops 3 8 [mM 0 5 0, bC 1 6 .add 5 1, oO 2 7 (.un .neg (.t 6)), oO 3 8 (.conv (.int .u64) (.t 7)), oO 4 9 (.bin .add .no (.t 8) (.c (.int .u64 1))), oO 5 10 (.callF qdQ [(.t 9)]), oO 6 11 (.build [(.bool false), .nilsl] [(0, 1, (.c (.bool true))), (1, 1, (.t 10))]), sT 7 true 2 2 11]) .ret) .skip))
 (.seq (.ops 11 5 [mM 0 12 0, oO 1 13 (.conv (.int .u64) (.t 12)), oO 2 14 (.callF qdQ [(.t 13)]), oO 3 15 (.build [(.bool false), .nilsl] [(1, 1, (.t 14))]), sT 4 true 2 2 15]) .ret))),
 [.cell 2 true 2]⟩
def qdi : KFn := ⟨
 (.seq (.ops 0 4 [oO 0 3 (.box 2 (.t 0)), oO 1 4 (.box 2 (.t 1)), oO 2 5 (.box 2 (.t 2)), mI 3 6 0])
 (.seq (.ops 4 24 [fO 0 7 0 4, lO 1 8 true false 1 7, fO 2 9 0 3, lO 3 10 true false 1 9, bT 4 11 .sub 8 10, fO 5 12 1 5, lO 6 13 true false 1 12, fO 7 14 1 3, lO 8 15 true false 1 14, bT 9 16 .sub 13 15, bT 10 17 .mul 11 16, fO 11 18 1 4, lO 12 19 true false 1 18, fO 13 20 1 3, lO 14 21 true false 1 20, bT 15 22 .sub 19 21, fO 16 23 0 5, lO 17 24 true false 1 23, fO 18 25 0 3, lO 19 26 true false 1 25, bT 20 27 .sub 24 26, bT 21 28 .mul 22 27, bT 22 29 .sub 17 28, mM 23 6 29]) .ret)),
 [.t 6]⟩
def qfw : KFn := ⟨
 (.seq (.ops 0 1 [mI 0 2 0])
 (.seq (.block 0
 (.seq (.ops 1 3 [mM 0 4 0, bC 1 5 .gtr 4 0, mM 2 3 5])
 (.cond (.t 3)
 (.seq (.ops 4 1 [mI 0 2 1]) .ret)
 (.seq (.ops 5 3 [mM 0 7 0, bC 1 8 .lss 7 0, mM 2 6 8])
 (.cond (.t 6)
 (.seq (.ops 8 1 [mI 0 2 (-1)]) .ret) .skip)))))
 (.seq (.ops 9 1 [mI 0 2 0]) .ret))),
 [.t 2]⟩
def q8f : KFn := ⟨
 (.seq (.ops 0 2 [oO 0 1 (.box 6 (.t 0)), oO 1 2 (.mov (.c (.bool false)))])
 (.seq (.ops 2 8 [fO 0 8 0 1, lO 1 9 true false 1 8, oO 2 10 (.callF q6g [(.t 9)]), mM 3 7 10, eO 4 11 7 0, eO 5 12 7 1, mM 6 3 11, mM 7 4 12])
 (.seq (.seq
 (.ops 10 12 [fO 0 13 5 1, lO 1 14 true false 1 13, nO 2 15 14, mM 3 16 3, bT 4 17 .lss 15 16, mM 5 18 17, gG 6 19 18 false (.off 5 (.t 1)), gG 7 20 18 false (.load true false 1 (.t 19)), gG 8 21 18 false (.len .sl (.t 20)), gM 9 22 18 false 4, gG 10 23 18 false (.bin .gtr .no (.t 21) (.t 22)), oO 11 24 (.pick (.t 18) (.c (.bool true)) (.t 23))])
 (.cond (.t 24)
 (.seq (.ops 22 1 [oO 0 2 (.mov (.c (.bool false)))]) .ret) .skip))
 (.seq (.seq
 (.ops 23 3 [fO 0 25 0 1, lO 1 26 true false 1 25, bC 2 27 .eql 26 2])
 (.cond (.t 27)
 (.seq (.ops 26 4 [fO 0 28 4 1, lO 1 29 true false 1 28, oO 2 30 (.callF q7r [(.t 29)]), oO 3 31 (.un .not (.t 30))])
 (.cond (.t 31)
 (.seq (.ops 30 1 [oO 0 2 (.mov (.c (.bool false)))]) .ret) .skip))
 (.seq (.ops 31 3 [fO 0 32 4 1, lO 1 33 true false 1 32, oO 2 34 (.bin .neq .no (.t 33) (.c (.str ⟨#[]⟩)))])
 (.cond (.t 34)
 (.seq (.ops 34 1 [oO 0 2 (.mov (.c (.bool false)))]) .ret) .skip))))
 (.seq (.seq
 (.ops 35 3 [fO 0 35 0 1, lO 1 36 true false 1 35, bC 2 37 .eql 36 1])
 (.cond (.t 37)
 (.seq (.ops 38 8 [fO 0 39 1 1, lO 1 40 true true 3 39, oO 2 41 (.callF qfM [(.t 40)]), mM 3 38 41, eO 4 42 38 0, eO 5 43 38 1, mM 6 5 42, mM 7 6 43])
 (.seq (.ops 46 2 [mM 0 44 6, mM 1 2 44]) .ret)) .skip))
 (.seq (.ops 48 6 [fO 0 45 1 1, lO 1 46 true true 3 45, oO 2 47 (.build [(.bool false), .nilsl, .nilsl] []), oO 3 48 (.callF q9N [(.t 46), (.t 47)]), bC 4 49 .eql 48 0, mM 5 2 49]) .ret)))))),
 [.t 2]⟩
def qbu : KFn := ⟨
 (.seq (.ops 0 1 [oO 0 2 (.new 2 (.agg [(.bool false), .nilsl]))])
 (.seq (.seq
 (.ops 1 2 [mM 0 3 0, bC 1 4 .lss 3 0])
 (.cond (.t 4)
 (.seq (.ops 3 6 [mM 0 5 0, oO 1 6 (.conv (.int .u64) (.t 5)), oO 2 7 (.un .neg (.t 6)), oO 3 8 (.callF q5d [(.t 7)]), oO 4 9 (.callF q1I [(.c (.bool true)), (.t 8)]), sT 5 true 2 2 9]) .ret) .skip))
 (.seq (.ops 9 5 [mM 0 10 0, oO 1 11 (.conv (.int .u64) (.t 10)), oO 2 12 (.callF q5d [(.t 11)]), oO 3 13 (.callF q1I [(.c (.bool false)), (.t 12)]), sT 4 true 2 2 13]) .ret))),
 [.cell 2 true 2]⟩
def q8Z : KFn := ⟨
 (.seq (.ops 12 2 [oO 0 3 (.box 3 (.t 1)), oO 1 4 (.mov (.c .nilsl))])
 (.seq (.ops 14 3 [mM 0 8 0, oO 1 9 (.buildSlice 1 1 [.nilsl] [(0, (.t 8))]), mM 2 5 9])
 (.seq (.block 0
 (.loop [(0, 0), (3, 0), (5, 1)]
 (.seq (.seq
 (.ops 17 3 [mM 0 10 0, nO 1 11 10, bC 2 12 .gtr 11 1])
 (.cond (.t 12) .skip
 (.exit 0)))
 (.block 1
 (.seq (.ops 20 5 [mM 0 13 0, nO 1 14 13, bC 2 15 .sub 14 1, oO 3 16 (.mkslice ⟨6, 112, (.agg [(.bool false), .nilsl, .nilsl, (.bool false), .nilsl, .nilsl])⟩ (.t 15) (.t 15)), mM 4 6 16])
 (.seq (.seq
 (.ops 25 3 [mM 0 17 6, nO 1 18 17, mI 2 19 0])
 (.block 2
 (.loop [(0, 0), (3, 0), (5, 0), (6, 0), (18, 0), (19, 0)]
 (.seq (.ops 28 1 [bT 0 20 .lss 19 18])
 (.seq (.cond (.t 20) .skip
 (.exit 2))
 (.seq (.block 3
 (.seq (.ops 29 2 [mM 0 21 19, mM 1 7 21])
 (.ops 31 15 [mM 0 22 6, mM 1 23 7, mM 2 24 0, mM 3 25 7, xB 4 26 12 15 6 24 25, lB 5 27 28 15 false true 6 26, mM 6 28 0, mM 7 29 7, bC 8 30 .add 29 1, xB 9 31 448 15 6 28 30, lB 10 32 960 15 false true 6 31, lB 11 33 0 15 true true 3 3, oB 12 34 4092 15 (.callF qfK [(.t 27), (.t 32), (.t 33)]), xB 13 35 8191 15 6 22 23, ⟨14, none, none, (.bef 16383 15), .store false 6 (.t 35) (.t 34)⟩])))
 (.ops 46 2 [bC 0 36 .add 19 1, mM 1 19 36])))))))
 (.seq (.ops 48 5 [mM 0 37 5, mM 1 38 6, oO 2 39 (.buildSlice 1 1 [.nilsl] [(0, (.t 38))]), oO 3 40 (.append ⟨1, 24, .nilsl⟩ .sl (.t 37) (.t 39)), mM 4 5 40])
 (.ops 53 2 [mM 0 41 6, mM 1 0 41]))))))))
 (.seq (.ops 55 2 [mM 0 42 5, mM 1 4 42]) .ret)))),
 [.t 4]⟩
def qfx : KFn := ⟨
 (.seq (.ops 6 1 [oO 0 2 (.mov (.c .nilsl))])
 (.seq (.ops 7 1 [oO 0 3 (.mov (.c .nilsl))])
 (.seq (.seq
 (.ops 8 1 [mI 0 4 0])
 (.block 0
 (.loop [(0, 0), (3, 6), (4, 0)]
 (.seq (.seq
 (.ops 9 4 [mM 0 5 4, mM 1 6 0, nO 2 7 6, bT 3 8 .lss 5 7])
 (.cond (.t 8) .skip
 (.exit 0)))
 (.seq (.block 1
 (.ops 13 17 [mM 0 11 3, mM 1 12 0, mM 2 13 4, xB 3 14 6 17 6 12 13, fO 4 15 0 14, lB 5 16 30 17 false true 3 15, oB 6 17 62 17 (.callF q33 [(.t 16)]), mM 7 18 0, mM 8 19 4, xB 9 20 384 17 6 18 19, fO 10 21 3 20, lB 11 22 1920 17 false true 3 21, oB 12 23 4094 17 (.callF q33 [(.t 22)]), oO 13 24 (.build [(.bool false), .nilsl, .nilsl, (.bool false), .nilsl, .nilsl] [(0, 3, (.t 17)), (3, 3, (.t 23))]), oB 14 25 16382 17 (.buildSlice 6 1 [(.agg [(.bool false), .nilsl, .nilsl, (.bool false), .nilsl, .nilsl])] [(0, (.t 24))]), ⟨15, some 26, none, (.bef 32767 17), .append ⟨6, 112, (.agg [(.bool false), .nilsl, .nilsl, (.bool false), .nilsl, .nilsl])⟩ .sl (.t 11) (.t 25)⟩, mM 16 3 26]))
 (.ops 30 3 [mM 0 9 4, bC 1 10 .add 9 1, mM 2 4 10]))))))
 (.seq (.ops 33 2 [mM 0 27 3, mM 1 2 27]) .ret)))),
 [.t 2]⟩
def qbv : KFn := ⟨
 (.seq (.ops 8 2 [oO 0 3 (.box 3 (.t 1)), oO 1 4 (.mov (.c .nilsl))])
 (.seq (.ops 10 1 [oO 0 5 (.mov (.c .nilsl))])
 (.seq (.seq
 (.ops 11 1 [mI 0 6 0])
 (.block 0
 (.loop [(0, 0), (3, 0), (5, 6), (6, 0)]
 (.seq (.seq
 (.ops 12 5 [mM 0 7 6, bC 1 8 .add 7 1, mM 2 9 0, nO 3 10 9, bT 4 11 .lss 8 10])
 (.cond (.t 11) .skip
 (.exit 0)))
 (.seq (.block 1
 (.ops 17 15 [mM 0 14 5, mM 1 15 0, mM 2 16 6, xB 3 17 6 15 6 15 16, lB 4 18 14 15 false true 6 17, mM 5 19 0, mM 6 20 6, bC 7 21 .add 20 1, xB 8 22 224 15 6 19 21, lB 9 23 480 15 false true 6 22, lB 10 24 0 15 true true 3 3, oB 11 25 2046 15 (.callF qk6 [(.t 18), (.t 23), (.t 24)]), oB 12 26 4094 15 (.buildSlice 6 1 [(.agg [(.bool false), .nilsl, .nilsl, (.bool false), .nilsl, .nilsl])] [(0, (.t 25))]), ⟨13, some 27, none, (.bef 8191 15), .append ⟨6, 112, (.agg [(.bool false), .nilsl, .nilsl, (.bool false), .nilsl, .nilsl])⟩ .sl (.t 14) (.t 26)⟩, mM 14 5 27]))
 (.ops 32 3 [mM 0 12 6, bC 1 13 .add 12 1, mM 2 6 13]))))))
 (.seq (.ops 35 2 [mM 0 28 5, mM 1 4 28]) .ret)))),
 [.t 4]⟩
def q7h : KFn := ⟨
 (.seq (.ops 0 1 [oO 0 4 (.new 2 (.agg [(.bool false), .nilsl]))])
 (.seq (.ops 1 3 [mM 0 5 1, oO 1 6 (.callF q4S [(.t 5)]), mM 2 1 6])
 (.seq (.ops 4 9 [mM 0 7 0, mM 1 8 7, gM 2 9 8 true 1, gG 3 10 8 true (.len .sl (.t 9)), gG 4 11 8 true (.bin .gtr .no (.t 10) (.c (.int .i64 0))), oO 5 12 (.pick (.t 8) (.t 11) (.c (.bool false))), mM 6 13 1, oO 7 14 (.build [(.bool false), .nilsl] [(0, 1, (.t 12)), (1, 1, (.t 13))]), sT 8 true 2 4 14]) .ret))),
 [.cell 4 true 2]⟩
def qbw : KFn := ⟨
 (.seq (.ops 0 1 [oO 0 2 (.mov (.c .nilsl))])
 (.seq (.ops 1 8 [mM 0 3 0, oO 1 4 (.conv (.int .u32) (.t 3)), mM 2 5 0, oO 3 6 (.bin .shr .no (.t 5) (.c (.int .u64 32))), oO 4 7 (.conv (.int .u32) (.t 6)), oO 5 8 (.buildSlice 1 2 [(.int .u32 0), (.int .u32 0)] [(0, (.t 4)), (1, (.t 7))]), oO 6 9 (.callF q0P [(.t 8)]), mM 7 2 9]) .ret)),
 [.t 2]⟩
def q90 : KFn := ⟨
 (.seq (.ops 4 1 [oO 0 2 (.mov (.c .nilsl))])
 (.seq (.ops 5 3 [mM 0 4 0, nO 1 5 4, mM 2 3 5])
 (.seq (.block 0
 (.loop [(0, 0), (3, 0)]
 (.seq (.seq
 (.ops 8 10 [mM 0 6 3, bC 1 7 .gtr 6 0, mM 2 8 7, gM 3 9 8 true 0, gM 4 10 8 true 3, gG 5 11 8 true (.bin .sub .no (.t 10) (.c (.int .i64 1))), gG 6 12 8 true (.ixs 1 (.t 9) (.t 11)), gG 7 13 8 true (.load false false 1 (.t 12)), gG 8 14 8 true (.bin .eql .no (.t 13) (.c (.int .u32 0))), oO 9 15 (.pick (.t 8) (.t 14) (.c (.bool false)))])
 (.cond (.t 15) .skip
 (.exit 0)))
 (.block 1
 (.ops 18 3 [mM 0 16 3, bC 1 17 .sub 16 1, mM 2 3 17])))))
 (.seq (.ops 21 4 [mM 0 18 0, mM 1 19 3, oO 2 20 (.slsl 1 (.t 18) none (some (.t 19)) none), mM 3 2 20]) .ret)))),
 [.t 2]⟩
def qaa : KFn := ⟨
 (.seq (.ops 6 1 [mI 0 4 0])
 (.seq (.ops 7 6 [mM 0 8 0, oO 1 9 (.callF q0P [(.t 8)]), mM 2 10 1, oO 3 11 (.callF q0P [(.t 10)]), mM 4 0 9, mM 5 1 11])
 (.seq (.seq
 (.ops 13 6 [mM 0 12 0, nO 1 13 12, mM 2 14 1, nO 3 15 14, oO 4 16 (.callF q2d [(.t 13), (.t 15)]), mM 5 5 16])
 (.seq (.ops 19 2 [mM 0 17 5, bC 1 18 .neq 17 0])
 (.cond (.t 18)
 (.seq (.ops 21 2 [mM 0 19 5, mM 1 4 19]) .ret) .skip)))
 (.seq (.seq
 (.ops 23 4 [mM 0 20 0, nO 1 21 20, bC 2 22 .sub 21 1, mM 3 6 22])
 (.block 0
 (.loop [(0, 0), (1, 0), (6, 0)]
 (.seq (.seq
 (.ops 27 2 [mM 0 23 6, bC 1 24 .geq 23 0])
 (.cond (.t 24) .skip
 (.exit 0)))
 (.seq (.block 1
 (.seq (.ops 29 10 [mM 0 27 0, mM 1 28 6, xB 2 29 3 10 1 27 28, lB 3 30 7 10 false false 1 29, mM 4 31 1, mM 5 32 6, xB 6 33 48 10 1 31 32, lB 7 34 112 10 false false 1 33, oB 8 35 255 10 (.callF q7U [(.t 30), (.t 34)]), mM 9 7 35])
 (.seq (.ops 39 2 [mM 0 36 7, bC 1 37 .neq 36 0])
 (.cond (.t 37)
 (.seq (.ops 41 2 [mM 0 38 7, mM 1 4 38]) .ret) .skip))))
 (.ops 43 3 [mM 0 25 6, bC 1 26 .sub 25 1, mM 2 6 26]))))))
 (.seq (.ops 46 1 [mI 0 4 0]) .ret))))),
 [.t 4]⟩
def q91 : KFn := ⟨
 (.seq (.ops 0 1 [oO 0 2 (.mov (.c .nilsl))])
 (.seq (.ops 1 3 [mM 0 4 0, oO 1 5 (.callF q0P [(.t 4)]), mM 2 0 5])
 (.seq (.ops 4 4 [mM 0 6 0, nO 1 7 6, oO 2 8 (.mkslice ⟨1, 4, (.int .u32 0)⟩ (.t 7) (.t 7)), mM 3 3 8])
 (.seq (.ops 8 3 [mM 0 9 3, mM 1 10 0, oO 2 11 (.copy 1 (.t 9) (.t 10))])
 (.seq (.ops 11 2 [mM 0 12 3, mM 1 2 12]) .ret))))),
 [.t 2]⟩
def q8g : KFn := ⟨
 (.seq (.ops 10 2 [oO 0 4 (.mov (.c .nilsl)), oO 1 5 (.mov (.c (.int .u32 0)))])
 (.seq (.ops 12 4 [mM 0 9 0, nO 1 10 9, oO 2 11 (.mkslice ⟨1, 4, (.int .u32 0)⟩ (.t 10) (.t 10)), mM 3 6 11])
 (.seq (.ops 16 1 [oO 0 7 (.mov (.c (.int .u64 0)))])
 (.seq (.seq
 (.ops 17 4 [mM 0 12 0, nO 1 13 12, bC 2 14 .sub 13 1, mM 3 8 14])
 (.block 0
 (.loop [(0, 0), (1, 0), (6, 0), (7, 0), (8, 0)]
 (.seq (.seq
 (.ops 21 2 [mM 0 15 8, bC 1 16 .geq 15 0])
 (.cond (.t 16) .skip
 (.exit 0)))
 (.seq (.block 1
 (.seq (.ops 23 9 [mM 0 19 7, oO 1 20 (.bin .shl .no (.t 19) (.c (.int .u64 32))), mM 2 21 0, mM 3 22 8, xO 4 23 1 21 22, lO 5 24 false false 1 23, oO 6 25 (.conv (.int .u64) (.t 24)), bT 7 26 .or 20 25, mM 8 7 26])
 (.seq (.ops 32 9 [mM 0 27 6, mM 1 28 8, mM 2 29 7, mM 3 30 1, oO 4 31 (.conv (.int .u64) (.t 30)), bT 5 32 .quo 29 31, oO 6 33 (.conv (.int .u32) (.t 32)), xO 7 34 1 27 28, sT 8 false 1 34 33])
 (.ops 41 5 [mM 0 35 7, mM 1 36 1, oO 2 37 (.conv (.int .u64) (.t 36)), bT 3 38 .rem 35 37, mM 4 7 38]))))
 (.ops 46 3 [mM 0 17 8, bC 1 18 .sub 17 1, mM 2 8 18]))))))
 (.seq (.ops 49 6 [mM 0 39 6, oO 1 40 (.callF q0P [(.t 39)]), mM 2 41 7, oO 3 42 (.conv (.int .u32) (.t 41)), mM 4 4 40, mM 5 5 42]) .ret))))),
 [.t 4, .t 5]⟩
def q4y : KFn := ⟨
 (.seq (.ops 0 1 [mI 0 2 0])
 (.seq (.ops 1 4 [mM 0 3 0, oO 1 4 (.callF qbL [(.t 3)]), oO 2 5 (.bin .sub .no (.c (.int .i64 32)) (.t 4)), mM 3 2 5]) .ret)),
 [.t 2]⟩
def k_natural_left : KFn := ⟨
 (.seq (.ops 10 1 [oO 0 4 (.mov (.c .nilsl))])
 (.seq (.ops 11 5 [mM 0 9 0, nO 1 10 9, bC 2 11 .add 10 1, oO 3 12 (.mkslice ⟨1, 4, (.int .u32 0)⟩ (.t 11) (.t 11)), mM 4 5 12])
 (.seq (.seq
 (.ops 16 3 [mM 0 13 0, nO 1 14 13, mI 2 15 0])
 (.block 0
 (.loop [(1, 0), (5, 0), (13, 0), (14, 0), (15, 0)]
 (.seq (.ops 19 1 [bT 0 16 .lss 15 14])
 (.seq (.cond (.t 16) .skip
 (.exit 0))
 (.seq (.block 1
 (.seq (.ops 20 5 [mM 0 17 15, xO 1 18 1 13 15, lO 2 19 false false 1 18, mM 3 6 17, mM 4 7 19])
 (.seq (.ops 25 5 [mM 0 20 7, oO 1 21 (.conv (.int .u64) (.t 20)), mM 2 22 1, bT 3 23 .shl 21 22, mM 4 8 23])
 (.seq (.ops 30 9 [mM 0 24 5, mM 1 25 6, xO 2 26 1 24 25, lO 3 27 false false 1 26, mM 4 28 8, oO 5 29 (.conv (.int .u32) (.t 28)), bT 6 30 .or 27 29, xO 7 31 1 24 25, sT 8 false 1 31 30])
 (.ops 39 8 [mM 0 32 5, mM 1 33 6, bC 2 34 .add 33 1, mM 3 35 8, oO 4 36 (.bin .shr .no (.t 35) (.c (.int .u64 32))), oO 5 37 (.conv (.int .u32) (.t 36)), xO 6 38 1 32 34, sT 7 false 1 38 37])))))
 (.ops 47 2 [bC 0 39 .add 15 1, mM 1 15 39])))))))
 (.seq (.ops 49 2 [mM 0 40 5, mM 1 4 40]) .ret)))),
 [.t 4]⟩
def k_natural_digit : KFn := ⟨
 (.seq (.ops 18 1 [oO 0 4 (.mov (.c (.int .u32 0)))])
 (.seq (.ops 19 3 [mM 0 18 1, nO 1 19 18, mM 2 5 19])
 (.seq (.ops 22 21 [mM 0 20 0, mM 1 21 5, xB 2 22 3 21 1 20 21, lB 3 23 7 21 false false 1 22, oB 4 24 15 21 (.conv (.int .u64) (.t 23)), oO 5 25 (.bin .shl .no (.t 24) (.c (.int .u64 32))), mM 6 26 0, mM 7 27 5, bC 8 28 .sub 27 1, xB 9 29 448 21 1 26 28, lB 10 30 960 21 false false 1 29, oB 11 31 1984 21 (.conv (.int .u64) (.t 30)), bT 12 32 .or 25 31, mM 13 33 1, mM 14 34 5, bC 15 35 .sub 34 1, xB 16 36 57344 21 1 33 35, lB 17 37 122880 21 false false 1 36, oB 18 38 253952 21 (.conv (.int .u64) (.t 37)), mM 19 6 32, mM 20 7 38])
 (.seq (.ops 43 8 [mM 0 39 6, mM 1 40 7, bT 2 41 .quo 39 40, mM 3 42 6, mM 4 43 7, bT 5 44 .rem 42 43, mM 6 8 41, mM 7 9 44])
 (.seq (.block 0
 (.loop [(0, 0), (1, 0), (5, 0), (7, 0), (8, 0), (9, 0)]
 (.seq (.seq
 (.ops 51 26 [mM 0 45 9, oO 1 46 (.bin .lss .no (.t 45) (.c (.int .u64 4294967296))), mM 2 47 46, gM 3 48 47 true 8, gG 4 49 47 true (.bin .geq .no (.t 48) (.c (.int .u64 4294967296))), gM 5 50 47 true 49, gM 6 51 50 false 8, gM 7 52 50 false 1, gM 8 53 50 false 5, gG 9 54 50 false (.bin .sub .no (.t 53) (.c (.int .i64 2))), ⟨10, some 55, some (50, false), (.bef 959 26), .ixs 1 (.t 52) (.t 54)⟩, ⟨11, some 56, some (50, false), (.bef 1983 26), .load false false 1 (.t 55)⟩, ⟨12, some 57, some (50, false), (.bef 4031 26), .conv (.int .u64) (.t 56)⟩, gG 13 58 50 false (.bin .mul .no (.t 51) (.t 57)), gM 14 59 50 false 9, gG 15 60 50 false (.bin .shl .no (.t 59) (.c (.int .u64 32))), gM 16 61 50 false 0, gM 17 62 50 false 5, gG 18 63 50 false (.bin .sub .no (.t 62) (.c (.int .i64 2))), ⟨19, some 64, some (50, false), (.bef 458815 26), .ixs 1 (.t 61) (.t 63)⟩, ⟨20, some 65, some (50, false), (.bef 983103 26), .load false false 1 (.t 64)⟩, ⟨21, some 66, some (50, false), (.bef 2031679 26), .conv (.int .u64) (.t 65)⟩, gG 22 67 50 false (.bin .or .no (.t 60) (.t 66)), gG 23 68 50 false (.bin .gtr .no (.t 58) (.t 67)), gG 24 69 47 true (.pick (.t 50) (.c (.bool true)) (.t 68)), oO 25 70 (.pick (.t 47) (.t 69) (.c (.bool false)))])
 (.cond (.t 70) .skip
 (.exit 0)))
 (.block 1
 (.seq (.ops 77 3 [mM 0 71 8, oO 1 72 (.bin .sub .no (.t 71) (.c (.int .u64 1))), mM 2 8 72])
 (.ops 80 4 [mM 0 73 9, mM 1 74 7, bT 2 75 .add 73 74, mM 3 9 75]))))))
 (.seq (.ops 84 2 [oO 0 10 (.mov (.c (.int .u64 0))), oO 1 11 (.mov (.c (.int .u64 0)))])
 (.seq (.seq
 (.ops 86 3 [mM 0 76 1, nO 1 77 76, mI 2 78 0])
 (.block 2
 (.loop [(0, 0), (1, 0), (5, 0), (8, 0), (10, 0), (11, 0), (76, 0), (77, 0), (78, 0)]
 (.seq (.ops 89 1 [bT 0 79 .lss 78 77])
 (.seq (.cond (.t 79) .skip
 (.exit 2))
 (.seq (.block 3
 (.seq (.ops 90 5 [mM 0 80 78, xO 1 81 1 76 78, lO 2 82 false false 1 81, mM 3 12 80, mM 4 13 82])
 (.seq (.ops 95 7 [mM 0 83 10, mM 1 84 8, mM 2 85 13, oO 3 86 (.conv (.int .u64) (.t 85)), bT 4 87 .mul 84 86, bT 5 88 .add 83 87, mM 6 10 88])
 (.seq (.ops 102 12 [mM 0 89 0, mM 1 90 12, xO 2 91 1 89 90, lO 3 92 false false 1 91, oO 4 93 (.conv (.int .u64) (.t 92)), mM 5 94 10, oO 6 95 (.conv (.int .u32) (.t 94)), oO 7 96 (.conv (.int .u64) (.t 95)), bT 8 97 .sub 93 96, mM 9 98 11, bT 10 99 .sub 97 98, mM 11 14 99])
 (.seq (.ops 114 6 [mM 0 100 0, mM 1 101 12, mM 2 102 14, oO 3 103 (.conv (.int .u32) (.t 102)), xO 4 104 1 100 101, sT 5 false 1 104 103])
 (.seq (.ops 120 3 [mM 0 105 14, oO 1 106 (.bin .shr .no (.t 105) (.c (.int .u64 63))), mM 2 11 106])
 (.ops 123 3 [mM 0 107 10, oO 1 108 (.bin .shr .no (.t 107) (.c (.int .u64 32))), mM 2 10 108])))))))
 (.ops 126 2 [bC 0 109 .add 78 1, mM 1 78 109])))))))
 (.seq (.ops 128 10 [mM 0 110 0, mM 1 111 5, xO 2 112 1 110 111, lO 3 113 false false 1 112, oO 4 114 (.conv (.int .u64) (.t 113)), mM 5 115 10, bT 6 116 .sub 114 115, mM 7 117 11, bT 8 118 .sub 116 117, mM 9 15 118])
 (.seq (.ops 138 6 [mM 0 119 0, mM 1 120 5, mM 2 121 15, oO 3 122 (.conv (.int .u32) (.t 121)), xO 4 123 1 119 120, sT 5 false 1 123 122])
 (.seq (.seq
 (.ops 144 3 [mM 0 124 15, oO 1 125 (.bin .shr .no (.t 124) (.c (.int .u64 63))), oO 2 126 (.bin .eql .no (.t 125) (.c (.int .u64 0)))])
 (.cond (.t 126)
 (.seq (.ops 147 3 [mM 0 127 8, oO 1 128 (.conv (.int .u32) (.t 127)), mM 2 4 128]) .ret) .skip))
 (.seq (.ops 150 1 [oO 0 10 (.mov (.c (.int .u64 0)))])
 (.seq (.seq
 (.ops 151 3 [mM 0 129 1, nO 1 130 129, mI 2 131 0])
 (.block 4
 (.loop [(0, 0), (5, 0), (8, 0), (10, 0), (129, 0), (130, 0), (131, 0)]
 (.seq (.ops 154 1 [bT 0 132 .lss 131 130])
 (.seq (.cond (.t 132) .skip
 (.exit 4))
 (.seq (.block 5
 (.seq (.ops 155 5 [mM 0 133 131, xO 1 134 1 129 131, lO 2 135 false false 1 134, mM 3 16 133, mM 4 17 135])
 (.seq (.ops 160 11 [mM 0 136 10, mM 1 137 0, mM 2 138 16, xO 3 139 1 137 138, lO 4 140 false false 1 139, oO 5 141 (.conv (.int .u64) (.t 140)), mM 6 142 17, oO 7 143 (.conv (.int .u64) (.t 142)), bT 8 144 .add 141 143, bT 9 145 .add 136 144, mM 10 10 145])
 (.seq (.ops 171 6 [mM 0 146 0, mM 1 147 16, mM 2 148 10, oO 3 149 (.conv (.int .u32) (.t 148)), xO 4 150 1 146 147, sT 5 false 1 150 149])
 (.ops 177 3 [mM 0 151 10, oO 1 152 (.bin .shr .no (.t 151) (.c (.int .u64 32))), mM 2 10 152])))))
 (.ops 180 2 [bC 0 153 .add 131 1, mM 1 131 153])))))))
 (.seq (.ops 182 9 [mM 0 154 0, mM 1 155 5, xO 2 156 1 154 155, lO 3 157 false false 1 156, mM 4 158 10, oO 5 159 (.conv (.int .u32) (.t 158)), bT 6 160 .add 157 159, xO 7 161 1 154 155, sT 8 false 1 161 160])
 (.seq (.ops 191 4 [mM 0 162 8, oO 1 163 (.bin .sub .no (.t 162) (.c (.int .u64 1))), oO 2 164 (.conv (.int .u32) (.t 163)), mM 3 4 164]) .ret)))))))))))))),
 [.t 4]⟩
def q8h : KFn := ⟨
 (.seq (.ops 12 1 [oO 0 4 (.mov (.c .nilsl))])
 (.seq (.ops 13 4 [mM 0 9 0, nO 1 10 9, oO 2 11 (.mkslice ⟨1, 4, (.int .u32 0)⟩ (.t 10) (.t 10)), mM 3 5 11])
 (.seq (.seq
 (.ops 17 3 [mM 0 12 0, nO 1 13 12, mI 2 14 0])
 (.block 0
 (.loop [(0, 0), (1, 0), (5, 0), (12, 0), (13, 0), (14, 0)]
 (.seq (.ops 20 1 [bT 0 15 .lss 14 13])
 (.seq (.cond (.t 15) .skip
 (.exit 0))
 (.seq (.block 1
 (.seq (.ops 21 5 [mM 0 16 14, xO 1 17 1 12 14, lO 2 18 false false 1 17, mM 3 6 16, mM 4 7 18])
 (.seq (.ops 26 3 [mM 0 19 7, oO 1 20 (.conv (.int .u64) (.t 19)), mM 2 8 20])
 (.seq (.seq
 (.ops 29 5 [mM 0 21 6, bC 1 22 .add 21 1, mM 2 23 0, nO 3 24 23, bT 4 25 .lss 22 24])
 (.cond (.t 25)
 (.ops 34 10 [mM 0 26 8, mM 1 27 0, mM 2 28 6, bC 3 29 .add 28 1, xO 4 30 1 27 29, lO 5 31 false false 1 30, oO 6 32 (.conv (.int .u64) (.t 31)), oO 7 33 (.bin .shl .no (.t 32) (.c (.int .u64 32))), bT 8 34 .or 26 33, mM 9 8 34]) .skip))
 (.ops 44 8 [mM 0 35 5, mM 1 36 6, mM 2 37 8, mM 3 38 1, bT 4 39 .shr 37 38, oO 5 40 (.conv (.int .u32) (.t 39)), xO 6 41 1 35 36, sT 7 false 1 41 40])))))
 (.ops 52 2 [bC 0 42 .add 14 1, mM 1 14 42])))))))
 (.seq (.ops 54 3 [mM 0 43 5, oO 1 44 (.callF q0P [(.t 43)]), mM 2 4 44]) .ret)))),
 [.t 4]⟩
def q56 : KFn := ⟨
 (.seq (.ops 0 1 [mI 0 2 0])
 (.seq (.seq
 (.ops 1 2 [mM 0 3 0, oO 1 4 (.bin .geq .no (.t 3) (.c (.int .u32 65536)))])
 (.cond (.t 4)
 (.seq (.ops 3 3 [mM 0 5 0, oO 1 6 (.bin .shr .no (.t 5) (.c (.int .u64 16))), mM 2 0 6])
 (.ops 6 1 [mI 0 2 16])) .skip))
 (.seq (.seq
 (.ops 7 2 [mM 0 7 0, oO 1 8 (.bin .geq .no (.t 7) (.c (.int .u32 256)))])
 (.cond (.t 8)
 (.seq (.ops 9 3 [mM 0 9 0, oO 1 10 (.bin .shr .no (.t 9) (.c (.int .u64 8))), mM 2 0 10])
 (.ops 12 3 [mM 0 11 2, bC 1 12 .add 11 8, mM 2 2 12])) .skip))
 (.seq (.ops 15 7 [mM 0 13 2, mM 1 14 0, oO 2 15 (.conv (.int .u8) (.t 14)), oO 3 16 (.istr (.c (.str ⟨#[0, 1, 2, 2, 3, 3, 3, 3, 4, 4, 4, 4, 4, 4, 4, 4, 5, 5, 5, 5, 5, 5, 5, 5, 5, 5, 5, 5, 5, 5, 5, 5, 6, 6, 6, 6, 6, 6, 6, 6, 6, 6, 6, 6, 6, 6, 6, 6, 6, 6, 6, 6, 6, 6, 6, 6, 6, 6, 6, 6, 6, 6, 6, 6, 7, 7, 7, 7, 7, 7, 7, 7, 7, 7, 7, 7, 7, 7, 7, 7, 7, 7, 7, 7, 7, 7, 7, 7, 7, 7, 7, 7, 7, 7, 7, 7, 7, 7, 7, 7, 7, 7, 7, 7, 7, 7, 7, 7, 7, 7, 7, 7, 7, 7, 7, 7, 7, 7, 7, 7, 7, 7, 7, 7, 7, 7, 7, 7, 8, 8, 8, 8, 8, 8, 8, 8, 8, 8, 8, 8, 8, 8, 8, 8, 8, 8, 8, 8, 8, 8, 8, 8, 8, 8, 8, 8, 8, 8, 8, 8, 8, 8, 8, 8, 8, 8, 8, 8, 8, 8, 8, 8, 8, 8, 8, 8, 8, 8, 8, 8, 8, 8, 8, 8, 8, 8, 8, 8, 8, 8, 8, 8, 8, 8, 8, 8, 8, 8, 8, 8, 8, 8, 8, 8, 8, 8, 8, 8, 8, 8, 8, 8, 8, 8, 8, 8, 8, 8, 8, 8, 8, 8, 8, 8, 8, 8, 8, 8, 8, 8, 8, 8, 8, 8, 8, 8, 8, 8, 8, 8, 8, 8, 8, 8, 8, 8, 8, 8, 8, 8, 8, 8, 8, 8, 8, 8]⟩)) (.t 15)), oO 4 17 (.conv (.int .i64) (.t 16)), bT 5 18 .add 13 17, mM 6 2 18]) .ret)))),
 [.t 2]⟩
def qbx : KFn := ⟨
 (.seq (.ops 0 1 [mI 0 2 0])
 (.seq (.seq
 (.ops 1 2 [mM 0 3 0, oO 1 4 (.bin .geq .no (.t 3) (.c (.int .u64 4294967296)))])
 (.cond (.t 4)
 (.seq (.ops 3 3 [mM 0 5 0, oO 1 6 (.bin .shr .no (.t 5) (.c (.int .u64 32))), mM 2 0 6])
 (.ops 6 1 [mI 0 2 32])) .skip))
 (.seq (.seq
 (.ops 7 2 [mM 0 7 0, oO 1 8 (.bin .geq .no (.t 7) (.c (.int .u64 65536)))])
 (.cond (.t 8)
 (.seq (.ops 9 3 [mM 0 9 0, oO 1 10 (.bin .shr .no (.t 9) (.c (.int .u64 16))), mM 2 0 10])
 (.ops 12 3 [mM 0 11 2, bC 1 12 .add 11 16, mM 2 2 12])) .skip))
 (.seq (.seq
 (.ops 15 2 [mM 0 13 0, oO 1 14 (.bin .geq .no (.t 13) (.c (.int .u64 256)))])
 (.cond (.t 14)
 (.seq (.ops 17 3 [mM 0 15 0, oO 1 16 (.bin .shr .no (.t 15) (.c (.int .u64 8))), mM 2 0 16])
 (.ops 20 3 [mM 0 17 2, bC 1 18 .add 17 8, mM 2 2 18])) .skip))
 (.seq (.ops 23 7 [mM 0 19 2, mM 1 20 0, oO 2 21 (.conv (.int .u8) (.t 20)), oO 3 22 (.istr (.c (.str ⟨#[0, 1, 2, 2, 3, 3, 3, 3, 4, 4, 4, 4, 4, 4, 4, 4, 5, 5, 5, 5, 5, 5, 5, 5, 5, 5, 5, 5, 5, 5, 5, 5, 6, 6, 6, 6, 6, 6, 6, 6, 6, 6, 6, 6, 6, 6, 6, 6, 6, 6, 6, 6, 6, 6, 6, 6, 6, 6, 6, 6, 6, 6, 6, 6, 7, 7, 7, 7, 7, 7, 7, 7, 7, 7, 7, 7, 7, 7, 7, 7, 7, 7, 7, 7, 7, 7, 7, 7, 7, 7, 7, 7, 7, 7, 7, 7, 7, 7, 7, 7, 7, 7, 7, 7, 7, 7, 7, 7, 7, 7, 7, 7, 7, 7, 7, 7, 7, 7, 7, 7, 7, 7, 7, 7, 7, 7, 7, 7, 8, 8, 8, 8, 8, 8, 8, 8, 8, 8, 8, 8, 8, 8, 8, 8, 8, 8, 8, 8, 8, 8, 8, 8, 8, 8, 8, 8, 8, 8, 8, 8, 8, 8, 8, 8, 8, 8, 8, 8, 8, 8, 8, 8, 8, 8, 8, 8, 8, 8, 8, 8, 8, 8, 8, 8, 8, 8, 8, 8, 8, 8, 8, 8, 8, 8, 8, 8, 8, 8, 8, 8, 8, 8, 8, 8, 8, 8, 8, 8, 8, 8, 8, 8, 8, 8, 8, 8, 8, 8, 8, 8, 8, 8, 8, 8, 8, 8, 8, 8, 8, 8, 8, 8, 8, 8, 8, 8, 8, 8, 8, 8, 8, 8, 8, 8, 8, 8, 8, 8, 8, 8, 8, 8, 8, 8, 8, 8]⟩)) (.t 21)), oO 4 23 (.conv (.int .i64) (.t 22)), bT 5 24 .add 19 23, mM 6 2 24]) .ret))))),
 [.t 2]⟩
def qab : KFn := ⟨
 (.seq (.ops 4 1 [oO 0 4 (.mov (.c .nilsl))])
 (.seq (.ops 5 6 [mM 0 8 0, oO 1 9 (.callF q4S [(.t 8)]), mM 2 10 1, oO 3 11 (.callF q4S [(.t 10)]), mM 4 0 9, mM 5 1 11])
 (.seq (.block 0
 (.loop [(0, 0), (1, 0)]
 (.seq (.seq
 (.ops 11 3 [mM 0 12 1, nO 1 13 12, bC 2 14 .gtr 13 0])
 (.cond (.t 14) .skip
 (.exit 0)))
 (.block 1
 (.seq (.ops 14 10 [mM 0 16 0, mM 1 17 1, oO 2 18 (.callF q3R [(.t 16), (.t 17)]), mM 3 15 18, eO 4 19 15 0, eO 5 20 15 1, eO 6 21 15 2, mM 7 5 19, mM 8 6 20, mM 9 7 21])
 (.ops 24 4 [mM 0 22 1, mM 1 23 6, mM 2 0 22, mM 3 1 23]))))))
 (.seq (.ops 28 2 [mM 0 24 0, mM 1 4 24]) .ret)))),
 [.t 4]⟩
def qac : KFn := ⟨
 (.seq (.ops 0 3 [oO 0 2 (.box 2 (.t 0)), oO 1 3 (.box 2 (.t 1)), oO 2 4 (.new 2 (.agg [(.bool false), .nilsl]))])
 (.seq (.ops 3 12 [fO 0 5 0 2, lB 1 6 1 12 true false 1 5, fO 2 7 0 3, lB 3 8 4 12 true false 1 7, oO 4 9 (.bin .neq .bool (.t 6) (.t 8)), fO 5 10 1 2, lB 6 11 32 12 true false 1 10, fO 7 12 1 3, lB 8 13 128 12 true false 1 12, oB 9 14 480 12 (.callF q4s [(.t 11), (.t 13)]), oB 10 15 1023 12 (.callF q1I [(.t 9), (.t 14)]), ⟨11, none, none, (.bef 2047 12), .store true 2 (.t 4) (.t 15)⟩]) .ret)),
 [.cell 4 true 2]⟩
def qad : KFn := ⟨
 (.seq (.ops 0 3 [oO 0 2 (.box 2 (.t 0)), oO 1 3 (.box 2 (.t 1)), oO 2 4 (.new 2 (.agg [(.bool false), .nilsl]))])
 (.seq (.seq
 (.ops 3 5 [fO 0 9 0 2, lO 1 10 true false 1 9, fO 2 11 0 3, lO 3 12 true false 1 11, oO 4 13 (.bin .eql .bool (.t 10) (.t 12))])
 (.cond (.t 13)
 (.seq (.ops 8 9 [fO 0 14 0 2, lB 1 15 1 9 true false 1 14, fO 2 16 1 2, lB 3 17 4 9 true false 1 16, fO 4 18 1 3, lB 5 19 16 9 true false 1 18, oB 6 20 60 9 (.callF q5C [(.t 17), (.t 19)]), oB 7 21 127 9 (.callF q1I [(.t 15), (.t 20)]), ⟨8, none, none, (.bef 255 9), .store true 2 (.t 4) (.t 21)⟩]) .ret) .skip))
 (.seq (.seq
 (.ops 17 10 [fO 0 23 1 2, lO 1 24 true false 1 23, fO 2 25 1 3, lO 3 26 true false 1 25, oO 4 27 (.callF qao [(.t 24), (.t 26)]), mM 5 22 27, eO 6 28 22 0, eO 7 29 22 1, mM 8 5 28, mM 9 6 29])
 (.seq (.ops 27 1 [mM 0 30 6])
 (.cond (.t 30)
 (.seq (.ops 28 5 [fO 0 31 0 2, lO 1 32 true false 1 31, mM 2 33 5, oO 3 34 (.callF q1I [(.t 32), (.t 33)]), sT 4 true 2 4 34]) .ret) .skip)))
 (.seq (.ops 33 10 [fO 0 36 1 3, lO 1 37 true false 1 36, fO 2 38 1 2, lO 3 39 true false 1 38, oO 4 40 (.callF qao [(.t 37), (.t 39)]), mM 5 35 40, eO 6 41 35 0, eO 7 42 35 1, mM 8 7 41, mM 9 8 42])
 (.seq (.ops 43 5 [fO 0 43 0 3, lO 1 44 true false 1 43, mM 2 45 7, oO 3 46 (.callF q1I [(.t 44), (.t 45)]), sT 4 true 2 4 46]) .ret))))),
 [.cell 4 true 2]⟩
def q7i : KFn := ⟨
 (.seq (.ops 0 1 [oO 0 2 (.new 2 (.agg [(.bool false), .nilsl]))])
 (.seq (.ops 1 3 [mM 0 3 0, oO 1 4 (.build [(.bool false), .nilsl] [(1, 1, (.t 3))]), sT 2 true 2 2 4]) .ret)),
 [.cell 2 true 2]⟩
def qae : KFn := ⟨
 (.seq (.ops 0 2 [oO 0 1 (.box 2 (.t 0)), oO 1 2 (.new 2 (.agg [(.bool false), .nilsl]))])
 (.seq (.ops 2 7 [fO 0 3 0 1, lO 1 4 true false 1 3, oO 2 5 (.un .not (.t 4)), fO 3 6 1 1, lO 4 7 true false 1 6, oO 5 8 (.callF q1I [(.t 5), (.t 7)]), sT 6 true 2 2 8]) .ret)),
 [.cell 2 true 2]⟩
def qfz : KFn := ⟨
 (.seq (.ops 4 1 [oO 0 2 (.mov (.c .nilsl))])
 (.seq (.ops 5 3 [mM 0 5 0, nO 1 6 5, mM 2 3 6])
 (.seq (.block 0
 (.loop [(0, 0), (3, 0)]
 (.seq (.seq
 (.ops 8 10 [mM 0 7 3, bC 1 8 .gtr 7 0, mM 2 9 8, gM 3 10 9 true 0, gM 4 11 9 true 3, gG 5 12 9 true (.bin .sub .no (.t 11) (.c (.int .i64 1))), gG 6 13 9 true (.ixs 1 (.t 10) (.t 12)), gG 7 14 9 true (.load false false 1 (.t 13)), gG 8 15 9 true (.bin .eql .no (.t 14) (.c (.int .u32 0))), oO 9 16 (.pick (.t 9) (.t 15) (.c (.bool false)))])
 (.cond (.t 16) .skip
 (.exit 0)))
 (.block 1
 (.ops 18 3 [mM 0 17 3, bC 1 18 .sub 17 1, mM 2 3 18])))))
 (.seq (.ops 21 1 [oO 0 4 (.mov (.c .nilsl))])
 (.seq (.ops 22 6 [mM 0 19 4, mM 1 20 0, mM 2 21 3, oO 3 22 (.slsl 1 (.t 20) none (some (.t 21)) none), oO 4 23 (.append ⟨1, 4, (.int .u32 0)⟩ .sl (.t 19) (.t 22)), mM 5 2 23]) .ret))))),
 [.t 2]⟩
def qhv : KFn := ⟨
 (.seq (.ops 4 1 [oO 0 4 (.mov (.c .nilsl))])
 (.seq (.ops 5 6 [mM 0 10 0, oO 1 11 (.callF q2e [(.t 10)]), mM 2 12 1, oO 3 13 (.callF q2e [(.t 12)]), mM 4 5 11, mM 5 6 13])
 (.seq (.block 0
 (.loop [(5, 0), (6, 0)]
 (.seq (.seq
 (.ops 11 3 [mM 0 14 6, nO 1 15 14, bC 2 16 .gtr 15 0])
 (.cond (.t 16) .skip
 (.exit 0)))
 (.block 1
 (.seq (.ops 14 10 [mM 0 18 5, mM 1 19 6, oO 2 20 (.callF q6P [(.t 18), (.t 19)]), mM 3 17 20, eO 4 21 17 0, eO 5 22 17 1, eO 6 23 17 2, mM 7 7 21, mM 8 8 22, mM 9 9 23])
 (.ops 24 4 [mM 0 24 6, mM 1 25 8, mM 2 5 24, mM 3 6 25]))))))
 (.seq (.ops 28 2 [mM 0 26 5, mM 1 4 26]) .ret)))),
 [.t 4]⟩
def qfA : KFn := ⟨
 (.seq (.ops 0 1 [oO 0 4 (.mov (.c (.int .u64 0)))])
 (.seq (.seq
 (.ops 1 8 [mM 0 5 1, bC 1 6 .lss 5 0, mM 2 7 6, gM 3 8 7 false 1, gM 4 9 7 false 0, gG 5 10 7 false (.len .sl (.t 9)), gG 6 11 7 false (.bin .geq .no (.t 8) (.t 10)), oO 7 12 (.pick (.t 7) (.c (.bool true)) (.t 11))])
 (.cond (.t 12)
 (.seq (.ops 9 1 [oO 0 4 (.mov (.c (.int .u64 0)))]) .ret) .skip))
 (.seq (.ops 10 6 [mM 0 13 0, mM 1 14 1, xO 2 15 1 13 14, lO 3 16 false false 1 15, oO 4 17 (.conv (.int .u64) (.t 16)), mM 5 4 17]) .ret))),
 [.t 4]⟩
def qdj : KFn := ⟨
 (.seq (.ops 0 1 [oO 0 4 (.new 2 (.agg [(.bool false), .nilsl]))])
 (.seq (.ops 1 3 [mM 0 5 1, oO 1 6 (.callF q2e [(.t 5)]), mM 2 1 6])
 (.seq (.ops 4 9 [mM 0 7 0, mM 1 8 7, gM 2 9 8 true 1, gG 3 10 8 true (.len .sl (.t 9)), gG 4 11 8 true (.bin .gtr .no (.t 10) (.c (.int .i64 0))), oO 5 12 (.pick (.t 8) (.t 11) (.c (.bool false))), mM 6 13 1, oO 7 14 (.build [(.bool false), .nilsl] [(0, 1, (.t 12)), (1, 1, (.t 13))]), sT 8 true 2 4 14]) .ret))),
 [.cell 4 true 2]⟩
def qfB : KFn := ⟨
 (.seq (.ops 4 1 [mI 0 2 0])
 (.seq (.ops 5 3 [mM 0 6 0, oO 1 7 (.callF q2e [(.t 6)]), mM 2 3 7])
 (.seq (.seq
 (.ops 8 3 [mM 0 8 3, nO 1 9 8, bC 2 10 .eql 9 0])
 (.cond (.t 10)
 (.seq (.ops 11 1 [mI 0 2 0]) .ret) .skip))
 (.seq (.ops 12 5 [mM 0 11 3, nO 1 12 11, bC 2 13 .sub 12 1, oO 3 14 (.bin .mul .no (.c (.int .i64 32)) (.t 13)), mM 4 4 14])
 (.seq (.seq
 (.ops 17 7 [mM 0 15 3, mM 1 16 3, nO 2 17 16, bC 3 18 .sub 17 1, xO 4 19 1 15 18, lO 5 20 false false 1 19, mM 6 5 20])
 (.block 0
 (.loop [(4, 0), (5, 0)]
 (.seq (.seq
 (.ops 24 2 [mM 0 21 5, oO 1 22 (.bin .gtr .no (.t 21) (.c (.int .u32 0)))])
 (.cond (.t 22) .skip
 (.exit 0)))
 (.seq (.block 1
 (.ops 26 3 [mM 0 25 4, bC 1 26 .add 25 1, mM 2 4 26]))
 (.ops 29 3 [mM 0 23 5, oO 1 24 (.bin .quo .no (.t 23) (.c (.int .u32 2))), mM 2 5 24]))))))
 (.seq (.ops 32 2 [mM 0 27 4, mM 1 2 27]) .ret)))))),
 [.t 2]⟩
def qdk : KFn := ⟨
 (.seq (.ops 10 1 [oO 0 4 (.mov (.c .nilsl))])
 (.seq (.ops 11 4 [mM 0 9 1, bC 1 10 .quo 9 32, oO 2 11 (.mkslice ⟨1, 4, (.int .u32 0)⟩ (.t 10) (.t 10)), mM 3 5 11])
 (.seq (.ops 15 1 [oO 0 6 (.mov (.c (.int .u64 0)))])
 (.seq (.seq
 (.ops 16 1 [mI 0 7 0])
 (.block 0
 (.loop [(0, 0), (1, 0), (5, 1), (6, 0), (7, 0)]
 (.seq (.seq
 (.ops 17 4 [mM 0 12 7, mM 1 13 0, nO 2 14 13, bT 3 15 .leq 12 14])
 (.cond (.t 15) .skip
 (.exit 0)))
 (.seq (.block 1
 (.seq (.ops 21 10 [mM 0 18 0, mM 1 19 7, oO 2 20 (.callF q23 [(.t 18), (.t 19)]), mM 3 21 1, bC 4 22 .rem 21 32, oO 5 23 (.conv (.int .u64) (.t 22)), bT 6 24 .shl 20 23, mM 7 25 6, bT 8 26 .add 24 25, mM 9 8 26])
 (.seq (.ops 31 7 [mM 0 27 5, mM 1 28 8, oO 2 29 (.bin .rem .no (.t 28) (.c (.int .u64 4294967296))), oO 3 30 (.conv (.int .u32) (.t 29)), oO 4 31 (.buildSlice 1 1 [(.int .u32 0)] [(0, (.t 30))]), oO 5 32 (.append ⟨1, 4, (.int .u32 0)⟩ .sl (.t 27) (.t 31)), mM 6 5 32])
 (.ops 38 3 [mM 0 33 8, oO 1 34 (.bin .quo .no (.t 33) (.c (.int .u64 4294967296))), mM 2 6 34]))))
 (.ops 41 3 [mM 0 16 7, bC 1 17 .add 16 1, mM 2 7 17]))))))
 (.seq (.ops 44 3 [mM 0 35 5, oO 1 36 (.callF q2e [(.t 35)]), mM 2 4 36]) .ret))))),
 [.t 4]⟩
def qhw : KFn := ⟨
 (.seq (.ops 10 2 [oO 0 4 (.mov (.c .nilsl)), oO 1 5 (.mov (.c (.bool false)))])
 (.seq (.seq
 (.ops 12 4 [mM 0 10 0, mM 1 11 1, oO 2 12 (.callF qmn [(.t 10), (.t 11)]), bC 3 13 .lss 12 0])
 (.cond (.t 13)
 (.seq (.ops 16 2 [oO 0 4 (.mov (.c .nilsl)), oO 1 5 (.mov (.c (.bool false)))]) .ret) .skip))
 (.seq (.ops 18 1 [oO 0 6 (.mov (.c .nilsl))])
 (.seq (.ops 19 1 [oO 0 7 (.mov (.c (.int .u64 0)))])
 (.seq (.seq
 (.ops 20 1 [mI 0 8 0])
 (.block 0
 (.loop [(0, 0), (1, 0), (6, 1), (7, 0), (8, 0)]
 (.seq (.seq
 (.ops 21 7 [mM 0 14 8, mM 1 15 0, nO 2 16 15, mM 3 17 1, nO 4 18 17, oO 5 19 (.mm true [(.t 16), (.t 18)]), bT 6 20 .lss 14 19])
 (.cond (.t 20) .skip
 (.exit 0)))
 (.seq (.block 1
 (.seq (.ops 28 11 [mM 0 23 0, mM 1 24 8, oO 2 25 (.callF q23 [(.t 23), (.t 24)]), oO 3 26 (.bin .add .no (.c (.int .u64 4294967296)) (.t 25)), mM 4 27 1, mM 5 28 8, oO 6 29 (.callF q23 [(.t 27), (.t 28)]), bT 7 30 .sub 26 29, mM 8 31 7, bT 9 32 .sub 30 31, mM 10 9 32])
 (.seq (.ops 39 7 [mM 0 33 6, mM 1 34 9, oO 2 35 (.bin .rem .no (.t 34) (.c (.int .u64 4294967296))), oO 3 36 (.conv (.int .u32) (.t 35)), oO 4 37 (.buildSlice 1 1 [(.int .u32 0)] [(0, (.t 36))]), oO 5 38 (.append ⟨1, 4, (.int .u32 0)⟩ .sl (.t 33) (.t 37)), mM 6 6 38])
 (.ops 46 4 [mM 0 39 9, oO 1 40 (.bin .quo .no (.t 39) (.c (.int .u64 4294967296))), oO 2 41 (.bin .sub .no (.c (.int .u64 1)) (.t 40)), mM 3 7 41]))))
 (.ops 50 3 [mM 0 21 8, bC 1 22 .add 21 1, mM 2 8 22]))))))
 (.seq (.ops 53 4 [mM 0 42 6, oO 1 43 (.callF q2e [(.t 42)]), mM 2 4 43, oO 3 5 (.mov (.c (.bool true)))]) .ret)))))),
 [.t 4, .t 5]⟩
def qfC : KFn := ⟨
 (.seq (.ops 6 1 [oO 0 2 (.mov (.c .nilsl))])
 (.seq (.ops 7 1 [oO 0 3 (.mov (.c .nilsl))])
 (.seq (.seq
 (.ops 8 1 [mI 0 4 0])
 (.block 0
 (.loop [(0, 0), (3, 1), (4, 0)]
 (.seq (.seq
 (.ops 9 4 [mM 0 5 4, mM 1 6 0, nO 2 7 6, bT 3 8 .lss 5 7])
 (.cond (.t 8) .skip
 (.exit 0)))
 (.seq (.block 1
 (.ops 13 16 [mM 0 11 3, mM 1 12 0, mM 2 13 4, oO 3 14 (.callF q23 [(.t 12), (.t 13)]), oO 4 15 (.bin .quo .no (.t 14) (.c (.int .u64 2))), mM 5 16 0, mM 6 17 4, bC 7 18 .add 17 1, oO 8 19 (.callF q23 [(.t 16), (.t 18)]), oO 9 20 (.bin .rem .no (.t 19) (.c (.int .u64 2))), oO 10 21 (.bin .mul .no (.t 20) (.c (.int .u64 2147483648))), bT 11 22 .add 15 21, oO 12 23 (.conv (.int .u32) (.t 22)), oO 13 24 (.buildSlice 1 1 [(.int .u32 0)] [(0, (.t 23))]), oO 14 25 (.append ⟨1, 4, (.int .u32 0)⟩ .sl (.t 11) (.t 24)), mM 15 3 25]))
 (.ops 29 3 [mM 0 9 4, bC 1 10 .add 9 1, mM 2 4 10]))))))
 (.seq (.ops 32 3 [mM 0 26 3, oO 1 27 (.callF q2e [(.t 26)]), mM 2 2 27]) .ret)))),
 [.t 2]⟩
def qhx : KFn := ⟨
 (.seq (.ops 0 3 [oO 0 2 (.box 2 (.t 0)), oO 1 3 (.box 2 (.t 1)), oO 2 4 (.new 2 (.agg [(.bool false), .nilsl]))])
 (.seq (.seq
 (.ops 3 5 [fO 0 9 0 2, lO 1 10 true false 1 9, fO 2 11 0 3, lO 3 12 true false 1 11, oO 4 13 (.bin .eql .bool (.t 10) (.t 12))])
 (.cond (.t 13)
 (.seq (.ops 8 9 [fO 0 14 0 2, lB 1 15 1 9 true false 1 14, fO 2 16 1 2, lB 3 17 4 9 true false 1 16, fO 4 18 1 3, lB 5 19 16 9 true false 1 18, oB 6 20 60 9 (.callF qhP [(.t 17), (.t 19)]), oB 7 21 127 9 (.callF q4T [(.t 15), (.t 20)]), ⟨8, none, none, (.bef 255 9), .store true 2 (.t 4) (.t 21)⟩]) .ret) .skip))
 (.seq (.seq
 (.ops 17 10 [fO 0 23 1 2, lO 1 24 true false 1 23, fO 2 25 1 3, lO 3 26 true false 1 25, oO 4 27 (.callF qeB [(.t 24), (.t 26)]), mM 5 22 27, eO 6 28 22 0, eO 7 29 22 1, mM 8 5 28, mM 9 6 29])
 (.seq (.ops 27 1 [mM 0 30 6])
 (.cond (.t 30)
 (.seq (.ops 28 5 [fO 0 31 0 2, lO 1 32 true false 1 31, mM 2 33 5, oO 3 34 (.callF q4T [(.t 32), (.t 33)]), sT 4 true 2 4 34]) .ret) .skip)))
 (.seq (.ops 33 10 [fO 0 36 1 3, lO 1 37 true false 1 36, fO 2 38 1 2, lO 3 39 true false 1 38, oO 4 40 (.callF qeB [(.t 37), (.t 39)]), mM 5 35 40, eO 6 41 35 0, eO 7 42 35 1, mM 8 7 41, mM 9 8 42])
 (.seq (.ops 43 5 [fO 0 43 0 3, lO 1 44 true false 1 43, mM 2 45 7, oO 3 46 (.callF q4T [(.t 44), (.t 45)]), sT 4 true 2 4 46]) .ret))))),
 [.cell 4 true 2]⟩
def qhy : KFn := ⟨
 (.seq (.ops 0 3 [oO 0 2 (.box 2 (.t 0)), oO 1 3 (.box 2 (.t 1)), oO 2 4 (.new 2 (.agg [(.bool false), .nilsl]))])
 (.seq (.ops 3 12 [fO 0 5 0 2, lB 1 6 1 12 true false 1 5, fO 2 7 0 3, lB 3 8 4 12 true false 1 7, oO 4 9 (.bin .neq .bool (.t 6) (.t 8)), fO 5 10 1 2, lB 6 11 32 12 true false 1 10, fO 7 12 1 3, lB 8 13 128 12 true false 1 12, oB 9 14 480 12 (.callF q5c [(.t 11), (.t 13)]), oB 10 15 1023 12 (.callF q4T [(.t 9), (.t 14)]), ⟨11, none, none, (.bef 2047 12), .store true 2 (.t 4) (.t 15)⟩]) .ret)),
 [.cell 4 true 2]⟩
def qhz : KFn := ⟨
 (.seq (.ops 0 2 [oO 0 1 (.box 2 (.t 0)), oO 1 2 (.new 2 (.agg [(.bool false), .nilsl]))])
 (.seq (.ops 2 7 [fO 0 3 0 1, lO 1 4 true false 1 3, oO 2 5 (.un .not (.t 4)), fO 3 6 1 1, lO 4 7 true false 1 6, oO 5 8 (.callF q4T [(.t 5), (.t 7)]), sT 6 true 2 2 8]) .ret)),
 [.cell 2 true 2]⟩
def q66 : KFn := ⟨
 (.seq (.ops 0 2 [mI 0 2 0, mI 1 3 0])
 (.seq (.seq
 (.ops 2 1 [mM 0 4 0])
 (.block 0
 (.seq (.seq
 (.ops 3 2 [bC 0 6 .eql 4 1, mM 1 5 6])
 (.cond (.t 5) .skip
 (.ops 5 2 [bC 0 7 .eql 4 2, mM 1 5 7])))
 (.cond (.t 5)
 (.seq (.ops 7 2 [mI 0 2 0, mI 1 3 0]) .ret)
 (.seq (.seq
 (.ops 9 2 [bC 0 9 .eql 4 3, mM 1 8 9])
 (.cond (.t 8) .skip
 (.seq (.ops 11 2 [bC 0 10 .eql 4 4, mM 1 8 10])
 (.cond (.t 8) .skip
 (.seq (.ops 13 2 [bC 0 11 .eql 4 5, mM 1 8 11])
 (.cond (.t 8) .skip
 (.ops 15 2 [bC 0 12 .eql 4 6, mM 1 8 12])))))))
 (.cond (.t 8)
 (.seq (.ops 17 2 [mI 0 2 2, mI 1 3 2]) .ret)
 (.seq (.ops 19 2 [bC 0 14 .eql 4 7, mM 1 13 14])
 (.cond (.t 13)
 (.seq (.ops 21 2 [mI 0 2 1, mI 1 3 1]) .ret)
 (.seq (.seq
 (.ops 23 2 [bC 0 16 .eql 4 8, mM 1 15 16])
 (.cond (.t 15) .skip
 (.ops 25 2 [bC 0 17 .eql 4 9, mM 1 15 17])))
 (.cond (.t 15)
 (.seq (.ops 27 2 [mI 0 2 1, mI 1 3 8]) .ret) .skip))))))))))
 (.seq (.ops 29 2 [mI 0 2 0, mI 1 3 (-1)]) .ret))),
 [.t 2, .t 3]⟩
def q7j : KFn := ⟨
 (.seq (.ops 6 1 [oO 0 2 (.mov (.c (.bool false)))])
 (.seq (.seq
 (.ops 7 16 [mM 0 6 0, oO 1 7 (.len .str (.t 6)), bC 2 8 .eql 7 0, mM 3 9 8, gM 4 10 9 false 0, gG 5 11 9 false (.len .str (.t 10)), gG 6 12 9 false (.bin .gtr .no (.t 11) (.c (.int .i64 24))), oO 7 13 (.pick (.t 9) (.c (.bool true)) (.t 12)), mM 8 14 13, gM 9 15 14 false 0, gG 10 16 14 false (.bin .eql .no (.t 15) (.c (.str ⟨#[109, 105, 110]⟩))), oO 11 17 (.pick (.t 14) (.c (.bool true)) (.t 16)), mM 12 18 17, gM 13 19 18 false 0, gG 14 20 18 false (.bin .eql .no (.t 19) (.c (.str ⟨#[109, 97, 120]⟩))), oO 15 21 (.pick (.t 18) (.c (.bool true)) (.t 20))])
 (.cond (.t 21)
 (.seq (.ops 23 1 [oO 0 2 (.mov (.c (.bool false)))]) .ret) .skip))
 (.seq (.seq
 (.ops 24 3 [mM 0 22 0, oO 1 23 (.len .str (.t 22)), mI 2 24 0])
 (.block 0
 (.loop [(0, 0), (23, 0), (24, 0)]
 (.seq (.ops 27 1 [bT 0 25 .lss 24 23])
 (.seq (.cond (.t 25) .skip
 (.exit 0))
 (.seq (.block 1
 (.seq (.ops 28 2 [mM 0 26 24, mM 1 3 26])
 (.seq (.ops 30 4 [mM 0 27 0, mM 1 28 3, oO 2 29 (.istr (.t 27) (.t 28)), mM 3 4 29])
 (.seq (.ops 34 7 [mM 0 30 4, oO 1 31 (.bin .leq .no (.c (.int .u8 97)) (.t 30)), mM 2 32 31, gM 3 33 32 true 4, gG 4 34 32 true (.bin .leq .no (.t 33) (.c (.int .u8 122))), oO 5 35 (.pick (.t 32) (.t 34) (.c (.bool false))), mM 6 5 35])
 (.seq (.ops 41 15 [mM 0 36 5, oO 1 37 (.un .not (.t 36)), mM 2 38 37, gM 3 39 38 true 3, gG 4 40 38 true (.bin .eql .no (.t 39) (.c (.int .i64 0))), gM 5 41 38 true 40, gM 6 42 41 false 4, gG 7 43 41 false (.bin .neq .no (.t 42) (.c (.int .u8 95))), gM 8 44 41 false 43, gM 9 45 44 true 4, gG 10 46 44 true (.callF q6Q [(.t 45)]), gG 11 47 44 true (.un .not (.t 46)), gG 12 48 41 false (.pick (.t 44) (.t 47) (.c (.bool false))), gG 13 49 38 true (.pick (.t 41) (.c (.bool true)) (.t 48)), oO 14 50 (.pick (.t 38) (.t 49) (.c (.bool false)))])
 (.cond (.t 50)
 (.seq (.ops 56 1 [oO 0 2 (.mov (.c (.bool false)))]) .ret) .skip))))))
 (.ops 57 2 [bC 0 51 .add 24 1, mM 1 24 51])))))))
 (.seq (.ops 59 1 [oO 0 2 (.mov (.c (.bool true)))]) .ret)))),
 [.t 2]⟩
def q4N : KFn := ⟨
 (.seq (.ops 0 1 [mI 0 4 0])
 (.seq (.ops 1 3 [mM 0 7 0, oO 1 8 (.callF q48 [(.t 7)]), mM 2 5 8])
 (.seq (.ops 4 3 [mM 0 9 1, oO 1 10 (.callF q48 [(.t 9)]), mM 2 6 10])
 (.seq (.seq
 (.ops 7 1 [mM 0 11 5])
 (.cond (.t 11)
 (.seq (.seq
 (.ops 8 1 [mM 0 12 6])
 (.cond (.t 12)
 (.seq (.ops 9 1 [mI 0 4 0]) .ret) .skip))
 (.seq (.ops 10 1 [mI 0 4 (-1)]) .ret)) .skip))
 (.seq (.seq
 (.ops 11 1 [mM 0 13 6])
 (.cond (.t 13)
 (.seq (.ops 12 1 [mI 0 4 1]) .ret) .skip))
 (.seq (.seq
 (.ops 13 3 [mM 0 14 0, mM 1 15 1, bT 2 16 .lss 14 15])
 (.cond (.t 16)
 (.seq (.ops 16 1 [mI 0 4 (-1)]) .ret) .skip))
 (.seq (.seq
 (.ops 17 3 [mM 0 17 0, mM 1 18 1, bT 2 19 .gtr 17 18])
 (.cond (.t 19)
 (.seq (.ops 20 1 [mI 0 4 1]) .ret) .skip))
 (.seq (.ops 21 1 [mI 0 4 0]) .ret)))))))),
 [.t 4]⟩
def qaf : KFn := ⟨
 (.seq (.ops 12 2 [oO 0 4 (.mov (.c .nilsl)), oO 1 5 (.mov (.c (.bool false)))])
 (.seq (.ops 14 6 [mM 0 11 0, oO 1 12 (.callF q0P [(.t 11)]), mM 2 13 1, oO 3 14 (.callF q0P [(.t 13)]), mM 4 0 12, mM 5 1 14])
 (.seq (.seq
 (.ops 20 4 [mM 0 15 0, mM 1 16 1, oO 2 17 (.callF q2t [(.t 15), (.t 16)]), bC 3 18 .lss 17 0])
 (.cond (.t 18)
 (.seq (.ops 24 2 [oO 0 4 (.mov (.c .nilsl)), oO 1 5 (.mov (.c (.bool false)))]) .ret) .skip))
 (.seq (.ops 26 4 [mM 0 19 0, nO 1 20 19, oO 2 21 (.mkslice ⟨1, 4, (.int .u32 0)⟩ (.t 20) (.t 20)), mM 3 6 21])
 (.seq (.ops 30 1 [oO 0 7 (.mov (.c (.int .u64 0)))])
 (.seq (.seq
 (.ops 31 3 [mM 0 22 0, nO 1 23 22, mI 2 24 0])
 (.block 0
 (.loop [(1, 0), (6, 0), (7, 0), (22, 0), (23, 0), (24, 0)]
 (.seq (.ops 34 1 [bT 0 25 .lss 24 23])
 (.seq (.cond (.t 25) .skip
 (.exit 0))
 (.seq (.block 1
 (.seq (.ops 35 5 [mM 0 26 24, xO 1 27 1 22 24, lO 2 28 false false 1 27, mM 3 8 26, mM 4 9 28])
 (.seq (.ops 40 5 [mM 0 29 9, oO 1 30 (.conv (.int .u64) (.t 29)), mM 2 31 7, bT 3 32 .sub 30 31, mM 4 10 32])
 (.seq (.seq
 (.ops 45 4 [mM 0 33 8, mM 1 34 1, nO 2 35 34, bT 3 36 .lss 33 35])
 (.cond (.t 36)
 (.ops 49 8 [mM 0 37 10, mM 1 38 1, mM 2 39 8, xO 3 40 1 38 39, lO 4 41 false false 1 40, oO 5 42 (.conv (.int .u64) (.t 41)), bT 6 43 .sub 37 42, mM 7 10 43]) .skip))
 (.seq (.ops 57 6 [mM 0 44 6, mM 1 45 8, mM 2 46 10, oO 3 47 (.conv (.int .u32) (.t 46)), xO 4 48 1 44 45, sT 5 false 1 48 47])
 (.ops 63 3 [mM 0 49 10, oO 1 50 (.bin .shr .no (.t 49) (.c (.int .u64 63))), mM 2 7 50]))))))
 (.ops 66 2 [bC 0 51 .add 24 1, mM 1 24 51])))))))
 (.seq (.ops 68 4 [mM 0 52 6, oO 1 53 (.callF q0P [(.t 52)]), mM 2 4 53, oO 3 5 (.mov (.c (.bool true)))]) .ret))))))),
 [.t 4, .t 5]⟩
def qhA : KFn := ⟨
 (.seq (.ops 6 1 [mI 0 4 0])
 (.seq (.seq
 (.ops 7 7 [mM 0 6 0, nO 1 7 6, mM 2 8 1, nO 3 9 8, oO 4 10 (.mm true [(.t 7), (.t 9)]), bC 5 11 .sub 10 1, mM 6 5 11])
 (.block 0
 (.loop [(0, 0), (1, 0), (5, 0)]
 (.seq (.seq
 (.ops 14 2 [mM 0 12 5, bC 1 13 .geq 12 0])
 (.cond (.t 13) .skip
 (.exit 0)))
 (.seq (.block 1
 (.seq (.seq
 (.ops 16 7 [mM 0 16 0, mM 1 17 5, oO 2 18 (.callF q23 [(.t 16), (.t 17)]), mM 3 19 1, mM 4 20 5, oO 5 21 (.callF q23 [(.t 19), (.t 20)]), bT 6 22 .lss 18 21])
 (.cond (.t 22)
 (.seq (.ops 23 1 [mI 0 4 (-1)]) .ret) .skip))
 (.seq (.ops 24 7 [mM 0 23 0, mM 1 24 5, oO 2 25 (.callF q23 [(.t 23), (.t 24)]), mM 3 26 1, mM 4 27 5, oO 5 28 (.callF q23 [(.t 26), (.t 27)]), bT 6 29 .gtr 25 28])
 (.cond (.t 29)
 (.seq (.ops 31 1 [mI 0 4 1]) .ret) .skip))))
 (.ops 32 3 [mM 0 14 5, bC 1 15 .sub 14 1, mM 2 5 15]))))))
 (.seq (.ops 35 1 [mI 0 4 0]) .ret))),
 [.t 4]⟩
def q6I : KFn := ⟨
 (.seq (.ops 0 1 [oO 0 2 (.mov (.c (.bool false)))])
 (.seq (.ops 1 7 [mM 0 3 0, oO 1 4 (.bin .leq .no (.c (.int .u8 48)) (.t 3)), mM 2 5 4, gM 3 6 5 true 0, gG 4 7 5 true (.bin .leq .no (.t 6) (.c (.int .u8 57))), oO 5 8 (.pick (.t 5) (.t 7) (.c (.bool false))), mM 6 2 8]) .ret)),
 [.t 2]⟩
def q67 : KFn := ⟨
 (.seq (.ops 0 1 [oO 0 2 (.mov (.c (.bool false)))])
 (.seq (.ops 1 4 [mM 0 3 0, mM 1 4 0, bT 2 5 .neq 3 4, mM 3 2 5]) .ret)),
 [.t 2]⟩
end Go.F
