/- Parts of the proof, part 31: Code1. -/
import Derived.Test.YtjjkgfikkihokaaGreatZ30
set_option linter.all false
namespace Go.F
def q2C : KFn := ⟨
 (.seq (.ops 0 1 [oO 0 4 (.mov (.c (.bool false)))])
 (.seq (.seq
 (.ops 1 4 [mM 0 9 0, mM 1 10 1, oO 2 11 (.callF qcx [(.t 9), (.t 10)]), oO 3 12 (.un .not (.t 11))])
 (.cond (.t 12)
 (.seq (.ops 5 2 [oO 0 13 (.callF q2y []), mM 1 4 13]) .ret) .skip))
 (.seq (.ops 7 8 [mM 0 15 0, mM 1 16 1, oO 2 17 (.callF q23 [(.t 15), (.t 16)]), mM 3 14 17, eO 4 18 14 0, eO 5 19 14 1, mM 6 5 18, mM 7 6 19])
 (.seq (.ops 15 8 [mM 0 21 0, mM 1 22 1, oO 2 23 (.callF qcy [(.t 21), (.t 22)]), mM 3 20 23, eO 4 24 20 0, eO 5 25 20 1, mM 6 7 24, mM 7 8 25])
 (.seq (.ops 23 12 [mM 0 26 6, mM 1 27 8, bT 2 28 .eql 26 27, mM 3 29 28, gM 4 30 29 true 5, gM 5 31 29 true 7, gG 6 32 29 true (.callF q68 [(.t 30), (.t 31)]), oO 7 33 (.pick (.t 29) (.t 32) (.c (.bool false))), mM 8 34 33, gG 9 35 34 true (.callF q2y []), oO 10 36 (.pick (.t 34) (.t 35) (.c (.bool false))), mM 11 4 36]) .ret))))),
 [.t 4]⟩
def q47 : KFn := ⟨
 (.seq (.ops 6 1 [oO 0 4 (.mov (.c (.bool false)))])
 (.seq (.seq
 (.ops 7 13 [mM 0 7 0, nO 1 8 7, bC 2 9 .gtr 8 30, mM 3 10 9, gM 4 11 10 false 1, gG 5 12 10 false (.len .sl (.t 11)), gG 6 13 10 false (.bin .gtr .no (.t 12) (.c (.int .i64 20))), oO 7 14 (.pick (.t 10) (.c (.bool true)) (.t 13)), mM 8 15 14, gM 9 16 15 false 0, gG 10 17 15 false (.callF q8U [(.t 16), (.c (.int .i64 60))]), gG 11 18 15 false (.bin .gtr .no (.t 17) (.c (.int .i64 60))), oO 12 19 (.pick (.t 15) (.c (.bool true)) (.t 18))])
 (.cond (.t 19)
 (.seq (.ops 20 1 [oO 0 4 (.mov (.c (.bool false)))]) .ret) .skip))
 (.seq (.seq
 (.ops 21 3 [mM 0 20 0, nO 1 21 20, mI 2 22 0])
 (.block 0
 (.loop [(20, 0), (21, 0), (22, 0)]
 (.seq (.ops 24 1 [bT 0 23 .lss 22 21])
 (.seq (.cond (.t 23) .skip
 (.exit 0))
 (.seq (.block 1
 (.seq (.ops 25 4 [xO 0 24 2 20 22, lO 1 25 false true 2 24, oO 2 6 (.new 2 (.agg [(.str ⟨#[]⟩), .nilsl])), sT 3 true 2 6 25])
 (.seq (.ops 29 4 [fO 0 26 0 6, lO 1 27 true false 1 26, oO 2 28 (.len .str (.t 27)), bC 3 29 .gtr 28 100])
 (.cond (.t 29)
 (.seq (.ops 33 1 [oO 0 4 (.mov (.c (.bool false)))]) .ret) .skip))))
 (.ops 34 2 [bC 0 30 .add 22 1, mM 1 22 30])))))))
 (.seq (.ops 36 1 [oO 0 4 (.mov (.c (.bool true)))]) .ret)))),
 [.t 4]⟩
def q3U : KFn := ⟨
 (.seq (.ops 0 1 [oO 0 0 (.mov (.c (.bool false)))])
 (.seq (.ops 1 3 [oO 0 13 (.callF qap [(.c (.int .i64 0)), (.c (.int .i64 0)), (.c (.int .i64 10)), (.c (.int .i64 10))]), oO 1 14 (.callF q8V [(.t 13)]), mM 2 1 14])
 (.seq (.ops 4 2 [oO 0 15 (.buildSlice 1 4 [(.int .i64 0), (.int .i64 0), (.int .i64 0), (.int .i64 0)] [(0, (.c (.int .i64 1))), (1, (.c (.int .i64 2))), (2, (.c (.int .i64 3))), (3, (.c (.int .i64 4)))]), mM 1 2 15])
 (.seq (.ops 6 8 [mM 0 17 1, mM 1 18 2, oO 2 19 (.callF q2z [(.t 17), (.t 18)]), mM 3 16 19, eO 4 20 16 0, eO 5 21 16 1, mM 6 3 20, mM 7 4 21])
 (.seq (.ops 14 8 [mM 0 23 1, mM 1 24 2, oO 2 25 (.callF q23 [(.t 23), (.t 24)]), mM 3 22 25, eO 4 26 22 0, eO 5 27 22 1, mM 6 5 26, mM 7 6 27])
 (.seq (.ops 22 12 [oO 0 29 (.build [(.int .i64 0), (.int .i64 0)] [(0, 1, (.c (.int .i64 0))), (1, 1, (.c (.int .i64 0)))]), oO 1 30 (.build [(.int .i64 0), (.int .i64 0)] [(0, 1, (.c (.int .i64 30))), (1, 1, (.c (.int .i64 0)))]), oO 2 31 (.build [(.int .i64 0), (.int .i64 0)] [(0, 1, (.c (.int .i64 0))), (1, 1, (.c (.int .i64 40)))]), oO 3 32 (.buildSlice 2 3 [(.agg [(.int .i64 0), (.int .i64 0)]), (.agg [(.int .i64 0), (.int .i64 0)]), (.agg [(.int .i64 0), (.int .i64 0)])] [(0, (.t 29)), (1, (.t 30)), (2, (.t 31))]), oO 4 33 (.callF q8V [(.t 32)]), oO 5 34 (.buildSlice 1 3 [(.int .i64 0), (.int .i64 0), (.int .i64 0)] [(0, (.c (.int .i64 0))), (1, (.c (.int .i64 5))), (2, (.c (.int .i64 0)))]), oO 6 35 (.callF q23 [(.t 33), (.t 34)]), mM 7 28 35, eO 8 36 28 0, eO 9 37 28 1, mM 10 7 36, mM 11 8 37])
 (.seq (.ops 34 9 [mM 0 39 1, mM 1 40 2, oO 2 41 (.slsl 1 (.t 40) none (some (.c (.int .i64 3))) none), oO 3 42 (.callF q23 [(.t 39), (.t 41)]), mM 4 38 42, eO 5 43 38 0, eO 6 44 38 1, mM 7 9 43, mM 8 10 44])
 (.seq (.ops 43 8 [mM 0 46 1, oO 1 47 (.buildSlice 1 4 [(.int .i64 0), (.int .i64 0), (.int .i64 0), (.int .i64 0)] [(0, (.c (.int .i64 0))), (1, (.c (.int .i64 0))), (2, (.c (.int .i64 0))), (3, (.c (.int .i64 501)))]), oO 2 48 (.callF q2z [(.t 46), (.t 47)]), mM 3 45 48, eO 4 49 45 0, eO 5 50 45 1, mM 6 11 49, mM 7 12 50])
 (.seq (.seq
 (.ops 51 18 [mM 0 51 4, bC 1 52 .neq 51 0, mM 2 53 52, gM 3 54 53 false 6, gG 4 55 53 false (.bin .neq .no (.t 54) (.c (.int .i64 0))), oO 5 56 (.pick (.t 53) (.c (.bool true)) (.t 55)), mM 6 57 56, gM 7 58 57 false 8, gG 8 59 57 false (.bin .neq .no (.t 58) (.c (.int .i64 0))), oO 9 60 (.pick (.t 57) (.c (.bool true)) (.t 59)), mM 10 61 60, gM 11 62 61 false 10, gG 12 63 61 false (.bin .neq .no (.t 62) (.c (.int .i64 1))), oO 13 64 (.pick (.t 61) (.c (.bool true)) (.t 63)), mM 14 65 64, gM 15 66 65 false 12, gG 16 67 65 false (.bin .neq .no (.t 66) (.c (.int .i64 3))), oO 17 68 (.pick (.t 65) (.c (.bool true)) (.t 67))])
 (.cond (.t 68)
 (.seq (.ops 69 1 [oO 0 0 (.mov (.c (.bool false)))]) .ret) .skip))
 (.seq (.ops 70 21 [mM 0 69 3, oO 1 70 (.build [(.int .i64 0), (.int .i64 0)] [(0, 1, (.c (.int .i64 0))), (1, 1, (.c (.int .i64 (-1))))]), oO 2 71 (.build [(.int .i64 0), (.int .i64 0)] [(0, 1, (.c (.int .i64 2))), (1, 1, (.c (.int .i64 0)))]), oO 3 72 (.build [(.int .i64 0), (.int .i64 0)] [(0, 1, (.c (.int .i64 0))), (1, 1, (.c (.int .i64 3)))]), oO 4 73 (.build [(.int .i64 0), (.int .i64 0)] [(0, 1, (.c (.int .i64 (-4)))), (1, 1, (.c (.int .i64 0)))]), oO 5 74 (.buildSlice 2 4 [(.agg [(.int .i64 0), (.int .i64 0)]), (.agg [(.int .i64 0), (.int .i64 0)]), (.agg [(.int .i64 0), (.int .i64 0)]), (.agg [(.int .i64 0), (.int .i64 0)])] [(0, (.t 70)), (1, (.t 71)), (2, (.t 72)), (3, (.t 73))]), oO 6 75 (.callF q68 [(.t 69), (.t 74)]), mM 7 76 75, gM 8 77 76 true 5, gG 9 78 76 true (.callF qap [(.c (.int .i64 (-4))), (.c (.int .i64 (-1))), (.c (.int .i64 12)), (.c (.int .i64 13))]), gG 10 79 76 true (.callF q68 [(.t 77), (.t 78)]), oO 11 80 (.pick (.t 76) (.t 79) (.c (.bool false))), mM 12 81 80, gM 13 82 81 true 7, gG 14 83 81 true (.build [(.int .i64 0), (.int .i64 0)] [(0, 1, (.c (.int .i64 0))), (1, 1, (.c (.int .i64 0)))]), gG 15 84 81 true (.build [(.int .i64 0), (.int .i64 0)] [(0, 1, (.c (.int .i64 36))), (1, 1, (.c (.int .i64 0)))]), gG 16 85 81 true (.build [(.int .i64 0), (.int .i64 0)] [(0, 1, (.c (.int .i64 0))), (1, 1, (.c (.int .i64 48)))]), gG 17 86 81 true (.buildSlice 2 3 [(.agg [(.int .i64 0), (.int .i64 0)]), (.agg [(.int .i64 0), (.int .i64 0)]), (.agg [(.int .i64 0), (.int .i64 0)])] [(0, (.t 83)), (1, (.t 84)), (2, (.t 85))]), gG 18 87 81 true (.callF q68 [(.t 82), (.t 86)]), oO 19 88 (.pick (.t 81) (.t 87) (.c (.bool false))), mM 20 0 88]) .ret)))))))))),
 [.t 0]⟩
def q3V : KFn := ⟨
 (.seq (.ops 14 2 [oO 0 4 (.mov (.c .nilsl)), mI 1 5 0])
 (.seq (.ops 16 7 [mM 0 21 0, oO 1 22 (.callF q4l [(.t 21)]), mM 2 20 22, eO 3 23 20 0, eO 4 24 20 1, mM 5 6 23, mM 6 7 24])
 (.seq (.seq
 (.ops 23 2 [mM 0 25 7, bC 1 26 .neq 25 0])
 (.cond (.t 26)
 (.seq (.ops 25 3 [mM 0 27 7, oO 1 4 (.mov (.c .nilsl)), mM 2 5 27]) .ret) .skip))
 (.seq (.seq
 (.ops 28 5 [mM 0 28 1, nO 1 29 28, mM 2 30 0, nO 3 31 30, bT 4 32 .neq 29 31])
 (.cond (.t 32)
 (.seq (.ops 33 2 [oO 0 4 (.mov (.c .nilsl)), mI 1 5 1]) .ret) .skip))
 (.seq (.seq
 (.ops 35 3 [mM 0 33 1, nO 1 34 33, mI 2 35 0])
 (.block 0
 (.loop [(0, 0), (1, 0), (6, 0), (33, 0), (34, 0), (35, 0)]
 (.seq (.ops 38 1 [bT 0 36 .lss 35 34])
 (.seq (.cond (.t 36) .skip
 (.exit 0))
 (.seq (.block 1
 (.seq (.ops 39 3 [xO 0 37 1 33 35, lO 1 38 false false 1 37, mM 2 9 38])
 (.seq (.ops 42 6 [mM 0 39 9, bC 1 40 .lss 39 0, mM 2 41 40, gM 3 42 41 false 9, gG 4 43 41 false (.bin .gtr .no (.t 42) (.c (.int .i64 500))), oO 5 44 (.pick (.t 41) (.c (.bool true)) (.t 43))])
 (.cond (.t 44)
 (.seq (.ops 48 2 [oO 0 4 (.mov (.c .nilsl)), mI 1 5 3]) .ret) .skip))))
 (.ops 50 2 [bC 0 45 .add 35 1, mM 1 35 45])))))))
 (.seq (.ops 52 3 [mM 0 46 6, oO 1 47 (.callF q1v [(.t 46)]), mM 2 10 47])
 (.seq (.ops 55 4 [mM 0 48 0, mM 1 49 1, oO 2 50 (.callF q1R [(.t 48), (.t 49)]), mM 3 11 50])
 (.seq (.ops 59 4 [mM 0 51 6, nO 1 52 51, oO 2 53 (.mkslice ⟨2, 16, (.agg [(.int .i64 0), (.int .i64 0)])⟩ (.t 52) (.t 52)), mM 3 12 53])
 (.seq (.seq
 (.ops 63 3 [mM 0 54 6, nO 1 55 54, mI 2 56 0])
 (.block 2
 (.loop [(6, 0), (10, 0), (11, 0), (12, 0), (54, 0), (55, 0), (56, 0)]
 (.seq (.ops 66 1 [bT 0 57 .lss 56 55])
 (.seq (.cond (.t 57) .skip
 (.exit 2))
 (.seq (.block 3
 (.seq (.ops 67 6 [mM 0 58 56, xO 1 59 2 54 56, lO 2 60 false true 2 59, oO 3 14 (.new 2 (.agg [(.int .i64 0), (.int .i64 0)])), mM 4 13 58, sT 5 true 2 14 60])
 (.seq (.ops 73 10 [mM 0 61 6, mM 1 62 13, bC 2 63 .add 62 1, mM 3 64 6, nO 4 65 64, bT 5 66 .rem 63 65, xO 6 67 2 61 66, lO 7 68 false true 2 67, oO 8 15 (.new 2 (.agg [(.int .i64 0), (.int .i64 0)])), sT 9 true 2 15 68])
 (.seq (.ops 83 19 [fO 0 69 0 15, lB 1 70 1 19 true false 1 69, fO 2 71 0 14, lB 3 72 4 19 true false 1 71, bT 4 73 .sub 70 72, fO 5 74 1 15, lB 6 75 32 19 true false 1 74, fO 7 76 1 14, lB 8 77 128 19 true false 1 76, bT 9 78 .sub 75 77, mM 10 79 10, mM 11 80 11, mM 12 81 13, xB 13 82 6144 19 1 80 81, lB 14 83 14336 19 false false 1 82, bT 15 84 .mul 79 83, mM 16 16 73, mM 17 17 78, mM 18 18 84])
 (.seq (.ops 102 9 [mM 0 85 16, mM 1 86 16, bT 2 87 .mul 85 86, mM 3 88 17, mM 4 89 17, bT 5 90 .mul 88 89, bT 6 91 .add 87 90, oO 7 92 (.callF q7l [(.t 91)]), mM 8 19 92])
 (.ops 111 16 [mM 0 93 12, mM 1 94 13, mM 2 95 18, mM 3 96 17, bT 4 97 .mul 95 96, mM 5 98 19, oO 6 99 (.callF q1D [(.t 97), (.t 98)]), mM 7 100 18, oO 8 101 (.un .neg (.t 100)), mM 9 102 16, bT 10 103 .mul 101 102, mM 11 104 19, oO 12 105 (.callF q1D [(.t 103), (.t 104)]), oO 13 106 (.build [(.int .i64 0), (.int .i64 0)] [(0, 1, (.t 99)), (1, 1, (.t 105))]), xO 14 107 2 93 94, sT 15 false 2 107 106]))))))
 (.ops 127 2 [bC 0 108 .add 56 1, mM 1 56 108])))))))
 (.seq (.ops 129 3 [mM 0 109 12, mM 1 4 109, mI 2 5 0]) .ret)))))))))),
 [.t 4, .t 5]⟩
def qat : KFn := ⟨
 (.seq (.ops 6 1 [oO 0 4 (.mov (.c (.bool false)))])
 (.seq (.seq
 (.ops 7 5 [mM 0 6 0, nO 1 7 6, mM 2 8 1, nO 3 9 8, bT 4 10 .neq 7 9])
 (.cond (.t 10)
 (.seq (.ops 12 1 [oO 0 4 (.mov (.c (.bool false)))]) .ret) .skip))
 (.seq (.seq
 (.ops 13 1 [mI 0 5 0])
 (.block 0
 (.loop [(0, 0), (1, 0), (5, 0)]
 (.seq (.seq
 (.ops 14 4 [mM 0 11 5, mM 1 12 0, nO 2 13 12, bT 3 14 .lss 11 13])
 (.cond (.t 14) .skip
 (.exit 0)))
 (.seq (.block 1
 (.seq (.ops 18 9 [mM 0 17 0, mM 1 18 5, xB 2 19 3 9 2 17 18, lB 3 20 7 9 false true 2 19, mM 4 21 1, mM 5 22 5, xB 6 23 48 9 2 21 22, lB 7 24 112 9 false true 2 23, oO 8 25 (.bin .neq (.flat [.int, .int]) (.t 20) (.t 24))])
 (.cond (.t 25)
 (.seq (.ops 27 1 [oO 0 4 (.mov (.c (.bool false)))]) .ret) .skip)))
 (.ops 28 3 [mM 0 15 5, bC 1 16 .add 15 1, mM 2 5 16]))))))
 (.seq (.ops 31 1 [oO 0 4 (.mov (.c (.bool true)))]) .ret)))),
 [.t 4]⟩
def q4r : KFn := ⟨
 (.seq (.ops 20 2 [oO 0 4 (.mov (.c .nilsl)), mI 1 5 0])
 (.seq (.ops 22 8 [mM 0 23 0, mM 1 24 1, oO 2 25 (.callF q2z [(.t 23), (.t 24)]), mM 3 22 25, eO 4 26 22 0, eO 5 27 22 1, mM 6 6 26, mM 7 7 27])
 (.seq (.seq
 (.ops 30 2 [mM 0 28 7, bC 1 29 .neq 28 0])
 (.cond (.t 29)
 (.seq (.ops 32 3 [mM 0 30 7, oO 1 4 (.mov (.c .nilsl)), mM 2 5 30]) .ret) .skip))
 (.seq (.ops 35 7 [mM 0 32 0, oO 1 33 (.callF q4l [(.t 32)]), mM 2 31 33, eO 3 34 31 0, eO 4 35 31 1, mM 5 8 34, mM 6 7 35])
 (.seq (.seq
 (.ops 42 2 [mM 0 36 7, bC 1 37 .neq 36 0])
 (.cond (.t 37)
 (.seq (.ops 44 3 [mM 0 38 7, oO 1 4 (.mov (.c .nilsl)), mM 2 5 38]) .ret) .skip))
 (.seq (.ops 47 4 [mM 0 39 0, mM 1 40 1, oO 2 41 (.callF q1R [(.t 39), (.t 40)]), mM 3 9 41])
 (.seq (.ops 51 3 [mM 0 42 8, nO 1 43 42, mM 2 10 43])
 (.seq (.ops 54 3 [mM 0 44 10, oO 1 45 (.mkslice ⟨5, 40, (.agg [(.int .i64 0), (.int .i64 0), (.int .i64 0), (.int .i64 0), (.int .i64 0)])⟩ (.t 44) (.t 44)), mM 2 11 45])
 (.seq (.seq
 (.ops 57 3 [mM 0 46 6, nO 1 47 46, mI 2 48 0])
 (.block 0
 (.loop [(8, 0), (9, 0), (10, 0), (11, 0), (46, 0), (47, 0), (48, 0)]
 (.seq (.ops 60 1 [bT 0 49 .lss 48 47])
 (.seq (.cond (.t 49) .skip
 (.exit 0))
 (.seq (.block 1
 (.seq (.ops 61 6 [mM 0 50 48, xO 1 51 2 46 48, lO 2 52 false true 2 51, oO 3 13 (.new 2 (.agg [(.int .i64 0), (.int .i64 0)])), mM 4 12 50, sT 5 true 2 13 52])
 (.ops 67 24 [mM 0 53 11, mM 1 54 12, mM 2 55 8, mM 3 56 12, xB 4 57 12 24 2 55 56, lB 5 58 28 24 false true 2 57, lB 6 59 0 24 true true 2 13, oB 7 60 124 24 (.callF q3I [(.t 58), (.t 59)]), mM 8 61 8, mM 9 62 12, bC 10 63 .add 62 1, mM 11 64 10, bT 12 65 .rem 63 64, xB 13 66 7936 24 2 61 65, lB 14 67 16128 24 false true 2 66, lB 15 68 0 24 true true 2 13, oB 16 69 65532 24 (.callF q3I [(.t 67), (.t 68)]), mM 17 70 9, mM 18 71 12, xB 19 72 393216 24 1 70 71, lB 20 73 917504 24 false false 1 72, oO 21 74 (.build [(.int .i64 0), (.int .i64 0), (.int .i64 0), (.int .i64 0), (.int .i64 0)] [(0, 2, (.t 60)), (2, 2, (.t 69)), (4, 1, (.t 73))]), xB 22 75 4194303 24 5 53 54, ⟨23, none, none, (.bef 8388607 24), .store false 5 (.t 75) (.t 74)⟩])))
 (.ops 91 2 [bC 0 76 .add 48 1, mM 1 48 76])))))))
 (.seq (.ops 93 1 [oO 0 14 (.mov (.c .nilsl))])
 (.seq (.seq
 (.ops 94 3 [mM 0 77 8, nO 1 78 77, mI 2 79 0])
 (.block 2
 (.loop [(8, 0), (10, 0), (11, 0), (14, 2), (77, 0), (78, 0), (79, 0)]
 (.seq (.ops 97 1 [bT 0 80 .lss 79 78])
 (.seq (.cond (.t 80) .skip
 (.exit 2))
 (.seq (.block 3
 (.seq (.ops 98 6 [mM 0 81 79, xO 1 82 2 77 79, lO 2 83 false true 2 82, oO 3 16 (.new 2 (.agg [(.int .i64 0), (.int .i64 0)])), mM 4 15 81, sT 5 true 2 16 83])
 (.seq (.ops 104 17 [lB 0 84 0 17 true true 2 16, mM 1 85 11, mM 2 86 15, mM 3 87 10, bT 4 88 .add 86 87, bC 5 89 .sub 88 1, mM 6 90 10, bT 7 91 .rem 89 90, xB 8 92 254 17 5 85 91, lB 9 93 510 17 false true 5 92, mM 10 94 11, mM 11 95 15, xB 12 96 3072 17 5 94 95, lB 13 97 7168 17 false true 5 96, oB 14 98 16383 17 (.callF q69 [(.t 84), (.t 93), (.t 97)]), oB 15 99 32767 17 (.len .sl (.t 98)), mI 16 100 0])
 (.block 4
 (.loop [(8, 0), (10, 0), (11, 0), (14, 2), (77, 0), (78, 0), (79, 0), (98, 0), (99, 0), (100, 0)]
 (.seq (.ops 121 1 [bT 0 101 .lss 100 99])
 (.seq (.cond (.t 101) .skip
 (.exit 4))
 (.seq (.block 5
 (.seq (.ops 122 4 [xO 0 102 2 98 100, lO 1 103 false true 2 102, oO 2 18 (.new 2 (.agg [(.int .i64 0), (.int .i64 0)])), sT 3 true 2 18 103])
 (.seq (.ops 126 13 [mM 0 104 14, oB 1 105 1 13 (.len .sl (.t 104)), bC 2 106 .eql 105 0, mM 3 107 106, gM 4 108 107 false 14, gM 5 109 107 false 14, ⟨6, some 110, some (107, false), (.bef 47 13), .len .sl (.t 109)⟩, gG 7 111 107 false (.bin .sub .no (.t 110) (.c (.int .i64 1))), ⟨8, some 112, some (107, false), (.bef 255 13), .ixs 2 (.t 108) (.t 111)⟩, ⟨9, some 113, some (107, false), (.bef 511 13), .load false true 2 (.t 112)⟩, ⟨10, some 114, some (107, false), (.bef 15 13), .load true true 2 (.t 18)⟩, gG 11 115 107 false (.bin .neq (.flat [.int, .int]) (.t 113) (.t 114)), oO 12 116 (.pick (.t 107) (.c (.bool true)) (.t 115))])
 (.cond (.t 116)
 (.ops 139 5 [mM 0 117 14, lO 1 118 true true 2 18, oO 2 119 (.buildSlice 2 1 [(.agg [(.int .i64 0), (.int .i64 0)])] [(0, (.t 118))]), oO 3 120 (.append ⟨2, 16, (.agg [(.int .i64 0), (.int .i64 0)])⟩ .sl (.t 117) (.t 119)), mM 4 14 120]) .skip))))
 (.ops 144 2 [bC 0 121 .add 100 1, mM 1 100 121])))))))))
 (.ops 146 2 [bC 0 122 .add 79 1, mM 1 79 122])))))))
 (.seq (.block 6
 (.loop [(8, 0), (14, 0)]
 (.seq (.seq
 (.ops 148 15 [mM 0 123 14, oB 1 124 1 15 (.len .sl (.t 123)), bC 2 125 .geq 124 2, mM 3 126 125, gM 4 127 126 true 14, gM 5 128 126 true 14, ⟨6, some 129, some (126, true), (.bef 47 15), .len .sl (.t 128)⟩, gG 7 130 126 true (.bin .sub .no (.t 129) (.c (.int .i64 1))), ⟨8, some 131, some (126, true), (.bef 255 15), .ixs 2 (.t 127) (.t 130)⟩, ⟨9, some 132, some (126, true), (.bef 511 15), .load false true 2 (.t 131)⟩, gM 10 133 126 true 14, ⟨11, some 134, some (126, true), (.bef 1039 15), .ixs 2 (.t 133) (.c (.int .i64 0))⟩, ⟨12, some 135, some (126, true), (.bef 3087 15), .load false true 2 (.t 134)⟩, gG 13 136 126 true (.bin .eql (.flat [.int, .int]) (.t 132) (.t 135)), oO 14 137 (.pick (.t 126) (.t 136) (.c (.bool false)))])
 (.cond (.t 137) .skip
 (.exit 6)))
 (.block 7
 (.ops 163 6 [mM 0 138 14, mM 1 139 14, nO 2 140 139, bC 3 141 .sub 140 1, oO 4 142 (.slsl 2 (.t 138) none (some (.t 141)) none), mM 5 14 142])))))
 (.seq (.seq
 (.ops 169 3 [mM 0 143 14, nO 1 144 143, mI 2 145 0])
 (.block 8
 (.loop [(8, 0), (14, 0), (143, 0), (144, 0), (145, 0)]
 (.seq (.ops 172 1 [bT 0 146 .lss 145 144])
 (.seq (.cond (.t 146) .skip
 (.exit 8))
 (.seq (.block 9
 (.seq (.ops 173 4 [xO 0 147 2 143 145, lO 1 148 false true 2 147, oO 2 20 (.new 2 (.agg [(.int .i64 0), (.int .i64 0)])), sT 3 true 2 20 148])
 (.seq (.ops 177 3 [lO 0 149 true true 2 20, oO 1 150 (.callF q3P [(.t 149), (.c (.int .i64 1048576))]), oO 2 151 (.un .not (.t 150))])
 (.cond (.t 151)
 (.seq (.ops 180 2 [oO 0 4 (.mov (.c .nilsl)), mI 1 5 3]) .ret) .skip))))
 (.ops 182 2 [bC 0 152 .add 145 1, mM 1 145 152])))))))
 (.seq (.seq
 (.ops 184 3 [mM 0 153 14, oO 1 154 (.callF q3H [(.t 153)]), mM 2 21 154])
 (.seq (.ops 187 2 [mM 0 155 21, bC 1 156 .neq 155 0])
 (.cond (.t 156)
 (.seq (.ops 189 3 [mM 0 157 21, oO 1 4 (.mov (.c .nilsl)), mM 2 5 157]) .ret) .skip)))
 (.seq (.seq
 (.ops 192 5 [mM 0 158 14, oO 1 159 (.callF q1v [(.t 158)]), mM 2 160 8, oO 3 161 (.callF q1v [(.t 160)]), bT 4 162 .neq 159 161])
 (.cond (.t 162)
 (.seq (.ops 197 2 [oO 0 4 (.mov (.c .nilsl)), mI 1 5 11]) .ret) .skip))
 (.seq (.ops 199 3 [mM 0 163 14, mM 1 4 163, mI 2 5 0]) .ret)))))))))))))))),
 [.t 4, .t 5]⟩
def q99 : KFn := ⟨
 (.seq (.ops 8 2 [oO 0 4 (.mov (.c .nilsl)), mI 1 5 0])
 (.seq (.ops 10 8 [mM 0 16 0, mM 1 17 1, oO 2 18 (.callF q8W [(.t 16), (.t 17)]), mM 3 15 18, eO 4 19 15 0, eO 5 20 15 1, mM 6 6 19, mM 7 7 20])
 (.seq (.seq
 (.ops 18 2 [mM 0 21 7, bC 1 22 .neq 21 0])
 (.cond (.t 22)
 (.seq (.ops 20 3 [mM 0 23 7, oO 1 4 (.mov (.c .nilsl)), mM 2 5 23]) .ret) .skip))
 (.seq (.ops 23 1 [oO 0 8 (.mov (.c .nilsl))])
 (.seq (.seq
 (.ops 24 1 [mI 0 9 0])
 (.block 0
 (.loop [(0, 0), (6, 0), (8, 2), (9, 0)]
 (.seq (.seq
 (.ops 25 4 [mM 0 24 9, mM 1 25 6, nO 2 26 25, bT 3 27 .lss 24 26])
 (.cond (.t 27) .skip
 (.exit 0)))
 (.seq (.block 1
 (.ops 29 19 [mM 0 30 8, mM 1 31 6, mM 2 32 9, mM 3 33 6, oB 4 34 8 19 (.len .sl (.t 33)), bT 5 35 .add 32 34, bC 6 36 .sub 35 1, mM 7 37 6, oB 8 38 128 19 (.len .sl (.t 37)), bT 9 39 .rem 36 38, xB 10 40 1022 19 7 31 39, lB 11 41 2046 19 false true 7 40, mM 12 42 6, mM 13 43 9, xB 14 44 12288 19 7 42 43, lB 15 45 28672 19 false true 7 44, oB 16 46 65534 19 (.callF qbc [(.t 41), (.t 45)]), ⟨17, some 47, none, (.bef 131071 19), .append ⟨2, 16, (.agg [(.int .i64 0), (.int .i64 0)])⟩ .sl (.t 30) (.t 46)⟩, mM 18 8 47]))
 (.ops 48 3 [mM 0 28 9, bC 1 29 .add 28 1, mM 2 9 29]))))))
 (.seq (.ops 51 3 [mM 0 48 8, oO 1 49 (.callF qdV [(.t 48)]), mM 2 10 49])
 (.seq (.seq
 (.ops 54 1 [mI 0 11 0])
 (.block 2
 (.loop [(0, 0), (10, 0), (11, 0)]
 (.seq (.seq
 (.ops 55 4 [mM 0 50 11, mM 1 51 10, nO 2 52 51, bT 3 53 .lss 50 52])
 (.cond (.t 53) .skip
 (.exit 2)))
 (.seq (.block 3
 (.seq (.ops 59 6 [mM 0 56 10, mM 1 57 11, xO 2 58 2 56 57, lO 3 59 false true 2 58, oO 4 60 (.callF q7M [(.t 59), (.c (.int .i64 1048576))]), oO 5 61 (.un .not (.t 60))])
 (.cond (.t 61)
 (.seq (.ops 65 2 [oO 0 4 (.mov (.c .nilsl)), mI 1 5 3]) .ret) .skip)))
 (.ops 67 3 [mM 0 54 11, bC 1 55 .add 54 1, mM 2 11 55]))))))
 (.seq (.seq
 (.ops 70 3 [mM 0 62 10, oO 1 63 (.callF q6A [(.t 62)]), mM 2 12 63])
 (.seq (.ops 73 2 [mM 0 64 12, bC 1 65 .neq 64 0])
 (.cond (.t 65)
 (.seq (.ops 75 3 [mM 0 66 12, oO 1 4 (.mov (.c .nilsl)), mM 2 5 66]) .ret) .skip)))
 (.seq (.ops 78 7 [mM 0 68 0, oO 1 69 (.callF q6P [(.t 68)]), mM 2 67 69, eO 3 70 67 0, eO 4 71 67 1, mM 5 13 70, mM 6 14 71])
 (.seq (.seq
 (.ops 85 5 [mM 0 72 10, oO 1 73 (.callF q2S [(.t 72)]), mM 2 74 13, oO 3 75 (.callF q2S [(.t 74)]), bT 4 76 .neq 73 75])
 (.cond (.t 76)
 (.seq (.ops 90 2 [oO 0 4 (.mov (.c .nilsl)), mI 1 5 11]) .ret) .skip))
 (.seq (.ops 92 3 [mM 0 77 10, mM 1 4 77, mI 2 5 0]) .ret))))))))))),
 [.t 4, .t 5]⟩
def q4s : KFn := ⟨
 (.seq (.ops 0 2 [oO 0 2 (.mov (.c .nilsl)), mI 1 3 0])
 (.seq (.seq
 (.ops 2 3 [mM 0 5 0, oO 1 6 (.callF q8m [(.t 5)]), mM 2 4 6])
 (.seq (.ops 5 2 [mM 0 7 4, bC 1 8 .neq 7 0])
 (.cond (.t 8)
 (.seq (.ops 7 3 [mM 0 9 4, oO 1 2 (.mov (.c .nilsl)), mM 2 3 9]) .ret) .skip)))
 (.seq (.ops 10 4 [mM 0 10 0, oO 1 11 (.callF q3Q [(.t 10)]), mM 2 2 11, mI 3 3 0]) .ret))),
 [.t 2, .t 3]⟩
def q6S : KFn := ⟨
 (.seq (.ops 0 2 [oO 0 2 (.mov (.c .nilsl)), mI 1 3 0])
 (.seq (.seq
 (.ops 2 3 [mM 0 5 0, oO 1 6 (.callF q8T [(.t 5)]), mM 2 4 6])
 (.seq (.ops 5 2 [mM 0 7 4, bC 1 8 .neq 7 0])
 (.cond (.t 8)
 (.seq (.ops 7 3 [mM 0 9 4, oO 1 2 (.mov (.c .nilsl)), mM 2 3 9]) .ret) .skip)))
 (.seq (.ops 10 4 [mM 0 10 0, oO 1 11 (.callF q6a [(.t 10)]), mM 2 2 11, mI 3 3 0]) .ret))),
 [.t 2, .t 3]⟩
def q5u : KFn := ⟨
 (.seq (.ops 16 1 [mI 0 2 0])
 (.seq (.seq
 (.ops 17 3 [mM 0 11 0, nO 1 12 11, bC 2 13 .gtr 12 16])
 (.cond (.t 13)
 (.seq (.ops 20 1 [mI 0 2 5]) .ret) .skip))
 (.seq (.seq
 (.ops 21 3 [mM 0 14 0, nO 1 15 14, bC 2 16 .lss 15 2])
 (.cond (.t 16)
 (.seq (.ops 24 1 [mI 0 2 11]) .ret) .skip))
 (.seq (.seq
 (.ops 25 3 [mM 0 17 0, nO 1 18 17, mI 2 19 0])
 (.block 0
 (.loop [(0, 0), (17, 0), (18, 0), (19, 0)]
 (.seq (.ops 28 1 [bT 0 20 .lss 19 18])
 (.seq (.cond (.t 20) .skip
 (.exit 0))
 (.seq (.block 1
 (.seq (.ops 29 6 [mM 0 21 19, xO 1 22 2 17 19, lO 2 23 false true 2 22, oO 3 4 (.new 2 (.agg [(.str ⟨#[]⟩), .nilsl])), mM 4 3 21, sT 5 true 2 4 23])
 (.seq (.seq
 (.ops 35 4 [fO 0 24 0 4, lO 1 25 true false 1 24, oO 2 26 (.callF q7m [(.t 25)]), oO 3 27 (.un .not (.t 26))])
 (.cond (.t 27)
 (.seq (.ops 39 1 [mI 0 2 1]) .ret) .skip))
 (.seq (.seq
 (.ops 40 5 [mM 0 28 0, mM 1 29 3, oO 2 30 (.slsl 2 (.t 28) none (some (.t 29)) none), nO 3 31 30, mI 4 32 0])
 (.block 2
 (.loop [(0, 0), (4, 0), (17, 0), (18, 0), (19, 0), (30, 0), (31, 0), (32, 0)]
 (.seq (.ops 45 1 [bT 0 33 .lss 32 31])
 (.seq (.cond (.t 33) .skip
 (.exit 2))
 (.seq (.block 3
 (.seq (.ops 46 4 [xO 0 34 2 30 32, lO 1 35 false true 2 34, oO 2 6 (.new 2 (.agg [(.str ⟨#[]⟩), .nilsl])), sT 3 true 2 6 35])
 (.seq (.ops 50 5 [fO 0 36 0 6, lO 1 37 true false 1 36, fO 2 38 0 4, lO 3 39 true false 1 38, bT 4 40 .eql 37 39])
 (.cond (.t 40)
 (.seq (.ops 55 1 [mI 0 2 7]) .ret) .skip))))
 (.ops 56 2 [bC 0 41 .add 32 1, mM 1 32 41])))))))
 (.seq (.ops 58 4 [fO 0 42 1 4, lO 1 43 true false 1 42, oO 2 44 (.callF q7n [(.t 43)]), mM 3 7 44])
 (.seq (.ops 62 2 [mM 0 45 7, bC 1 46 .neq 45 0])
 (.cond (.t 46)
 (.seq (.ops 64 2 [mM 0 47 7, mM 1 2 47]) .ret) .skip)))))))
 (.ops 66 2 [bC 0 48 .add 19 1, mM 1 19 48])))))))
 (.seq (.seq
 (.ops 68 3 [mM 0 49 0, nO 1 50 49, mI 2 51 0])
 (.block 4
 (.loop [(0, 0), (49, 0), (50, 0), (51, 0)]
 (.seq (.ops 71 1 [bT 0 52 .lss 51 50])
 (.seq (.cond (.t 52) .skip
 (.exit 4))
 (.seq (.block 5
 (.seq (.ops 72 6 [mM 0 53 51, xO 1 54 2 49 51, lO 2 55 false true 2 54, oO 3 9 (.new 2 (.agg [(.str ⟨#[]⟩), .nilsl])), mM 4 8 53, sT 5 true 2 9 55])
 (.seq (.ops 78 10 [mM 0 56 0, mM 1 57 8, bC 2 58 .add 57 1, mM 3 59 0, nO 4 60 59, bT 5 61 .rem 58 60, xO 6 62 2 56 61, lO 7 63 false true 2 62, oO 8 10 (.new 2 (.agg [(.str ⟨#[]⟩), .nilsl])), sT 9 true 2 10 63])
 (.seq (.ops 88 13 [fO 0 64 1 9, lB 1 65 1 13 true false 1 64, fO 2 66 1 9, lB 3 67 4 13 true false 1 66, oB 4 68 12 13 (.len .sl (.t 67)), bC 5 69 .sub 68 1, xB 6 70 63 13 2 65 69, lB 7 71 127 13 false true 2 70, fO 8 72 1 10, lB 9 73 256 13 true false 1 72, oB 10 74 768 13 (.ixs 2 (.t 73) (.c (.int .i64 0))), lB 11 75 1792 13 false true 2 74, oO 12 76 (.bin .neq (.flat [.int, .int]) (.t 71) (.t 75))])
 (.cond (.t 76)
 (.seq (.ops 101 1 [mI 0 2 11]) .ret) .skip)))))
 (.ops 102 2 [bC 0 77 .add 51 1, mM 1 51 77])))))))
 (.seq (.ops 104 4 [mM 0 78 0, oO 1 79 (.callF q3Q [(.t 78)]), oO 2 80 (.callF q3H [(.t 79)]), mM 3 2 80]) .ret)))))),
 [.t 2]⟩
def q9a : KFn := ⟨
 (.seq (.ops 4 1 [mI 0 2 0])
 (.seq (.seq
 (.ops 5 3 [mM 0 8 0, nO 1 9 8, bC 2 10 .gtr 9 16])
 (.cond (.t 10)
 (.seq (.ops 8 1 [mI 0 2 5]) .ret) .skip))
 (.seq (.seq
 (.ops 9 3 [mM 0 11 0, nO 1 12 11, bC 2 13 .lss 12 2])
 (.cond (.t 13)
 (.seq (.ops 12 1 [mI 0 2 11]) .ret) .skip))
 (.seq (.seq
 (.ops 13 1 [mI 0 3 0])
 (.block 0
 (.loop [(0, 0), (3, 0)]
 (.seq (.seq
 (.ops 14 4 [mM 0 14 3, mM 1 15 0, nO 2 16 15, bT 3 17 .lss 14 16])
 (.cond (.t 17) .skip
 (.exit 0)))
 (.seq (.block 1
 (.seq (.seq
 (.ops 18 7 [mM 0 20 0, mM 1 21 3, xO 2 22 2 20 21, fO 3 23 0 22, lO 4 24 false false 1 23, oO 5 25 (.callF qdW [(.t 24)]), oO 6 26 (.un .not (.t 25))])
 (.cond (.t 26)
 (.seq (.ops 25 1 [mI 0 2 1]) .ret) .skip))
 (.seq (.seq
 (.ops 26 8 [mM 0 27 0, mM 1 28 3, mM 2 29 0, mM 3 30 3, xO 4 31 2 29 30, fO 5 32 0 31, lO 6 33 false false 1 32, oO 7 34 (.callF qcz [(.t 27), (.t 28), (.t 33)])])
 (.cond (.t 34)
 (.seq (.ops 34 1 [mI 0 2 7]) .ret) .skip))
 (.seq (.ops 35 7 [mM 0 35 0, mM 1 36 3, xO 2 37 2 35 36, fO 3 38 1 37, lO 4 39 false false 1 38, oO 5 40 (.callF qcA [(.t 39)]), mM 6 4 40])
 (.seq (.ops 42 2 [mM 0 41 4, bC 1 42 .neq 41 0])
 (.cond (.t 42)
 (.seq (.ops 44 2 [mM 0 43 4, mM 1 2 43]) .ret) .skip))))))
 (.ops 46 3 [mM 0 18 3, bC 1 19 .add 18 1, mM 2 3 19]))))))
 (.seq (.seq
 (.ops 49 1 [mI 0 5 0])
 (.block 2
 (.loop [(0, 0), (5, 0)]
 (.seq (.seq
 (.ops 50 4 [mM 0 44 5, mM 1 45 0, nO 2 46 45, bT 3 47 .lss 44 46])
 (.cond (.t 47) .skip
 (.exit 2)))
 (.seq (.block 3
 (.seq (.ops 54 16 [mM 0 50 0, mM 1 51 5, xB 2 52 3 16 2 50 51, fO 3 53 1 52, lB 4 54 15 16 false false 1 53, mM 5 55 0, mM 6 56 5, bC 7 57 .add 56 1, mM 8 58 0, oB 9 59 256 16 (.len .sl (.t 58)), bT 10 60 .rem 57 59, xB 11 61 2016 16 2 55 60, fO 12 62 1 61, lB 13 63 8160 16 false false 1 62, mM 14 6 54, mM 15 7 63])
 (.seq (.ops 70 10 [mM 0 64 6, mM 1 65 6, oB 2 66 2 10 (.len .sl (.t 65)), bC 3 67 .sub 66 1, xB 4 68 15 10 2 64 67, lB 5 69 31 10 false true 2 68, mM 6 70 7, oB 7 71 64 10 (.ixs 2 (.t 70) (.c (.int .i64 0))), lB 8 72 192 10 false true 2 71, oO 9 73 (.bin .neq (.flat [.int, .int]) (.t 69) (.t 72))])
 (.cond (.t 73)
 (.seq (.ops 80 1 [mI 0 2 11]) .ret) .skip))))
 (.ops 81 3 [mM 0 48 5, bC 1 49 .add 48 1, mM 2 5 49]))))))
 (.seq (.ops 84 4 [mM 0 74 0, oO 1 75 (.callF q6a [(.t 74)]), oO 2 76 (.callF q6A [(.t 75)]), mM 3 2 76]) .ret)))))),
 [.t 2]⟩
def q5v : KFn := ⟨
 (.seq (.ops 0 1 [mI 0 2 0])
 (.seq (.seq
 (.ops 1 3 [mM 0 3 0, nO 1 4 3, bC 2 5 .gtr 4 40])
 (.cond (.t 5)
 (.seq (.ops 4 1 [mI 0 2 5]) .ret) .skip))
 (.seq (.seq
 (.ops 5 3 [mM 0 6 0, nO 1 7 6, bC 2 8 .lss 7 3])
 (.cond (.t 8)
 (.seq (.ops 8 1 [mI 0 2 11]) .ret) .skip))
 (.seq (.seq
 (.ops 9 2 [mM 0 9 0, oO 1 10 (.callF q1o [(.t 9), (.c (.fn q4m [] []))])])
 (.cond (.t 10)
 (.seq (.ops 11 1 [mI 0 2 3]) .ret) .skip))
 (.seq (.seq
 (.ops 12 3 [mM 0 11 0, oO 1 12 (.callF q7o [(.t 11)]), oO 2 13 (.un .not (.t 12))])
 (.cond (.t 13)
 (.seq (.ops 15 1 [mI 0 2 11]) .ret) .skip))
 (.seq (.ops 16 1 [mI 0 2 0]) .ret)))))),
 [.t 2]⟩
def q7S : KFn := ⟨
 (.seq (.ops 0 3 [oO 0 1 (.box 6 (.t 0)), oO 1 2 (.new 2 (.agg [(.int .i64 0), (.int .i64 0)])), mI 2 3 0])
 (.seq (.ops 3 8 [fO 0 9 0 1, lO 1 10 true true 3 9, oO 2 11 (.callF q3R [(.t 10)]), mM 3 8 11, eO 4 12 8 0, eO 5 13 8 1, mM 6 4 12, mM 7 5 13])
 (.seq (.ops 11 8 [fO 0 15 3 1, lO 1 16 true true 3 15, oO 2 17 (.callF q3R [(.t 16)]), mM 3 14 17, eO 4 18 14 0, eO 5 19 14 1, mM 6 6 18, mM 7 7 19])
 (.seq (.seq
 (.ops 19 6 [mM 0 20 5, oO 1 21 (.un .not (.t 20)), mM 2 22 21, gM 3 23 22 false 7, gG 4 24 22 false (.un .not (.t 23)), oO 5 25 (.pick (.t 22) (.c (.bool true)) (.t 24))])
 (.cond (.t 25)
 (.seq (.ops 25 3 [oO 0 26 (.build [(.int .i64 0), (.int .i64 0)] []), sT 1 true 2 2 26, mI 2 3 3]) .ret) .skip))
 (.seq (.ops 28 5 [mM 0 27 4, mM 1 28 6, oO 2 29 (.build [(.int .i64 0), (.int .i64 0)] [(0, 1, (.t 27)), (1, 1, (.t 28))]), sT 3 true 2 2 29, mI 4 3 0]) .ret))))),
 [.cell 2 true 2, .t 3]⟩
def q5w : KFn := ⟨
 (.seq (.ops 0 1 [mI 0 2 0])
 (.seq (.seq
 (.ops 1 3 [mM 0 3 0, oO 1 4 (.callF q3H [(.t 3)]), bC 2 5 .neq 4 0])
 (.cond (.t 5)
 (.seq (.ops 4 1 [mI 0 2 0]) .ret) .skip))
 (.seq (.ops 5 3 [mM 0 6 0, oO 1 7 (.callF q8X [(.t 6)]), mM 2 2 7]) .ret))),
 [.t 2]⟩
def q6b : KFn := ⟨
 (.seq (.ops 8 1 [mI 0 4 0])
 (.seq (.ops 9 1 [mI 0 5 0])
 (.seq (.seq
 (.ops 10 1 [mI 0 6 0])
 (.block 0
 (.loop [(0, 0), (1, 0), (5, 0), (6, 0)]
 (.seq (.seq
 (.ops 11 9 [mM 0 7 6, mM 1 8 0, nO 2 9 8, bT 3 10 .lss 7 9, mM 4 11 10, gM 5 12 11 true 5, gM 6 13 11 true 1, gG 7 14 11 true (.bin .leq .no (.t 12) (.t 13)), oO 8 15 (.pick (.t 11) (.t 14) (.c (.bool false)))])
 (.cond (.t 15) .skip
 (.exit 0)))
 (.seq (.block 1
 (.ops 20 13 [mM 0 18 5, mM 1 19 0, mM 2 20 6, xO 3 21 2 19 20, fO 4 22 1 21, lO 5 23 false false 1 22, nO 6 24 23, bT 7 25 .add 18 24, bC 8 26 .add 25 1, mM 9 27 1, bC 10 28 .add 27 1, oO 11 29 (.mm false [(.t 26), (.t 28)]), mM 12 5 29]))
 (.ops 33 3 [mM 0 16 6, bC 1 17 .add 16 1, mM 2 6 17]))))))
 (.seq (.ops 36 2 [mM 0 30 5, mM 1 4 30]) .ret)))),
 [.t 4]⟩
def q9b : KFn := ⟨
 (.seq (.ops 8 1 [oO 0 2 (.mov (.c .nilsl))])
 (.seq (.ops 9 1 [oO 0 3 (.mov (.c .nilsl))])
 (.seq (.seq
 (.ops 10 3 [mM 0 5 0, nO 1 6 5, mI 2 7 0])
 (.block 0
 (.loop [(0, 0), (3, 2), (6, 0), (7, 0)]
 (.seq (.ops 13 1 [bT 0 8 .lss 7 6])
 (.seq (.cond (.t 8) .skip
 (.exit 0))
 (.seq (.block 1
 (.seq (.ops 14 2 [mM 0 9 7, mM 1 4 9])
 (.ops 16 24 [mM 0 10 3, mM 1 11 4, bC 2 12 .rem 11 26, oB 3 13 6 24 (.conv (.int .u8) (.t 12)), oO 4 14 (.bin .add .no (.c (.int .u8 97)) (.t 13)), oB 5 15 30 24 (.buildSlice 1 1 [(.int .u8 0)] [(0, (.t 14))]), oB 6 16 62 24 (.conv .bytes (.t 15)), mM 7 17 0, mM 8 18 4, xB 9 19 384 24 2 17 18, lB 10 20 896 24 false true 2 19, mM 11 21 0, mM 12 22 4, bC 13 23 .add 22 1, mM 14 24 0, oB 15 25 16384 24 (.len .sl (.t 24)), bT 16 26 .rem 23 25, xB 17 27 129024 24 2 21 26, lB 18 28 260096 24 false true 2 27, oB 19 29 524160 24 (.buildSlice 2 2 [(.agg [(.int .i64 0), (.int .i64 0)]), (.agg [(.int .i64 0), (.int .i64 0)])] [(0, (.t 20)), (1, (.t 28))]), oO 20 30 (.build [(.str ⟨#[]⟩), .nilsl] [(0, 1, (.t 16)), (1, 1, (.t 29))]), ⟨21, some 31, none, (.bef 2097150 24), .buildSlice 2 1 [(.agg [(.str ⟨#[]⟩), .nilsl])] [(0, (.t 30))]⟩, ⟨22, some 32, none, (.bef 4194303 24), .append ⟨2, 40, (.agg [(.str ⟨#[]⟩), .nilsl])⟩ .sl (.t 10) (.t 31)⟩, mM 23 3 32])))
 (.ops 40 2 [bC 0 33 .add 7 1, mM 1 7 33])))))))
 (.seq (.ops 42 2 [mM 0 34 3, mM 1 2 34]) .ret)))),
 [.t 2]⟩
def qau : KFn := ⟨
 (.seq (.ops 0 1 [oO 0 8 (.mov (.c .nilsl))])
 (.seq (.ops 1 14 [mM 0 9 0, mM 1 10 1, oO 2 11 (.build [(.int .i64 0), (.int .i64 0)] [(0, 1, (.t 9)), (1, 1, (.t 10))]), mM 3 12 2, mM 4 13 1, oO 5 14 (.build [(.int .i64 0), (.int .i64 0)] [(0, 1, (.t 12)), (1, 1, (.t 13))]), mM 6 15 2, mM 7 16 3, oO 8 17 (.build [(.int .i64 0), (.int .i64 0)] [(0, 1, (.t 15)), (1, 1, (.t 16))]), mM 9 18 0, mM 10 19 3, oO 11 20 (.build [(.int .i64 0), (.int .i64 0)] [(0, 1, (.t 18)), (1, 1, (.t 19))]), oO 12 21 (.buildSlice 2 4 [(.agg [(.int .i64 0), (.int .i64 0)]), (.agg [(.int .i64 0), (.int .i64 0)]), (.agg [(.int .i64 0), (.int .i64 0)]), (.agg [(.int .i64 0), (.int .i64 0)])] [(0, (.t 11)), (1, (.t 14)), (2, (.t 17)), (3, (.t 20))]), mM 13 8 21]) .ret)),
 [.t 8]⟩
def q2m : KFn := ⟨
 (.seq (.ops 0 1 [mI 0 2 0])
 (.seq (.ops 1 4 [mM 0 3 0, oO 1 4 (.callF q5s [(.t 3)]), oO 2 5 (.callF q1h [(.t 4), (.c (.int .i64 0))]), mM 3 2 5]) .ret)),
 [.t 2]⟩
def q1S : KFn := ⟨
 (.seq (.ops 16 1 [oO 0 4 (.mov (.c .nilsl))])
 (.seq (.ops 17 1 [oO 0 5 (.mov (.c .nilsl))])
 (.seq (.seq
 (.ops 18 3 [mM 0 8 0, nO 1 9 8, mI 2 10 0])
 (.block 0
 (.loop [(1, 0), (5, 1), (8, 0), (9, 0), (10, 0)]
 (.seq (.ops 21 1 [bT 0 11 .lss 10 9])
 (.seq (.cond (.t 11) .skip
 (.exit 0))
 (.seq (.block 1
 (.seq (.ops 22 6 [mM 0 12 10, xO 1 13 2 8 10, lO 2 14 false true 2 13, oO 3 7 (.new 2 (.agg [(.str ⟨#[]⟩), .nilsl])), mM 4 6 12, sT 5 true 2 7 14])
 (.seq (.ops 28 5 [fO 0 15 1 7, lO 1 16 true false 1 15, nO 2 17 16, bC 3 18 .sub 17 1, mI 4 19 0])
 (.block 2
 (.loop [(1, 0), (5, 1), (6, 0), (8, 0), (9, 0), (10, 0), (18, 0), (19, 0)]
 (.seq (.ops 33 1 [bT 0 20 .lss 19 18])
 (.seq (.cond (.t 20) .skip
 (.exit 2))
 (.seq (.block 3
 (.ops 34 8 [mM 0 21 5, mM 1 22 1, mM 2 23 6, xO 3 24 1 22 23, lO 4 25 false false 1 24, oO 5 26 (.buildSlice 1 1 [(.int .i64 0)] [(0, (.t 25))]), oO 6 27 (.append ⟨1, 8, (.int .i64 0)⟩ .sl (.t 21) (.t 26)), mM 7 5 27]))
 (.ops 42 2 [bC 0 28 .add 19 1, mM 1 19 28])))))))))
 (.ops 44 2 [bC 0 29 .add 10 1, mM 1 10 29])))))))
 (.seq (.ops 46 2 [mM 0 30 5, mM 1 4 30]) .ret)))),
 [.t 4]⟩
def q4S : KFn := ⟨
 (.seq (.ops 4 1 [mI 0 2 0])
 (.seq (.ops 5 5 [mM 0 4 0, oO 1 5 (.conv (.float .f64) (.t 4)), oO 2 6 (.callF qcB [(.t 5)]), oO 3 7 (.conv (.int .i64) (.t 6)), mM 4 3 7])
 (.seq (.block 0
 (.loop [(0, 0), (3, 0)]
 (.seq (.seq
 (.ops 10 5 [mM 0 8 3, mM 1 9 3, bT 2 10 .mul 8 9, mM 3 11 0, bT 4 12 .gtr 10 11])
 (.cond (.t 12) .skip
 (.exit 0)))
 (.block 1
 (.ops 15 3 [mM 0 13 3, bC 1 14 .sub 13 1, mM 2 3 14])))))
 (.seq (.block 2
 (.loop [(0, 0), (3, 0)]
 (.seq (.seq
 (.ops 18 7 [mM 0 15 3, bC 1 16 .add 15 1, mM 2 17 3, bC 3 18 .add 17 1, bT 4 19 .mul 16 18, mM 5 20 0, bT 6 21 .leq 19 20])
 (.cond (.t 21) .skip
 (.exit 2)))
 (.block 3
 (.ops 25 3 [mM 0 22 3, bC 1 23 .add 22 1, mM 2 3 23])))))
 (.seq (.ops 28 2 [mM 0 24 3, mM 1 2 24]) .ret))))),
 [.t 2]⟩
def q2f : KFn := ⟨
 (.seq (.ops 0 1 [mI 0 4 0])
 (.seq (.seq
 (.ops 1 2 [mM 0 5 0, bC 1 6 .lss 5 0])
 (.cond (.t 6)
 (.seq (.ops 3 6 [mM 0 7 0, oO 1 8 (.un .neg (.t 7)), mM 2 9 1, oO 3 10 (.callF q1D [(.t 8), (.t 9)]), oO 4 11 (.un .neg (.t 10)), mM 5 4 11]) .ret) .skip))
 (.seq (.ops 9 8 [mM 0 12 0, oO 1 13 (.bin .mul .no (.c (.int .i64 2)) (.t 12)), mM 2 14 1, bT 3 15 .add 13 14, mM 4 16 1, oO 5 17 (.bin .mul .no (.c (.int .i64 2)) (.t 16)), bT 6 18 .quo 15 17, mM 7 4 18]) .ret))),
 [.t 4]⟩
def q6c : KFn := ⟨
 (.seq (.ops 12 2 [oO 0 4 (.mov (.c .nilsl)), mI 1 5 0])
 (.seq (.seq
 (.ops 14 3 [mM 0 16 0, oO 1 17 (.callF q8T [(.t 16)]), mM 2 6 17])
 (.seq (.ops 17 2 [mM 0 18 6, bC 1 19 .neq 18 0])
 (.cond (.t 19)
 (.seq (.ops 19 3 [mM 0 20 6, oO 1 4 (.mov (.c .nilsl)), mM 2 5 20]) .ret) .skip)))
 (.seq (.seq
 (.ops 22 5 [mM 0 21 1, nO 1 22 21, mM 2 23 0, nO 3 24 23, bT 4 25 .neq 22 24])
 (.cond (.t 25)
 (.seq (.ops 27 2 [oO 0 4 (.mov (.c .nilsl)), mI 1 5 1]) .ret) .skip))
 (.seq (.seq
 (.ops 29 1 [mI 0 7 0])
 (.block 0
 (.loop [(0, 0), (1, 0), (7, 0)]
 (.seq (.seq
 (.ops 30 4 [mM 0 26 7, mM 1 27 1, nO 2 28 27, bT 3 29 .lss 26 28])
 (.cond (.t 29) .skip
 (.exit 0)))
 (.seq (.block 1
 (.seq (.ops 34 12 [mM 0 32 1, mM 1 33 7, xO 2 34 1 32 33, lO 3 35 false false 1 34, bC 4 36 .lss 35 0, mM 5 37 36, gM 6 38 37 false 1, gM 7 39 37 false 7, gG 8 40 37 false (.ixs 1 (.t 38) (.t 39)), gG 9 41 37 false (.load false false 1 (.t 40)), gG 10 42 37 false (.bin .gtr .no (.t 41) (.c (.int .i64 500))), oO 11 43 (.pick (.t 37) (.c (.bool true)) (.t 42))])
 (.cond (.t 43)
 (.seq (.ops 46 2 [oO 0 4 (.mov (.c .nilsl)), mI 1 5 3]) .ret) .skip)))
 (.ops 48 3 [mM 0 30 7, bC 1 31 .add 30 1, mM 2 7 31]))))))
 (.seq (.ops 51 7 [mM 0 45 0, oO 1 46 (.callF q6P [(.t 45)]), mM 2 44 46, eO 3 47 44 0, eO 4 48 44 1, mM 5 8 47, mM 6 9 48])
 (.seq (.ops 58 3 [mM 0 49 8, oO 1 50 (.callF q2S [(.t 49)]), mM 2 10 50])
 (.seq (.ops 61 1 [oO 0 11 (.mov (.c .nilsl))])
 (.seq (.seq
 (.ops 62 1 [mI 0 12 0])
 (.block 2
 (.loop [(0, 0), (1, 0), (10, 0), (11, 7), (12, 0)]
 (.seq (.seq
 (.ops 63 4 [mM 0 51 12, mM 1 52 0, nO 2 53 52, bT 3 54 .lss 51 53])
 (.cond (.t 54) .skip
 (.exit 2)))
 (.seq (.block 3
 (.seq (.ops 67 1 [mI 0 13 0])
 (.block 4
 (.loop [(0, 0), (1, 0), (10, 0), (11, 7), (12, 0), (13, 0)]
 (.seq (.seq
 (.ops 68 9 [mM 0 57 13, bC 1 58 .add 57 1, mM 2 59 0, mM 3 60 12, xO 4 61 2 59 60, fO 5 62 1 61, lO 6 63 false false 1 62, nO 7 64 63, bT 8 65 .lss 58 64])
 (.cond (.t 65) .skip
 (.exit 4)))
 (.seq (.block 5
 (.seq (.ops 77 21 [mM 0 68 0, mM 1 69 12, xB 2 70 3 21 2 68 69, fO 3 71 1 70, lB 4 72 15 21 false false 1 71, mM 5 73 13, xB 6 74 63 21 2 72 73, lB 7 75 127 21 false true 2 74, mM 8 76 0, mM 9 77 12, xB 10 78 768 21 2 76 77, fO 11 79 1 78, lB 12 80 3840 21 false false 1 79, mM 13 81 13, bC 14 82 .add 81 1, xB 15 83 32512 21 2 80 82, lB 16 84 65280 21 false true 2 83, oB 17 14 0 21 (.new 2 (.agg [(.int .i64 0), (.int .i64 0)])), oB 18 15 0 21 (.new 2 (.agg [(.int .i64 0), (.int .i64 0)])), ⟨19, none, none, (.init 17), .store true 2 (.t 14) (.t 75)⟩, ⟨20, none, none, (.init 18), .store true 2 (.t 15) (.t 84)⟩])
 (.ops 98 19 [mM 0 85 11, lB 1 86 0 19 true true 2 14, lB 2 87 0 19 true true 2 15, mM 3 88 1, mM 4 89 12, xB 5 90 24 19 1 88 89, lB 6 91 56 19 false false 1 90, lB 7 92 0 19 true true 2 14, lB 8 93 0 19 true true 2 15, mM 9 94 1, mM 10 95 12, xB 11 96 1536 19 1 94 95, lB 12 97 3584 19 false false 1 96, mM 13 98 10, oB 14 99 16256 19 (.callF qcC [(.t 92), (.t 93), (.t 97), (.t 98)]), oO 15 100 (.build [(.int .i64 0), (.int .i64 0), (.int .i64 0), (.int .i64 0), (.int .i64 0), (.int .i64 0), (.int .i64 0)] [(0, 2, (.t 86)), (2, 2, (.t 87)), (4, 1, (.t 91)), (5, 2, (.t 99))]), oB 16 101 65534 19 (.buildSlice 7 1 [(.agg [(.int .i64 0), (.int .i64 0), (.int .i64 0), (.int .i64 0), (.int .i64 0), (.int .i64 0), (.int .i64 0)])] [(0, (.t 100))]), ⟨17, some 102, none, (.bef 131071 19), .append ⟨7, 56, (.agg [(.int .i64 0), (.int .i64 0), (.int .i64 0), (.int .i64 0), (.int .i64 0), (.int .i64 0), (.int .i64 0)])⟩ .sl (.t 85) (.t 101)⟩, mM 18 11 102])))
 (.ops 117 3 [mM 0 66 13, bC 1 67 .add 66 1, mM 2 13 67])))))))
 (.ops 120 3 [mM 0 55 12, bC 1 56 .add 55 1, mM 2 12 56]))))))
 (.seq (.ops 123 3 [mM 0 103 11, mM 1 4 103, mI 2 5 0]) .ret))))))))),
 [.t 4, .t 5]⟩
def q5x : KFn := ⟨
 (.seq (.ops 0 3 [oO 0 2 (.box 2 (.t 0)), oO 1 3 (.box 2 (.t 1)), oO 2 4 (.new 2 (.agg [(.int .i64 0), (.int .i64 0)]))])
 (.seq (.ops 3 12 [fO 0 5 0 2, lO 1 6 true false 1 5, fO 2 7 0 3, lO 3 8 true false 1 7, bT 4 9 .add 6 8, fO 5 10 1 2, lO 6 11 true false 1 10, fO 7 12 1 3, lO 8 13 true false 1 12, bT 9 14 .add 11 13, oO 10 15 (.build [(.int .i64 0), (.int .i64 0)] [(0, 1, (.t 9)), (1, 1, (.t 14))]), sT 11 true 2 4 15]) .ret)),
 [.cell 4 true 2]⟩
def q3W : KFn := ⟨
 (.seq (.ops 0 4 [oO 0 3 (.box 2 (.t 0)), oO 1 4 (.box 5 (.t 1)), oO 2 5 (.box 5 (.t 2)), oO 3 6 (.mov (.c .nilsl))])
 (.seq (.ops 4 19 [fO 0 12 0 4, lB 1 13 1 19 true true 2 12, oB 2 14 3 19 (.callF q1w [(.t 13)]), fO 3 15 2 4, lB 4 16 8 19 true true 2 15, oB 5 17 31 19 (.callF q1w [(.t 16)]), fO 6 18 0 5, lB 7 19 64 19 true true 2 18, oB 8 20 255 19 (.callF q1w [(.t 19)]), fO 9 21 2 5, lB 10 22 512 19 true true 2 21, oB 11 23 2047 19 (.callF q1w [(.t 22)]), oB 12 24 4095 19 (.callF qbd [(.t 14), (.t 17), (.t 20), (.t 23)]), mM 13 11 24, eO 14 25 11 0, eO 15 26 11 1, oB 16 7 0 19 (.new 6 (.agg [(.bool false), .nilsl, .nilsl, (.bool false), .nilsl, .nilsl])), ⟨17, none, none, (.init 16), .store true 6 (.t 7) (.t 25)⟩, mM 18 8 26])
 (.seq (.seq
 (.ops 23 2 [mM 0 27 8, bC 1 28 .eql 27 0])
 (.cond (.t 28)
 (.seq (.ops 25 11 [lB 0 30 0 11 true true 6 7, lB 1 31 0 11 true true 2 3, oB 2 32 2 11 (.callF q1w [(.t 31)]), oB 3 33 7 11 (.callF q46 [(.t 30), (.t 32)]), oB 4 34 15 11 (.callF qbb [(.t 33)]), mM 5 29 34, eO 6 35 29 0, eO 7 36 29 1, oB 8 9 0 11 (.new 2 (.agg [(.int .i64 0), (.int .i64 0)])), ⟨9, none, none, (.init 8), .store true 2 (.t 9) (.t 35)⟩, mM 10 10 36])
 (.seq (.ops 36 13 [mM 0 37 10, bC 1 38 .eql 37 0, mM 2 39 38, gG 3 40 39 true (.load true true 2 (.t 9)), gG 4 41 39 true (.off 4 (.t 4)), gG 5 42 39 true (.load true false 1 (.t 41)), gG 6 43 39 true (.off 4 (.t 5)), gG 7 44 39 true (.load true false 1 (.t 43)), gG 8 45 39 true (.mm true [(.t 42), (.t 44)]), gG 9 46 39 true (.bin .mul .no (.c (.int .i64 4)) (.t 45)), gG 10 47 39 true (.bin .add .no (.t 46) (.c (.int .i64 4))), gG 11 48 39 true (.callF q3P [(.t 40), (.t 47)]), oO 12 49 (.pick (.t 39) (.t 48) (.c (.bool false)))])
 (.cond (.t 49)
 (.seq (.ops 49 5 [lO 0 50 true true 2 3, lO 1 51 true true 2 9, oO 2 52 (.callF q3I [(.t 50), (.t 51)]), oO 3 53 (.buildSlice 2 1 [(.agg [(.int .i64 0), (.int .i64 0)])] [(0, (.t 52))]), mM 4 6 53]) .ret) .skip))) .skip))
 (.seq (.ops 54 6 [fO 0 54 2 4, lO 1 55 true true 2 54, fO 2 56 0 5, lO 3 57 true true 2 56, oO 4 58 (.buildSlice 2 2 [(.agg [(.int .i64 0), (.int .i64 0)]), (.agg [(.int .i64 0), (.int .i64 0)])] [(0, (.t 55)), (1, (.t 57))]), mM 5 6 58]) .ret)))),
 [.t 6]⟩
def q3X : KFn := ⟨
 (.seq (.ops 0 2 [oO 0 2 (.box 2 (.t 0)), oO 1 4 (.mov (.c (.bool false)))])
 (.seq (.ops 2 25 [mM 0 5 1, oO 1 6 (.un .neg (.t 5)), fO 2 7 0 2, lO 3 8 true false 1 7, bT 4 9 .leq 6 8, mM 5 10 9, gG 6 11 10 true (.off 0 (.t 2)), gG 7 12 10 true (.load true false 1 (.t 11)), gM 8 13 10 true 1, gG 9 14 10 true (.bin .leq .no (.t 12) (.t 13)), oO 10 15 (.pick (.t 10) (.t 14) (.c (.bool false))), mM 11 16 15, gM 12 17 16 true 1, gG 13 18 16 true (.un .neg (.t 17)), gG 14 19 16 true (.off 1 (.t 2)), gG 15 20 16 true (.load true false 1 (.t 19)), gG 16 21 16 true (.bin .leq .no (.t 18) (.t 20)), oO 17 22 (.pick (.t 16) (.t 21) (.c (.bool false))), mM 18 23 22, gG 19 24 23 true (.off 1 (.t 2)), gG 20 25 23 true (.load true false 1 (.t 24)), gM 21 26 23 true 1, gG 22 27 23 true (.bin .leq .no (.t 25) (.t 26)), oO 23 28 (.pick (.t 23) (.t 27) (.c (.bool false))), mM 24 4 28]) .ret)),
 [.t 4]⟩
def q7T : KFn := ⟨
 (.seq (.ops 0 3 [oO 0 2 (.box 7 (.t 0)), oO 1 3 (.box 7 (.t 1)), oO 2 4 (.mov (.c .nilsl))])
 (.seq (.ops 3 4 [fO 0 13 0 3, lO 1 14 true true 2 13, oO 2 5 (.new 2 (.agg [(.int .i64 0), (.int .i64 0)])), sT 3 true 2 5 14])
 (.seq (.ops 7 8 [fO 0 15 4 2, lO 1 16 true false 1 15, fO 2 17 4 3, lO 3 18 true false 1 17, oO 4 19 (.mm true [(.t 16), (.t 18)]), oO 5 20 (.bin .mul .no (.c (.int .i64 4)) (.t 19)), bC 6 21 .add 20 4, mM 7 6 21])
 (.seq (.ops 15 31 [fO 0 23 0 2, lB 1 24 1 31 true true 2 23, fO 2 25 5 2, lB 3 26 4 31 true true 2 25, oB 4 27 15 31 (.callF q4O [(.t 24), (.t 26)]), oB 5 28 31 31 (.callF q8Y [(.t 27)]), fO 6 29 2 2, lB 7 30 64 31 true true 2 29, fO 8 31 5 2, lB 9 32 256 31 true true 2 31, oB 10 33 1023 31 (.callF q4O [(.t 30), (.t 32)]), oB 11 34 2047 31 (.callF q8Y [(.t 33)]), fO 12 35 0 3, lB 13 36 4096 31 true true 2 35, fO 14 37 5 3, lB 15 38 16384 31 true true 2 37, oB 16 39 65535 31 (.callF q4O [(.t 36), (.t 38)]), oB 17 40 131071 31 (.callF q8Y [(.t 39)]), fO 18 41 2 3, lB 19 42 262144 31 true true 2 41, fO 20 43 5 3, lB 21 44 1048576 31 true true 2 43, oB 22 45 4194303 31 (.callF q4O [(.t 42), (.t 44)]), oB 23 46 8388607 31 (.callF q8Y [(.t 45)]), oB 24 47 16777215 31 (.callF qdZ [(.t 28), (.t 34), (.t 40), (.t 46)]), mM 25 22 47, eO 26 48 22 0, eO 27 49 22 1, oB 28 7 0 31 (.new 6 (.agg [(.bool false), .nilsl, .nilsl, (.bool false), .nilsl, .nilsl])), ⟨29, none, none, (.init 28), .store true 6 (.t 7) (.t 48)⟩, mM 30 8 49])
 (.seq (.seq
 (.ops 46 2 [mM 0 50 8, bC 1 51 .eql 50 0])
 (.cond (.t 51)
 (.seq (.ops 48 11 [fO 0 53 0 7, lO 1 54 true true 3 53, fO 2 55 0 5, lO 3 56 true false 1 55, mM 4 57 6, oO 5 58 (.callF q7N [(.t 54), (.t 56), (.t 57)]), mM 6 52 58, eO 7 59 52 0, eO 8 60 52 1, mM 9 9 59, mM 10 10 60])
 (.seq (.ops 59 11 [fO 0 62 3 7, lO 1 63 true true 3 62, fO 2 64 1 5, lO 3 65 true false 1 64, mM 4 66 6, oO 5 67 (.callF q7N [(.t 63), (.t 65), (.t 66)]), mM 6 61 67, eO 7 68 61 0, eO 8 69 61 1, mM 9 11 68, mM 10 12 69])
 (.seq (.ops 70 4 [mM 0 70 10, mM 1 71 70, gM 2 72 71 true 12, oO 3 73 (.pick (.t 71) (.t 72) (.c (.bool false)))])
 (.cond (.t 73)
 (.seq (.ops 74 5 [mM 0 74 9, mM 1 75 11, oO 2 76 (.build [(.int .i64 0), (.int .i64 0)] [(0, 1, (.t 74)), (1, 1, (.t 75))]), oO 3 77 (.buildSlice 2 1 [(.agg [(.int .i64 0), (.int .i64 0)])] [(0, (.t 76))]), mM 4 4 77]) .ret) .skip)))) .skip))
 (.seq (.ops 79 12 [fO 0 78 2 2, lB 1 79 1 12 true true 2 78, fO 2 80 5 2, lB 3 81 4 12 true true 2 80, oB 4 82 15 12 (.callF q4O [(.t 79), (.t 81)]), fO 5 83 0 3, lB 6 84 32 12 true true 2 83, fO 7 85 5 3, lB 8 86 128 12 true true 2 85, oB 9 87 511 12 (.callF q4O [(.t 84), (.t 86)]), oB 10 88 1023 12 (.buildSlice 2 2 [(.agg [(.int .i64 0), (.int .i64 0)]), (.agg [(.int .i64 0), (.int .i64 0)])] [(0, (.t 82)), (1, (.t 87))]), mM 11 4 88]) .ret)))))),
 [.t 4]⟩
def qav : KFn := ⟨
 (.seq (.ops 6 1 [oO 0 2 (.mov (.c .nilsl))])
 (.seq (.ops 7 1 [oO 0 3 (.mov (.c .nilsl))])
 (.seq (.seq
 (.ops 8 1 [mI 0 4 0])
 (.block 0
 (.loop [(0, 0), (3, 2), (4, 0)]
 (.seq (.seq
 (.ops 9 4 [mM 0 5 4, mM 1 6 0, nO 2 7 6, bT 3 8 .lss 5 7])
 (.cond (.t 8) .skip
 (.exit 0)))
 (.seq (.block 1
 (.seq (.ops 13 15 [mM 0 11 4, bC 1 12 .eql 11 0, mM 2 13 12, gM 3 14 13 false 0, gM 4 15 13 false 4, ⟨5, some 16, some (13, false), (.bef 31 15), .ixs 2 (.t 14) (.t 15)⟩, ⟨6, some 17, some (13, false), (.bef 63 15), .load false true 2 (.t 16)⟩, gM 7 18 13 false 3, gM 8 19 13 false 3, ⟨9, some 20, some (13, false), (.bef 263 15), .len .sl (.t 19)⟩, gG 10 21 13 false (.bin .sub .no (.t 20) (.c (.int .i64 1))), ⟨11, some 22, some (13, false), (.bef 1927 15), .ixs 2 (.t 18) (.t 21)⟩, ⟨12, some 23, some (13, false), (.bef 3975 15), .load false true 2 (.t 22)⟩, gG 13 24 13 false (.bin .neq (.flat [.int, .int]) (.t 17) (.t 23)), oO 14 25 (.pick (.t 13) (.c (.bool true)) (.t 24))])
 (.cond (.t 25)
 (.ops 28 8 [mM 0 26 3, mM 1 27 0, mM 2 28 4, xO 3 29 2 27 28, lO 4 30 false true 2 29, oO 5 31 (.buildSlice 2 1 [(.agg [(.int .i64 0), (.int .i64 0)])] [(0, (.t 30))]), oO 6 32 (.append ⟨2, 16, (.agg [(.int .i64 0), (.int .i64 0)])⟩ .sl (.t 26) (.t 31)), mM 7 3 32]) .skip)))
 (.ops 36 3 [mM 0 9 4, bC 1 10 .add 9 1, mM 2 4 10]))))))
 (.seq (.block 2
 (.loop [(3, 0)]
 (.seq (.seq
 (.ops 39 15 [mM 0 33 3, oB 1 34 1 15 (.len .sl (.t 33)), bC 2 35 .gtr 34 1, mM 3 36 35, gM 4 37 36 true 3, gM 5 38 36 true 3, ⟨6, some 39, some (36, true), (.bef 47 15), .len .sl (.t 38)⟩, gG 7 40 36 true (.bin .sub .no (.t 39) (.c (.int .i64 1))), ⟨8, some 41, some (36, true), (.bef 255 15), .ixs 2 (.t 37) (.t 40)⟩, ⟨9, some 42, some (36, true), (.bef 511 15), .load false true 2 (.t 41)⟩, gM 10 43 36 true 3, ⟨11, some 44, some (36, true), (.bef 1039 15), .ixs 2 (.t 43) (.c (.int .i64 0))⟩, ⟨12, some 45, some (36, true), (.bef 3087 15), .load false true 2 (.t 44)⟩, gG 13 46 36 true (.bin .eql (.flat [.int, .int]) (.t 42) (.t 45)), oO 14 47 (.pick (.t 36) (.t 46) (.c (.bool false)))])
 (.cond (.t 47) .skip
 (.exit 2)))
 (.block 3
 (.ops 54 6 [mM 0 48 3, mM 1 49 3, nO 2 50 49, bC 3 51 .sub 50 1, oO 4 52 (.slsl 2 (.t 48) none (some (.t 51)) none), mM 5 3 52])))))
 (.seq (.ops 60 2 [mM 0 53 3, mM 1 2 53]) .ret))))),
 [.t 2]⟩
def q7U : KFn := ⟨
 (.seq (.ops 0 2 [oO 0 2 (.box 2 (.t 0)), oO 1 4 (.mov (.c (.bool false)))])
 (.seq (.ops 2 25 [fO 0 5 0 2, lO 1 6 true false 1 5, mM 2 7 1, oO 3 8 (.un .neg (.t 7)), bT 4 9 .geq 6 8, mM 5 10 9, gG 6 11 10 true (.off 0 (.t 2)), gG 7 12 10 true (.load true false 1 (.t 11)), gM 8 13 10 true 1, gG 9 14 10 true (.bin .leq .no (.t 12) (.t 13)), oO 10 15 (.pick (.t 10) (.t 14) (.c (.bool false))), mM 11 16 15, gG 12 17 16 true (.off 1 (.t 2)), gG 13 18 16 true (.load true false 1 (.t 17)), gM 14 19 16 true 1, gG 15 20 16 true (.un .neg (.t 19)), gG 16 21 16 true (.bin .geq .no (.t 18) (.t 20)), oO 17 22 (.pick (.t 16) (.t 21) (.c (.bool false))), mM 18 23 22, gG 19 24 23 true (.off 1 (.t 2)), gG 20 25 23 true (.load true false 1 (.t 24)), gM 21 26 23 true 1, gG 22 27 23 true (.bin .leq .no (.t 25) (.t 26)), oO 23 28 (.pick (.t 23) (.t 27) (.c (.bool false))), mM 24 4 28]) .ret)),
 [.t 4]⟩
def q9c : KFn := ⟨
 (.seq (.ops 4 1 [mI 0 2 0])
 (.seq (.seq
 (.ops 5 3 [mM 0 4 0, nO 1 5 4, bC 2 6 .gtr 5 40])
 (.cond (.t 6)
 (.seq (.ops 8 1 [mI 0 2 5]) .ret) .skip))
 (.seq (.seq
 (.ops 9 3 [mM 0 7 0, nO 1 8 7, bC 2 9 .lss 8 3])
 (.cond (.t 9)
 (.seq (.ops 12 1 [mI 0 2 11]) .ret) .skip))
 (.seq (.seq
 (.ops 13 1 [mI 0 3 0])
 (.block 0
 (.loop [(0, 0), (3, 0)]
 (.seq (.seq
 (.ops 14 4 [mM 0 10 3, mM 1 11 0, nO 2 12 11, bT 3 13 .lss 10 12])
 (.cond (.t 13) .skip
 (.exit 0)))
 (.seq (.block 1
 (.seq (.ops 18 6 [mM 0 16 0, mM 1 17 3, xO 2 18 2 16 17, lO 3 19 false true 2 18, oO 4 20 (.callF q7M [(.t 19), (.c (.int .i64 1048576))]), oO 5 21 (.un .not (.t 20))])
 (.cond (.t 21)
 (.seq (.ops 24 1 [mI 0 2 3]) .ret) .skip)))
 (.ops 25 3 [mM 0 14 3, bC 1 15 .add 14 1, mM 2 3 15]))))))
 (.seq (.seq
 (.ops 28 3 [mM 0 22 0, oO 1 23 (.callF qbe [(.t 22)]), oO 2 24 (.un .not (.t 23))])
 (.cond (.t 24)
 (.seq (.ops 31 1 [mI 0 2 11]) .ret) .skip))
 (.seq (.ops 32 1 [mI 0 2 0]) .ret)))))),
 [.t 2]⟩
def q4t : KFn := ⟨
 (.seq (.ops 0 1 [mI 0 2 0])
 (.seq (.seq
 (.ops 1 3 [mM 0 3 0, oO 1 4 (.callF q8Z [(.t 3)]), bC 2 5 .lss 4 0])
 (.cond (.t 5)
 (.seq (.ops 4 1 [mI 0 2 (-1)]) .ret) .skip))
 (.seq (.ops 5 1 [mI 0 2 1]) .ret))),
 [.t 2]⟩
def qe6 : KFn := ⟨
 (.seq (.ops 0 1 [oO 0 4 (.new 6 (.agg [(.bool false), .nilsl, .nilsl, (.bool false), .nilsl, .nilsl]))])
 (.seq (.ops 1 6 [mM 0 5 0, oO 1 6 (.callF q90 [(.t 5)]), mM 2 7 1, oO 3 8 (.callF q90 [(.t 7)]), oO 4 9 (.build [(.bool false), .nilsl, .nilsl, (.bool false), .nilsl, .nilsl] [(0, 3, (.t 6)), (3, 3, (.t 8))]), sT 5 true 6 4 9]) .ret)),
 [.cell 4 true 6]⟩
def q3Y : KFn := ⟨
 (.seq (.ops 8 1 [oO 0 2 (.mov (.c .nilsl))])
 (.seq (.ops 9 1 [oO 0 3 (.mov (.c .nilsl))])
 (.seq (.seq
 (.ops 10 3 [mM 0 6 0, nO 1 7 6, mI 2 8 0])
 (.block 0
 (.loop [(3, 2), (6, 0), (7, 0), (8, 0)]
 (.seq (.ops 13 1 [bT 0 9 .lss 8 7])
 (.seq (.cond (.t 9) .skip
 (.exit 0))
 (.seq (.block 1
 (.seq (.ops 14 4 [xO 0 10 2 6 8, lO 1 11 false true 2 10, oO 2 5 (.new 2 (.agg [(.str ⟨#[]⟩), .nilsl])), sT 3 true 2 5 11])
 (.ops 18 10 [mM 0 12 3, fO 1 13 1 5, lO 2 14 true false 1 13, fO 3 15 1 5, lO 4 16 true false 1 15, nO 5 17 16, bC 6 18 .sub 17 1, oO 7 19 (.slsl 2 (.t 14) none (some (.t 18)) none), oO 8 20 (.append ⟨2, 16, (.agg [(.int .i64 0), (.int .i64 0)])⟩ .sl (.t 12) (.t 19)), mM 9 3 20])))
 (.ops 28 2 [bC 0 21 .add 8 1, mM 1 8 21])))))))
 (.seq (.ops 30 2 [mM 0 22 3, mM 1 2 22]) .ret)))),
 [.t 2]⟩
def q6d : KFn := ⟨
 (.seq (.ops 6 1 [oO 0 2 (.mov (.c .nilsl))])
 (.seq (.ops 7 1 [oO 0 3 (.mov (.c .nilsl))])
 (.seq (.seq
 (.ops 8 1 [mI 0 4 0])
 (.block 0
 (.loop [(0, 0), (3, 2), (4, 0)]
 (.seq (.seq
 (.ops 9 4 [mM 0 6 4, mM 1 7 0, nO 2 8 7, bT 3 9 .lss 6 8])
 (.cond (.t 9) .skip
 (.exit 0)))
 (.seq (.block 1
 (.seq (.ops 13 7 [mM 0 12 0, mM 1 13 4, xO 2 14 2 12 13, fO 3 15 1 14, lO 4 16 false false 1 15, nO 5 17 16, mM 6 5 17])
 (.seq (.ops 20 2 [mM 0 18 5, bC 1 19 .gtr 18 0])
 (.cond (.t 19)
 (.ops 22 11 [mM 0 20 3, mM 1 21 0, mM 2 22 4, xO 3 23 2 21 22, fO 4 24 1 23, lO 5 25 false false 1 24, mM 6 26 5, bC 7 27 .sub 26 1, oO 8 28 (.slsl 2 (.t 25) none (some (.t 27)) none), oO 9 29 (.append ⟨2, 16, (.agg [(.int .i64 0), (.int .i64 0)])⟩ .sl (.t 20) (.t 28)), mM 10 3 29]) .skip))))
 (.ops 33 3 [mM 0 10 4, bC 1 11 .add 10 1, mM 2 4 11]))))))
 (.seq (.ops 36 2 [mM 0 30 3, mM 1 2 30]) .ret)))),
 [.t 2]⟩
def q4T : KFn := ⟨
 (.seq (.ops 0 1 [oO 0 2 (.mov (.c (.bool false)))])
 (.seq (.ops 1 5 [mM 0 3 0, oO 1 4 (.build [(.int .i64 0), (.bool false), .nilsl, .nilsl, (.str ⟨#[]⟩), .nilsl] [(0, 1, (.c (.int .i64 2))), (4, 1, (.t 3))]), oO 2 5 (.callF q8n [(.t 4)]), bC 3 6 .eql 5 0, mM 4 2 6]) .ret)),
 [.t 2]⟩
def q4U : KFn := ⟨
 (.seq (.ops 6 1 [mI 0 2 0])
 (.seq (.seq
 (.ops 7 3 [mM 0 4 0, nO 1 5 4, bC 2 6 .gtr 5 40])
 (.cond (.t 6)
 (.seq (.ops 10 1 [mI 0 2 5]) .ret) .skip))
 (.seq (.seq
 (.ops 11 3 [mM 0 7 0, nO 1 8 7, bC 2 9 .lss 8 2])
 (.cond (.t 9)
 (.seq (.ops 14 1 [mI 0 2 11]) .ret) .skip))
 (.seq (.seq
 (.ops 15 2 [mM 0 10 0, oO 1 11 (.callF q1o [(.t 10), (.c (.fn q3S [] []))])])
 (.cond (.t 11)
 (.seq (.ops 17 1 [mI 0 2 3]) .ret) .skip))
 (.seq (.seq
 (.ops 18 4 [mM 0 12 0, nO 1 13 12, bC 2 14 .sub 13 1, mI 3 15 0])
 (.block 0
 (.loop [(0, 0), (14, 0), (15, 0)]
 (.seq (.ops 22 1 [bT 0 16 .lss 15 14])
 (.seq (.cond (.t 16) .skip
 (.exit 0))
 (.seq (.block 1
 (.seq (.ops 23 2 [mM 0 17 15, mM 1 3 17])
 (.seq (.ops 25 10 [mM 0 18 0, mM 1 19 3, xB 2 20 3 10 2 18 19, lB 3 21 7 10 false true 2 20, mM 4 22 0, mM 5 23 3, bC 6 24 .add 23 1, xB 7 25 112 10 2 22 24, lB 8 26 240 10 false true 2 25, oO 9 27 (.bin .eql (.flat [.int, .int]) (.t 21) (.t 26))])
 (.cond (.t 27)
 (.seq (.ops 35 1 [mI 0 2 11]) .ret) .skip))))
 (.ops 36 2 [bC 0 28 .add 15 1, mM 1 15 28])))))))
 (.seq (.ops 38 1 [mI 0 2 0]) .ret)))))),
 [.t 2]⟩
def qaw : KFn := ⟨
 (.seq (.ops 4 1 [oO 0 2 (.mov (.c (.bool false)))])
 (.seq (.seq
 (.ops 5 25 [mM 0 4 0, oO 1 5 (.bin .eql .no (.t 4) (.c (.str ⟨#[]⟩))), mM 2 6 5, gM 3 7 6 false 0, gG 4 8 6 false (.len .str (.t 7)), gG 5 9 6 false (.bin .gtr .no (.t 8) (.c (.int .i64 24))), oO 6 10 (.pick (.t 6) (.c (.bool true)) (.t 9)), mM 7 11 10, gM 8 12 11 false 0, gG 9 13 11 false (.bin .eql .no (.t 12) (.c (.str ⟨#[109, 105, 110]⟩))), oO 10 14 (.pick (.t 11) (.c (.bool true)) (.t 13)), mM 11 15 14, gM 12 16 15 false 0, gG 13 17 15 false (.bin .eql .no (.t 16) (.c (.str ⟨#[109, 97, 120]⟩))), oO 14 18 (.pick (.t 15) (.c (.bool true)) (.t 17)), mM 15 19 18, gM 16 20 19 false 0, gG 17 21 19 false (.istr (.t 20) (.c (.int .i64 0))), gG 18 22 19 false (.bin .lss .no (.t 21) (.c (.int .u8 97))), oO 19 23 (.pick (.t 19) (.c (.bool true)) (.t 22)), mM 20 24 23, gM 21 25 24 false 0, gG 22 26 24 false (.istr (.t 25) (.c (.int .i64 0))), gG 23 27 24 false (.bin .gtr .no (.t 26) (.c (.int .u8 122))), oO 24 28 (.pick (.t 24) (.c (.bool true)) (.t 27))])
 (.cond (.t 28)
 (.seq (.ops 30 1 [oO 0 2 (.mov (.c (.bool false)))]) .ret) .skip))
 (.seq (.seq
 (.ops 31 1 [mI 0 3 0])
 (.block 0
 (.loop [(0, 0), (3, 0)]
 (.seq (.seq
 (.ops 32 4 [mM 0 29 3, mM 1 30 0, oO 2 31 (.len .str (.t 30)), bT 3 32 .lss 29 31])
 (.cond (.t 32) .skip
 (.exit 0)))
 (.seq (.block 1
 (.seq (.ops 36 23 [mM 0 35 0, mM 1 36 3, oO 2 37 (.istr (.t 35) (.t 36)), oO 3 38 (.callF q91 [(.t 37)]), oO 4 39 (.un .not (.t 38)), mM 5 40 39, gM 6 41 40 true 0, gM 7 42 40 true 3, gG 8 43 40 true (.istr (.t 41) (.t 42)), gG 9 44 40 true (.bin .neq .no (.t 43) (.c (.int .u8 95))), oO 10 45 (.pick (.t 40) (.t 44) (.c (.bool false))), mM 11 46 45, gM 12 47 46 true 0, gM 13 48 46 true 3, gG 14 49 46 true (.istr (.t 47) (.t 48)), gG 15 50 46 true (.bin .lss .no (.t 49) (.c (.int .u8 97))), gM 16 51 46 true 50, gM 17 52 51 false 0, gM 18 53 51 false 3, gG 19 54 51 false (.istr (.t 52) (.t 53)), gG 20 55 51 false (.bin .gtr .no (.t 54) (.c (.int .u8 122))), gG 21 56 46 true (.pick (.t 51) (.c (.bool true)) (.t 55)), oO 22 57 (.pick (.t 46) (.t 56) (.c (.bool false)))])
 (.cond (.t 57)
 (.seq (.ops 59 1 [oO 0 2 (.mov (.c (.bool false)))]) .ret) .skip)))
 (.ops 60 3 [mM 0 33 3, bC 1 34 .add 33 1, mM 2 3 34]))))))
 (.seq (.ops 63 1 [oO 0 2 (.mov (.c (.bool true)))]) .ret)))),
 [.t 2]⟩
def q9d : KFn := ⟨
 (.seq (.ops 8 1 [oO 0 6 (.mov (.c (.bool false)))])
 (.seq (.seq
 (.ops 9 1 [mI 0 7 0])
 (.block 0
 (.loop [(0, 0), (1, 0), (2, 0), (7, 0)]
 (.seq (.seq
 (.ops 10 3 [mM 0 8 7, mM 1 9 1, bT 2 10 .lss 8 9])
 (.cond (.t 10) .skip
 (.exit 0)))
 (.seq (.block 1
 (.seq (.ops 13 7 [mM 0 13 0, mM 1 14 7, xO 2 15 2 13 14, fO 3 16 0 15, lO 4 17 false false 1 16, mM 5 18 2, bT 6 19 .eql 17 18])
 (.cond (.t 19)
 (.seq (.ops 20 1 [oO 0 6 (.mov (.c (.bool true)))]) .ret) .skip)))
 (.ops 21 3 [mM 0 11 7, bC 1 12 .add 11 1, mM 2 7 12]))))))
 (.seq (.ops 24 1 [oO 0 6 (.mov (.c (.bool false)))]) .ret))),
 [.t 6]⟩
def q9e : KFn := ⟨
 (.seq (.ops 4 1 [mI 0 2 0])
 (.seq (.seq
 (.ops 5 3 [mM 0 4 0, nO 1 5 4, bC 2 6 .gtr 5 40])
 (.cond (.t 6)
 (.seq (.ops 8 1 [mI 0 2 5]) .ret) .skip))
 (.seq (.seq
 (.ops 9 3 [mM 0 7 0, nO 1 8 7, bC 2 9 .lss 8 2])
 (.cond (.t 9)
 (.seq (.ops 12 1 [mI 0 2 11]) .ret) .skip))
 (.seq (.seq
 (.ops 13 2 [mM 0 10 0, oO 1 11 (.callF qfN [(.t 10)])])
 (.cond (.t 11)
 (.seq (.ops 15 1 [mI 0 2 3]) .ret) .skip))
 (.seq (.seq
 (.ops 16 1 [mI 0 3 1])
 (.block 0
 (.loop [(0, 0), (3, 0)]
 (.seq (.seq
 (.ops 17 4 [mM 0 12 3, mM 1 13 0, nO 2 14 13, bT 3 15 .lss 12 14])
 (.cond (.t 15) .skip
 (.exit 0)))
 (.seq (.block 1
 (.seq (.ops 21 10 [mM 0 18 0, mM 1 19 3, xB 2 20 3 10 2 18 19, lB 3 21 7 10 false true 2 20, mM 4 22 0, mM 5 23 3, bC 6 24 .sub 23 1, xB 7 25 112 10 2 22 24, lB 8 26 240 10 false true 2 25, oO 9 27 (.bin .eql (.flat [.int, .int]) (.t 21) (.t 26))])
 (.cond (.t 27)
 (.seq (.ops 31 1 [mI 0 2 11]) .ret) .skip)))
 (.ops 32 3 [mM 0 16 3, bC 1 17 .add 16 1, mM 2 3 17]))))))
 (.seq (.ops 35 1 [mI 0 2 0]) .ret)))))),
 [.t 2]⟩
def q1p : KFn := ⟨
 (.seq (.ops 0 1 [oO 0 4 (.mov (.c (.bool false)))])
 (.seq (.ops 1 5 [mM 0 5 0, mM 1 6 1, oO 2 7 (.callF q1z [(.t 5), (.t 6)]), bC 3 8 .geq 7 0, mM 4 4 8]) .ret)),
 [.t 4]⟩
def q4u : KFn := ⟨
 (.seq (.ops 0 2 [oO 0 1 (.box 2 (.t 0)), oO 1 2 (.mov (.c (.bool false)))])
 (.seq (.ops 2 19 [fO 0 3 0 1, lO 1 4 true false 1 3, bC 2 5 .lss 4 (-1048576), mM 3 6 5, gG 4 7 6 false (.off 0 (.t 1)), gG 5 8 6 false (.load true false 1 (.t 7)), gG 6 9 6 false (.bin .gtr .no (.t 8) (.c (.int .i64 1048576))), oO 7 10 (.pick (.t 6) (.c (.bool true)) (.t 9)), mM 8 11 10, gG 9 12 11 false (.off 1 (.t 1)), gG 10 13 11 false (.load true false 1 (.t 12)), gG 11 14 11 false (.bin .lss .no (.t 13) (.c (.int .i64 (-1048576)))), oO 12 15 (.pick (.t 11) (.c (.bool true)) (.t 14)), mM 13 16 15, gG 14 17 16 false (.off 1 (.t 1)), gG 15 18 16 false (.load true false 1 (.t 17)), gG 16 19 16 false (.bin .gtr .no (.t 18) (.c (.int .i64 1048576))), oO 17 20 (.pick (.t 16) (.c (.bool true)) (.t 19)), mM 18 2 20]) .ret)),
 [.t 2]⟩
def q4V : KFn := ⟨
 (.seq (.ops 18 1 [oO 0 2 (.mov (.c (.bool false)))])
 (.seq (.ops 19 3 [mM 0 10 0, nO 1 11 10, mM 2 3 11])
 (.seq (.seq
 (.ops 22 3 [mM 0 12 0, nO 1 13 12, mI 2 14 0])
 (.block 0
 (.loop [(0, 0), (3, 0), (12, 0), (13, 0), (14, 0)]
 (.seq (.ops 25 1 [bT 0 15 .lss 14 13])
 (.seq (.cond (.t 15) .skip
 (.exit 0))
 (.seq (.block 1
 (.seq (.ops 26 6 [mM 0 16 14, xO 1 17 2 12 14, lO 2 18 false true 2 17, oO 3 5 (.new 2 (.agg [(.int .i64 0), (.int .i64 0)])), mM 4 4 16, sT 5 true 2 5 18])
 (.seq (.ops 32 5 [mM 0 19 0, mM 1 20 4, oB 2 21 3 5 (.slsl 2 (.t 19) none (some (.t 20)) none), lB 3 22 0 5 true true 2 5, oB 4 23 15 5 (.callF q2T [(.t 21), (.t 22)])])
 (.cond (.t 23)
 (.seq (.ops 37 1 [oO 0 2 (.mov (.c (.bool false)))]) .ret) .skip))))
 (.ops 38 2 [bC 0 24 .add 14 1, mM 1 14 24])))))))
 (.seq (.seq
 (.ops 40 3 [mM 0 25 0, nO 1 26 25, mI 2 27 0])
 (.block 2
 (.loop [(0, 0), (3, 0), (25, 0), (26, 0), (27, 0)]
 (.seq (.ops 43 1 [bT 0 28 .lss 27 26])
 (.seq (.cond (.t 28) .skip
 (.exit 2))
 (.seq (.block 3
 (.seq (.ops 44 6 [mM 0 29 27, xO 1 30 2 25 27, lO 2 31 false true 2 30, oO 3 7 (.new 2 (.agg [(.int .i64 0), (.int .i64 0)])), mM 4 6 29, sT 5 true 2 7 31])
 (.seq (.ops 50 9 [mM 0 32 0, mM 1 33 6, bC 2 34 .add 33 1, mM 3 35 3, bT 4 36 .rem 34 35, xO 5 37 2 32 36, lO 6 38 false true 2 37, oO 7 8 (.new 2 (.agg [(.int .i64 0), (.int .i64 0)])), sT 8 true 2 8 38])
 (.seq (.seq
 (.ops 59 10 [lB 0 39 0 10 true true 2 7, lB 1 40 0 10 true true 2 8, mM 2 41 0, mM 3 42 6, bC 4 43 .add 42 2, mM 5 44 3, bT 6 45 .rem 43 44, xB 7 46 124 10 2 41 45, lB 8 47 252 10 false true 2 46, oB 9 48 511 10 (.callF q7p [(.t 39), (.t 40), (.t 47)])])
 (.cond (.t 48)
 (.seq (.ops 69 1 [oO 0 2 (.mov (.c (.bool false)))]) .ret) .skip))
 (.seq (.ops 70 3 [mM 0 49 6, bC 1 50 .add 49 2, mM 2 9 50])
 (.block 4
 (.loop [(0, 0), (3, 0), (6, 0), (7, 0), (8, 0), (9, 0), (25, 0), (26, 0), (27, 0)]
 (.seq (.seq
 (.ops 73 11 [mM 0 51 9, mM 1 52 3, bT 2 53 .lss 51 52, mM 3 54 53, gM 4 55 54 true 9, gG 5 56 54 true (.bin .add .no (.t 55) (.c (.int .i64 1))), gM 6 57 54 true 3, gG 7 58 54 true (.bin .rem .no (.t 56) (.t 57)), gM 8 59 54 true 6, gG 9 60 54 true (.bin .neq .no (.t 58) (.t 59)), oO 10 61 (.pick (.t 54) (.t 60) (.c (.bool false)))])
 (.cond (.t 61) .skip
 (.exit 4)))
 (.seq (.block 5
 (.seq (.ops 84 14 [lB 0 64 0 14 true true 2 7, lB 1 65 0 14 true true 2 8, mM 2 66 0, mM 3 67 9, xB 4 68 12 14 2 66 67, lB 5 69 28 14 false true 2 68, mM 6 70 0, mM 7 71 9, bC 8 72 .add 71 1, mM 9 73 3, bT 10 74 .rem 72 73, xB 11 75 1984 14 2 70 74, lB 12 76 4032 14 false true 2 75, oB 13 77 8191 14 (.callF q92 [(.t 64), (.t 65), (.t 69), (.t 76)])])
 (.cond (.t 77)
 (.seq (.ops 98 1 [oO 0 2 (.mov (.c (.bool false)))]) .ret) .skip)))
 (.ops 99 3 [mM 0 62 9, bC 1 63 .add 62 1, mM 2 9 63]))))))))))
 (.ops 102 2 [bC 0 78 .add 27 1, mM 1 27 78])))))))
 (.seq (.ops 104 1 [oO 0 2 (.mov (.c (.bool true)))]) .ret))))),
 [.t 2]⟩
def q3Z : KFn := ⟨
 (.seq (.ops 0 3 [oO 0 1 (.box 3 (.t 0)), mI 1 2 0, oO 2 3 (.mov (.c (.bool false)))])
 (.seq (.ops 3 8 [lO 0 7 true true 3 1, oO 1 8 (.callF qa8 [(.t 7)]), oO 2 9 (.callF q8o [(.t 8)]), mM 3 6 9, eO 4 10 6 0, eO 5 11 6 1, mM 6 4 10, mM 7 5 11])
 (.seq (.ops 11 12 [mM 0 12 4, mM 1 13 5, mM 2 14 13, gM 3 15 14 true 4, gG 4 16 14 true (.bin .geq .no (.t 15) (.c (.int .i64 (-1048576)))), oO 5 17 (.pick (.t 14) (.t 16) (.c (.bool false))), mM 6 18 17, gM 7 19 18 true 4, gG 8 20 18 true (.bin .leq .no (.t 19) (.c (.int .i64 1048576))), oO 9 21 (.pick (.t 18) (.t 20) (.c (.bool false))), mM 10 2 12, mM 11 3 21]) .ret))),
 [.t 2, .t 3]⟩
def q6e : KFn := ⟨
 (.seq (.ops 10 1 [mI 0 2 0])
 (.seq (.ops 11 1 [mI 0 3 0])
 (.seq (.seq
 (.ops 12 3 [mM 0 7 0, nO 1 8 7, mI 2 9 0])
 (.block 0
 (.loop [(0, 0), (3, 0), (7, 0), (8, 0), (9, 0)]
 (.seq (.ops 15 1 [bT 0 10 .lss 9 8])
 (.seq (.cond (.t 10) .skip
 (.exit 0))
 (.seq (.block 1
 (.seq (.ops 16 6 [mM 0 11 9, xO 1 12 2 7 9, lO 2 13 false true 2 12, oO 3 5 (.new 2 (.agg [(.int .i64 0), (.int .i64 0)])), mM 4 4 11, sT 5 true 2 5 13])
 (.seq (.ops 22 10 [mM 0 14 0, mM 1 15 4, bC 2 16 .add 15 1, mM 3 17 0, nO 4 18 17, bT 5 19 .rem 16 18, xO 6 20 2 14 19, lO 7 21 false true 2 20, oO 8 6 (.new 2 (.agg [(.int .i64 0), (.int .i64 0)])), sT 9 true 2 6 21])
 (.ops 32 14 [mM 0 22 3, fO 1 23 0 5, lO 2 24 true false 1 23, fO 3 25 1 6, lO 4 26 true false 1 25, bT 5 27 .mul 24 26, fO 6 28 1 5, lO 7 29 true false 1 28, fO 8 30 0 6, lO 9 31 true false 1 30, bT 10 32 .mul 29 31, bT 11 33 .sub 27 32, bT 12 34 .add 22 33, mM 13 3 34]))))
 (.ops 46 2 [bC 0 35 .add 9 1, mM 1 9 35])))))))
 (.seq (.ops 48 2 [mM 0 36 3, mM 1 2 36]) .ret)))),
 [.t 2]⟩
def q4v : KFn := ⟨
 (.seq (.ops 0 1 [mI 0 4 0])
 (.seq (.ops 1 3 [mM 0 7 0, oO 1 8 (.callF q3J [(.t 7)]), mM 2 5 8])
 (.seq (.ops 4 3 [mM 0 9 1, oO 1 10 (.callF q3J [(.t 9)]), mM 2 6 10])
 (.seq (.seq
 (.ops 7 1 [mM 0 11 5])
 (.cond (.t 11)
 (.seq (.seq
 (.ops 8 1 [mM 0 12 6])
 (.cond (.t 12)
 (.seq (.ops 9 1 [mI 0 4 0]) .ret) .skip))
 (.seq (.ops 10 1 [mI 0 4 (-1)]) .ret)) .skip))
 (.seq (.seq
 (.ops 11 1 [mM 0 13 6])
 (.cond (.t 13)
 (.seq (.ops 12 1 [mI 0 4 1]) .ret) .skip))
 (.seq (.seq
 (.ops 13 3 [mM 0 14 0, mM 1 15 1, bT 2 16 .lss 14 15])
 (.cond (.t 16)
 (.seq (.ops 16 1 [mI 0 4 (-1)]) .ret) .skip))
 (.seq (.seq
 (.ops 17 3 [mM 0 17 0, mM 1 18 1, bT 2 19 .gtr 17 18])
 (.cond (.t 19)
 (.seq (.ops 20 1 [mI 0 4 1]) .ret) .skip))
 (.seq (.ops 21 1 [mI 0 4 0]) .ret)))))))),
 [.t 4]⟩
def q9f : KFn := ⟨
 (.seq (.ops 0 1 [oO 0 2 (.mov (.c (.float .f64 0)))])
 (.seq (.ops 1 3 [mM 0 3 0, oO 1 4 (.callF q6B [(.t 3)]), mM 2 2 4]) .ret)),
 [.t 2]⟩
def q9g : KFn := ⟨
 (.seq (.ops 0 3 [oO 0 4 (.box 2 (.t 0)), oO 1 5 (.box 2 (.t 1)), oO 2 8 (.new 2 (.agg [(.int .i64 0), (.int .i64 0)]))])
 (.seq (.ops 3 12 [fO 0 12 0 5, lB 1 13 1 12 true false 1 12, fO 2 14 0 4, lB 3 15 4 12 true false 1 14, bT 4 16 .sub 13 15, fO 5 17 1 5, lB 6 18 32 12 true false 1 17, fO 7 19 1 4, lB 8 20 128 12 true false 1 19, bT 9 21 .sub 18 20, mM 10 9 16, mM 11 10 21])
 (.seq (.ops 15 9 [mM 0 22 9, mM 1 23 9, bT 2 24 .mul 22 23, mM 3 25 10, mM 4 26 10, bT 5 27 .mul 25 26, bT 6 28 .add 24 27, oO 7 29 (.callF qe1 [(.t 28)]), mM 8 11 29])
 (.seq (.ops 24 17 [mM 0 30 3, mM 1 31 2, mM 2 32 10, bT 3 33 .mul 31 32, mM 4 34 11, oO 5 35 (.callF q93 [(.t 33), (.t 34)]), bT 6 36 .mul 30 35, mM 7 37 3, oO 8 38 (.un .neg (.t 37)), mM 9 39 2, mM 10 40 9, bT 11 41 .mul 39 40, mM 12 42 11, oO 13 43 (.callF q93 [(.t 41), (.t 42)]), bT 14 44 .mul 38 43, oO 15 45 (.build [(.int .i64 0), (.int .i64 0)] [(0, 1, (.t 36)), (1, 1, (.t 44))]), sT 16 true 2 8 45]) .ret)))),
 [.cell 8 true 2]⟩
def q7V : KFn := ⟨
 (.seq (.ops 0 6 [oO 0 4 (.box 6 (.t 0)), oO 1 5 (.box 6 (.t 1)), oO 2 6 (.box 6 (.t 2)), oO 3 7 (.box 6 (.t 3)), oO 4 8 (.new 6 (.agg [(.bool false), .nilsl, .nilsl, (.bool false), .nilsl, .nilsl])), mI 5 9 0])
 (.seq (.ops 6 5 [lO 0 13 true true 6 7, lO 1 14 true true 6 6, oO 2 15 (.callF q46 [(.t 13), (.t 14)]), oO 3 10 (.new 6 (.agg [(.bool false), .nilsl, .nilsl, (.bool false), .nilsl, .nilsl])), sT 4 true 6 10 15])
 (.seq (.ops 11 17 [lB 0 17 0 17 true true 6 6, lB 1 18 0 17 true true 6 4, oB 2 19 3 17 (.callF q46 [(.t 17), (.t 18)]), lB 3 20 0 17 true true 6 10, oB 4 21 15 17 (.callF q6Q [(.t 19), (.t 20)]), lB 5 22 0 17 true true 6 5, lB 6 23 0 17 true true 6 4, oB 7 24 127 17 (.callF q46 [(.t 22), (.t 23)]), lB 8 25 0 17 true true 6 10, oB 9 26 511 17 (.callF q6Q [(.t 24), (.t 25)]), oB 10 27 1023 17 (.callF qcD [(.t 21), (.t 26)]), mM 11 16 27, eO 12 28 16 0, eO 13 29 16 1, oB 14 11 0 17 (.new 3 (.agg [(.bool false), .nilsl, .nilsl])), ⟨15, none, none, (.init 14), .store true 3 (.t 11) (.t 28)⟩, mM 16 12 29])
 (.seq (.seq
 (.ops 28 2 [mM 0 30 12, oO 1 31 (.un .not (.t 30))])
 (.cond (.t 31)
 (.seq (.ops 30 3 [oO 0 32 (.build [(.bool false), .nilsl, .nilsl, (.bool false), .nilsl, .nilsl] []), sT 1 true 6 8 32, mI 2 9 10]) .ret) .skip))
 (.seq (.ops 33 6 [lO 0 33 true true 6 4, lO 1 34 true true 6 5, lO 2 35 true true 3 11, oO 3 36 (.callF qe2 [(.t 33), (.t 34), (.t 35)]), sT 4 true 6 8 36, mI 5 9 0]) .ret))))),
 [.cell 8 true 6, .t 9]⟩
def q4w : KFn := ⟨
 (.seq (.ops 0 2 [oO 0 1 (.box 2 (.t 0)), oO 1 2 (.new 6 (.agg [(.bool false), .nilsl, .nilsl, (.bool false), .nilsl, .nilsl]))])
 (.seq (.ops 2 6 [fO 0 3 0 1, lO 1 4 true false 1 3, fO 2 5 1 1, lO 3 6 true false 1 5, oO 4 7 (.callF qe3 [(.t 4), (.t 6)]), sT 5 true 6 2 7]) .ret)),
 [.cell 2 true 6]⟩
def q9h : KFn := ⟨
 (.seq (.ops 0 3 [oO 0 2 (.box 6 (.t 0)), oO 1 3 (.box 6 (.t 1)), oO 2 4 (.new 6 (.agg [(.bool false), .nilsl, .nilsl, (.bool false), .nilsl, .nilsl]))])
 (.seq (.ops 3 12 [fO 0 5 0 2, lB 1 6 1 12 true true 3 5, fO 2 7 0 3, lB 3 8 4 12 true true 3 7, oB 4 9 15 12 (.callF q6C [(.t 6), (.t 8)]), fO 5 10 3 2, lB 6 11 32 12 true true 3 10, fO 7 12 3 3, lB 8 13 128 12 true true 3 12, oB 9 14 511 12 (.callF q6C [(.t 11), (.t 13)]), oO 10 15 (.build [(.bool false), .nilsl, .nilsl, (.bool false), .nilsl, .nilsl] [(0, 3, (.t 9)), (3, 3, (.t 14))]), ⟨11, none, none, (.bef 2047 12), .store true 6 (.t 4) (.t 15)⟩]) .ret)),
 [.cell 4 true 6]⟩
def qax : KFn := ⟨
 (.seq (.ops 0 6 [oO 0 4 (.box 6 (.t 0)), oO 1 5 (.box 6 (.t 1)), oO 2 6 (.box 6 (.t 2)), oO 3 7 (.box 6 (.t 3)), oO 4 8 (.new 6 (.agg [(.bool false), .nilsl, .nilsl, (.bool false), .nilsl, .nilsl])), mI 5 9 0])
 (.seq (.ops 6 21 [lB 0 13 0 21 true true 6 6, lB 1 14 0 21 true true 6 4, oB 2 15 3 21 (.callF q5V [(.t 13), (.t 14)]), lB 3 16 0 21 true true 6 7, lB 4 17 0 21 true true 6 6, oB 5 18 31 21 (.callF q5V [(.t 16), (.t 17)]), oB 6 19 63 21 (.callF q94 [(.t 15), (.t 18)]), lB 7 20 0 21 true true 6 5, lB 8 21 0 21 true true 6 4, oB 9 22 511 21 (.callF q5V [(.t 20), (.t 21)]), lB 10 23 0 21 true true 6 7, lB 11 24 0 21 true true 6 6, oB 12 25 4095 21 (.callF q5V [(.t 23), (.t 24)]), oB 13 26 8191 21 (.callF q94 [(.t 22), (.t 25)]), oB 14 27 16383 21 (.callF qfP [(.t 19), (.t 26)]), mM 15 12 27, eO 16 28 12 0, eO 17 29 12 1, oB 18 10 0 21 (.new 3 (.agg [(.bool false), .nilsl, .nilsl])), ⟨19, none, none, (.init 18), .store true 3 (.t 10) (.t 28)⟩, mM 20 11 29])
 (.seq (.seq
 (.ops 27 2 [mM 0 30 11, oO 1 31 (.un .not (.t 30))])
 (.cond (.t 31)
 (.seq (.ops 29 3 [oO 0 32 (.build [(.bool false), .nilsl, .nilsl, (.bool false), .nilsl, .nilsl] []), sT 1 true 6 8 32, mI 2 9 10]) .ret) .skip))
 (.seq (.ops 32 6 [lO 0 33 true true 6 4, lO 1 34 true true 6 5, lO 2 35 true true 3 10, oO 3 36 (.callF qhV [(.t 33), (.t 34), (.t 35)]), sT 4 true 6 8 36, mI 5 9 0]) .ret)))),
 [.cell 8 true 6, .t 9]⟩
def qe7 : KFn := ⟨
 (.seq (.ops 0 2 [oO 0 1 (.box 2 (.t 0)), oO 1 2 (.new 6 (.agg [(.bool false), .nilsl, .nilsl, (.bool false), .nilsl, .nilsl]))])
 (.seq (.ops 2 6 [fO 0 3 0 1, lO 1 4 true false 1 3, fO 2 5 1 1, lO 3 6 true false 1 5, oO 4 7 (.callF qhU [(.t 4), (.t 6)]), sT 5 true 6 2 7]) .ret)),
 [.cell 2 true 6]⟩
def qbT : KFn := ⟨
 (.seq (.ops 0 3 [oO 0 2 (.box 2 (.t 0)), oO 1 3 (.box 2 (.t 1)), oO 2 4 (.new 2 (.agg [(.int .i64 0), (.int .i64 0)]))])
 (.seq (.ops 3 12 [fO 0 5 0 2, lO 1 6 true false 1 5, fO 2 7 0 3, lO 3 8 true false 1 7, bT 4 9 .add 6 8, fO 5 10 1 2, lO 6 11 true false 1 10, fO 7 12 1 3, lO 8 13 true false 1 12, bT 9 14 .add 11 13, oO 10 15 (.build [(.int .i64 0), (.int .i64 0)] [(0, 1, (.t 9)), (1, 1, (.t 14))]), sT 11 true 2 4 15]) .ret)),
 [.cell 4 true 2]⟩
def qay : KFn := ⟨
 (.seq (.ops 0 3 [oO 0 3 (.box 3 (.t 0)), mI 1 6 0, oO 2 7 (.mov (.c (.bool false)))])
 (.seq (.ops 3 11 [lB 0 11 0 11 true true 3 3, mM 1 12 1, oB 2 13 2 11 (.callF q95 [(.t 12)]), oB 3 14 7 11 (.callF q7q [(.t 11), (.t 13)]), oB 4 15 15 11 (.callF qcF [(.t 14)]), oB 5 16 31 11 (.callF qcE [(.t 15)]), mM 6 10 16, eO 7 17 10 0, eO 8 18 10 1, mM 9 8 17, mM 10 9 18])
 (.seq (.seq
 (.ops 14 13 [mM 0 19 9, oO 1 20 (.un .not (.t 19)), mM 2 21 20, gM 3 22 21 false 8, gM 4 23 21 false 2, gG 5 24 21 false (.bin .gtr .no (.t 22) (.t 23)), oO 6 25 (.pick (.t 21) (.c (.bool true)) (.t 24)), mM 7 26 25, gM 8 27 26 false 8, gM 9 28 26 false 2, gG 10 29 26 false (.un .neg (.t 28)), gG 11 30 26 false (.bin .lss .no (.t 27) (.t 29)), oO 12 31 (.pick (.t 26) (.c (.bool true)) (.t 30))])
 (.cond (.t 31)
 (.seq (.ops 27 2 [mI 0 6 0, oO 1 7 (.mov (.c (.bool false)))]) .ret) .skip))
 (.seq (.ops 29 5 [mM 0 32 1, mM 1 33 8, bT 2 34 .add 32 33, mM 3 6 34, oO 4 7 (.mov (.c (.bool true)))]) .ret)))),
 [.t 6, .t 7]⟩
def q7W : KFn := ⟨
 (.seq (.ops 12 1 [oO 0 2 (.mov (.c (.bool false)))])
 (.seq (.ops 13 3 [mM 0 9 0, nO 1 10 9, mM 2 3 10])
 (.seq (.seq
 (.ops 16 1 [mI 0 4 0])
 (.block 0
 (.loop [(0, 0), (3, 0), (4, 0)]
 (.seq (.seq
 (.ops 17 3 [mM 0 11 4, mM 1 12 3, bT 2 13 .lss 11 12])
 (.cond (.t 13) .skip
 (.exit 0)))
 (.seq (.block 1
 (.seq (.ops 20 15 [mM 0 16 0, mM 1 17 4, xB 2 18 3 15 2 16 17, lB 3 19 7 15 false true 2 18, mM 4 20 0, mM 5 21 4, bC 6 22 .add 21 1, mM 7 23 3, bT 8 24 .rem 22 23, xB 9 25 496 15 2 20 24, lB 10 26 1008 15 false true 2 25, oB 11 5 0 15 (.new 2 (.agg [(.int .i64 0), (.int .i64 0)])), oB 12 6 0 15 (.new 2 (.agg [(.int .i64 0), (.int .i64 0)])), ⟨13, none, none, (.init 11), .store true 2 (.t 5) (.t 19)⟩, ⟨14, none, none, (.init 12), .store true 2 (.t 6) (.t 26)⟩])
 (.seq (.ops 35 9 [mM 0 27 0, mM 1 28 4, bC 2 29 .add 28 2, mM 3 30 3, bT 4 31 .rem 29 30, xO 5 32 2 27 31, lO 6 33 false true 2 32, oO 7 7 (.new 2 (.agg [(.int .i64 0), (.int .i64 0)])), sT 8 true 2 7 33])
 (.seq (.seq
 (.ops 44 15 [lO 0 34 true true 2 5, lO 1 35 true true 2 6, oO 2 36 (.bin .eql (.flat [.int, .int]) (.t 34) (.t 35)), mM 3 37 36, gG 4 38 37 false (.load true true 2 (.t 5)), gG 5 39 37 false (.load true true 2 (.t 6)), gG 6 40 37 false (.load true true 2 (.t 7)), gG 7 41 37 false (.callF q1K [(.t 38), (.t 39), (.t 40)]), oO 8 42 (.pick (.t 37) (.c (.bool true)) (.t 41)), mM 9 43 42, gG 10 44 43 false (.load true true 2 (.t 6)), gG 11 45 43 false (.load true true 2 (.t 7)), gG 12 46 43 false (.load true true 2 (.t 5)), gG 13 47 43 false (.callF q1K [(.t 44), (.t 45), (.t 46)]), oO 14 48 (.pick (.t 43) (.c (.bool true)) (.t 47))])
 (.cond (.t 48)
 (.seq (.ops 59 1 [oO 0 2 (.mov (.c (.bool false)))]) .ret) .skip))
 (.seq (.ops 60 3 [mM 0 49 4, bC 1 50 .add 49 2, mM 2 8 50])
 (.block 2
 (.loop [(0, 0), (3, 0), (4, 0), (5, 0), (6, 0), (8, 0)]
 (.seq (.seq
 (.ops 63 3 [mM 0 51 8, mM 1 52 3, bT 2 53 .lss 51 52])
 (.cond (.t 53) .skip
 (.exit 2)))
 (.seq (.block 3
 (.seq (.ops 66 22 [mM 0 56 8, bC 1 57 .add 56 1, mM 2 58 3, bT 3 59 .rem 57 58, mM 4 60 4, bT 5 61 .neq 59 60, mM 6 62 61, ⟨7, some 63, some (62, true), (.bef 127 22), .load true true 2 (.t 5)⟩, ⟨8, some 64, some (62, true), (.bef 127 22), .load true true 2 (.t 6)⟩, gM 9 65 62 true 0, gM 10 66 62 true 8, ⟨11, some 67, some (62, true), (.bef 1663 22), .ixs 2 (.t 65) (.t 66)⟩, ⟨12, some 68, some (62, true), (.bef 3711 22), .load false true 2 (.t 67)⟩, gM 13 69 62 true 0, gM 14 70 62 true 8, gG 15 71 62 true (.bin .add .no (.t 70) (.c (.int .i64 1))), gM 16 72 62 true 3, gG 17 73 62 true (.bin .rem .no (.t 71) (.t 72)), ⟨18, some 74, some (62, true), (.bef 254079 22), .ixs 2 (.t 69) (.t 73)⟩, ⟨19, some 75, some (62, true), (.bef 516223 22), .load false true 2 (.t 74)⟩, ⟨20, some 76, some (62, true), (.bef 1048575 22), .callF qe4 [(.t 63), (.t 64), (.t 68), (.t 75)]⟩, oO 21 77 (.pick (.t 62) (.t 76) (.c (.bool false)))])
 (.cond (.t 77)
 (.seq (.ops 88 1 [oO 0 2 (.mov (.c (.bool false)))]) .ret) .skip)))
 (.ops 89 3 [mM 0 54 8, bC 1 55 .add 54 1, mM 2 8 55]))))))))))
 (.ops 92 3 [mM 0 14 4, bC 1 15 .add 14 1, mM 2 4 15]))))))
 (.seq (.ops 95 1 [oO 0 2 (.mov (.c (.bool true)))]) .ret)))),
 [.t 2]⟩
def q9i : KFn := ⟨
 (.seq (.ops 0 1 [mI 0 2 0])
 (.seq (.seq
 (.ops 1 3 [mM 0 3 0, oO 1 4 (.callF q6A [(.t 3)]), bC 2 5 .neq 4 0])
 (.cond (.t 5)
 (.seq (.ops 4 1 [mI 0 2 0]) .ret) .skip))
 (.seq (.ops 5 3 [mM 0 6 0, oO 1 7 (.callF qcG [(.t 6)]), mM 2 2 7]) .ret))),
 [.t 2]⟩
def q9j : KFn := ⟨
 (.seq (.ops 0 1 [oO 0 2 (.new 3 (.agg [(.bool false), .nilsl, .nilsl]))])
 (.seq (.ops 1 8 [mM 0 6 0, oO 1 7 (.callF qhW [(.t 6), (.c (.int .i64 1))]), mM 2 5 7, eO 3 8 5 0, eO 4 9 5 1, oO 5 3 (.new 3 (.agg [(.bool false), .nilsl, .nilsl])), sT 6 true 3 3 8, mM 7 4 9])
 (.seq (.ops 9 2 [lO 0 10 true true 3 3, sT 1 true 3 2 10]) .ret))),
 [.cell 2 true 3]⟩
def q5y : KFn := ⟨
 (.seq (.ops 0 2 [oO 0 1 (.box 6 (.t 0)), mI 1 2 0])
 (.seq (.ops 2 3 [lO 0 3 true true 6 1, oO 1 4 (.callF q5t [(.t 3), (.c (.int .i64 1))]), mM 2 2 4]) .ret)),
 [.t 2]⟩
def q40 : KFn := ⟨
 (.seq (.ops 0 2 [oO 0 1 (.box 2 (.t 0)), oO 1 2 (.mov (.c (.bool false)))])
 (.seq (.ops 2 19 [fO 0 3 0 1, lO 1 4 true false 1 3, bC 2 5 .lss 4 (-1048576), mM 3 6 5, gG 4 7 6 false (.off 0 (.t 1)), gG 5 8 6 false (.load true false 1 (.t 7)), gG 6 9 6 false (.bin .gtr .no (.t 8) (.c (.int .i64 1048576))), oO 7 10 (.pick (.t 6) (.c (.bool true)) (.t 9)), mM 8 11 10, gG 9 12 11 false (.off 1 (.t 1)), gG 10 13 11 false (.load true false 1 (.t 12)), gG 11 14 11 false (.bin .lss .no (.t 13) (.c (.int .i64 (-1048576)))), oO 12 15 (.pick (.t 11) (.c (.bool true)) (.t 14)), mM 13 16 15, gG 14 17 16 false (.off 1 (.t 1)), gG 15 18 16 false (.load true false 1 (.t 17)), gG 16 19 16 false (.bin .gtr .no (.t 18) (.c (.int .i64 1048576))), oO 17 20 (.pick (.t 16) (.c (.bool true)) (.t 19)), mM 18 2 20]) .ret)),
 [.t 2]⟩
def q9k : KFn := ⟨
 (.seq (.ops 0 1 [oO 0 2 (.mov (.c (.bool false)))])
 (.seq (.ops 1 7 [mM 0 3 0, oO 1 4 (.bin .geq .no (.t 3) (.c (.int .u8 48))), mM 2 5 4, gM 3 6 5 true 0, gG 4 7 5 true (.bin .leq .no (.t 6) (.c (.int .u8 57))), oO 5 8 (.pick (.t 5) (.t 7) (.c (.bool false))), mM 6 2 8]) .ret)),
 [.t 2]⟩
def qbU : KFn := ⟨
 (.seq (.ops 4 1 [oO 0 2 (.mov (.c (.bool false)))])
 (.seq (.seq
 (.ops 5 1 [mI 0 3 0])
 (.block 0
 (.loop [(0, 0), (3, 0)]
 (.seq (.seq
 (.ops 6 4 [mM 0 4 3, mM 1 5 0, nO 2 6 5, bT 3 7 .lss 4 6])
 (.cond (.t 7) .skip
 (.exit 0)))
 (.seq (.block 1
 (.seq (.ops 10 14 [mM 0 10 0, mM 1 11 3, xO 2 12 2 10 11, fO 3 13 0 12, lO 4 14 false false 1 13, oO 5 15 (.callF q9U [(.t 14)]), mM 6 16 15, gM 7 17 16 false 0, gM 8 18 16 false 3, gG 9 19 16 false (.ixs 2 (.t 17) (.t 18)), gG 10 20 16 false (.off 1 (.t 19)), gG 11 21 16 false (.load false false 1 (.t 20)), gG 12 22 16 false (.callF q9U [(.t 21)]), oO 13 23 (.pick (.t 16) (.c (.bool true)) (.t 22))])
 (.cond (.t 23)
 (.seq (.ops 24 1 [oO 0 2 (.mov (.c (.bool true)))]) .ret) .skip)))
 (.ops 25 3 [mM 0 8 3, bC 1 9 .add 8 1, mM 2 3 9]))))))
 (.seq (.ops 28 1 [oO 0 2 (.mov (.c (.bool false)))]) .ret))),
 [.t 2]⟩
end Go.F
