/- Parts of the proof, part 31: Code1. -/
import Derived.Test.YtjjkgfikkihokaaGreatZ30
set_option linter.all false
namespace Go.F
def q3B : KFn := ⟨
 (.seq (.ops 0 1 [oO 0 2 (.mov (.c (.bool false)))])
 (.seq (.seq
 (.ops 1 3 [mM 0 7 0, oO 1 8 (.callF q3k [(.t 7)]), oO 2 9 (.un .not (.t 8))])
 (.cond (.t 9)
 (.seq (.ops 4 2 [oO 0 10 (.callF q11 []), mM 1 2 10]) .ret) .skip))
 (.seq (.ops 6 7 [mM 0 12 0, oO 1 13 (.callF q1b [(.t 12)]), mM 2 11 13, eO 3 14 11 0, eO 4 15 11 1, mM 5 3 14, mM 6 4 15])
 (.seq (.ops 13 7 [mM 0 17 0, oO 1 18 (.callF q7G [(.t 17)]), mM 2 16 18, eO 3 19 16 0, eO 4 20 16 1, mM 5 5 19, mM 6 6 20])
 (.seq (.ops 20 19 [mM 0 21 0, oO 1 22 (.callF q12 [(.t 21)]), mM 2 23 0, oO 3 24 (.callF q6n [(.t 23)]), bT 4 25 .eql 22 24, mM 5 26 25, gM 6 27 26 true 3, gM 7 28 26 true 5, gG 8 29 26 true (.callF q2b [(.t 27), (.t 28)]), oO 9 30 (.pick (.t 26) (.t 29) (.c (.bool false))), mM 10 31 30, gM 11 32 31 true 4, gM 12 33 31 true 6, gG 13 34 31 true (.bin .eql .no (.t 32) (.t 33)), oO 14 35 (.pick (.t 31) (.t 34) (.c (.bool false))), mM 15 36 35, gG 16 37 36 true (.callF q11 []), oO 17 38 (.pick (.t 36) (.t 37) (.c (.bool false))), mM 18 2 38]) .ret))))),
 [.t 2]⟩
def q3D : KFn := ⟨
 (.seq (.ops 0 3 [oO 0 4 (.box 2 (.t 1)), oO 1 5 (.box 2 (.t 2)), oO 2 6 (.mov (.c (.bool false)))])
 (.seq (.seq
 (.ops 3 3 [mM 0 11 0, oO 1 12 (.callF q3k [(.t 11)]), oO 2 13 (.un .not (.t 12))])
 (.cond (.t 13)
 (.seq (.ops 6 2 [oO 0 14 (.callF q11 []), mM 1 6 14]) .ret) .skip))
 (.seq (.ops 8 9 [mM 0 16 0, lO 1 17 true true 2 4, oO 2 18 (.callF q1a [(.t 16), (.t 17)]), mM 3 15 18, eO 4 19 15 0, eO 5 20 15 1, oO 6 7 (.new 2 (.agg [(.int .i64 0), (.int .i64 0)])), sT 7 true 2 7 19, mM 8 8 20])
 (.seq (.ops 17 9 [mM 0 22 0, lO 1 23 true true 2 4, oO 2 24 (.callF qgs [(.t 22), (.t 23)]), mM 3 21 24, eO 4 25 21 0, eO 5 26 21 1, oO 6 9 (.new 2 (.agg [(.int .i64 0), (.int .i64 0)])), sT 7 true 2 9 25, mM 8 10 26])
 (.seq (.ops 26 21 [lB 0 27 0 21 true true 2 7, lB 1 28 0 21 true true 2 9, oO 2 29 (.bin .eql (.flat [.int, .int]) (.t 27) (.t 28)), mM 3 30 29, gM 4 31 30 true 8, gM 5 32 30 true 10, gG 6 33 30 true (.bin .eql .no (.t 31) (.t 32)), oO 7 34 (.pick (.t 30) (.t 33) (.c (.bool false))), mM 8 35 34, gM 9 36 35 true 0, ⟨10, some 37, some (35, true), (.bef 511 21), .load true true 2 (.t 5)⟩, ⟨11, some 38, some (35, true), (.bef 2047 21), .callF q1i [(.t 36), (.t 37)]⟩, gM 12 39 35 true 0, ⟨13, some 40, some (35, true), (.bef 511 21), .load true true 2 (.t 5)⟩, ⟨14, some 41, some (35, true), (.bef 16383 21), .callF qgt [(.t 39), (.t 40)]⟩, ⟨15, some 42, some (35, true), (.bef 32767 21), .callF q6a [(.t 38), (.t 41)]⟩, oO 16 43 (.pick (.t 35) (.t 42) (.c (.bool false))), mM 17 44 43, ⟨18, some 45, some (44, true), (.bef 262143 21), .callF q11 []⟩, oO 19 46 (.pick (.t 44) (.t 45) (.c (.bool false))), mM 20 6 46]) .ret))))),
 [.t 6]⟩
def q3E : KFn := ⟨
 (.seq (.ops 8 1 [oO 0 2 (.mov (.c (.bool false)))])
 (.seq (.seq
 (.ops 9 3 [mM 0 8 0, oO 1 9 (.callF q3k [(.t 8)]), oO 2 10 (.un .not (.t 9))])
 (.cond (.t 10)
 (.seq (.ops 12 2 [oO 0 11 (.callF q11 []), mM 1 2 11]) .ret) .skip))
 (.seq (.ops 14 7 [mM 0 13 0, oO 1 14 (.callF q1b [(.t 13)]), mM 2 12 14, eO 3 15 12 0, eO 4 16 12 1, mM 5 3 15, mM 6 4 16])
 (.seq (.seq
 (.ops 21 2 [mM 0 17 4, bC 1 18 .neq 17 0])
 (.cond (.t 18)
 (.seq (.ops 23 13 [mM 0 19 3, nO 1 20 19, bC 2 21 .eql 20 0, mM 3 22 21, gM 4 23 22 true 0, gG 5 24 22 true (.callF q12 [(.t 23)]), gM 6 25 22 true 4, gG 7 26 22 true (.bin .eql .no (.t 24) (.t 25)), oO 8 27 (.pick (.t 22) (.t 26) (.c (.bool false))), mM 9 28 27, gG 10 29 28 true (.callF q11 []), oO 11 30 (.pick (.t 28) (.t 29) (.c (.bool false))), mM 12 2 30]) .ret) .skip))
 (.seq (.ops 36 1 [mI 0 5 0])
 (.seq (.seq
 (.ops 37 1 [mI 0 6 0])
 (.block 0
 (.loop [(0, 0), (3, 0), (5, 0), (6, 0)]
 (.seq (.seq
 (.ops 38 4 [mM 0 31 6, mM 1 32 0, nO 2 33 32, bT 3 34 .lss 31 33])
 (.cond (.t 34) .skip
 (.exit 0)))
 (.seq (.block 1
 (.seq (.ops 42 7 [mM 0 37 0, mM 1 38 6, xO 2 39 2 37 38, fO 3 40 1 39, lO 4 41 false false 1 40, nO 5 42 41, mM 6 7 42])
 (.seq (.seq
 (.ops 49 30 [mM 0 43 7, bC 1 44 .lss 43 2, mM 2 45 44, gM 3 46 45 false 5, gM 4 47 45 false 7, gG 5 48 45 false (.bin .add .no (.t 46) (.t 47)), gG 6 49 45 false (.bin .sub .no (.t 48) (.c (.int .i64 1))), gM 7 50 45 false 3, ⟨8, some 51, some (45, false), (.bef 135 30), .len .sl (.t 50)⟩, gG 9 52 45 false (.bin .gtr .no (.t 49) (.t 51)), oO 10 53 (.pick (.t 45) (.c (.bool true)) (.t 52)), mM 11 54 53, gM 12 55 54 false 3, gM 13 56 54 false 5, gM 14 57 54 false 5, gM 15 58 54 false 7, gG 16 59 54 false (.bin .add .no (.t 57) (.t 58)), gG 17 60 54 false (.bin .sub .no (.t 59) (.c (.int .i64 1))), ⟨18, some 61, some (54, false), (.bef 262143 30), .slsl 2 (.t 55) (some (.t 56)) (some (.t 60)) none⟩, gM 19 62 54 false 0, gM 20 63 54 false 6, ⟨21, some 64, some (54, false), (.bef 1576959 30), .ixs 2 (.t 62) (.t 63)⟩, gG 22 65 54 false (.off 1 (.t 64)), ⟨23, some 66, some (54, false), (.bef 7868415 30), .load false false 1 (.t 65)⟩, gM 24 67 54 false 7, gG 25 68 54 false (.bin .sub .no (.t 67) (.c (.int .i64 1))), ⟨26, some 69, some (54, false), (.bef 66588671 30), .slsl 2 (.t 66) none (some (.t 68)) none⟩, ⟨27, some 70, some (54, false), (.bef 134217727 30), .callF q2b [(.t 61), (.t 69)]⟩, gG 28 71 54 false (.un .not (.t 70)), oO 29 72 (.pick (.t 54) (.c (.bool true)) (.t 71))])
 (.cond (.t 72)
 (.seq (.ops 79 1 [oO 0 2 (.mov (.c (.bool false)))]) .ret) .skip))
 (.seq (.ops 80 5 [mM 0 73 5, mM 1 74 7, bT 2 75 .add 73 74, bC 3 76 .sub 75 1, mM 4 5 76])
 (.seq (.ops 85 17 [mM 0 77 0, mM 1 78 6, xB 2 79 3 17 2 77 78, fO 3 80 1 79, lB 4 81 15 17 false false 1 80, mM 5 82 7, bC 6 83 .sub 82 1, xB 7 84 127 17 2 81 83, lB 8 85 255 17 false true 2 84, mM 9 86 3, mM 10 87 5, mM 11 88 3, oB 12 89 2048 17 (.len .sl (.t 88)), bT 13 90 .rem 87 89, xB 14 91 15872 17 2 86 90, lB 15 92 32256 17 false true 2 91, oO 16 93 (.bin .neq (.flat [.int, .int]) (.t 85) (.t 92))])
 (.cond (.t 93)
 (.seq (.ops 102 1 [oO 0 2 (.mov (.c (.bool false)))]) .ret) .skip))))))
 (.ops 103 3 [mM 0 35 6, bC 1 36 .add 35 1, mM 2 6 36]))))))
 (.seq (.ops 106 18 [mM 0 94 5, mM 1 95 3, nO 2 96 95, bT 3 97 .eql 94 96, mM 4 98 97, gM 5 99 98 true 3, gG 6 100 98 true (.callF q3h [(.t 99)]), gG 7 101 98 true (.bin .eql .no (.t 100) (.c (.int .i64 0))), oO 8 102 (.pick (.t 98) (.t 101) (.c (.bool false))), mM 9 103 102, gM 10 104 103 true 0, gG 11 105 103 true (.len .sl (.t 104)), gG 12 106 103 true (.bin .geq .no (.t 105) (.c (.int .i64 2))), oO 13 107 (.pick (.t 103) (.t 106) (.c (.bool false))), mM 14 108 107, gG 15 109 108 true (.callF q11 []), oO 16 110 (.pick (.t 108) (.t 109) (.c (.bool false))), mM 17 2 110]) .ret))))))),
 [.t 2]⟩
def q4C : KFn := ⟨
 (.seq (.ops 4 1 [oO 0 2 (.mov (.c (.bool false)))])
 (.seq (.seq
 (.ops 5 8 [mM 0 18 0, oO 1 19 (.callF q3k [(.t 18)]), oO 2 20 (.un .not (.t 19)), mM 3 21 20, gM 4 22 21 false 0, gG 5 23 21 false (.callF q12 [(.t 22)]), gG 6 24 21 false (.bin .neq .no (.t 23) (.c (.int .i64 0))), oO 7 25 (.pick (.t 21) (.c (.bool true)) (.t 24))])
 (.cond (.t 25)
 (.seq (.ops 13 2 [oO 0 26 (.callF q11 []), mM 1 2 26]) .ret) .skip))
 (.seq (.seq
 (.ops 15 1 [mI 0 3 0])
 (.block 0
 (.loop [(0, 0), (3, 0)]
 (.seq (.seq
 (.ops 16 4 [mM 0 27 3, mM 1 28 0, nO 2 29 28, bT 3 30 .lss 27 29])
 (.cond (.t 30) .skip
 (.exit 0)))
 (.seq (.block 1
 (.seq (.ops 20 11 [mM 0 34 0, mM 1 35 3, xO 2 36 2 34 35, fO 3 37 1 36, lO 4 38 false false 1 37, oO 5 39 (.callF q3l [(.t 38)]), mM 6 33 39, eO 7 40 33 0, eO 8 41 33 1, mM 9 4 40, mM 10 5 41])
 (.seq (.ops 31 10 [mM 0 43 0, mM 1 44 3, oO 2 45 (.build [(.int .i64 0), (.int .i64 0)] [(0, 1, (.t 44))]), oO 3 46 (.callF q1a [(.t 43), (.t 45)]), mM 4 42 46, eO 5 47 42 0, eO 6 48 42 1, oO 7 6 (.new 2 (.agg [(.int .i64 0), (.int .i64 0)])), sT 8 true 2 6 47, mM 9 7 48])
 (.seq (.ops 41 11 [mM 0 50 0, mM 1 51 3, mM 2 52 4, oO 3 53 (.build [(.int .i64 0), (.int .i64 0)] [(0, 1, (.t 51)), (1, 1, (.t 52))]), oO 4 54 (.callF q1a [(.t 50), (.t 53)]), mM 5 49 54, eO 6 55 49 0, eO 7 56 49 1, oO 8 8 (.new 2 (.agg [(.int .i64 0), (.int .i64 0)])), sT 9 true 2 8 55, mM 10 9 56])
 (.seq (.ops 52 12 [mM 0 58 0, mM 1 59 3, mM 2 60 4, bC 3 61 .add 60 1, oO 4 62 (.build [(.int .i64 0), (.int .i64 0)] [(0, 1, (.t 59)), (1, 1, (.t 61))]), oO 5 63 (.callF q1a [(.t 58), (.t 62)]), mM 6 57 63, eO 7 64 57 0, eO 8 65 57 1, oO 9 10 (.new 2 (.agg [(.int .i64 0), (.int .i64 0)])), sT 10 true 2 10 64, mM 11 11 65])
 (.seq (.ops 64 10 [mM 0 67 0, mM 1 68 3, oO 2 69 (.build [(.int .i64 0), (.int .i64 0)] [(0, 1, (.t 68)), (1, 1, (.c (.int .i64 (-1))))]), oO 3 70 (.callF q1a [(.t 67), (.t 69)]), mM 4 66 70, eO 5 71 66 0, eO 6 72 66 1, oO 7 12 (.new 2 (.agg [(.int .i64 0), (.int .i64 0)])), sT 8 true 2 12 71, mM 9 13 72])
 (.seq (.ops 74 56 [mM 0 73 5, bC 1 74 .neq 73 0, mM 2 75 74, gM 3 76 75 false 7, gG 4 77 75 false (.bin .neq .no (.t 76) (.c (.int .i64 0))), oO 5 78 (.pick (.t 75) (.c (.bool true)) (.t 77)), mM 6 79 78, gM 7 80 79 false 9, gG 8 81 79 false (.bin .neq .no (.t 80) (.c (.int .i64 0))), oO 9 82 (.pick (.t 79) (.c (.bool true)) (.t 81)), mM 10 83 82, gM 11 84 83 false 11, gG 12 85 83 false (.bin .neq .no (.t 84) (.c (.int .i64 3))), oO 13 86 (.pick (.t 83) (.c (.bool true)) (.t 85)), mM 14 87 86, gM 15 88 87 false 13, gG 16 89 87 false (.bin .neq .no (.t 88) (.c (.int .i64 3))), oO 17 90 (.pick (.t 87) (.c (.bool true)) (.t 89)), mM 18 91 90, gM 19 92 91 false 0, gM 20 93 91 false 3, ⟨21, some 94, some (91, false), (.bef 2097151 56), .ixs 2 (.t 92) (.t 93)⟩, gG 22 95 91 false (.off 1 (.t 94)), ⟨23, some 96, some (91, false), (.bef 8388607 56), .load false false 1 (.t 95)⟩, ⟨24, some 97, some (91, false), (.bef 16777215 56), .len .sl (.t 96)⟩, gG 25 98 91 false (.bin .lss .no (.t 97) (.c (.int .i64 2))), oO 26 99 (.pick (.t 91) (.c (.bool true)) (.t 98)), mM 27 100 99, ⟨28, some 101, some (100, false), (.bef 268435455 56), .load true true 2 (.t 6)⟩, gM 29 102 100 false 0, gM 30 103 100 false 3, ⟨31, some 104, some (100, false), (.bef 1879048191 56), .ixs 2 (.t 102) (.t 103)⟩, gG 32 105 100 false (.off 1 (.t 104)), ⟨33, some 106, some (100, false), (.bef 8321499135 56), .load false false 1 (.t 105)⟩, ⟨34, some 107, some (100, false), (.bef 16911433727 56), .ixs 2 (.t 106) (.c (.int .i64 0))⟩, ⟨35, some 108, some (100, false), (.bef 34091302911 56), .load false true 2 (.t 107)⟩, gG 36 109 100 false (.bin .neq (.flat [.int, .int]) (.t 101) (.t 108)), oO 37 110 (.pick (.t 100) (.c (.bool true)) (.t 109)), mM 38 111 110, ⟨39, some 112, some (111, false), (.bef 549755813887 56), .load true true 2 (.t 8)⟩, gM 40 113 111 false 0, gM 41 114 111 false 3, ⟨42, some 115, some (111, false), (.bef 3848290697215 56), .ixs 2 (.t 113) (.t 114)⟩, gG 43 116 111 false (.off 1 (.t 115)), ⟨44, some 117, some (111, false), (.bef 17042430230527 56), .load false false 1 (.t 116)⟩, gM 45 118 111 false 0, gM 46 119 111 false 3, ⟨47, some 120, some (111, false), (.bef 106102872080383 56), .ixs 2 (.t 118) (.t 119)⟩, gG 48 121 111 false (.off 1 (.t 120)), ⟨49, some 122, some (111, false), (.bef 528315337146367 56), .load false false 1 (.t 121)⟩, ⟨50, some 123, some (111, false), (.bef 1091265290567679 56), .len .sl (.t 122)⟩, gG 51 124 111 false (.bin .sub .no (.t 123) (.c (.int .i64 1))), ⟨52, some 125, some (111, false), (.bef 4503049871556607 56), .ixs 2 (.t 117) (.t 124)⟩, ⟨53, some 126, some (111, false), (.bef 9006649498927103 56), .load false true 2 (.t 125)⟩, gG 54 127 111 false (.bin .neq (.flat [.int, .int]) (.t 112) (.t 126)), oO 55 128 (.pick (.t 111) (.c (.bool true)) (.t 127))])
 (.cond (.t 128)
 (.seq (.ops 130 1 [oO 0 2 (.mov (.c (.bool false)))]) .ret) .skip))))))))
 (.ops 131 3 [mM 0 31 3, bC 1 32 .add 31 1, mM 2 3 32]))))))
 (.seq (.ops 134 11 [mM 0 130 0, mM 1 131 0, nO 2 132 131, oO 3 133 (.build [(.int .i64 0), (.int .i64 0)] [(0, 1, (.t 132))]), oO 4 134 (.callF q1a [(.t 130), (.t 133)]), mM 5 129 134, eO 6 135 129 0, eO 7 136 129 1, oO 8 14 (.new 2 (.agg [(.int .i64 0), (.int .i64 0)])), sT 9 true 2 14 135, mM 10 15 136])
 (.seq (.ops 145 9 [mM 0 138 0, oO 1 139 (.build [(.int .i64 0), (.int .i64 0)] [(0, 1, (.c (.int .i64 (-1))))]), oO 2 140 (.callF q1a [(.t 138), (.t 139)]), mM 3 137 140, eO 4 141 137 0, eO 5 142 137 1, oO 6 16 (.new 2 (.agg [(.int .i64 0), (.int .i64 0)])), sT 7 true 2 16 141, mM 8 17 142])
 (.seq (.ops 154 10 [mM 0 143 15, bC 1 144 .eql 143 3, mM 2 145 144, gM 3 146 145 true 17, gG 4 147 145 true (.bin .eql .no (.t 146) (.c (.int .i64 3))), oO 5 148 (.pick (.t 145) (.t 147) (.c (.bool false))), mM 6 149 148, gG 7 150 149 true (.callF q11 []), oO 8 151 (.pick (.t 149) (.t 150) (.c (.bool false))), mM 9 2 151]) .ret)))))),
 [.t 2]⟩
def q2K : KFn := ⟨
 (.seq (.ops 0 3 [oO 0 4 (.box 2 (.t 1)), oO 1 5 (.box 2 (.t 2)), oO 2 6 (.mov (.c (.bool false)))])
 (.seq (.seq
 (.ops 3 3 [mM 0 8 0, oO 1 9 (.callF q3k [(.t 8)]), oO 2 10 (.un .not (.t 9))])
 (.cond (.t 10)
 (.seq (.ops 6 2 [oO 0 11 (.callF q11 []), mM 1 6 11]) .ret) .skip))
 (.seq (.ops 8 4 [mM 0 12 0, lO 1 13 true true 2 4, oO 2 14 (.callF q1i [(.t 12), (.t 13)]), mM 3 7 14])
 (.seq (.ops 12 21 [mM 0 15 7, lB 1 16 0 21 true true 2 4, oB 2 17 2 21 (.callF qdz [(.t 16)]), oB 3 18 7 21 (.callF q1i [(.t 15), (.t 17)]), mM 4 19 0, oB 5 20 31 21 (.callF q6a [(.t 18), (.t 19)]), mM 6 21 20, gM 7 22 21 true 7, ⟨8, some 23, some (21, true), (.bef 127 21), .load true true 2 (.t 5)⟩, ⟨9, some 24, some (21, true), (.bef 511 21), .callF q1i [(.t 22), (.t 23)]⟩, gM 10 25 21 true 0, ⟨11, some 26, some (21, true), (.bef 127 21), .load true true 2 (.t 4)⟩, ⟨12, some 27, some (21, true), (.bef 127 21), .load true true 2 (.t 5)⟩, ⟨13, some 28, some (21, true), (.bef 7167 21), .callF qdA [(.t 26), (.t 27)]⟩, ⟨14, some 29, some (21, true), (.bef 16383 21), .callF q1i [(.t 25), (.t 28)]⟩, ⟨15, some 30, some (21, true), (.bef 32767 21), .callF q6a [(.t 24), (.t 29)]⟩, oO 16 31 (.pick (.t 21) (.t 30) (.c (.bool false))), mM 17 32 31, ⟨18, some 33, some (32, true), (.bef 262143 21), .callF q11 []⟩, oO 19 34 (.pick (.t 32) (.t 33) (.c (.bool false))), mM 20 6 34]) .ret)))),
 [.t 6]⟩
def q43 : KFn := ⟨
 (.seq (.ops 8 2 [oO 0 3 (.box 2 (.t 1)), oO 1 4 (.mov (.c (.bool false)))])
 (.seq (.seq
 (.ops 10 8 [mM 0 16 0, oO 1 17 (.callF q3k [(.t 16)]), oO 2 18 (.un .not (.t 17)), mM 3 19 18, gM 4 20 19 false 0, gG 5 21 19 false (.callF q12 [(.t 20)]), gG 6 22 19 false (.bin .neq .no (.t 21) (.c (.int .i64 0))), oO 7 23 (.pick (.t 19) (.c (.bool true)) (.t 22))])
 (.cond (.t 23)
 (.seq (.ops 18 2 [oO 0 24 (.callF q11 []), mM 1 4 24]) .ret) .skip))
 (.seq (.ops 20 4 [mM 0 25 0, lO 1 26 true true 2 3, oO 2 27 (.callF q1i [(.t 25), (.t 26)]), mM 3 5 27])
 (.seq (.ops 24 7 [mM 0 29 0, oO 1 30 (.callF q1b [(.t 29)]), mM 2 28 30, eO 3 31 28 0, eO 4 32 28 1, mM 5 6 31, mM 6 7 32])
 (.seq (.ops 31 7 [mM 0 34 5, oO 1 35 (.callF q1b [(.t 34)]), mM 2 33 35, eO 3 36 33 0, eO 4 37 33 1, mM 5 8 36, mM 6 9 37])
 (.seq (.seq
 (.ops 38 20 [mM 0 38 7, bC 1 39 .neq 38 0, mM 2 40 39, gM 3 41 40 false 9, gG 4 42 40 false (.bin .neq .no (.t 41) (.c (.int .i64 0))), oO 5 43 (.pick (.t 40) (.c (.bool true)) (.t 42)), mM 6 44 43, gM 7 45 44 false 6, gG 8 46 44 false (.callF q4m [(.t 45)]), gM 9 47 44 false 8, gG 10 48 44 false (.callF q4m [(.t 47)]), gG 11 49 44 false (.bin .neq .no (.t 46) (.t 48)), oO 12 50 (.pick (.t 44) (.c (.bool true)) (.t 49)), mM 13 51 50, gM 14 52 51 false 5, gG 15 53 51 false (.len .sl (.t 52)), gM 16 54 51 false 0, gG 17 55 51 false (.len .sl (.t 54)), gG 18 56 51 false (.bin .neq .no (.t 53) (.t 55)), oO 19 57 (.pick (.t 51) (.c (.bool true)) (.t 56))])
 (.cond (.t 57)
 (.seq (.ops 58 1 [oO 0 4 (.mov (.c (.bool false)))]) .ret) .skip))
 (.seq (.seq
 (.ops 59 1 [mI 0 10 0])
 (.block 0
 (.loop [(0, 0), (3, 0), (5, 0), (10, 0)]
 (.seq (.seq
 (.ops 60 4 [mM 0 58 10, mM 1 59 0, nO 2 60 59, bT 3 61 .lss 58 60])
 (.cond (.t 61) .skip
 (.exit 0)))
 (.seq (.block 1
 (.seq (.ops 64 2 [mM 0 64 10, mM 1 11 64])
 (.seq (.seq
 (.ops 66 6 [fO 0 65 0 3, lO 1 66 true false 1 65, mM 2 67 66, gM 3 68 67 true 10, gG 4 69 67 true (.bin .gtr .no (.t 68) (.c (.int .i64 0))), oO 5 70 (.pick (.t 67) (.t 69) (.c (.bool false)))])
 (.cond (.t 70)
 (.ops 72 5 [mM 0 71 0, nO 1 72 71, mM 2 73 10, bT 3 74 .sub 72 73, mM 4 11 74]) .skip))
 (.seq (.ops 77 11 [mM 0 76 0, mM 1 77 11, xO 2 78 2 76 77, fO 3 79 1 78, lO 4 80 false false 1 79, oO 5 81 (.callF q3l [(.t 80)]), mM 6 75 81, eO 7 82 75 0, eO 8 83 75 1, mM 9 12 82, mM 10 13 83])
 (.seq (.ops 88 11 [mM 0 85 5, mM 1 86 10, xO 2 87 2 85 86, fO 3 88 1 87, lO 4 89 false false 1 88, oO 5 90 (.callF q3l [(.t 89)]), mM 6 84 90, eO 7 91 84 0, eO 8 92 84 1, mM 9 14 91, mM 10 15 92])
 (.seq (.ops 99 24 [mM 0 93 13, bC 1 94 .neq 93 0, mM 2 95 94, gM 3 96 95 false 15, gG 4 97 95 false (.bin .neq .no (.t 96) (.c (.int .i64 0))), oO 5 98 (.pick (.t 95) (.c (.bool true)) (.t 97)), mM 6 99 98, gM 7 100 99 false 12, gM 8 101 99 false 14, gG 9 102 99 false (.bin .neq .no (.t 100) (.t 101)), oO 10 103 (.pick (.t 99) (.c (.bool true)) (.t 102)), mM 11 104 103, gM 12 105 104 false 0, gM 13 106 104 false 11, ⟨14, some 107, some (104, false), (.bef 16383 24), .ixs 2 (.t 105) (.t 106)⟩, gG 15 108 104 false (.off 0 (.t 107)), ⟨16, some 109, some (104, false), (.bef 65535 24), .load false false 1 (.t 108)⟩, gM 17 110 104 false 5, gM 18 111 104 false 10, ⟨19, some 112, some (104, false), (.bef 397311 24), .ixs 2 (.t 110) (.t 111)⟩, gG 20 113 104 false (.off 0 (.t 112)), ⟨21, some 114, some (104, false), (.bef 1970175 24), .load false false 1 (.t 113)⟩, gG 22 115 104 false (.bin .neq .no (.t 109) (.t 114)), oO 23 116 (.pick (.t 104) (.c (.bool true)) (.t 115))])
 (.cond (.t 116)
 (.seq (.ops 123 1 [oO 0 4 (.mov (.c (.bool false)))]) .ret) .skip)))))))
 (.ops 124 3 [mM 0 62 10, bC 1 63 .add 62 1, mM 2 10 63]))))))
 (.seq (.ops 127 2 [oO 0 117 (.callF q11 []), mM 1 4 117]) .ret)))))))),
 [.t 4]⟩
def q3G : KFn := ⟨
 (.seq (.ops 0 2 [oO 0 3 (.box 2 (.t 1)), oO 1 4 (.mov (.c (.bool false)))])
 (.seq (.seq
 (.ops 2 8 [mM 0 13 0, oO 1 14 (.callF q3k [(.t 13)]), oO 2 15 (.un .not (.t 14)), mM 3 16 15, gM 4 17 16 false 0, gG 5 18 16 false (.callF q12 [(.t 17)]), gG 6 19 16 false (.bin .neq .no (.t 18) (.c (.int .i64 0))), oO 7 20 (.pick (.t 16) (.c (.bool true)) (.t 19))])
 (.cond (.t 20)
 (.seq (.ops 10 2 [oO 0 21 (.callF q11 []), mM 1 4 21]) .ret) .skip))
 (.seq (.ops 12 7 [mM 0 23 0, oO 1 24 (.callF q1b [(.t 23)]), mM 2 22 24, eO 3 25 22 0, eO 4 26 22 1, mM 5 5 25, mM 6 6 26])
 (.seq (.ops 19 9 [mM 0 28 0, lO 1 29 true true 2 3, oO 2 30 (.callF q1i [(.t 28), (.t 29)]), oO 3 31 (.callF q1b [(.t 30)]), mM 4 27 31, eO 5 32 27 0, eO 6 33 27 1, mM 7 7 32, mM 8 8 33])
 (.seq (.ops 28 9 [lO 0 35 true true 2 3, mM 1 36 5, oO 2 37 (.callF qdB [(.t 35), (.t 36)]), oO 3 38 (.callF q3P [(.t 37)]), mM 4 34 38, eO 5 39 34 0, eO 6 40 34 1, mM 7 9 39, mM 8 10 40])
 (.seq (.ops 37 7 [mM 0 42 7, oO 1 43 (.callF q3P [(.t 42)]), mM 2 41 43, eO 3 44 41 0, eO 4 45 41 1, mM 5 11 44, mM 6 12 45])
 (.seq (.ops 44 22 [mM 0 46 10, bC 1 47 .eql 46 0, mM 2 48 47, gM 3 49 48 true 12, gG 4 50 48 true (.bin .eql .no (.t 49) (.c (.int .i64 0))), oO 5 51 (.pick (.t 48) (.t 50) (.c (.bool false))), mM 6 52 51, gM 7 53 52 true 9, gM 8 54 52 true 11, gG 9 55 52 true (.callF q2b [(.t 53), (.t 54)]), oO 10 56 (.pick (.t 52) (.t 55) (.c (.bool false))), mM 11 57 56, gM 12 58 57 true 5, gG 13 59 57 true (.len .sl (.t 58)), gM 14 60 57 true 7, gG 15 61 57 true (.len .sl (.t 60)), gG 16 62 57 true (.bin .eql .no (.t 59) (.t 61)), oO 17 63 (.pick (.t 57) (.t 62) (.c (.bool false))), mM 18 64 63, gG 19 65 64 true (.callF q11 []), oO 20 66 (.pick (.t 64) (.t 65) (.c (.bool false))), mM 21 4 66]) .ret))))))),
 [.t 4]⟩
def qfb : KFn := ⟨
 (.seq (.ops 6 1 [oO 0 4 (.mov (.c (.bool false)))])
 (.seq (.seq
 (.ops 7 5 [mM 0 6 0, nO 1 7 6, mM 2 8 1, nO 3 9 8, bT 4 10 .neq 7 9])
 (.cond (.t 10)
 (.seq (.ops 12 1 [oO 0 4 (.mov (.c (.bool false)))]) .ret) .skip))
 (.seq (.seq
 (.ops 13 1 [mI 0 5 0])
 (.block 0
 (.loop [(0, 0), (1, 0), (5, 0)]
 (.seq (.seq
 (.ops 14 4 [mM 0 11 5, mM 1 12 0, nO 2 13 12, bT 3 14 .lss 11 13])
 (.cond (.t 14) .skip
 (.exit 0)))
 (.seq (.block 1
 (.seq (.ops 18 9 [mM 0 17 0, mM 1 18 5, xB 2 19 3 9 2 17 18, lB 3 20 7 9 false true 2 19, mM 4 21 1, mM 5 22 5, xB 6 23 48 9 2 21 22, lB 7 24 112 9 false true 2 23, oO 8 25 (.bin .neq (.flat [.int, .int]) (.t 20) (.t 24))])
 (.cond (.t 25)
 (.seq (.ops 27 1 [oO 0 4 (.mov (.c (.bool false)))]) .ret) .skip)))
 (.ops 28 3 [mM 0 15 5, bC 1 16 .add 15 1, mM 2 5 16]))))))
 (.seq (.ops 31 1 [oO 0 4 (.mov (.c (.bool true)))]) .ret)))),
 [.t 4]⟩
def qcI : KFn := ⟨
 (.seq (.ops 4 1 [oO 0 2 (.mov (.c (.bool false)))])
 (.seq (.seq
 (.ops 5 1 [mI 0 3 0])
 (.block 0
 (.loop [(0, 0), (3, 0)]
 (.seq (.seq
 (.ops 6 8 [mM 0 4 3, mM 1 5 0, nO 2 6 5, bT 3 7 .lss 4 6, mM 4 8 7, gM 5 9 8 true 3, gG 6 10 8 true (.bin .lss .no (.t 9) (.c (.int .i64 20))), oO 7 11 (.pick (.t 8) (.t 10) (.c (.bool false)))])
 (.cond (.t 11) .skip
 (.exit 0)))
 (.seq (.block 1
 (.seq (.ops 14 16 [mM 0 14 0, mM 1 15 3, xO 2 16 2 14 15, fO 3 17 1 16, lO 4 18 false false 1 17, nO 5 19 18, bC 6 20 .gtr 19 60, mM 7 21 20, gM 8 22 21 false 0, gM 9 23 21 false 3, gG 10 24 21 false (.ixs 2 (.t 22) (.t 23)), gG 11 25 21 false (.off 0 (.t 24)), gG 12 26 21 false (.load false false 1 (.t 25)), gG 13 27 21 false (.len .str (.t 26)), gG 14 28 21 false (.bin .gtr .no (.t 27) (.c (.int .i64 60))), oO 15 29 (.pick (.t 21) (.c (.bool true)) (.t 28))])
 (.cond (.t 29)
 (.seq (.ops 30 1 [oO 0 2 (.mov (.c (.bool false)))]) .ret) .skip)))
 (.ops 31 3 [mM 0 12 3, bC 1 13 .add 12 1, mM 2 3 13]))))))
 (.seq (.ops 34 4 [mM 0 30 0, nO 1 31 30, bC 2 32 .leq 31 20, mM 3 2 32]) .ret))),
 [.t 2]⟩
def qcJ : KFn := ⟨
 (.seq (.ops 0 1 [oO 0 0 (.mov (.c (.bool false)))])
 (.seq (.ops 1 7 [oO 0 15 (.callF q6o []), oO 1 16 (.callF q1b [(.t 15)]), mM 2 14 16, eO 3 17 14 0, eO 4 18 14 1, mM 5 1 17, mM 6 2 18])
 (.seq (.ops 20 9 [oO 0 20 (.callF q6o []), oO 1 21 (.build [(.int .i64 0), (.int .i64 0)] [(0, 1, (.c (.int .i64 1))), (1, 1, (.c (.int .i64 11000)))]), oO 2 22 (.callF q1a [(.t 20), (.t 21)]), mM 3 19 22, eO 4 23 19 0, eO 5 24 19 1, oO 6 3 (.new 2 (.agg [(.int .i64 0), (.int .i64 0)])), sT 7 true 2 3 23, mM 8 4 24])
 (.seq (.ops 41 9 [oO 0 26 (.callF q6o []), oO 1 27 (.build [(.int .i64 0), (.int .i64 0)] [(0, 1, (.c (.int .i64 1))), (1, 1, (.c (.int .i64 16001)))]), oO 2 28 (.callF q1a [(.t 26), (.t 27)]), mM 3 25 28, eO 4 29 25 0, eO 5 30 25 1, oO 6 5 (.new 2 (.agg [(.int .i64 0), (.int .i64 0)])), sT 7 true 2 5 29, mM 8 6 30])
 (.seq (.ops 62 4 [oO 0 31 (.callF q6o []), oO 1 32 (.build [(.bool false), (.int .i64 0)] [(0, 1, (.c (.bool true)))]), oO 2 33 (.callF q1i [(.t 31), (.t 32)]), mM 3 7 33])
 (.seq (.ops 78 10 [oO 0 34 (.callF qaK [(.c (.int .i64 0)), (.c (.int .i64 0))]), oO 1 35 (.build [(.str ⟨#[]⟩), (.bool false), .nilsl, .nilsl, (.bool false), .nilsl, .nilsl] [(0, 1, (.c (.str ⟨#[80]⟩))), (1, 6, (.t 34))]), oO 2 36 (.callF qaK [(.c (.int .i64 8)), (.c (.int .i64 0))]), oO 3 37 (.build [(.str ⟨#[]⟩), (.bool false), .nilsl, .nilsl, (.bool false), .nilsl, .nilsl] [(0, 1, (.c (.str ⟨#[81]⟩))), (1, 6, (.t 36))]), oO 4 38 (.callF qaK [(.c (.int .i64 8)), (.c (.int .i64 6))]), oO 5 39 (.build [(.str ⟨#[]⟩), (.bool false), .nilsl, .nilsl, (.bool false), .nilsl, .nilsl] [(0, 1, (.c (.str ⟨#[82]⟩))), (1, 6, (.t 38))]), oO 6 40 (.callF qaK [(.c (.int .i64 8)), (.c (.int .i64 0))]), oO 7 41 (.build [(.str ⟨#[]⟩), (.bool false), .nilsl, .nilsl, (.bool false), .nilsl, .nilsl] [(0, 1, (.c (.str ⟨#[83]⟩))), (1, 6, (.t 40))]), oO 8 42 (.buildSlice 7 4 [(.agg [(.str ⟨#[]⟩), (.bool false), .nilsl, .nilsl, (.bool false), .nilsl, .nilsl]), (.agg [(.str ⟨#[]⟩), (.bool false), .nilsl, .nilsl, (.bool false), .nilsl, .nilsl]), (.agg [(.str ⟨#[]⟩), (.bool false), .nilsl, .nilsl, (.bool false), .nilsl, .nilsl]), (.agg [(.str ⟨#[]⟩), (.bool false), .nilsl, .nilsl, (.bool false), .nilsl, .nilsl])] [(0, (.t 35)), (1, (.t 37)), (2, (.t 39)), (3, (.t 41))]), mM 9 8 42])
 (.seq (.ops 88 12 [mM 0 44 8, oO 1 45 (.buildSlice 1 2 [(.str ⟨#[]⟩), (.str ⟨#[]⟩)] [(0, (.c (.str ⟨#[80]⟩))), (1, (.c (.str ⟨#[81]⟩)))]), oO 2 46 (.build [(.str ⟨#[]⟩), .nilsl, (.int .i64 0)] [(0, 1, (.c (.str ⟨#[104, 101, 109]⟩))), (1, 1, (.t 45)), (2, 1, (.c (.int .i64 1)))]), oO 3 47 (.buildSlice 1 3 [(.str ⟨#[]⟩), (.str ⟨#[]⟩), (.str ⟨#[]⟩)] [(0, (.c (.str ⟨#[81]⟩))), (1, (.c (.str ⟨#[82]⟩))), (2, (.c (.str ⟨#[80]⟩)))]), oO 4 48 (.build [(.str ⟨#[]⟩), .nilsl, (.int .i64 0)] [(0, 1, (.c (.str ⟨#[115, 105, 100, 101]⟩))), (1, 1, (.t 47)), (2, 1, (.c (.int .i64 2)))]), oO 5 49 (.buildSlice 3 2 [(.agg [(.str ⟨#[]⟩), .nilsl, (.int .i64 0)]), (.agg [(.str ⟨#[]⟩), .nilsl, (.int .i64 0)])] [(0, (.t 46)), (1, (.t 48))]), oO 6 50 (.callF q2E [(.t 44), (.t 49)]), mM 7 43 50, eO 8 51 43 0, eO 9 52 43 1, mM 10 9 51, mM 11 10 52])
 (.seq (.ops 100 12 [mM 0 54 8, oO 1 55 (.buildSlice 1 2 [(.str ⟨#[]⟩), (.str ⟨#[]⟩)] [(0, (.c (.str ⟨#[80]⟩))), (1, (.c (.str ⟨#[81]⟩)))]), oO 2 56 (.build [(.str ⟨#[]⟩), .nilsl, (.int .i64 0)] [(0, 1, (.c (.str ⟨#[104, 101, 109]⟩))), (1, 1, (.t 55)), (2, 1, (.c (.int .i64 1)))]), oO 3 57 (.buildSlice 1 3 [(.str ⟨#[]⟩), (.str ⟨#[]⟩), (.str ⟨#[]⟩)] [(0, (.c (.str ⟨#[83]⟩))), (1, (.c (.str ⟨#[82]⟩))), (2, (.c (.str ⟨#[80]⟩)))]), oO 4 58 (.build [(.str ⟨#[]⟩), .nilsl, (.int .i64 0)] [(0, 1, (.c (.str ⟨#[115, 105, 100, 101]⟩))), (1, 1, (.t 57)), (2, 1, (.c (.int .i64 2)))]), oO 5 59 (.buildSlice 3 2 [(.agg [(.str ⟨#[]⟩), .nilsl, (.int .i64 0)]), (.agg [(.str ⟨#[]⟩), .nilsl, (.int .i64 0)])] [(0, (.t 56)), (1, (.t 58))]), oO 6 60 (.callF q2E [(.t 54), (.t 59)]), mM 7 53 60, eO 8 61 53 0, eO 9 62 53 1, mM 10 11 61, mM 11 12 62])
 (.seq (.ops 112 2 [oO 0 63 (.callF q6o []), mM 1 13 63])
 (.seq (.ops 126 4 [mM 0 64 13, oO 1 65 (.ixs 2 (.t 64) (.c (.int .i64 1))), fO 2 66 0 65, ⟨3, none, none, .all, .store false 1 (.t 66) (.c (.str ⟨#[104, 101, 109]⟩))⟩])
 (.seq (.seq
 (.ops 130 34 [mM 0 67 2, bC 1 68 .neq 67 0, mM 2 69 68, gM 3 70 69 false 4, gG 4 71 69 false (.bin .neq .no (.t 70) (.c (.int .i64 0))), oO 5 72 (.pick (.t 69) (.c (.bool true)) (.t 71)), mM 6 73 72, gM 7 74 73 false 6, gG 8 75 73 false (.bin .neq .no (.t 74) (.c (.int .i64 3))), oO 9 76 (.pick (.t 73) (.c (.bool true)) (.t 75)), mM 10 77 76, gM 11 78 77 false 10, gG 12 79 77 false (.bin .neq .no (.t 78) (.c (.int .i64 0))), oO 13 80 (.pick (.t 77) (.c (.bool true)) (.t 79)), mM 14 81 80, gM 15 82 81 false 12, gG 16 83 81 false (.bin .neq .no (.t 82) (.c (.int .i64 11))), oO 17 84 (.pick (.t 81) (.c (.bool true)) (.t 83)), mM 18 85 84, gG 19 86 85 false (.load true true 2 (.t 3)), gG 20 87 85 false (.build [(.int .i64 0), (.int .i64 0)] [(0, 1, (.c (.int .i64 4))), (1, 1, (.c (.int .i64 3)))]), gG 21 88 85 false (.bin .neq (.flat [.int, .int]) (.t 86) (.t 87)), oO 22 89 (.pick (.t 85) (.c (.bool true)) (.t 88)), mM 23 90 89, gM 24 91 90 false 13, gG 25 92 90 false (.callF q12 [(.t 91)]), gG 26 93 90 false (.bin .neq .no (.t 92) (.c (.int .i64 7))), oO 27 94 (.pick (.t 90) (.c (.bool true)) (.t 93)), mM 28 95 94, gG 29 96 95 false (.callF q6o []), gG 30 97 95 false (.slsl 2 (.t 96) none (some (.c (.int .i64 1))) none), gG 31 98 95 false (.callF q12 [(.t 97)]), gG 32 99 95 false (.bin .neq .no (.t 98) (.c (.int .i64 11))), oO 33 100 (.pick (.t 95) (.c (.bool true)) (.t 99))])
 (.cond (.t 100)
 (.seq (.ops 176 1 [oO 0 0 (.mov (.c (.bool false)))]) .ret) .skip))
 (.seq (.seq
 (.ops 177 13 [mM 0 101 7, oO 1 102 (.build [(.int .i64 0), (.int .i64 0)] [(0, 1, (.c (.int .i64 (-8))))]), oO 2 103 (.build [(.int .i64 0), (.int .i64 0)] []), oO 3 104 (.buildSlice 2 2 [(.agg [(.int .i64 0), (.int .i64 0)]), (.agg [(.int .i64 0), (.int .i64 0)])] [(0, (.t 102)), (1, (.t 103))]), oO 4 105 (.build [(.str ⟨#[]⟩), .nilsl] [(0, 1, (.c (.str ⟨#[104, 101, 109]⟩))), (1, 1, (.t 104))]), oO 5 106 (.build [(.int .i64 0), (.int .i64 0)] []), oO 6 107 (.build [(.int .i64 0), (.int .i64 0)] [(0, 1, (.c (.int .i64 (-8)))), (1, 1, (.c (.int .i64 6)))]), oO 7 108 (.build [(.int .i64 0), (.int .i64 0)] [(0, 1, (.c (.int .i64 (-8))))]), oO 8 109 (.buildSlice 2 3 [(.agg [(.int .i64 0), (.int .i64 0)]), (.agg [(.int .i64 0), (.int .i64 0)]), (.agg [(.int .i64 0), (.int .i64 0)])] [(0, (.t 106)), (1, (.t 107)), (2, (.t 108))]), oO 9 110 (.build [(.str ⟨#[]⟩), .nilsl] [(0, 1, (.c (.str ⟨#[115, 105, 100, 101]⟩))), (1, 1, (.t 109))]), oO 10 111 (.buildSlice 2 2 [(.agg [(.str ⟨#[]⟩), .nilsl]), (.agg [(.str ⟨#[]⟩), .nilsl])] [(0, (.t 105)), (1, (.t 110))]), oO 11 112 (.callF q6a [(.t 101), (.t 111)]), oO 12 113 (.un .not (.t 112))])
 (.cond (.t 113)
 (.seq (.ops 190 1 [oO 0 0 (.mov (.c (.bool false)))]) .ret) .skip))
 (.seq (.ops 191 21 [mM 0 114 1, oO 1 115 (.build [(.int .i64 0), (.int .i64 0)] []), oO 2 116 (.build [(.int .i64 0), (.int .i64 0)] [(0, 1, (.c (.int .i64 8)))]), oO 3 117 (.build [(.int .i64 0), (.int .i64 0)] [(0, 1, (.c (.int .i64 8))), (1, 1, (.c (.int .i64 6)))]), oO 4 118 (.buildSlice 2 3 [(.agg [(.int .i64 0), (.int .i64 0)]), (.agg [(.int .i64 0), (.int .i64 0)]), (.agg [(.int .i64 0), (.int .i64 0)])] [(0, (.t 115)), (1, (.t 116)), (2, (.t 117))]), oO 5 119 (.callF q2b [(.t 114), (.t 118)]), mM 6 120 119, gM 7 121 120 true 9, gG 8 122 120 true (.build [(.int .i64 0), (.int .i64 0)] []), gG 9 123 120 true (.build [(.int .i64 0), (.int .i64 0)] [(0, 1, (.c (.int .i64 8)))]), gG 10 124 120 true (.buildSlice 2 2 [(.agg [(.int .i64 0), (.int .i64 0)]), (.agg [(.int .i64 0), (.int .i64 0)])] [(0, (.t 122)), (1, (.t 123))]), gG 11 125 120 true (.build [(.str ⟨#[]⟩), .nilsl] [(0, 1, (.c (.str ⟨#[104, 101, 109]⟩))), (1, 1, (.t 124))]), gG 12 126 120 true (.build [(.int .i64 0), (.int .i64 0)] [(0, 1, (.c (.int .i64 8)))]), gG 13 127 120 true (.build [(.int .i64 0), (.int .i64 0)] [(0, 1, (.c (.int .i64 6))), (1, 1, (.c (.int .i64 3)))]), gG 14 128 120 true (.build [(.int .i64 0), (.int .i64 0)] []), gG 15 129 120 true (.buildSlice 2 3 [(.agg [(.int .i64 0), (.int .i64 0)]), (.agg [(.int .i64 0), (.int .i64 0)]), (.agg [(.int .i64 0), (.int .i64 0)])] [(0, (.t 126)), (1, (.t 127)), (2, (.t 128))]), gG 16 130 120 true (.build [(.str ⟨#[]⟩), .nilsl] [(0, 1, (.c (.str ⟨#[115, 105, 100, 101]⟩))), (1, 1, (.t 129))]), gG 17 131 120 true (.buildSlice 2 2 [(.agg [(.str ⟨#[]⟩), .nilsl]), (.agg [(.str ⟨#[]⟩), .nilsl])] [(0, (.t 125)), (1, (.t 130))]), gG 18 132 120 true (.callF q6a [(.t 121), (.t 131)]), oO 19 133 (.pick (.t 120) (.t 132) (.c (.bool false))), mM 20 0 133]) .ret))))))))))))),
 [.t 0]⟩
def q6A : KFn := ⟨
 (.seq (.ops 0 2 [oO 0 2 (.mov (.c .nilsl)), mI 1 3 0])
 (.seq (.seq
 (.ops 2 3 [mM 0 5 0, oO 1 6 (.callF q12 [(.t 5)]), mM 2 4 6])
 (.seq (.ops 5 2 [mM 0 7 4, bC 1 8 .neq 7 0])
 (.cond (.t 8)
 (.seq (.ops 7 3 [mM 0 9 4, oO 1 2 (.mov (.c .nilsl)), mM 2 3 9]) .ret) .skip)))
 (.seq (.ops 10 4 [mM 0 10 0, oO 1 11 (.callF q6c [(.t 10)]), mM 2 2 11, mI 3 3 0]) .ret))),
 [.t 2, .t 3]⟩
def qa0 : KFn := ⟨
 (.seq (.ops 0 2 [oO 0 2 (.mov (.c .nilsl)), mI 1 3 0])
 (.seq (.seq
 (.ops 2 3 [mM 0 5 0, oO 1 6 (.callF q6n [(.t 5)]), mM 2 4 6])
 (.seq (.ops 5 2 [mM 0 7 4, bC 1 8 .neq 7 0])
 (.cond (.t 8)
 (.seq (.ops 7 3 [mM 0 9 4, oO 1 2 (.mov (.c .nilsl)), mM 2 3 9]) .ret) .skip)))
 (.seq (.ops 10 4 [mM 0 10 0, oO 1 11 (.callF q9c [(.t 10)]), mM 2 2 11, mI 3 3 0]) .ret))),
 [.t 2, .t 3]⟩
def q83 : KFn := ⟨
 (.seq (.ops 16 1 [mI 0 2 0])
 (.seq (.seq
 (.ops 17 3 [mM 0 11 0, nO 1 12 11, bC 2 13 .gtr 12 16])
 (.cond (.t 13)
 (.seq (.ops 20 1 [mI 0 2 5]) .ret) .skip))
 (.seq (.seq
 (.ops 21 3 [mM 0 14 0, nO 1 15 14, bC 2 16 .lss 15 2])
 (.cond (.t 16)
 (.seq (.ops 24 1 [mI 0 2 11]) .ret) .skip))
 (.seq (.seq
 (.ops 25 3 [mM 0 17 0, nO 1 18 17, mI 2 19 0])
 (.block 0
 (.loop [(0, 0), (17, 0), (18, 0), (19, 0)]
 (.seq (.ops 28 1 [bT 0 20 .lss 19 18])
 (.seq (.cond (.t 20) .skip
 (.exit 0))
 (.seq (.block 1
 (.seq (.ops 29 6 [mM 0 21 19, xO 1 22 2 17 19, lO 2 23 false true 2 22, oO 3 4 (.new 2 (.agg [(.str ⟨#[]⟩), .nilsl])), mM 4 3 21, sT 5 true 2 4 23])
 (.seq (.seq
 (.ops 35 4 [fO 0 24 0 4, lO 1 25 true false 1 24, oO 2 26 (.callF qaL [(.t 25)]), oO 3 27 (.un .not (.t 26))])
 (.cond (.t 27)
 (.seq (.ops 39 1 [mI 0 2 1]) .ret) .skip))
 (.seq (.seq
 (.ops 40 5 [mM 0 28 0, mM 1 29 3, oO 2 30 (.slsl 2 (.t 28) none (some (.t 29)) none), nO 3 31 30, mI 4 32 0])
 (.block 2
 (.loop [(0, 0), (4, 0), (17, 0), (18, 0), (19, 0), (30, 0), (31, 0), (32, 0)]
 (.seq (.ops 45 1 [bT 0 33 .lss 32 31])
 (.seq (.cond (.t 33) .skip
 (.exit 2))
 (.seq (.block 3
 (.seq (.ops 46 4 [xO 0 34 2 30 32, lO 1 35 false true 2 34, oO 2 6 (.new 2 (.agg [(.str ⟨#[]⟩), .nilsl])), sT 3 true 2 6 35])
 (.seq (.ops 50 5 [fO 0 36 0 6, lO 1 37 true false 1 36, fO 2 38 0 4, lO 3 39 true false 1 38, bT 4 40 .eql 37 39])
 (.cond (.t 40)
 (.seq (.ops 55 1 [mI 0 2 7]) .ret) .skip))))
 (.ops 56 2 [bC 0 41 .add 32 1, mM 1 32 41])))))))
 (.seq (.ops 58 4 [fO 0 42 1 4, lO 1 43 true false 1 42, oO 2 44 (.callF q58 [(.t 43)]), mM 3 7 44])
 (.seq (.ops 62 2 [mM 0 45 7, bC 1 46 .neq 45 0])
 (.cond (.t 46)
 (.seq (.ops 64 2 [mM 0 47 7, mM 1 2 47]) .ret) .skip)))))))
 (.ops 66 2 [bC 0 48 .add 19 1, mM 1 19 48])))))))
 (.seq (.seq
 (.ops 68 3 [mM 0 49 0, nO 1 50 49, mI 2 51 0])
 (.block 4
 (.loop [(0, 0), (49, 0), (50, 0), (51, 0)]
 (.seq (.ops 71 1 [bT 0 52 .lss 51 50])
 (.seq (.cond (.t 52) .skip
 (.exit 4))
 (.seq (.block 5
 (.seq (.ops 72 6 [mM 0 53 51, xO 1 54 2 49 51, lO 2 55 false true 2 54, oO 3 9 (.new 2 (.agg [(.str ⟨#[]⟩), .nilsl])), mM 4 8 53, sT 5 true 2 9 55])
 (.seq (.ops 78 10 [mM 0 56 0, mM 1 57 8, bC 2 58 .add 57 1, mM 3 59 0, nO 4 60 59, bT 5 61 .rem 58 60, xO 6 62 2 56 61, lO 7 63 false true 2 62, oO 8 10 (.new 2 (.agg [(.str ⟨#[]⟩), .nilsl])), sT 9 true 2 10 63])
 (.seq (.ops 88 13 [fO 0 64 1 9, lB 1 65 1 13 true false 1 64, fO 2 66 1 9, lB 3 67 4 13 true false 1 66, oB 4 68 12 13 (.len .sl (.t 67)), bC 5 69 .sub 68 1, xB 6 70 63 13 2 65 69, lB 7 71 127 13 false true 2 70, fO 8 72 1 10, lB 9 73 256 13 true false 1 72, oB 10 74 768 13 (.ixs 2 (.t 73) (.c (.int .i64 0))), lB 11 75 1792 13 false true 2 74, oO 12 76 (.bin .neq (.flat [.int, .int]) (.t 71) (.t 75))])
 (.cond (.t 76)
 (.seq (.ops 101 1 [mI 0 2 11]) .ret) .skip)))))
 (.ops 102 2 [bC 0 77 .add 51 1, mM 1 51 77])))))))
 (.seq (.ops 104 4 [mM 0 78 0, oO 1 79 (.callF q6c [(.t 78)]), oO 2 80 (.callF q3h [(.t 79)]), mM 3 2 80]) .ret)))))),
 [.t 2]⟩
def qcK : KFn := ⟨
 (.seq (.ops 4 1 [mI 0 2 0])
 (.seq (.seq
 (.ops 5 3 [mM 0 8 0, nO 1 9 8, bC 2 10 .gtr 9 16])
 (.cond (.t 10)
 (.seq (.ops 8 1 [mI 0 2 5]) .ret) .skip))
 (.seq (.seq
 (.ops 9 3 [mM 0 11 0, nO 1 12 11, bC 2 13 .lss 12 2])
 (.cond (.t 13)
 (.seq (.ops 12 1 [mI 0 2 11]) .ret) .skip))
 (.seq (.seq
 (.ops 13 1 [mI 0 3 0])
 (.block 0
 (.loop [(0, 0), (3, 0)]
 (.seq (.seq
 (.ops 14 4 [mM 0 14 3, mM 1 15 0, nO 2 16 15, bT 3 17 .lss 14 16])
 (.cond (.t 17) .skip
 (.exit 0)))
 (.seq (.block 1
 (.seq (.seq
 (.ops 18 7 [mM 0 20 0, mM 1 21 3, xO 2 22 2 20 21, fO 3 23 0 22, lO 4 24 false false 1 23, oO 5 25 (.callF qjX [(.t 24)]), oO 6 26 (.un .not (.t 25))])
 (.cond (.t 26)
 (.seq (.ops 25 1 [mI 0 2 1]) .ret) .skip))
 (.seq (.seq
 (.ops 26 8 [mM 0 27 0, mM 1 28 3, mM 2 29 0, mM 3 30 3, xO 4 31 2 29 30, fO 5 32 0 31, lO 6 33 false false 1 32, oO 7 34 (.callF qil [(.t 27), (.t 28), (.t 33)])])
 (.cond (.t 34)
 (.seq (.ops 34 1 [mI 0 2 7]) .ret) .skip))
 (.seq (.ops 35 7 [mM 0 35 0, mM 1 36 3, xO 2 37 2 35 36, fO 3 38 1 37, lO 4 39 false false 1 38, oO 5 40 (.callF qdE [(.t 39)]), mM 6 4 40])
 (.seq (.ops 42 2 [mM 0 41 4, bC 1 42 .neq 41 0])
 (.cond (.t 42)
 (.seq (.ops 44 2 [mM 0 43 4, mM 1 2 43]) .ret) .skip))))))
 (.ops 46 3 [mM 0 18 3, bC 1 19 .add 18 1, mM 2 3 19]))))))
 (.seq (.seq
 (.ops 49 1 [mI 0 5 0])
 (.block 2
 (.loop [(0, 0), (5, 0)]
 (.seq (.seq
 (.ops 50 4 [mM 0 44 5, mM 1 45 0, nO 2 46 45, bT 3 47 .lss 44 46])
 (.cond (.t 47) .skip
 (.exit 2)))
 (.seq (.block 3
 (.seq (.ops 54 16 [mM 0 50 0, mM 1 51 5, xB 2 52 3 16 2 50 51, fO 3 53 1 52, lB 4 54 15 16 false false 1 53, mM 5 55 0, mM 6 56 5, bC 7 57 .add 56 1, mM 8 58 0, oB 9 59 256 16 (.len .sl (.t 58)), bT 10 60 .rem 57 59, xB 11 61 2016 16 2 55 60, fO 12 62 1 61, lB 13 63 8160 16 false false 1 62, mM 14 6 54, mM 15 7 63])
 (.seq (.ops 70 10 [mM 0 64 6, mM 1 65 6, oB 2 66 2 10 (.len .sl (.t 65)), bC 3 67 .sub 66 1, xB 4 68 15 10 2 64 67, lB 5 69 31 10 false true 2 68, mM 6 70 7, oB 7 71 64 10 (.ixs 2 (.t 70) (.c (.int .i64 0))), lB 8 72 192 10 false true 2 71, oO 9 73 (.bin .neq (.flat [.int, .int]) (.t 69) (.t 72))])
 (.cond (.t 73)
 (.seq (.ops 80 1 [mI 0 2 11]) .ret) .skip))))
 (.ops 81 3 [mM 0 48 5, bC 1 49 .add 48 1, mM 2 5 49]))))))
 (.seq (.ops 84 4 [mM 0 74 0, oO 1 75 (.callF q9c [(.t 74)]), oO 2 76 (.callF q9G [(.t 75)]), mM 3 2 76]) .ret)))))),
 [.t 2]⟩
def q84 : KFn := ⟨
 (.seq (.ops 12 2 [oO 0 4 (.mov (.c .nilsl)), mI 1 5 0])
 (.seq (.seq
 (.ops 14 3 [mM 0 20 1, nO 1 21 20, bC 2 22 .gtr 21 16])
 (.cond (.t 22)
 (.seq (.ops 17 2 [oO 0 4 (.mov (.c .nilsl)), mI 1 5 5]) .ret) .skip))
 (.seq (.ops 19 2 [oO 0 23 (.mkmap), mM 1 6 23])
 (.seq (.seq
 (.ops 21 3 [mM 0 24 0, nO 1 25 24, mI 2 26 0])
 (.block 0
 (.loop [(1, 0), (6, 0), (24, 0), (25, 0), (26, 0)]
 (.seq (.ops 24 1 [bT 0 27 .lss 26 25])
 (.seq (.cond (.t 27) .skip
 (.exit 0))
 (.seq (.block 1
 (.seq (.ops 25 4 [xO 0 28 7 24 26, lO 1 29 false true 7 28, oO 2 8 (.new 7 (.agg [(.str ⟨#[]⟩), (.bool false), .nilsl, .nilsl, (.bool false), .nilsl, .nilsl])), sT 3 true 7 8 29])
 (.seq (.ops 29 10 [mM 0 31 6, fO 1 32 0 8, lO 2 33 true false 1 32, oO 3 34 (.lookup (.agg [(.bool false), .nilsl, .nilsl, (.bool false), .nilsl, .nilsl]) (.t 31) (.t 33) true), mM 4 30 34, eO 5 35 30 0, eO 6 36 30 1, oO 7 9 (.new 6 (.agg [(.bool false), .nilsl, .nilsl, (.bool false), .nilsl, .nilsl])), sT 8 true 6 9 35, mM 9 10 36])
 (.seq (.ops 39 2 [mM 0 37 10, oO 1 38 (.un .not (.t 37))])
 (.cond (.t 38)
 (.ops 41 6 [mM 0 39 6, fO 1 40 0 8, lO 2 41 true false 1 40, fO 3 42 1 8, lO 4 43 true true 6 42, ⟨5, none, none, .all, .mapset (.t 39) (.t 41) (.t 43)⟩]) .skip)))))
 (.ops 47 2 [bC 0 44 .add 26 1, mM 1 26 44])))))))
 (.seq (.ops 49 1 [oO 0 11 (.mov (.c .nilsl))])
 (.seq (.seq
 (.ops 50 3 [mM 0 45 1, nO 1 46 45, mI 2 47 0])
 (.block 2
 (.loop [(1, 0), (6, 0), (11, 2), (45, 0), (46, 0), (47, 0)]
 (.seq (.ops 53 1 [bT 0 48 .lss 47 46])
 (.seq (.cond (.t 48) .skip
 (.exit 2))
 (.seq (.block 3
 (.seq (.ops 54 4 [xO 0 49 3 45 47, lO 1 50 false true 3 49, oO 2 13 (.new 3 (.agg [(.str ⟨#[]⟩), .nilsl, (.int .i64 0)])), sT 3 true 3 13 50])
 (.seq (.ops 58 8 [mM 0 52 6, lO 1 53 true true 3 13, oO 2 54 (.callF qcf [(.t 52), (.t 53)]), mM 3 51 54, eO 4 55 51 0, eO 5 56 51 1, mM 6 14 55, mM 7 15 56])
 (.seq (.seq
 (.ops 66 2 [mM 0 57 15, bC 1 58 .neq 57 0])
 (.cond (.t 58)
 (.seq (.ops 68 3 [mM 0 59 15, oO 1 4 (.mov (.c .nilsl)), mM 2 5 59]) .ret) .skip))
 (.ops 71 8 [mM 0 60 11, fO 1 61 0 13, lO 2 62 true false 1 61, mM 3 63 14, oO 4 64 (.build [(.str ⟨#[]⟩), .nilsl] [(0, 1, (.t 62)), (1, 1, (.t 63))]), oO 5 65 (.buildSlice 2 1 [(.agg [(.str ⟨#[]⟩), .nilsl])] [(0, (.t 64))]), oO 6 66 (.append ⟨2, 40, (.agg [(.str ⟨#[]⟩), .nilsl])⟩ .sl (.t 60) (.t 65)), mM 7 11 66])))))
 (.ops 79 2 [bC 0 67 .add 47 1, mM 1 47 67])))))))
 (.seq (.seq
 (.ops 81 3 [mM 0 68 1, nO 1 69 68, mI 2 70 0])
 (.block 4
 (.loop [(1, 0), (11, 0), (68, 0), (69, 0), (70, 0)]
 (.seq (.ops 84 1 [bT 0 71 .lss 70 69])
 (.seq (.cond (.t 71) .skip
 (.exit 4))
 (.seq (.block 5
 (.seq (.ops 85 6 [mM 0 72 70, xO 1 73 3 68 70, lO 2 74 false true 3 73, oO 3 17 (.new 3 (.agg [(.str ⟨#[]⟩), .nilsl, (.int .i64 0)])), mM 4 16 72, sT 5 true 3 17 74])
 (.seq (.ops 91 10 [mM 0 75 1, mM 1 76 16, bC 2 77 .add 76 1, mM 3 78 1, nO 4 79 78, bT 5 80 .rem 77 79, xO 6 81 3 75 80, lO 7 82 false true 3 81, oO 8 18 (.new 3 (.agg [(.str ⟨#[]⟩), .nilsl, (.int .i64 0)])), sT 9 true 3 18 82])
 (.seq (.ops 101 13 [fO 0 83 1 17, lB 1 84 1 13 true false 1 83, fO 2 85 1 17, lB 3 86 4 13 true false 1 85, oB 4 87 12 13 (.len .sl (.t 86)), bC 5 88 .sub 87 1, xB 6 89 63 13 1 84 88, lB 7 90 127 13 false false 1 89, fO 8 91 1 18, lB 9 92 256 13 true false 1 91, oB 10 93 768 13 (.ixs 1 (.t 92) (.c (.int .i64 0))), lB 11 94 1792 13 false false 1 93, bT 12 95 .neq 90 94])
 (.cond (.t 95)
 (.seq (.ops 114 2 [oO 0 4 (.mov (.c .nilsl)), mI 1 5 11]) .ret) .skip)))))
 (.ops 116 2 [bC 0 96 .add 70 1, mM 1 70 96])))))))
 (.seq (.seq
 (.ops 118 3 [mM 0 97 11, oO 1 98 (.callF q12 [(.t 97)]), mM 2 19 98])
 (.seq (.ops 121 2 [mM 0 99 19, bC 1 100 .neq 99 0])
 (.cond (.t 100)
 (.seq (.ops 123 3 [mM 0 101 19, oO 1 4 (.mov (.c .nilsl)), mM 2 5 101]) .ret) .skip)))
 (.seq (.ops 126 3 [mM 0 102 11, mM 1 4 102, mI 2 5 0]) .ret))))))))),
 [.t 4, .t 5]⟩
def qfc : KFn := ⟨
 (.seq (.ops 6 1 [oO 0 4 (.mov (.c (.bool false)))])
 (.seq (.seq
 (.ops 7 5 [mM 0 6 0, nO 1 7 6, mM 2 8 1, nO 3 9 8, bT 4 10 .neq 7 9])
 (.cond (.t 10)
 (.seq (.ops 12 1 [oO 0 4 (.mov (.c (.bool false)))]) .ret) .skip))
 (.seq (.seq
 (.ops 13 1 [mI 0 5 0])
 (.block 0
 (.loop [(0, 0), (1, 0), (5, 0)]
 (.seq (.seq
 (.ops 14 4 [mM 0 11 5, mM 1 12 0, nO 2 13 12, bT 3 14 .lss 11 13])
 (.cond (.t 14) .skip
 (.exit 0)))
 (.seq (.block 1
 (.seq (.ops 18 25 [mM 0 17 0, mM 1 18 5, xB 2 19 3 25 2 17 18, fO 3 20 0 19, lB 4 21 15 25 false false 1 20, mM 5 22 1, mM 6 23 5, xB 7 24 96 25 2 22 23, fO 8 25 0 24, lB 9 26 480 25 false false 1 25, bT 10 27 .neq 21 26, mM 11 28 27, gM 12 29 28 false 0, gM 13 30 28 false 5, ⟨14, some 31, some (28, false), (.bef 16383 25), .ixs 2 (.t 29) (.t 30)⟩, gG 15 32 28 false (.off 1 (.t 31)), ⟨16, some 33, some (28, false), (.bef 65535 25), .load false false 1 (.t 32)⟩, gM 17 34 28 false 1, gM 18 35 28 false 5, ⟨19, some 36, some (28, false), (.bef 397311 25), .ixs 2 (.t 34) (.t 35)⟩, gG 20 37 28 false (.off 1 (.t 36)), ⟨21, some 38, some (28, false), (.bef 1970175 25), .load false false 1 (.t 37)⟩, ⟨22, some 39, some (28, false), (.bef 4194303 25), .callF q2b [(.t 33), (.t 38)]⟩, gG 23 40 28 false (.un .not (.t 39)), oO 24 41 (.pick (.t 28) (.c (.bool true)) (.t 40))])
 (.cond (.t 41)
 (.seq (.ops 43 1 [oO 0 4 (.mov (.c (.bool false)))]) .ret) .skip)))
 (.ops 44 3 [mM 0 15 5, bC 1 16 .add 15 1, mM 2 5 16]))))))
 (.seq (.ops 47 1 [oO 0 4 (.mov (.c (.bool true)))]) .ret)))),
 [.t 4]⟩
def q76 : KFn := ⟨
 (.seq (.ops 0 3 [oO 0 3 (.box 2 (.t 1)), oO 1 4 (.new 2 (.agg [(.int .i64 0), (.int .i64 0)])), mI 2 5 0])
 (.seq (.seq
 (.ops 3 3 [mM 0 7 0, oO 1 8 (.callF q12 [(.t 7)]), mM 2 6 8])
 (.seq (.ops 6 2 [mM 0 9 6, bC 1 10 .neq 9 0])
 (.cond (.t 10)
 (.seq (.ops 8 4 [oO 0 11 (.build [(.int .i64 0), (.int .i64 0)] []), mM 1 12 6, sT 2 true 2 4 11, mM 3 5 12]) .ret) .skip)))
 (.seq (.seq
 (.ops 12 10 [fO 0 13 0 3, lO 1 14 true false 1 13, bC 2 15 .lss 14 0, mM 3 16 15, gG 4 17 16 false (.off 0 (.t 3)), gG 5 18 16 false (.load true false 1 (.t 17)), gM 6 19 16 false 0, gG 7 20 16 false (.len .sl (.t 19)), gG 8 21 16 false (.bin .geq .no (.t 18) (.t 20)), oO 9 22 (.pick (.t 16) (.c (.bool true)) (.t 21))])
 (.cond (.t 22)
 (.seq (.ops 22 3 [oO 0 23 (.build [(.int .i64 0), (.int .i64 0)] []), sT 1 true 2 4 23, mI 2 5 3]) .ret) .skip))
 (.seq (.ops 25 13 [mM 0 24 0, fO 1 25 0 3, lB 2 26 2 13 true false 1 25, xB 3 27 7 13 2 24 26, fO 4 28 1 27, lB 5 29 31 13 false false 1 28, fO 6 30 1 3, lB 7 31 64 13 true false 1 30, oB 8 32 255 13 (.callF qaM [(.t 29), (.t 31)]), eO 9 33 32 0, eO 10 34 32 1, ⟨11, none, none, (.bef 2047 13), .store true 2 (.t 4) (.t 33)⟩, mM 12 5 34]) .ret)))),
 [.cell 4 true 2, .t 5]⟩
def qbg : KFn := ⟨
 (.seq (.ops 0 3 [oO 0 3 (.box 2 (.t 1)), oO 1 4 (.new 2 (.agg [(.int .i64 0), (.int .i64 0)])), mI 2 5 0])
 (.seq (.seq
 (.ops 3 3 [mM 0 7 0, oO 1 8 (.callF q6n [(.t 7)]), mM 2 6 8])
 (.seq (.ops 6 2 [mM 0 9 6, bC 1 10 .neq 9 0])
 (.cond (.t 10)
 (.seq (.ops 8 4 [oO 0 11 (.build [(.int .i64 0), (.int .i64 0)] []), mM 1 12 6, sT 2 true 2 4 11, mM 3 5 12]) .ret) .skip)))
 (.seq (.seq
 (.ops 12 10 [fO 0 13 0 3, lO 1 14 true false 1 13, bC 2 15 .lss 14 0, mM 3 16 15, gG 4 17 16 false (.off 0 (.t 3)), gG 5 18 16 false (.load true false 1 (.t 17)), gM 6 19 16 false 0, gG 7 20 16 false (.len .sl (.t 19)), gG 8 21 16 false (.bin .geq .no (.t 18) (.t 20)), oO 9 22 (.pick (.t 16) (.c (.bool true)) (.t 21))])
 (.cond (.t 22)
 (.seq (.ops 22 3 [oO 0 23 (.build [(.int .i64 0), (.int .i64 0)] []), sT 1 true 2 4 23, mI 2 5 3]) .ret) .skip))
 (.seq (.ops 25 13 [mM 0 24 0, fO 1 25 0 3, lB 2 26 2 13 true false 1 25, xB 3 27 7 13 2 24 26, fO 4 28 1 27, lB 5 29 31 13 false false 1 28, fO 6 30 1 3, lB 7 31 64 13 true false 1 30, oB 8 32 255 13 (.callF qin [(.t 29), (.t 31)]), eO 9 33 32 0, eO 10 34 32 1, ⟨11, none, none, (.bef 2047 13), .store true 2 (.t 4) (.t 33)⟩, mM 12 5 34]) .ret)))),
 [.cell 4 true 2, .t 5]⟩
def q77 : KFn := ⟨
 (.seq (.ops 20 2 [oO 0 3 (.box 2 (.t 1)), oO 1 4 (.mov (.c .nilsl))])
 (.seq (.ops 22 1 [oO 0 5 (.mov (.c .nilsl))])
 (.seq (.seq
 (.ops 23 3 [mM 0 11 0, nO 1 12 11, mI 2 13 0])
 (.block 0
 (.loop [(0, 0), (3, 0), (5, 2), (12, 0), (13, 0)]
 (.seq (.ops 26 1 [bT 0 14 .lss 13 12])
 (.seq (.cond (.t 14) .skip
 (.exit 0))
 (.seq (.block 1
 (.seq (.ops 27 2 [mM 0 15 13, mM 1 6 15])
 (.seq (.ops 29 6 [mM 0 16 0, mM 1 17 6, xO 2 18 2 16 17, lO 3 19 false true 2 18, oO 4 7 (.new 2 (.agg [(.str ⟨#[]⟩), .nilsl])), sT 5 true 2 7 19])
 (.seq (.seq
 (.ops 35 2 [fO 0 20 0 3, lO 1 21 true false 1 20])
 (.cond (.t 21)
 (.ops 37 11 [mM 0 22 0, mM 1 23 0, nO 2 24 23, mM 3 25 6, bT 4 26 .sub 24 25, mM 5 27 0, nO 6 28 27, bT 7 29 .rem 26 28, xO 8 30 2 22 29, lO 9 31 false true 2 30, sT 10 true 2 7 31]) .skip))
 (.seq (.ops 48 1 [oO 0 8 (.mov (.c .nilsl))])
 (.seq (.seq
 (.ops 49 4 [fO 0 32 1 7, lO 1 33 true false 1 32, nO 2 34 33, mI 3 35 0])
 (.block 2
 (.loop [(0, 0), (3, 0), (5, 0), (7, 0), (8, 2), (12, 0), (13, 0), (33, 0), (34, 0), (35, 0)]
 (.seq (.ops 53 1 [bT 0 36 .lss 35 34])
 (.seq (.cond (.t 36) .skip
 (.exit 2))
 (.seq (.block 3
 (.seq (.ops 54 4 [xO 0 37 2 33 35, lO 1 38 false true 2 37, oO 2 10 (.new 2 (.agg [(.int .i64 0), (.int .i64 0)])), sT 3 true 2 10 38])
 (.ops 58 7 [mM 0 39 8, lO 1 40 true true 2 3, lO 2 41 true true 2 10, oO 3 42 (.callF q8w [(.t 40), (.t 41)]), oO 4 43 (.buildSlice 2 1 [(.agg [(.int .i64 0), (.int .i64 0)])] [(0, (.t 42))]), oO 5 44 (.append ⟨2, 16, (.agg [(.int .i64 0), (.int .i64 0)])⟩ .sl (.t 39) (.t 43)), mM 6 8 44])))
 (.ops 65 2 [bC 0 45 .add 35 1, mM 1 35 45])))))))
 (.seq (.seq
 (.ops 67 2 [fO 0 46 0 3, lO 1 47 true false 1 46])
 (.cond (.t 47)
 (.ops 69 2 [mM 0 48 8, oO 1 49 (.callF q4R [(.t 48)])]) .skip))
 (.ops 107 8 [mM 0 50 5, fO 1 51 0 7, lO 2 52 true false 1 51, mM 3 53 8, oO 4 54 (.build [(.str ⟨#[]⟩), .nilsl] [(0, 1, (.t 52)), (1, 1, (.t 53))]), oO 5 55 (.buildSlice 2 1 [(.agg [(.str ⟨#[]⟩), .nilsl])] [(0, (.t 54))]), oO 6 56 (.append ⟨2, 40, (.agg [(.str ⟨#[]⟩), .nilsl])⟩ .sl (.t 50) (.t 55)), mM 7 5 56]))))))))
 (.ops 115 2 [bC 0 57 .add 13 1, mM 1 13 57])))))))
 (.seq (.ops 117 2 [mM 0 58 5, mM 1 4 58]) .ret)))),
 [.t 4]⟩
def qbh : KFn := ⟨
 (.seq (.ops 8 2 [oO 0 3 (.box 2 (.t 1)), oO 1 4 (.mov (.c .nilsl))])
 (.seq (.ops 10 1 [oO 0 5 (.mov (.c .nilsl))])
 (.seq (.seq
 (.ops 11 1 [mI 0 6 0])
 (.block 0
 (.loop [(0, 0), (3, 0), (5, 2), (6, 0)]
 (.seq (.seq
 (.ops 12 4 [mM 0 8 6, mM 1 9 0, nO 2 10 9, bT 3 11 .lss 8 10])
 (.cond (.t 11) .skip
 (.exit 0)))
 (.seq (.block 1
 (.seq (.ops 16 2 [mM 0 14 6, mM 1 7 14])
 (.seq (.seq
 (.ops 18 6 [fO 0 15 0 3, lO 1 16 true false 1 15, mM 2 17 16, gM 3 18 17 true 6, gG 4 19 17 true (.bin .gtr .no (.t 18) (.c (.int .i64 0))), oO 5 20 (.pick (.t 17) (.t 19) (.c (.bool false)))])
 (.cond (.t 20)
 (.ops 24 5 [mM 0 21 0, nO 1 22 21, mM 2 23 6, bT 3 24 .sub 22 23, mM 4 7 24]) .skip))
 (.ops 29 17 [mM 0 25 5, mM 1 26 0, mM 2 27 7, xB 3 28 6 17 2 26 27, fO 4 29 0 28, lB 5 30 30 17 false false 1 29, mM 6 31 0, mM 7 32 7, xB 8 33 192 17 2 31 32, fO 9 34 1 33, lB 10 35 960 17 false false 1 34, lB 11 36 0 17 true true 2 3, oB 12 37 4032 17 (.callF qjZ [(.t 35), (.t 36)]), oO 13 38 (.build [(.str ⟨#[]⟩), .nilsl] [(0, 1, (.t 30)), (1, 1, (.t 37))]), ⟨14, some 39, none, (.bef 16382 17), .buildSlice 2 1 [(.agg [(.str ⟨#[]⟩), .nilsl])] [(0, (.t 38))]⟩, ⟨15, some 40, none, (.bef 32767 17), .append ⟨2, 40, (.agg [(.str ⟨#[]⟩), .nilsl])⟩ .sl (.t 25) (.t 39)⟩, mM 16 5 40]))))
 (.ops 46 3 [mM 0 12 6, bC 1 13 .add 12 1, mM 2 6 13]))))))
 (.seq (.ops 49 2 [mM 0 41 5, mM 1 4 41]) .ret)))),
 [.t 4]⟩
def q85 : KFn := ⟨
 (.seq (.ops 0 1 [mI 0 2 0])
 (.seq (.seq
 (.ops 1 3 [mM 0 3 0, nO 1 4 3, bC 2 5 .gtr 4 40])
 (.cond (.t 5)
 (.seq (.ops 4 1 [mI 0 2 5]) .ret) .skip))
 (.seq (.seq
 (.ops 5 3 [mM 0 6 0, nO 1 7 6, bC 2 8 .lss 7 3])
 (.cond (.t 8)
 (.seq (.ops 8 1 [mI 0 2 11]) .ret) .skip))
 (.seq (.seq
 (.ops 9 2 [mM 0 9 0, oO 1 10 (.callF q2k [(.t 9), (.c (.fn q6O [] []))])])
 (.cond (.t 10)
 (.seq (.ops 11 1 [mI 0 2 3]) .ret) .skip))
 (.seq (.seq
 (.ops 12 3 [mM 0 11 0, oO 1 12 (.callF qaN [(.t 11)]), oO 2 13 (.un .not (.t 12))])
 (.cond (.t 13)
 (.seq (.ops 15 1 [mI 0 2 11]) .ret) .skip))
 (.seq (.ops 16 1 [mI 0 2 0]) .ret)))))),
 [.t 2]⟩
def qbi : KFn := ⟨
 (.seq (.ops 0 3 [oO 0 1 (.box 6 (.t 0)), oO 1 2 (.new 2 (.agg [(.int .i64 0), (.int .i64 0)])), mI 2 3 0])
 (.seq (.ops 3 8 [fO 0 9 0 1, lO 1 10 true true 3 9, oO 2 11 (.callF q6d [(.t 10)]), mM 3 8 11, eO 4 12 8 0, eO 5 13 8 1, mM 6 4 12, mM 7 5 13])
 (.seq (.ops 11 8 [fO 0 15 3 1, lO 1 16 true true 3 15, oO 2 17 (.callF q6d [(.t 16)]), mM 3 14 17, eO 4 18 14 0, eO 5 19 14 1, mM 6 6 18, mM 7 7 19])
 (.seq (.seq
 (.ops 19 6 [mM 0 20 5, oO 1 21 (.un .not (.t 20)), mM 2 22 21, gM 3 23 22 false 7, gG 4 24 22 false (.un .not (.t 23)), oO 5 25 (.pick (.t 22) (.c (.bool true)) (.t 24))])
 (.cond (.t 25)
 (.seq (.ops 25 3 [oO 0 26 (.build [(.int .i64 0), (.int .i64 0)] []), sT 1 true 2 2 26, mI 2 3 3]) .ret) .skip))
 (.seq (.ops 28 5 [mM 0 27 4, mM 1 28 6, oO 2 29 (.build [(.int .i64 0), (.int .i64 0)] [(0, 1, (.t 27)), (1, 1, (.t 28))]), sT 3 true 2 2 29, mI 4 3 0]) .ret))))),
 [.cell 2 true 2, .t 3]⟩
def q6B : KFn := ⟨
 (.seq (.ops 8 2 [mI 0 2 0, mI 1 3 0])
 (.seq (.seq
 (.ops 10 3 [mM 0 7 0, oO 1 8 (.callF q58 [(.t 7)]), mM 2 4 8])
 (.seq (.ops 13 2 [mM 0 9 4, bC 1 10 .neq 9 0])
 (.cond (.t 10)
 (.seq (.ops 15 3 [mM 0 11 4, mI 1 2 0, mM 2 3 11]) .ret) .skip)))
 (.seq (.ops 18 1 [mI 0 5 0])
 (.seq (.seq
 (.ops 19 4 [mM 0 12 0, nO 1 13 12, bC 2 14 .sub 13 1, mI 3 15 0])
 (.block 0
 (.loop [(0, 0), (5, 0), (14, 0), (15, 0)]
 (.seq (.ops 23 1 [bT 0 16 .lss 15 14])
 (.seq (.cond (.t 16) .skip
 (.exit 0))
 (.seq (.block 1
 (.seq (.ops 24 2 [mM 0 17 15, mM 1 6 17])
 (.ops 26 13 [mM 0 18 5, mM 1 19 0, mM 2 20 6, xB 3 21 6 13 2 19 20, lB 4 22 14 13 false true 2 21, mM 5 23 0, mM 6 24 6, bC 7 25 .add 24 1, xB 8 26 224 13 2 23 25, lB 9 27 480 13 false true 2 26, oB 10 28 1022 13 (.callF q6e [(.t 22), (.t 27)]), bT 11 29 .add 18 28, mM 12 5 29])))
 (.ops 39 2 [bC 0 30 .add 15 1, mM 1 15 30])))))))
 (.seq (.ops 41 3 [mM 0 31 5, mM 1 2 31, mI 2 3 0]) .ret))))),
 [.t 2, .t 3]⟩
def q8O : KFn := ⟨
 (.seq (.ops 0 2 [oO 0 1 (.box 2 (.t 0)), oO 1 2 (.new 2 (.agg [(.bool false), (.int .i64 0)]))])
 (.seq (.ops 2 3 [lO 0 3 true true 2 1, oO 1 4 (.callF q6p [(.t 3)]), sT 2 true 2 1 4])
 (.seq (.seq
 (.ops 5 3 [fO 0 5 0 1, lO 1 6 true false 1 5, oO 2 7 (.un .not (.t 6))])
 (.cond (.t 7)
 (.ops 8 5 [fO 0 8 1 1, lO 1 9 true false 1 8, oO 2 10 (.un .neg (.t 9)), fO 3 11 1 1, sT 4 true 1 11 10]) .skip))
 (.seq (.ops 13 3 [lO 0 12 true true 2 1, oO 1 13 (.callF q6p [(.t 12)]), sT 2 true 2 2 13]) .ret)))),
 [.cell 2 true 2]⟩
def q8P : KFn := ⟨
 (.seq (.ops 0 3 [oO 0 2 (.box 2 (.t 0)), oO 1 3 (.box 2 (.t 1)), oO 2 4 (.new 2 (.agg [(.bool false), (.int .i64 0)]))])
 (.seq (.ops 3 6 [lB 0 5 0 6 true true 2 2, oB 1 6 1 6 (.callF q6p [(.t 5)]), lB 2 7 0 6 true true 2 3, oB 3 8 7 6 (.callF q6p [(.t 7)]), ⟨4, none, none, (.bef 15 6), .store true 2 (.t 2) (.t 6)⟩, ⟨5, none, none, (.bef 31 6), .store true 2 (.t 3) (.t 8)⟩])
 (.seq (.seq
 (.ops 9 2 [fO 0 9 0 3, lO 1 10 true false 1 9])
 (.cond (.t 10)
 (.ops 11 5 [fO 0 11 1 2, lO 1 12 true false 1 11, oO 2 13 (.un .neg (.t 12)), fO 3 14 1 2, sT 4 true 1 14 13]) .skip))
 (.seq (.ops 16 13 [fO 0 15 0 2, lO 1 16 true false 1 15, fO 2 17 0 3, lO 3 18 true false 1 17, oO 4 19 (.bin .neq .bool (.t 16) (.t 18)), fO 5 20 1 2, lO 6 21 true false 1 20, fO 7 22 1 3, lO 8 23 true false 1 22, bT 9 24 .add 21 23, oO 10 25 (.build [(.bool false), (.int .i64 0)] [(0, 1, (.t 19)), (1, 1, (.t 24))]), oO 11 26 (.callF q6p [(.t 25)]), sT 12 true 2 4 26]) .ret)))),
 [.cell 4 true 2]⟩
def q86 : KFn := ⟨
 (.seq (.ops 0 1 [mI 0 2 0])
 (.seq (.seq
 (.ops 1 3 [mM 0 3 0, oO 1 4 (.callF q3h [(.t 3)]), bC 2 5 .neq 4 0])
 (.cond (.t 5)
 (.seq (.ops 4 1 [mI 0 2 0]) .ret) .skip))
 (.seq (.ops 5 3 [mM 0 6 0, oO 1 7 (.callF q9d [(.t 6)]), mM 2 2 7]) .ret))),
 [.t 2]⟩
def q78 : KFn := ⟨
 (.seq (.ops 10 2 [oO 0 2 (.mov (.c .nilsl)), mI 1 3 0])
 (.seq (.seq
 (.ops 12 3 [mM 0 12 0, oO 1 13 (.callF q3h [(.t 12)]), mM 2 4 13])
 (.seq (.ops 15 2 [mM 0 14 4, bC 1 15 .neq 14 0])
 (.cond (.t 15)
 (.seq (.ops 17 3 [mM 0 16 4, oO 1 2 (.mov (.c .nilsl)), mM 2 3 16]) .ret) .skip)))
 (.seq (.ops 20 1 [oO 0 5 (.mov (.c .nilsl))])
 (.seq (.seq
 (.ops 21 3 [mM 0 17 0, nO 1 18 17, mI 2 19 0])
 (.block 0
 (.loop [(0, 0), (5, 2), (17, 0), (18, 0), (19, 0)]
 (.seq (.ops 24 1 [bT 0 20 .lss 19 18])
 (.seq (.cond (.t 20) .skip
 (.exit 0))
 (.seq (.block 1
 (.seq (.ops 25 6 [mM 0 21 19, xO 1 22 2 17 19, lO 2 23 false true 2 22, oO 3 7 (.new 2 (.agg [(.int .i64 0), (.int .i64 0)])), mM 4 6 21, sT 5 true 2 7 23])
 (.seq (.ops 31 4 [mM 0 24 0, mM 1 25 6, oO 2 26 (.callF qdF [(.t 24), (.t 25)]), bC 3 27 .neq 26 0])
 (.cond (.t 27)
 (.ops 35 5 [mM 0 28 5, lO 1 29 true true 2 7, oO 2 30 (.buildSlice 2 1 [(.agg [(.int .i64 0), (.int .i64 0)])] [(0, (.t 29))]), oO 3 31 (.append ⟨2, 16, (.agg [(.int .i64 0), (.int .i64 0)])⟩ .sl (.t 28) (.t 30)), mM 4 5 31]) .skip))))
 (.ops 40 2 [bC 0 32 .add 19 1, mM 1 19 32])))))))
 (.seq (.seq
 (.ops 42 3 [mM 0 33 0, oO 1 34 (.callF q9d [(.t 33)]), bC 2 35 .lss 34 0])
 (.cond (.t 35)
 (.ops 45 2 [mM 0 36 5, oO 1 37 (.callF q4R [(.t 36)])]) .skip))
 (.seq (.ops 83 1 [mI 0 8 0])
 (.seq (.seq
 (.ops 84 3 [mM 0 38 5, nO 1 39 38, mI 2 40 0])
 (.block 2
 (.loop [(5, 0), (8, 0), (38, 0), (39, 0), (40, 0)]
 (.seq (.ops 87 1 [bT 0 41 .lss 40 39])
 (.seq (.cond (.t 41) .skip
 (.exit 2))
 (.seq (.block 3
 (.seq (.ops 88 6 [mM 0 42 40, xO 1 43 2 38 40, lO 2 44 false true 2 43, oO 3 10 (.new 2 (.agg [(.int .i64 0), (.int .i64 0)])), mM 4 9 42, sT 5 true 2 10 44])
 (.seq (.ops 94 6 [mM 0 45 5, mM 1 46 8, xO 2 47 2 45 46, lO 3 48 false true 2 47, oO 4 11 (.new 2 (.agg [(.int .i64 0), (.int .i64 0)])), sT 5 true 2 11 48])
 (.seq (.ops 100 19 [fO 0 49 0 10, lO 1 50 true false 1 49, fO 2 51 0 11, lO 3 52 true false 1 51, bT 4 53 .lss 50 52, mM 5 54 53, gG 6 55 54 false (.off 0 (.t 10)), gG 7 56 54 false (.load true false 1 (.t 55)), gG 8 57 54 false (.off 0 (.t 11)), gG 9 58 54 false (.load true false 1 (.t 57)), gG 10 59 54 false (.bin .eql .no (.t 56) (.t 58)), gM 11 60 54 false 59, gG 12 61 60 true (.off 1 (.t 10)), gG 13 62 60 true (.load true false 1 (.t 61)), gG 14 63 60 true (.off 1 (.t 11)), gG 15 64 60 true (.load true false 1 (.t 63)), gG 16 65 60 true (.bin .lss .no (.t 62) (.t 64)), gG 17 66 54 false (.pick (.t 60) (.t 65) (.c (.bool false))), oO 18 67 (.pick (.t 54) (.c (.bool true)) (.t 66))])
 (.cond (.t 67)
 (.ops 119 2 [mM 0 68 9, mM 1 8 68]) .skip)))))
 (.ops 121 2 [bC 0 69 .add 40 1, mM 1 40 69])))))))
 (.seq (.ops 123 10 [mM 0 70 5, mM 1 71 8, oB 2 72 3 10 (.slsl 2 (.t 70) (some (.t 71)) none none), mM 3 73 5, mM 4 74 8, oB 5 75 24 10 (.slsl 2 (.t 73) none (some (.t 74)) none), oB 6 76 63 10 (.buildSlice 1 2 [.nilsl, .nilsl] [(0, (.t 72)), (1, (.t 75))]), oB 7 77 127 10 (.callF q2m [(.t 76)]), mM 8 2 77, mI 9 3 0]) .ret)))))))),
 [.t 2, .t 3]⟩
def qcM : KFn := ⟨
 (.seq (.ops 12 2 [oO 0 2 (.box 2 (.t 0)), oO 1 4 (.mov (.c .nilsl))])
 (.seq (.ops 14 4 [mM 0 8 1, nO 1 9 8, oO 2 10 (.mkslice ⟨2, 16, (.agg [(.int .i64 0), (.int .i64 0)])⟩ (.t 9) (.t 9)), mM 3 5 10])
 (.seq (.seq
 (.ops 18 3 [mM 0 11 1, nO 1 12 11, mI 2 13 0])
 (.block 0
 (.loop [(1, 0), (2, 0), (5, 0), (11, 0), (12, 0), (13, 0)]
 (.seq (.ops 21 1 [bT 0 14 .lss 13 12])
 (.seq (.cond (.t 14) .skip
 (.exit 0))
 (.seq (.block 1
 (.seq (.ops 22 6 [mM 0 15 13, xO 1 16 2 11 13, lO 2 17 false true 2 16, oO 3 7 (.new 2 (.agg [(.int .i64 0), (.int .i64 0)])), mM 4 6 15, sT 5 true 2 7 17])
 (.seq (.seq
 (.ops 28 2 [fO 0 18 0 2, lO 1 19 true false 1 18])
 (.cond (.t 19)
 (.ops 30 6 [mM 0 20 1, nO 1 21 20, bC 2 22 .sub 21 1, mM 3 23 6, bT 4 24 .sub 22 23, mM 5 6 24]) .skip))
 (.ops 36 7 [mM 0 25 5, mM 1 26 6, lO 2 27 true true 2 2, lO 3 28 true true 2 7, oO 4 29 (.callF q8w [(.t 27), (.t 28)]), xO 5 30 2 25 26, sT 6 false 2 30 29]))))
 (.ops 43 2 [bC 0 31 .add 13 1, mM 1 13 31])))))))
 (.seq (.ops 45 2 [mM 0 32 5, mM 1 4 32]) .ret)))),
 [.t 4]⟩
def qbk : KFn := ⟨
 (.seq (.ops 0 2 [oO 0 2 (.box 2 (.t 0)), oO 1 4 (.mov (.c (.bool false)))])
 (.seq (.ops 2 25 [fO 0 5 0 2, lO 1 6 true false 1 5, mM 2 7 1, oO 3 8 (.un .neg (.t 7)), bT 4 9 .geq 6 8, mM 5 10 9, gG 6 11 10 true (.off 0 (.t 2)), gG 7 12 10 true (.load true false 1 (.t 11)), gM 8 13 10 true 1, gG 9 14 10 true (.bin .leq .no (.t 12) (.t 13)), oO 10 15 (.pick (.t 10) (.t 14) (.c (.bool false))), mM 11 16 15, gG 12 17 16 true (.off 1 (.t 2)), gG 13 18 16 true (.load true false 1 (.t 17)), gM 14 19 16 true 1, gG 15 20 16 true (.un .neg (.t 19)), gG 16 21 16 true (.bin .geq .no (.t 18) (.t 20)), oO 17 22 (.pick (.t 16) (.t 21) (.c (.bool false))), mM 18 23 22, gG 19 24 23 true (.off 1 (.t 2)), gG 20 25 23 true (.load true false 1 (.t 24)), gM 21 26 23 true 1, gG 22 27 23 true (.bin .leq .no (.t 25) (.t 26)), oO 23 28 (.pick (.t 23) (.t 27) (.c (.bool false))), mM 24 4 28]) .ret)),
 [.t 4]⟩
def qcP : KFn := ⟨
 (.seq (.ops 4 1 [mI 0 2 0])
 (.seq (.seq
 (.ops 5 3 [mM 0 4 0, nO 1 5 4, bC 2 6 .gtr 5 40])
 (.cond (.t 6)
 (.seq (.ops 8 1 [mI 0 2 5]) .ret) .skip))
 (.seq (.seq
 (.ops 9 3 [mM 0 7 0, nO 1 8 7, bC 2 9 .lss 8 3])
 (.cond (.t 9)
 (.seq (.ops 12 1 [mI 0 2 11]) .ret) .skip))
 (.seq (.seq
 (.ops 13 1 [mI 0 3 0])
 (.block 0
 (.loop [(0, 0), (3, 0)]
 (.seq (.seq
 (.ops 14 4 [mM 0 10 3, mM 1 11 0, nO 2 12 11, bT 3 13 .lss 10 12])
 (.cond (.t 13) .skip
 (.exit 0)))
 (.seq (.block 1
 (.seq (.ops 18 6 [mM 0 16 0, mM 1 17 3, xO 2 18 2 16 17, lO 3 19 false true 2 18, oO 4 20 (.callF qbF [(.t 19), (.c (.int .i64 1048576))]), oO 5 21 (.un .not (.t 20))])
 (.cond (.t 21)
 (.seq (.ops 24 1 [mI 0 2 3]) .ret) .skip)))
 (.ops 25 3 [mM 0 14 3, bC 1 15 .add 14 1, mM 2 3 15]))))))
 (.seq (.seq
 (.ops 28 3 [mM 0 22 0, oO 1 23 (.callF qgw [(.t 22)]), oO 2 24 (.un .not (.t 23))])
 (.cond (.t 24)
 (.seq (.ops 31 1 [mI 0 2 11]) .ret) .skip))
 (.seq (.ops 32 1 [mI 0 2 0]) .ret)))))),
 [.t 2]⟩
def q3V : KFn := ⟨
 (.seq (.ops 0 1 [oO 0 0 (.mov (.c .nilsl))])
 (.seq (.ops 1 11 [oO 0 1 (.build [(.int .i64 0), (.int .i64 0)] []), oO 1 2 (.build [(.int .i64 0), (.int .i64 0)] [(0, 1, (.c (.int .i64 8)))]), oO 2 3 (.buildSlice 2 2 [(.agg [(.int .i64 0), (.int .i64 0)]), (.agg [(.int .i64 0), (.int .i64 0)])] [(0, (.t 1)), (1, (.t 2))]), oO 3 4 (.build [(.str ⟨#[]⟩), .nilsl] [(0, 1, (.c (.str ⟨#[104, 101, 109]⟩))), (1, 1, (.t 3))]), oO 4 5 (.build [(.int .i64 0), (.int .i64 0)] [(0, 1, (.c (.int .i64 8)))]), oO 5 6 (.build [(.int .i64 0), (.int .i64 0)] [(0, 1, (.c (.int .i64 8))), (1, 1, (.c (.int .i64 6)))]), oO 6 7 (.build [(.int .i64 0), (.int .i64 0)] []), oO 7 8 (.buildSlice 2 3 [(.agg [(.int .i64 0), (.int .i64 0)]), (.agg [(.int .i64 0), (.int .i64 0)]), (.agg [(.int .i64 0), (.int .i64 0)])] [(0, (.t 5)), (1, (.t 6)), (2, (.t 7))]), oO 8 9 (.build [(.str ⟨#[]⟩), .nilsl] [(0, 1, (.c (.str ⟨#[115, 105, 100, 101]⟩))), (1, 1, (.t 8))]), oO 9 10 (.buildSlice 2 2 [(.agg [(.str ⟨#[]⟩), .nilsl]), (.agg [(.str ⟨#[]⟩), .nilsl])] [(0, (.t 4)), (1, (.t 9))]), mM 10 0 10]) .ret)),
 [.t 0]⟩
def qju : KFn := ⟨
 (.seq (.ops 0 1 [oO 0 4 (.new 6 (.agg [(.bool false), .nilsl, .nilsl, (.bool false), .nilsl, .nilsl]))])
 (.seq (.ops 1 6 [mM 0 5 0, oO 1 6 (.callF qdI [(.t 5)]), mM 2 7 1, oO 3 8 (.callF qdI [(.t 7)]), oO 4 9 (.build [(.bool false), .nilsl, .nilsl, (.bool false), .nilsl, .nilsl] [(0, 3, (.t 6)), (3, 3, (.t 8))]), sT 5 true 6 4 9]) .ret)),
 [.cell 4 true 6]⟩
def q62 : KFn := ⟨
 (.seq (.ops 8 1 [oO 0 2 (.mov (.c .nilsl))])
 (.seq (.ops 9 1 [oO 0 3 (.mov (.c .nilsl))])
 (.seq (.seq
 (.ops 10 3 [mM 0 6 0, nO 1 7 6, mI 2 8 0])
 (.block 0
 (.loop [(3, 2), (6, 0), (7, 0), (8, 0)]
 (.seq (.ops 13 1 [bT 0 9 .lss 8 7])
 (.seq (.cond (.t 9) .skip
 (.exit 0))
 (.seq (.block 1
 (.seq (.ops 14 4 [xO 0 10 2 6 8, lO 1 11 false true 2 10, oO 2 5 (.new 2 (.agg [(.str ⟨#[]⟩), .nilsl])), sT 3 true 2 5 11])
 (.ops 18 10 [mM 0 12 3, fO 1 13 1 5, lO 2 14 true false 1 13, fO 3 15 1 5, lO 4 16 true false 1 15, nO 5 17 16, bC 6 18 .sub 17 1, oO 7 19 (.slsl 2 (.t 14) none (some (.t 18)) none), oO 8 20 (.append ⟨2, 16, (.agg [(.int .i64 0), (.int .i64 0)])⟩ .sl (.t 12) (.t 19)), mM 9 3 20])))
 (.ops 28 2 [bC 0 21 .add 8 1, mM 1 8 21])))))))
 (.seq (.ops 30 2 [mM 0 22 3, mM 1 2 22]) .ret)))),
 [.t 2]⟩
def q8S : KFn := ⟨
 (.seq (.ops 6 1 [oO 0 2 (.mov (.c .nilsl))])
 (.seq (.ops 7 1 [oO 0 3 (.mov (.c .nilsl))])
 (.seq (.seq
 (.ops 8 1 [mI 0 4 0])
 (.block 0
 (.loop [(0, 0), (3, 2), (4, 0)]
 (.seq (.seq
 (.ops 9 4 [mM 0 6 4, mM 1 7 0, nO 2 8 7, bT 3 9 .lss 6 8])
 (.cond (.t 9) .skip
 (.exit 0)))
 (.seq (.block 1
 (.seq (.ops 13 7 [mM 0 12 0, mM 1 13 4, xO 2 14 2 12 13, fO 3 15 1 14, lO 4 16 false false 1 15, nO 5 17 16, mM 6 5 17])
 (.seq (.ops 20 2 [mM 0 18 5, bC 1 19 .gtr 18 0])
 (.cond (.t 19)
 (.ops 22 11 [mM 0 20 3, mM 1 21 0, mM 2 22 4, xO 3 23 2 21 22, fO 4 24 1 23, lO 5 25 false false 1 24, mM 6 26 5, bC 7 27 .sub 26 1, oO 8 28 (.slsl 2 (.t 25) none (some (.t 27)) none), oO 9 29 (.append ⟨2, 16, (.agg [(.int .i64 0), (.int .i64 0)])⟩ .sl (.t 20) (.t 28)), mM 10 3 29]) .skip))))
 (.ops 33 3 [mM 0 10 4, bC 1 11 .add 10 1, mM 2 4 11]))))))
 (.seq (.ops 36 2 [mM 0 30 3, mM 1 2 30]) .ret)))),
 [.t 2]⟩
def q7a : KFn := ⟨
 (.seq (.ops 0 1 [oO 0 2 (.mov (.c (.bool false)))])
 (.seq (.ops 1 5 [mM 0 3 0, oO 1 4 (.build [(.int .i64 0), (.bool false), .nilsl, .nilsl, (.str ⟨#[]⟩), .nilsl] [(0, 1, (.c (.int .i64 2))), (4, 1, (.t 3))]), oO 2 5 (.callF qcg [(.t 4)]), bC 3 6 .eql 5 0, mM 4 2 6]) .ret)),
 [.t 2]⟩
def q7b : KFn := ⟨
 (.seq (.ops 6 1 [mI 0 2 0])
 (.seq (.seq
 (.ops 7 3 [mM 0 4 0, nO 1 5 4, bC 2 6 .gtr 5 40])
 (.cond (.t 6)
 (.seq (.ops 10 1 [mI 0 2 5]) .ret) .skip))
 (.seq (.seq
 (.ops 11 3 [mM 0 7 0, nO 1 8 7, bC 2 9 .lss 8 2])
 (.cond (.t 9)
 (.seq (.ops 14 1 [mI 0 2 11]) .ret) .skip))
 (.seq (.seq
 (.ops 15 2 [mM 0 10 0, oO 1 11 (.callF q2k [(.t 10), (.c (.fn q6f [] []))])])
 (.cond (.t 11)
 (.seq (.ops 17 1 [mI 0 2 3]) .ret) .skip))
 (.seq (.seq
 (.ops 18 4 [mM 0 12 0, nO 1 13 12, bC 2 14 .sub 13 1, mI 3 15 0])
 (.block 0
 (.loop [(0, 0), (14, 0), (15, 0)]
 (.seq (.ops 22 1 [bT 0 16 .lss 15 14])
 (.seq (.cond (.t 16) .skip
 (.exit 0))
 (.seq (.block 1
 (.seq (.ops 23 2 [mM 0 17 15, mM 1 3 17])
 (.seq (.ops 25 10 [mM 0 18 0, mM 1 19 3, xB 2 20 3 10 2 18 19, lB 3 21 7 10 false true 2 20, mM 4 22 0, mM 5 23 3, bC 6 24 .add 23 1, xB 7 25 112 10 2 22 24, lB 8 26 240 10 false true 2 25, oO 9 27 (.bin .eql (.flat [.int, .int]) (.t 21) (.t 26))])
 (.cond (.t 27)
 (.seq (.ops 35 1 [mI 0 2 11]) .ret) .skip))))
 (.ops 36 2 [bC 0 28 .add 15 1, mM 1 15 28])))))))
 (.seq (.ops 38 1 [mI 0 2 0]) .ret)))))),
 [.t 2]⟩
def qff : KFn := ⟨
 (.seq (.ops 4 1 [oO 0 2 (.mov (.c (.bool false)))])
 (.seq (.seq
 (.ops 5 25 [mM 0 4 0, oO 1 5 (.bin .eql .no (.t 4) (.c (.str ⟨#[]⟩))), mM 2 6 5, gM 3 7 6 false 0, gG 4 8 6 false (.len .str (.t 7)), gG 5 9 6 false (.bin .gtr .no (.t 8) (.c (.int .i64 24))), oO 6 10 (.pick (.t 6) (.c (.bool true)) (.t 9)), mM 7 11 10, gM 8 12 11 false 0, gG 9 13 11 false (.bin .eql .no (.t 12) (.c (.str ⟨#[109, 105, 110]⟩))), oO 10 14 (.pick (.t 11) (.c (.bool true)) (.t 13)), mM 11 15 14, gM 12 16 15 false 0, gG 13 17 15 false (.bin .eql .no (.t 16) (.c (.str ⟨#[109, 97, 120]⟩))), oO 14 18 (.pick (.t 15) (.c (.bool true)) (.t 17)), mM 15 19 18, gM 16 20 19 false 0, gG 17 21 19 false (.istr (.t 20) (.c (.int .i64 0))), gG 18 22 19 false (.bin .lss .no (.t 21) (.c (.int .u8 97))), oO 19 23 (.pick (.t 19) (.c (.bool true)) (.t 22)), mM 20 24 23, gM 21 25 24 false 0, gG 22 26 24 false (.istr (.t 25) (.c (.int .i64 0))), gG 23 27 24 false (.bin .gtr .no (.t 26) (.c (.int .u8 122))), oO 24 28 (.pick (.t 24) (.c (.bool true)) (.t 27))])
 (.cond (.t 28)
 (.seq (.ops 30 1 [oO 0 2 (.mov (.c (.bool false)))]) .ret) .skip))
 (.seq (.seq
 (.ops 31 1 [mI 0 3 0])
 (.block 0
 (.loop [(0, 0), (3, 0)]
 (.seq (.seq
 (.ops 32 4 [mM 0 29 3, mM 1 30 0, oO 2 31 (.len .str (.t 30)), bT 3 32 .lss 29 31])
 (.cond (.t 32) .skip
 (.exit 0)))
 (.seq (.block 1
 (.seq (.ops 36 23 [mM 0 35 0, mM 1 36 3, oO 2 37 (.istr (.t 35) (.t 36)), oO 3 38 (.callF qdJ [(.t 37)]), oO 4 39 (.un .not (.t 38)), mM 5 40 39, gM 6 41 40 true 0, gM 7 42 40 true 3, gG 8 43 40 true (.istr (.t 41) (.t 42)), gG 9 44 40 true (.bin .neq .no (.t 43) (.c (.int .u8 95))), oO 10 45 (.pick (.t 40) (.t 44) (.c (.bool false))), mM 11 46 45, gM 12 47 46 true 0, gM 13 48 46 true 3, gG 14 49 46 true (.istr (.t 47) (.t 48)), gG 15 50 46 true (.bin .lss .no (.t 49) (.c (.int .u8 97))), gM 16 51 46 true 50, gM 17 52 51 false 0, gM 18 53 51 false 3, gG 19 54 51 false (.istr (.t 52) (.t 53)), gG 20 55 51 false (.bin .gtr .no (.t 54) (.c (.int .u8 122))), gG 21 56 46 true (.pick (.t 51) (.c (.bool true)) (.t 55)), oO 22 57 (.pick (.t 46) (.t 56) (.c (.bool false)))])
 (.cond (.t 57)
 (.seq (.ops 59 1 [oO 0 2 (.mov (.c (.bool false)))]) .ret) .skip)))
 (.ops 60 3 [mM 0 33 3, bC 1 34 .add 33 1, mM 2 3 34]))))))
 (.seq (.ops 63 1 [oO 0 2 (.mov (.c (.bool true)))]) .ret)))),
 [.t 2]⟩
def qcQ : KFn := ⟨
 (.seq (.ops 8 1 [oO 0 6 (.mov (.c (.bool false)))])
 (.seq (.seq
 (.ops 9 1 [mI 0 7 0])
 (.block 0
 (.loop [(0, 0), (1, 0), (2, 0), (7, 0)]
 (.seq (.seq
 (.ops 10 3 [mM 0 8 7, mM 1 9 1, bT 2 10 .lss 8 9])
 (.cond (.t 10) .skip
 (.exit 0)))
 (.seq (.block 1
 (.seq (.ops 13 7 [mM 0 13 0, mM 1 14 7, xO 2 15 2 13 14, fO 3 16 0 15, lO 4 17 false false 1 16, mM 5 18 2, bT 6 19 .eql 17 18])
 (.cond (.t 19)
 (.seq (.ops 20 1 [oO 0 6 (.mov (.c (.bool true)))]) .ret) .skip)))
 (.ops 21 3 [mM 0 11 7, bC 1 12 .add 11 1, mM 2 7 12]))))))
 (.seq (.ops 24 1 [oO 0 6 (.mov (.c (.bool false)))]) .ret))),
 [.t 6]⟩
def qcR : KFn := ⟨
 (.seq (.ops 4 1 [mI 0 2 0])
 (.seq (.seq
 (.ops 5 3 [mM 0 4 0, nO 1 5 4, bC 2 6 .gtr 5 40])
 (.cond (.t 6)
 (.seq (.ops 8 1 [mI 0 2 5]) .ret) .skip))
 (.seq (.seq
 (.ops 9 3 [mM 0 7 0, nO 1 8 7, bC 2 9 .lss 8 2])
 (.cond (.t 9)
 (.seq (.ops 12 1 [mI 0 2 11]) .ret) .skip))
 (.seq (.seq
 (.ops 13 2 [mM 0 10 0, oO 1 11 (.callF qmg [(.t 10)])])
 (.cond (.t 11)
 (.seq (.ops 15 1 [mI 0 2 3]) .ret) .skip))
 (.seq (.seq
 (.ops 16 1 [mI 0 3 1])
 (.block 0
 (.loop [(0, 0), (3, 0)]
 (.seq (.seq
 (.ops 17 4 [mM 0 12 3, mM 1 13 0, nO 2 14 13, bT 3 15 .lss 12 14])
 (.cond (.t 15) .skip
 (.exit 0)))
 (.seq (.block 1
 (.seq (.ops 21 10 [mM 0 18 0, mM 1 19 3, xB 2 20 3 10 2 18 19, lB 3 21 7 10 false true 2 20, mM 4 22 0, mM 5 23 3, bC 6 24 .sub 23 1, xB 7 25 112 10 2 22 24, lB 8 26 240 10 false true 2 25, oO 9 27 (.bin .eql (.flat [.int, .int]) (.t 21) (.t 26))])
 (.cond (.t 27)
 (.seq (.ops 31 1 [mI 0 2 11]) .ret) .skip)))
 (.ops 32 3 [mM 0 16 3, bC 1 17 .add 16 1, mM 2 3 17]))))))
 (.seq (.ops 35 1 [mI 0 2 0]) .ret)))))),
 [.t 2]⟩
def q88 : KFn := ⟨
 (.seq (.ops 12 3 [oO 0 3 (.box 3 (.t 1)), oO 1 4 (.mov (.c .nilsl)), mI 2 5 0])
 (.seq (.ops 15 1 [oO 0 6 (.mov (.c .nilsl))])
 (.seq (.seq
 (.ops 16 4 [fO 0 18 1 3, lO 1 19 true false 1 18, nO 2 20 19, mI 3 21 0])
 (.block 0
 (.loop [(0, 0), (3, 0), (6, 6), (19, 0), (20, 0), (21, 0)]
 (.seq (.ops 20 1 [bT 0 22 .lss 21 20])
 (.seq (.cond (.t 22) .skip
 (.exit 0))
 (.seq (.block 1
 (.seq (.ops 21 3 [xO 0 23 1 19 21, lO 1 24 false false 1 23, mM 2 8 24])
 (.seq (.ops 24 9 [mM 0 26 0, mM 1 27 8, oO 2 28 (.lookup (.agg [(.bool false), .nilsl, .nilsl, (.bool false), .nilsl, .nilsl]) (.t 26) (.t 27) true), mM 3 25 28, eO 4 29 25 0, eO 5 30 25 1, oO 6 9 (.new 6 (.agg [(.bool false), .nilsl, .nilsl, (.bool false), .nilsl, .nilsl])), sT 7 true 6 9 29, mM 8 10 30])
 (.seq (.seq
 (.ops 33 2 [mM 0 31 10, oO 1 32 (.un .not (.t 31))])
 (.cond (.t 32)
 (.seq (.ops 35 2 [oO 0 4 (.mov (.c .nilsl)), mI 1 5 6]) .ret) .skip))
 (.ops 37 5 [mM 0 33 6, lO 1 34 true true 6 9, oO 2 35 (.buildSlice 6 1 [(.agg [(.bool false), .nilsl, .nilsl, (.bool false), .nilsl, .nilsl])] [(0, (.t 34))]), oO 3 36 (.append ⟨6, 112, (.agg [(.bool false), .nilsl, .nilsl, (.bool false), .nilsl, .nilsl])⟩ .sl (.t 33) (.t 35)), mM 4 6 36])))))
 (.ops 42 2 [bC 0 37 .add 21 1, mM 1 21 37])))))))
 (.seq (.ops 44 9 [mM 0 39 6, fO 1 40 2 3, lO 2 41 true false 1 40, oO 3 42 (.callF qch [(.t 39), (.t 41)]), mM 4 38 42, eO 5 43 38 0, eO 6 44 38 1, mM 7 11 43, mM 8 12 44])
 (.seq (.seq
 (.ops 53 2 [mM 0 45 12, bC 1 46 .neq 45 0])
 (.cond (.t 46)
 (.seq (.ops 55 3 [mM 0 47 12, oO 1 4 (.mov (.c .nilsl)), mM 2 5 47]) .ret) .skip))
 (.seq (.ops 58 1 [oO 0 13 (.mov (.c .nilsl))])
 (.seq (.seq
 (.ops 59 3 [mM 0 48 11, nO 1 49 48, mI 2 50 0])
 (.block 2
 (.loop [(13, 2), (48, 0), (49, 0), (50, 0)]
 (.seq (.ops 62 1 [bT 0 51 .lss 50 49])
 (.seq (.cond (.t 51) .skip
 (.exit 2))
 (.seq (.block 3
 (.seq (.ops 63 4 [xO 0 52 6 48 50, lO 1 53 false true 6 52, oO 2 15 (.new 6 (.agg [(.bool false), .nilsl, .nilsl, (.bool false), .nilsl, .nilsl])), sT 3 true 6 15 53])
 (.seq (.ops 67 8 [lO 0 55 true true 6 15, oO 1 56 (.callF q6N [(.t 55)]), mM 2 54 56, eO 3 57 54 0, eO 4 58 54 1, oO 5 16 (.new 2 (.agg [(.int .i64 0), (.int .i64 0)])), sT 6 true 2 16 57, mM 7 17 58])
 (.seq (.seq
 (.ops 75 2 [mM 0 59 17, bC 1 60 .neq 59 0])
 (.cond (.t 60)
 (.seq (.ops 77 3 [mM 0 61 17, oO 1 4 (.mov (.c .nilsl)), mM 2 5 61]) .ret) .skip))
 (.ops 80 5 [mM 0 62 13, lO 1 63 true true 2 16, oO 2 64 (.buildSlice 2 1 [(.agg [(.int .i64 0), (.int .i64 0)])] [(0, (.t 63))]), oO 3 65 (.append ⟨2, 16, (.agg [(.int .i64 0), (.int .i64 0)])⟩ .sl (.t 62) (.t 64)), mM 4 13 65])))))
 (.ops 85 2 [bC 0 66 .add 50 1, mM 1 50 66])))))))
 (.seq (.ops 87 4 [mM 0 67 13, oO 1 68 (.callF q9f [(.t 67)]), mM 2 4 68, mI 3 5 0]) .ret)))))))),
 [.t 4, .t 5]⟩
def q7c : KFn := ⟨
 (.seq (.ops 0 2 [oO 0 4 (.new 2 (.agg [(.int .i64 0), (.int .i64 0)])), mI 1 5 0])
 (.seq (.ops 2 11 [mM 0 10 0, mM 1 11 1, oO 2 12 (.callF q9H [(.t 10), (.t 11)]), mM 3 9 12, eO 4 13 9 0, eO 5 14 9 1, eO 6 15 9 2, oO 7 7 (.new 2 (.agg [(.int .i64 0), (.int .i64 0)])), mM 8 6 13, sT 9 true 2 7 14, mM 10 8 15])
 (.seq (.ops 13 4 [lO 0 16 true true 2 7, mM 1 17 8, sT 2 true 2 4 16, mM 3 5 17]) .ret))),
 [.cell 4 true 2, .t 5]⟩
def qcT : KFn := ⟨
 (.seq (.ops 0 2 [oO 0 4 (.new 2 (.agg [(.int .i64 0), (.int .i64 0)])), mI 1 5 0])
 (.seq (.seq
 (.ops 2 3 [mM 0 9 0, oO 1 10 (.callF qdE [(.t 9)]), mM 2 6 10])
 (.seq (.ops 5 2 [mM 0 11 6, bC 1 12 .neq 11 0])
 (.cond (.t 12)
 (.seq (.ops 7 4 [oO 0 13 (.build [(.int .i64 0), (.int .i64 0)] []), mM 1 14 6, sT 2 true 2 4 13, mM 3 5 14]) .ret) .skip)))
 (.seq (.seq
 (.ops 11 8 [mM 0 15 1, bC 1 16 .lss 15 0, mM 2 17 16, gM 3 18 17 false 1, gM 4 19 17 false 0, gG 5 20 17 false (.callF qiq [(.t 19)]), gG 6 21 17 false (.bin .gtr .no (.t 18) (.t 20)), oO 7 22 (.pick (.t 17) (.c (.bool true)) (.t 21))])
 (.cond (.t 22)
 (.seq (.ops 19 3 [oO 0 23 (.build [(.int .i64 0), (.int .i64 0)] []), sT 1 true 2 4 23, mI 2 5 3]) .ret) .skip))
 (.seq (.ops 22 9 [mM 0 25 0, mM 1 26 1, oO 2 27 (.callF qgx [(.t 25), (.t 26)]), mM 3 24 27, eO 4 28 24 0, eO 5 29 24 1, oO 6 8 (.new 2 (.agg [(.int .i64 0), (.int .i64 0)])), mM 7 7 28, sT 8 true 2 8 29])
 (.seq (.ops 31 3 [lO 0 30 true true 2 8, sT 1 true 2 4 30, mI 2 5 0]) .ret))))),
 [.cell 4 true 2, .t 5]⟩
def qbl : KFn := ⟨
 (.seq (.ops 8 3 [oO 0 2 (.box 2 (.t 0)), oO 1 3 (.box 2 (.t 1)), oO 2 4 (.new 2 (.agg [(.int .i64 0), (.int .i64 0)]))])
 (.seq (.seq
 (.ops 11 2 [fO 0 5 0 2, lO 1 6 true false 1 5])
 (.cond (.t 6)
 (.ops 13 5 [fO 0 7 0 3, lO 1 8 true false 1 7, oO 2 9 (.un .neg (.t 8)), fO 3 10 0 3, sT 4 true 1 10 9]) .skip))
 (.seq (.seq
 (.ops 18 4 [fO 0 11 1 2, lO 1 12 true false 1 11, bC 2 13 .and 12 3, mI 3 14 0])
 (.block 0
 (.loop [(3, 0), (4, 0), (13, 0), (14, 0)]
 (.seq (.ops 22 1 [bT 0 15 .lss 14 13])
 (.seq (.cond (.t 15) .skip
 (.exit 0))
 (.seq (.block 1
 (.ops 23 7 [fO 0 16 1 3, lO 1 17 true false 1 16, oO 2 18 (.un .neg (.t 17)), fO 3 19 0 3, lO 4 20 true false 1 19, oO 5 21 (.build [(.int .i64 0), (.int .i64 0)] [(0, 1, (.t 18)), (1, 1, (.t 20))]), sT 6 true 2 3 21]))
 (.ops 30 2 [bC 0 22 .add 14 1, mM 1 14 22])))))))
 (.seq (.ops 32 2 [lO 0 23 true true 2 3, sT 1 true 2 4 23]) .ret)))),
 [.cell 4 true 2]⟩
def k_slices_Reverse_Spot_Spot : KFn := ⟨
 (.seq (.ops 6 5 [mM 0 4 0, nO 1 5 4, bC 2 6 .sub 5 1, mI 3 2 0, mM 4 3 6])
 (.block 0
 (.loop [(0, 0), (2, 0), (3, 0)]
 (.seq (.seq
 (.ops 11 3 [mM 0 7 2, mM 1 8 3, bT 2 9 .lss 7 8])
 (.cond (.t 9) .skip
 (.exit 0)))
 (.seq (.block 1
 (.ops 14 16 [mM 0 14 0, mM 1 15 2, mM 2 16 0, mM 3 17 3, mM 4 18 0, mM 5 19 3, xB 6 20 48 16 2 18 19, lB 7 21 112 16 false true 2 20, mM 8 22 0, mM 9 23 2, xB 10 24 768 16 2 22 23, lB 11 25 1792 16 false true 2 24, xB 12 26 4083 16 2 14 15, ⟨13, none, none, (.bef 8179 16), .store false 2 (.t 26) (.t 21)⟩, xB 14 27 16383 16 2 16 17, ⟨15, none, none, (.bef 32767 16), .store false 2 (.t 27) (.t 25)⟩]))
 (.ops 30 6 [mM 0 10 2, bC 1 11 .add 10 1, mM 2 12 3, bC 3 13 .sub 12 1, mM 4 2 11, mM 5 3 13])))))),
 []⟩
def qfh : KFn := ⟨
 (.seq (.ops 8 2 [oO 0 3 (.box 2 (.t 1)), oO 1 4 (.mov (.c .nilsl))])
 (.seq (.ops 10 1 [oO 0 5 (.mov (.c .nilsl))])
 (.seq (.seq
 (.ops 11 1 [mI 0 6 0])
 (.block 0
 (.loop [(0, 0), (3, 0), (5, 2), (6, 0)]
 (.seq (.seq
 (.ops 12 4 [mM 0 7 6, mM 1 8 0, nO 2 9 8, bT 3 10 .lss 7 9])
 (.cond (.t 10) .skip
 (.exit 0)))
 (.seq (.block 1
 (.ops 16 10 [mM 0 13 5, lB 1 14 0 10 true true 2 3, mM 2 15 0, mM 3 16 6, xB 4 17 12 10 2 15 16, lB 5 18 28 10 false true 2 17, oB 6 19 62 10 (.callF qir [(.t 14), (.t 18)]), oB 7 20 126 10 (.buildSlice 2 1 [(.agg [(.int .i64 0), (.int .i64 0)])] [(0, (.t 19))]), ⟨8, some 21, none, (.bef 255 10), .append ⟨2, 16, (.agg [(.int .i64 0), (.int .i64 0)])⟩ .sl (.t 13) (.t 20)⟩, mM 9 5 21]))
 (.ops 26 3 [mM 0 11 6, bC 1 12 .add 11 1, mM 2 6 12]))))))
 (.seq (.seq
 (.ops 29 2 [fO 0 22 0 3, lO 1 23 true false 1 22])
 (.cond (.t 23)
 (.seq (.ops 31 3 [mM 0 24 5, oO 1 25 (.callF qdK [(.t 24)]), mM 2 4 25]) .ret) .skip))
 (.seq (.ops 34 2 [mM 0 26 5, mM 1 4 26]) .ret))))),
 [.t 4]⟩
def q2i : KFn := ⟨
 (.seq (.ops 0 1 [oO 0 4 (.mov (.c (.bool false)))])
 (.seq (.ops 1 5 [mM 0 5 0, mM 1 6 1, oO 2 7 (.callF q2F [(.t 5), (.t 6)]), bC 3 8 .geq 7 0, mM 4 4 8]) .ret)),
 [.t 4]⟩
def q6D : KFn := ⟨
 (.seq (.ops 0 2 [oO 0 1 (.box 2 (.t 0)), oO 1 2 (.mov (.c (.bool false)))])
 (.seq (.ops 2 19 [fO 0 3 0 1, lO 1 4 true false 1 3, bC 2 5 .lss 4 (-1048576), mM 3 6 5, gG 4 7 6 false (.off 0 (.t 1)), gG 5 8 6 false (.load true false 1 (.t 7)), gG 6 9 6 false (.bin .gtr .no (.t 8) (.c (.int .i64 1048576))), oO 7 10 (.pick (.t 6) (.c (.bool true)) (.t 9)), mM 8 11 10, gG 9 12 11 false (.off 1 (.t 1)), gG 10 13 11 false (.load true false 1 (.t 12)), gG 11 14 11 false (.bin .lss .no (.t 13) (.c (.int .i64 (-1048576)))), oO 12 15 (.pick (.t 11) (.c (.bool true)) (.t 14)), mM 13 16 15, gG 14 17 16 false (.off 1 (.t 1)), gG 15 18 16 false (.load true false 1 (.t 17)), gG 16 19 16 false (.bin .gtr .no (.t 18) (.c (.int .i64 1048576))), oO 17 20 (.pick (.t 16) (.c (.bool true)) (.t 19)), mM 18 2 20]) .ret)),
 [.t 2]⟩
def q7d : KFn := ⟨
 (.seq (.ops 18 1 [oO 0 2 (.mov (.c (.bool false)))])
 (.seq (.ops 19 3 [mM 0 10 0, nO 1 11 10, mM 2 3 11])
 (.seq (.seq
 (.ops 22 3 [mM 0 12 0, nO 1 13 12, mI 2 14 0])
 (.block 0
 (.loop [(0, 0), (3, 0), (12, 0), (13, 0), (14, 0)]
 (.seq (.ops 25 1 [bT 0 15 .lss 14 13])
 (.seq (.cond (.t 15) .skip
 (.exit 0))
 (.seq (.block 1
 (.seq (.ops 26 6 [mM 0 16 14, xO 1 17 2 12 14, lO 2 18 false true 2 17, oO 3 5 (.new 2 (.agg [(.int .i64 0), (.int .i64 0)])), mM 4 4 16, sT 5 true 2 5 18])
 (.seq (.ops 32 5 [mM 0 19 0, mM 1 20 4, oB 2 21 3 5 (.slsl 2 (.t 19) none (some (.t 20)) none), lB 3 22 0 5 true true 2 5, oB 4 23 15 5 (.callF q4F [(.t 21), (.t 22)])])
 (.cond (.t 23)
 (.seq (.ops 37 1 [oO 0 2 (.mov (.c (.bool false)))]) .ret) .skip))))
 (.ops 38 2 [bC 0 24 .add 14 1, mM 1 14 24])))))))
 (.seq (.seq
 (.ops 40 3 [mM 0 25 0, nO 1 26 25, mI 2 27 0])
 (.block 2
 (.loop [(0, 0), (3, 0), (25, 0), (26, 0), (27, 0)]
 (.seq (.ops 43 1 [bT 0 28 .lss 27 26])
 (.seq (.cond (.t 28) .skip
 (.exit 2))
 (.seq (.block 3
 (.seq (.ops 44 6 [mM 0 29 27, xO 1 30 2 25 27, lO 2 31 false true 2 30, oO 3 7 (.new 2 (.agg [(.int .i64 0), (.int .i64 0)])), mM 4 6 29, sT 5 true 2 7 31])
 (.seq (.ops 50 9 [mM 0 32 0, mM 1 33 6, bC 2 34 .add 33 1, mM 3 35 3, bT 4 36 .rem 34 35, xO 5 37 2 32 36, lO 6 38 false true 2 37, oO 7 8 (.new 2 (.agg [(.int .i64 0), (.int .i64 0)])), sT 8 true 2 8 38])
 (.seq (.seq
 (.ops 59 10 [lB 0 39 0 10 true true 2 7, lB 1 40 0 10 true true 2 8, mM 2 41 0, mM 3 42 6, bC 4 43 .add 42 2, mM 5 44 3, bT 6 45 .rem 43 44, xB 7 46 124 10 2 41 45, lB 8 47 252 10 false true 2 46, oB 9 48 511 10 (.callF qaO [(.t 39), (.t 40), (.t 47)])])
 (.cond (.t 48)
 (.seq (.ops 69 1 [oO 0 2 (.mov (.c (.bool false)))]) .ret) .skip))
 (.seq (.ops 70 3 [mM 0 49 6, bC 1 50 .add 49 2, mM 2 9 50])
 (.block 4
 (.loop [(0, 0), (3, 0), (6, 0), (7, 0), (8, 0), (9, 0), (25, 0), (26, 0), (27, 0)]
 (.seq (.seq
 (.ops 73 11 [mM 0 51 9, mM 1 52 3, bT 2 53 .lss 51 52, mM 3 54 53, gM 4 55 54 true 9, gG 5 56 54 true (.bin .add .no (.t 55) (.c (.int .i64 1))), gM 6 57 54 true 3, gG 7 58 54 true (.bin .rem .no (.t 56) (.t 57)), gM 8 59 54 true 6, gG 9 60 54 true (.bin .neq .no (.t 58) (.t 59)), oO 10 61 (.pick (.t 54) (.t 60) (.c (.bool false)))])
 (.cond (.t 61) .skip
 (.exit 4)))
 (.seq (.block 5
 (.seq (.ops 84 14 [lB 0 64 0 14 true true 2 7, lB 1 65 0 14 true true 2 8, mM 2 66 0, mM 3 67 9, xB 4 68 12 14 2 66 67, lB 5 69 28 14 false true 2 68, mM 6 70 0, mM 7 71 9, bC 8 72 .add 71 1, mM 9 73 3, bT 10 74 .rem 72 73, xB 11 75 1984 14 2 70 74, lB 12 76 4032 14 false true 2 75, oB 13 77 8191 14 (.callF qdL [(.t 64), (.t 65), (.t 69), (.t 76)])])
 (.cond (.t 77)
 (.seq (.ops 98 1 [oO 0 2 (.mov (.c (.bool false)))]) .ret) .skip)))
 (.ops 99 3 [mM 0 62 9, bC 1 63 .add 62 1, mM 2 9 63]))))))))))
 (.ops 102 2 [bC 0 78 .add 27 1, mM 1 27 78])))))))
 (.seq (.ops 104 1 [oO 0 2 (.mov (.c (.bool true)))]) .ret))))),
 [.t 2]⟩
def q63 : KFn := ⟨
 (.seq (.ops 0 3 [oO 0 1 (.box 3 (.t 0)), mI 1 2 0, oO 2 3 (.mov (.c (.bool false)))])
 (.seq (.ops 3 8 [lO 0 7 true true 3 1, oO 1 8 (.callF qeW [(.t 7)]), oO 2 9 (.callF q8j [(.t 8)]), mM 3 6 9, eO 4 10 6 0, eO 5 11 6 1, mM 6 4 10, mM 7 5 11])
 (.seq (.ops 11 12 [mM 0 12 4, mM 1 13 5, mM 2 14 13, gM 3 15 14 true 4, gG 4 16 14 true (.bin .geq .no (.t 15) (.c (.int .i64 (-1048576)))), oO 5 17 (.pick (.t 14) (.t 16) (.c (.bool false))), mM 6 18 17, gM 7 19 18 true 4, gG 8 20 18 true (.bin .leq .no (.t 19) (.c (.int .i64 1048576))), oO 9 21 (.pick (.t 18) (.t 20) (.c (.bool false))), mM 10 2 12, mM 11 3 21]) .ret))),
 [.t 2, .t 3]⟩
def q64 : KFn := ⟨
 (.seq (.ops 0 3 [oO 0 2 (.box 2 (.t 0)), oO 1 3 (.box 2 (.t 1)), mI 2 4 0])
 (.seq (.ops 3 12 [fO 0 7 0 3, lB 1 8 1 12 true false 1 7, fO 2 9 0 2, lB 3 10 4 12 true false 1 9, bT 4 11 .sub 8 10, fO 5 12 1 3, lB 6 13 32 12 true false 1 12, fO 7 14 1 2, lB 8 15 128 12 true false 1 14, bT 9 16 .sub 13 15, mM 10 5 11, mM 11 6 16])
 (.seq (.ops 15 10 [mM 0 17 5, mM 1 18 5, bT 2 19 .mul 17 18, mM 3 20 6, mM 4 21 6, bT 5 22 .mul 20 21, bT 6 23 .add 19 22, oO 7 24 (.bin .mul .no (.c (.int .i64 1000000)) (.t 23)), oO 8 25 (.callF qci [(.t 24)]), mM 9 4 25]) .ret))),
 [.t 4]⟩
def qcU : KFn := ⟨
 (.seq (.ops 0 2 [oO 0 1 (.box 2 (.t 0)), oO 1 2 (.new 2 (.agg [(.bool false), (.int .i64 0)]))])
 (.seq (.ops 2 7 [fO 0 3 0 1, lO 1 4 true false 1 3, fO 2 5 1 1, lO 3 6 true false 1 5, bC 4 7 .and 6 3, oO 5 8 (.build [(.bool false), (.int .i64 0)] [(0, 1, (.t 4)), (1, 1, (.t 7))]), sT 6 true 2 2 8]) .ret)),
 [.cell 2 true 2]⟩
def q8T : KFn := ⟨
 (.seq (.ops 10 1 [mI 0 2 0])
 (.seq (.ops 11 1 [mI 0 3 0])
 (.seq (.seq
 (.ops 12 3 [mM 0 7 0, nO 1 8 7, mI 2 9 0])
 (.block 0
 (.loop [(0, 0), (3, 0), (7, 0), (8, 0), (9, 0)]
 (.seq (.ops 15 1 [bT 0 10 .lss 9 8])
 (.seq (.cond (.t 10) .skip
 (.exit 0))
 (.seq (.block 1
 (.seq (.ops 16 6 [mM 0 11 9, xO 1 12 2 7 9, lO 2 13 false true 2 12, oO 3 5 (.new 2 (.agg [(.int .i64 0), (.int .i64 0)])), mM 4 4 11, sT 5 true 2 5 13])
 (.seq (.ops 22 10 [mM 0 14 0, mM 1 15 4, bC 2 16 .add 15 1, mM 3 17 0, nO 4 18 17, bT 5 19 .rem 16 18, xO 6 20 2 14 19, lO 7 21 false true 2 20, oO 8 6 (.new 2 (.agg [(.int .i64 0), (.int .i64 0)])), sT 9 true 2 6 21])
 (.ops 32 14 [mM 0 22 3, fO 1 23 0 5, lO 2 24 true false 1 23, fO 3 25 1 6, lO 4 26 true false 1 25, bT 5 27 .mul 24 26, fO 6 28 1 5, lO 7 29 true false 1 28, fO 8 30 0 6, lO 9 31 true false 1 30, bT 10 32 .mul 29 31, bT 11 33 .sub 27 32, bT 12 34 .add 22 33, mM 13 3 34]))))
 (.ops 46 2 [bC 0 35 .add 9 1, mM 1 9 35])))))))
 (.seq (.ops 48 2 [mM 0 36 3, mM 1 2 36]) .ret)))),
 [.t 2]⟩
def q8U : KFn := ⟨
 (.seq (.ops 0 1 [mI 0 4 0])
 (.seq (.ops 1 3 [mM 0 6 0, nO 1 7 6, mM 2 5 7])
 (.seq (.ops 4 22 [mM 0 8 0, mM 1 9 1, mM 2 10 5, bT 3 11 .add 9 10, bC 4 12 .sub 11 1, mM 5 13 5, bT 6 14 .rem 12 13, xB 7 15 127 22 2 8 14, lB 8 16 255 22 false true 2 15, mM 9 17 0, mM 10 18 1, xB 11 19 1536 22 2 17 18, lB 12 20 3584 22 false true 2 19, mM 13 21 0, mM 14 22 1, bC 15 23 .add 22 1, mM 16 24 5, bT 17 25 .rem 23 24, xB 18 26 253952 22 2 21 25, lB 19 27 516096 22 false true 2 26, oB 20 28 1048575 22 (.callF q1Y [(.t 16), (.t 20), (.t 27)]), mM 21 4 28]) .ret))),
 [.t 4]⟩
def q3c : KFn := ⟨
 (.seq (.ops 10 1 [oO 0 2 (.mov (.c .nilsl))])
 (.seq (.ops 11 1 [mI 0 3 0])
 (.seq (.seq
 (.ops 12 3 [mM 0 9 0, nO 1 10 9, mI 2 11 0])
 (.block 0
 (.loop [(0, 0), (3, 0), (9, 0), (10, 0), (11, 0)]
 (.seq (.ops 15 1 [bT 0 12 .lss 11 10])
 (.seq (.cond (.t 12) .skip
 (.exit 0))
 (.seq (.block 1
 (.seq (.ops 16 3 [xO 0 13 1 9 11, lO 1 14 false false 1 13, mM 2 5 14])
 (.seq (.ops 19 5 [mM 0 15 3, mM 1 16 5, nO 2 17 16, bT 3 18 .add 15 17, mM 4 3 18])
 (.seq (.ops 24 2 [mM 0 19 3, bC 1 20 .lss 19 0])
 (.cond (.t 20)
 (.ops 26 2 [oO 0 21 (.stuck), ⟨1, none, none, .all, .stuck⟩]) .skip)))))
 (.ops 28 2 [bC 0 22 .add 11 1, mM 1 11 22])))))))
 (.seq (.ops 30 3 [mM 0 23 3, oO 1 24 (.callF qaP [(.c .nilsl), (.t 23)]), mM 2 6 24])
 (.seq (.seq
 (.ops 60 3 [mM 0 25 0, nO 1 26 25, mI 2 27 0])
 (.block 2
 (.loop [(6, 2), (25, 0), (26, 0), (27, 0)]
 (.seq (.ops 63 1 [bT 0 28 .lss 27 26])
 (.seq (.cond (.t 28) .skip
 (.exit 2))
 (.seq (.block 3
 (.seq (.ops 64 3 [xO 0 29 1 25 27, lO 1 30 false false 1 29, mM 2 8 30])
 (.ops 67 4 [mM 0 31 6, mM 1 32 8, oO 2 33 (.append ⟨2, 16, (.agg [(.int .i64 0), (.int .i64 0)])⟩ .sl (.t 31) (.t 32)), mM 3 6 33])))
 (.ops 71 2 [bC 0 34 .add 27 1, mM 1 27 34])))))))
 (.seq (.ops 73 2 [mM 0 35 6, mM 1 2 35]) .ret)))))),
 [.t 2]⟩
def q6F : KFn := ⟨
 (.seq (.ops 0 1 [mI 0 4 0])
 (.seq (.ops 1 3 [mM 0 7 0, oO 1 8 (.callF q5R [(.t 7)]), mM 2 5 8])
 (.seq (.ops 4 3 [mM 0 9 1, oO 1 10 (.callF q5R [(.t 9)]), mM 2 6 10])
 (.seq (.seq
 (.ops 7 1 [mM 0 11 5])
 (.cond (.t 11)
 (.seq (.seq
 (.ops 8 1 [mM 0 12 6])
 (.cond (.t 12)
 (.seq (.ops 9 1 [mI 0 4 0]) .ret) .skip))
 (.seq (.ops 10 1 [mI 0 4 (-1)]) .ret)) .skip))
 (.seq (.seq
 (.ops 11 1 [mM 0 13 6])
 (.cond (.t 13)
 (.seq (.ops 12 1 [mI 0 4 1]) .ret) .skip))
 (.seq (.seq
 (.ops 13 3 [mM 0 14 0, mM 1 15 1, bT 2 16 .lss 14 15])
 (.cond (.t 16)
 (.seq (.ops 16 1 [mI 0 4 (-1)]) .ret) .skip))
 (.seq (.seq
 (.ops 17 3 [mM 0 17 0, mM 1 18 1, bT 2 19 .gtr 17 18])
 (.cond (.t 19)
 (.seq (.ops 20 1 [mI 0 4 1]) .ret) .skip))
 (.seq (.ops 21 1 [mI 0 4 0]) .ret)))))))),
 [.t 4]⟩
def qcY : KFn := ⟨
 (.seq (.ops 0 3 [oO 0 2 (.box 6 (.t 0)), oO 1 3 (.box 6 (.t 1)), oO 2 4 (.new 6 (.agg [(.bool false), .nilsl, .nilsl, (.bool false), .nilsl, .nilsl]))])
 (.seq (.ops 3 12 [fO 0 5 0 2, lB 1 6 1 12 true true 3 5, fO 2 7 0 3, lB 3 8 4 12 true true 3 7, oB 4 9 15 12 (.callF q9J [(.t 6), (.t 8)]), fO 5 10 3 2, lB 6 11 32 12 true true 3 10, fO 7 12 3 3, lB 8 13 128 12 true true 3 12, oB 9 14 511 12 (.callF q9J [(.t 11), (.t 13)]), oO 10 15 (.build [(.bool false), .nilsl, .nilsl, (.bool false), .nilsl, .nilsl] [(0, 3, (.t 9)), (3, 3, (.t 14))]), ⟨11, none, none, (.bef 2047 12), .store true 6 (.t 4) (.t 15)⟩]) .ret)),
 [.cell 4 true 6]⟩
def qbn : KFn := ⟨
 (.seq (.ops 12 1 [oO 0 2 (.mov (.c (.bool false)))])
 (.seq (.ops 13 3 [mM 0 9 0, nO 1 10 9, mM 2 3 10])
 (.seq (.seq
 (.ops 16 1 [mI 0 4 0])
 (.block 0
 (.loop [(0, 0), (3, 0), (4, 0)]
 (.seq (.seq
 (.ops 17 3 [mM 0 11 4, mM 1 12 3, bT 2 13 .lss 11 12])
 (.cond (.t 13) .skip
 (.exit 0)))
 (.seq (.block 1
 (.seq (.ops 20 15 [mM 0 16 0, mM 1 17 4, xB 2 18 3 15 2 16 17, lB 3 19 7 15 false true 2 18, mM 4 20 0, mM 5 21 4, bC 6 22 .add 21 1, mM 7 23 3, bT 8 24 .rem 22 23, xB 9 25 496 15 2 20 24, lB 10 26 1008 15 false true 2 25, oB 11 5 0 15 (.new 2 (.agg [(.int .i64 0), (.int .i64 0)])), oB 12 6 0 15 (.new 2 (.agg [(.int .i64 0), (.int .i64 0)])), ⟨13, none, none, (.init 11), .store true 2 (.t 5) (.t 19)⟩, ⟨14, none, none, (.init 12), .store true 2 (.t 6) (.t 26)⟩])
 (.seq (.ops 35 9 [mM 0 27 0, mM 1 28 4, bC 2 29 .add 28 2, mM 3 30 3, bT 4 31 .rem 29 30, xO 5 32 2 27 31, lO 6 33 false true 2 32, oO 7 7 (.new 2 (.agg [(.int .i64 0), (.int .i64 0)])), sT 8 true 2 7 33])
 (.seq (.seq
 (.ops 44 15 [lO 0 34 true true 2 5, lO 1 35 true true 2 6, oO 2 36 (.bin .eql (.flat [.int, .int]) (.t 34) (.t 35)), mM 3 37 36, gG 4 38 37 false (.load true true 2 (.t 5)), gG 5 39 37 false (.load true true 2 (.t 6)), gG 6 40 37 false (.load true true 2 (.t 7)), gG 7 41 37 false (.callF q2T [(.t 38), (.t 39), (.t 40)]), oO 8 42 (.pick (.t 37) (.c (.bool true)) (.t 41)), mM 9 43 42, gG 10 44 43 false (.load true true 2 (.t 6)), gG 11 45 43 false (.load true true 2 (.t 7)), gG 12 46 43 false (.load true true 2 (.t 5)), gG 13 47 43 false (.callF q2T [(.t 44), (.t 45), (.t 46)]), oO 14 48 (.pick (.t 43) (.c (.bool true)) (.t 47))])
 (.cond (.t 48)
 (.seq (.ops 59 1 [oO 0 2 (.mov (.c (.bool false)))]) .ret) .skip))
 (.seq (.ops 60 3 [mM 0 49 4, bC 1 50 .add 49 2, mM 2 8 50])
 (.block 2
 (.loop [(0, 0), (3, 0), (4, 0), (5, 0), (6, 0), (8, 0)]
 (.seq (.seq
 (.ops 63 3 [mM 0 51 8, mM 1 52 3, bT 2 53 .lss 51 52])
 (.cond (.t 53) .skip
 (.exit 2)))
 (.seq (.block 3
 (.seq (.ops 66 22 [mM 0 56 8, bC 1 57 .add 56 1, mM 2 58 3, bT 3 59 .rem 57 58, mM 4 60 4, bT 5 61 .neq 59 60, mM 6 62 61, ⟨7, some 63, some (62, true), (.bef 127 22), .load true true 2 (.t 5)⟩, ⟨8, some 64, some (62, true), (.bef 127 22), .load true true 2 (.t 6)⟩, gM 9 65 62 true 0, gM 10 66 62 true 8, ⟨11, some 67, some (62, true), (.bef 1663 22), .ixs 2 (.t 65) (.t 66)⟩, ⟨12, some 68, some (62, true), (.bef 3711 22), .load false true 2 (.t 67)⟩, gM 13 69 62 true 0, gM 14 70 62 true 8, gG 15 71 62 true (.bin .add .no (.t 70) (.c (.int .i64 1))), gM 16 72 62 true 3, gG 17 73 62 true (.bin .rem .no (.t 71) (.t 72)), ⟨18, some 74, some (62, true), (.bef 254079 22), .ixs 2 (.t 69) (.t 73)⟩, ⟨19, some 75, some (62, true), (.bef 516223 22), .load false true 2 (.t 74)⟩, ⟨20, some 76, some (62, true), (.bef 1048575 22), .callF qk7 [(.t 63), (.t 64), (.t 68), (.t 75)]⟩, oO 21 77 (.pick (.t 62) (.t 76) (.c (.bool false)))])
 (.cond (.t 77)
 (.seq (.ops 88 1 [oO 0 2 (.mov (.c (.bool false)))]) .ret) .skip)))
 (.ops 89 3 [mM 0 54 8, bC 1 55 .add 54 1, mM 2 8 55]))))))))))
 (.ops 92 3 [mM 0 14 4, bC 1 15 .add 14 1, mM 2 4 15]))))))
 (.seq (.ops 95 1 [oO 0 2 (.mov (.c (.bool true)))]) .ret)))),
 [.t 2]⟩
def qd0 : KFn := ⟨
 (.seq (.ops 0 1 [oO 0 2 (.new 3 (.agg [(.bool false), .nilsl, .nilsl]))])
 (.seq (.ops 1 8 [mM 0 6 0, oO 1 7 (.callF qk8 [(.t 6), (.c (.int .i64 1))]), mM 2 5 7, eO 3 8 5 0, eO 4 9 5 1, oO 5 3 (.new 3 (.agg [(.bool false), .nilsl, .nilsl])), sT 6 true 3 3 8, mM 7 4 9])
 (.seq (.ops 9 2 [lO 0 10 true true 3 3, sT 1 true 3 2 10]) .ret))),
 [.cell 2 true 3]⟩
def q89 : KFn := ⟨
 (.seq (.ops 0 2 [oO 0 1 (.box 6 (.t 0)), mI 1 2 0])
 (.seq (.ops 2 3 [lO 0 3 true true 6 1, oO 1 4 (.callF q8k [(.t 3), (.c (.int .i64 1))]), mM 2 2 4]) .ret)),
 [.t 2]⟩
def q65 : KFn := ⟨
 (.seq (.ops 0 2 [oO 0 1 (.box 2 (.t 0)), oO 1 2 (.mov (.c (.bool false)))])
 (.seq (.ops 2 19 [fO 0 3 0 1, lO 1 4 true false 1 3, bC 2 5 .lss 4 (-1048576), mM 3 6 5, gG 4 7 6 false (.off 0 (.t 1)), gG 5 8 6 false (.load true false 1 (.t 7)), gG 6 9 6 false (.bin .gtr .no (.t 8) (.c (.int .i64 1048576))), oO 7 10 (.pick (.t 6) (.c (.bool true)) (.t 9)), mM 8 11 10, gG 9 12 11 false (.off 1 (.t 1)), gG 10 13 11 false (.load true false 1 (.t 12)), gG 11 14 11 false (.bin .lss .no (.t 13) (.c (.int .i64 (-1048576)))), oO 12 15 (.pick (.t 11) (.c (.bool true)) (.t 14)), mM 13 16 15, gG 14 17 16 false (.off 1 (.t 1)), gG 15 18 16 false (.load true false 1 (.t 17)), gG 16 19 16 false (.bin .gtr .no (.t 18) (.c (.int .i64 1048576))), oO 17 20 (.pick (.t 16) (.c (.bool true)) (.t 19)), mM 18 2 20]) .ret)),
 [.t 2]⟩
def qd1 : KFn := ⟨
 (.seq (.ops 0 1 [oO 0 2 (.mov (.c (.bool false)))])
 (.seq (.ops 1 7 [mM 0 3 0, oO 1 4 (.bin .geq .no (.t 3) (.c (.int .u8 48))), mM 2 5 4, gM 3 6 5 true 0, gG 4 7 5 true (.bin .leq .no (.t 6) (.c (.int .u8 57))), oO 5 8 (.pick (.t 5) (.t 7) (.c (.bool false))), mM 6 2 8]) .ret)),
 [.t 2]⟩
def qhj : KFn := ⟨
 (.seq (.ops 4 1 [oO 0 2 (.mov (.c (.bool false)))])
 (.seq (.seq
 (.ops 5 1 [mI 0 3 0])
 (.block 0
 (.loop [(0, 0), (3, 0)]
 (.seq (.seq
 (.ops 6 4 [mM 0 4 3, mM 1 5 0, nO 2 6 5, bT 3 7 .lss 4 6])
 (.cond (.t 7) .skip
 (.exit 0)))
 (.seq (.block 1
 (.seq (.ops 10 14 [mM 0 10 0, mM 1 11 3, xO 2 12 2 10 11, fO 3 13 0 12, lO 4 14 false false 1 13, oO 5 15 (.callF qez [(.t 14)]), mM 6 16 15, gM 7 17 16 false 0, gM 8 18 16 false 3, gG 9 19 16 false (.ixs 2 (.t 17) (.t 18)), gG 10 20 16 false (.off 1 (.t 19)), gG 11 21 16 false (.load false false 1 (.t 20)), gG 12 22 16 false (.callF qez [(.t 21)]), oO 13 23 (.pick (.t 16) (.c (.bool true)) (.t 22))])
 (.cond (.t 23)
 (.seq (.ops 24 1 [oO 0 2 (.mov (.c (.bool true)))]) .ret) .skip)))
 (.ops 25 3 [mM 0 8 3, bC 1 9 .add 8 1, mM 2 3 9]))))))
 (.seq (.ops 28 1 [oO 0 2 (.mov (.c (.bool false)))]) .ret))),
 [.t 2]⟩
def q4k : KFn := ⟨
 (.seq (.ops 10 2 [oO 0 4 (.mov (.c .nilsl)), mI 1 5 0])
 (.seq (.seq
 (.ops 12 3 [mM 0 10 0, oO 1 11 (.callF qan [(.t 10)]), oO 2 12 (.un .not (.t 11))])
 (.cond (.t 12)
 (.seq (.ops 15 2 [oO 0 4 (.mov (.c .nilsl)), mI 1 5 1]) .ret) .skip))
 (.seq (.seq
 (.ops 17 6 [mM 0 13 1, bC 1 14 .lss 13 1, mM 2 15 14, gM 3 16 15 false 1, gG 4 17 15 false (.bin .gtr .no (.t 16) (.c (.int .i64 39))), oO 5 18 (.pick (.t 15) (.c (.bool true)) (.t 17))])
 (.cond (.t 18)
 (.seq (.ops 23 2 [oO 0 4 (.mov (.c .nilsl)), mI 1 5 3]) .ret) .skip))
 (.seq (.ops 25 4 [mM 0 19 1, bC 1 20 .add 19 1, oO 2 21 (.mkslice ⟨6, 112, (.agg [(.bool false), .nilsl, .nilsl, (.bool false), .nilsl, .nilsl])⟩ (.t 20) (.t 20)), mM 3 6 21])
 (.seq (.seq
 (.ops 29 3 [mM 0 22 6, nO 1 23 22, mI 2 24 0])
 (.block 0
 (.loop [(0, 0), (1, 0), (6, 0), (23, 0), (24, 0)]
 (.seq (.ops 32 1 [bT 0 25 .lss 24 23])
 (.seq (.cond (.t 25) .skip
 (.exit 0))
 (.seq (.block 1
 (.seq (.ops 33 2 [mM 0 26 24, mM 1 7 26])
 (.seq (.ops 35 9 [mM 0 28 7, mM 1 29 1, oO 2 30 (.callF q9g [(.t 28), (.t 29)]), mM 3 27 30, eO 4 31 27 0, eO 5 32 27 1, oO 6 8 (.new 3 (.agg [(.bool false), .nilsl, .nilsl])), sT 7 true 3 8 31, mM 8 9 32])
 (.ops 44 10 [mM 0 34 6, mM 1 35 7, mM 2 36 0, lO 3 37 true true 3 8, oO 4 38 (.callF qk9 [(.t 36), (.t 37)]), mM 5 33 38, eO 6 39 33 0, eO 7 40 33 1, xO 8 41 6 34 35, sT 9 false 6 41 39]))))
 (.ops 54 2 [bC 0 42 .add 24 1, mM 1 24 42])))))))
 (.seq (.ops 56 3 [mM 0 43 6, mM 1 4 43, mI 2 5 0]) .ret)))))),
 [.t 4, .t 5]⟩
end Go.F
