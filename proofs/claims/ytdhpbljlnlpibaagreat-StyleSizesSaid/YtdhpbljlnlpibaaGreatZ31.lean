/- Parts of the proof, part 31: Code1. -/
import Derived.Test.YtdhpbljlnlpibaaGreatZ30
set_option linter.all false
namespace Go.F
def q5L : KFn := ⟨
 (.seq (.ops 0 2 [oO 0 3 (.box 7 (.t 0)), oO 1 6 (.mov (.c (.bool false)))])
 (.seq (.seq
 (.ops 2 8 [lO 0 16 true true 7 3, oO 1 17 (.callF q2O [(.t 16)]), oO 2 18 (.un .not (.t 17)), mM 3 19 18, gG 4 20 19 false (.load true true 7 (.t 3)), gG 5 21 19 false (.callF q0W [(.t 20)]), gG 6 22 19 false (.bin .neq .no (.t 21) (.c (.int .i64 0))), oO 7 23 (.pick (.t 19) (.c (.bool true)) (.t 22))])
 (.cond (.t 23)
 (.seq (.ops 10 2 [oO 0 24 (.callF q0X []), mM 1 6 24]) .ret) .skip))
 (.seq (.ops 12 9 [lO 0 26 true true 7 3, mM 1 27 1, mM 2 28 2, oO 3 29 (.callF q48 [(.t 26), (.t 27), (.t 28)]), mM 4 25 29, eO 5 30 25 0, eO 6 31 25 1, mM 7 7 30, mM 8 8 31])
 (.seq (.ops 21 10 [lO 0 33 true true 7 3, mM 1 34 1, mM 2 35 2, oO 3 36 (.callF q49 [(.t 33), (.t 34), (.t 35)]), mM 4 32 36, eO 5 37 32 0, eO 6 38 32 1, oO 7 9 (.new 2 (.agg [(.int .i64 0), (.int .i64 0)])), sT 8 true 2 9 37, mM 9 10 38])
 (.seq (.seq
 (.ops 31 48 [mM 0 39 1, bC 1 40 .lss 39 0, mM 2 41 40, gM 3 42 41 false 1, gG 4 43 41 false (.off 1 (.t 3)), ⟨5, some 44, some (41, false), (.bef 23 48), .load true false 1 (.t 43)⟩, ⟨6, some 45, some (41, false), (.bef 55 48), .len .sl (.t 44)⟩, gG 7 46 41 false (.bin .geq .no (.t 42) (.t 45)), oO 8 47 (.pick (.t 41) (.c (.bool true)) (.t 46)), mM 9 48 47, gM 10 49 48 false 2, gG 11 50 48 false (.bin .lss .no (.t 49) (.c (.int .i64 0))), oO 12 51 (.pick (.t 48) (.c (.bool true)) (.t 50)), mM 13 52 51, gM 14 53 52 false 2, gG 15 54 52 false (.off 4 (.t 3)), ⟨16, some 55, some (52, false), (.bef 49151 48), .load true false 1 (.t 54)⟩, ⟨17, some 56, some (52, false), (.bef 114687 48), .len .sl (.t 55)⟩, gG 18 57 52 false (.bin .geq .no (.t 53) (.t 56)), oO 19 58 (.pick (.t 52) (.c (.bool true)) (.t 57)), mM 20 59 58, gM 21 60 59 false 1, gG 22 61 59 false (.off 2 (.t 3)), ⟨23, some 62, some (59, false), (.bef 6291455 48), .load true false 1 (.t 61)⟩, ⟨24, some 63, some (59, false), (.bef 14680063 48), .len .sl (.t 62)⟩, gG 25 64 59 false (.bin .geq .no (.t 60) (.t 63)), oO 26 65 (.pick (.t 59) (.c (.bool true)) (.t 64)), mM 27 66 65, gG 28 67 66 false (.off 4 (.t 3)), ⟨29, some 68, some (66, false), (.bef 536870911 48), .load true false 1 (.t 67)⟩, gM 30 69 66 false 2, ⟨31, some 70, some (66, false), (.bef 2147483647 48), .ixs 3 (.t 68) (.t 69)⟩, gG 32 71 66 false (.off 0 (.t 70)), ⟨33, some 72, some (66, false), (.bef 8589934591 48), .load false false 1 (.t 71)⟩, gG 34 73 66 false (.bin .lss .no (.t 72) (.c (.int .i64 0))), oO 35 74 (.pick (.t 66) (.c (.bool true)) (.t 73)), mM 36 75 74, gG 37 76 75 false (.off 4 (.t 3)), ⟨38, some 77, some (75, false), (.bef 274877906943 48), .load true false 1 (.t 76)⟩, gM 39 78 75 false 2, ⟨40, some 79, some (75, false), (.bef 1099511627775 48), .ixs 3 (.t 77) (.t 78)⟩, gG 41 80 75 false (.off 0 (.t 79)), ⟨42, some 81, some (75, false), (.bef 4398046511103 48), .load false false 1 (.t 80)⟩, gG 43 82 75 false (.off 3 (.t 3)), ⟨44, some 83, some (75, false), (.bef 8933531975679 48), .load true false 1 (.t 82)⟩, ⟨45, some 84, some (75, false), (.bef 26525718020095 48), .len .sl (.t 83)⟩, gG 46 85 75 false (.bin .geq .no (.t 81) (.t 84)), oO 47 86 (.pick (.t 75) (.c (.bool true)) (.t 85))])
 (.cond (.t 86)
 (.seq (.ops 79 10 [mM 0 87 8, bC 1 88 .eql 87 3, mM 2 89 88, gM 3 90 89 true 10, gG 4 91 89 true (.bin .eql .no (.t 90) (.c (.int .i64 3))), oO 5 92 (.pick (.t 89) (.t 91) (.c (.bool false))), mM 6 93 92, gG 7 94 93 true (.callF q0X []), oO 8 95 (.pick (.t 93) (.t 94) (.c (.bool false))), mM 9 6 95]) .ret) .skip))
 (.seq (.ops 89 12 [fO 0 96 3 3, lB 1 97 1 12 true false 1 96, fO 2 98 4 3, lB 3 99 4 12 true false 1 98, mM 4 100 2, xB 5 101 28 12 3 99 100, fO 6 102 0 101, lB 7 103 124 12 false false 1 102, xB 8 104 255 12 7 97 103, lB 9 105 511 12 false true 7 104, ⟨10, some 11, none, (.bef 0 12), .new 7 (.agg [(.str ⟨#[]⟩), .nilsl, (.int .i64 0), .nilsl, .nilsl, .nilsl, (.bool false)])⟩, ⟨11, none, none, (.init 10), .store true 7 (.t 11) (.t 105)⟩])
 (.seq (.ops 101 12 [lB 0 107 0 12 true true 7 11, fO 1 108 2 3, lB 2 109 2 12 true false 1 108, mM 3 110 1, xB 4 111 14 12 1 109 110, lB 5 112 30 12 false false 1 111, oB 6 113 63 12 (.callF q4a [(.t 107), (.t 112)]), mM 7 106 113, eO 8 114 106 0, eO 9 115 106 1, mM 10 12 114, mM 11 13 115])
 (.seq (.seq
 (.ops 113 2 [mM 0 116 13, bC 1 117 .neq 116 0])
 (.cond (.t 117)
 (.seq (.ops 115 17 [mM 0 118 8, mM 1 119 13, bT 2 120 .eql 118 119, mM 3 121 120, gM 4 122 121 true 10, gM 5 123 121 true 13, gG 6 124 121 true (.bin .eql .no (.t 122) (.t 123)), oO 7 125 (.pick (.t 121) (.t 124) (.c (.bool false))), mM 8 126 125, gM 9 127 126 true 7, gG 10 128 126 true (.len .sl (.t 127)), gG 11 129 126 true (.bin .eql .no (.t 128) (.c (.int .i64 0))), oO 12 130 (.pick (.t 126) (.t 129) (.c (.bool false))), mM 13 131 130, gG 14 132 131 true (.callF q0X []), oO 15 133 (.pick (.t 131) (.t 132) (.c (.bool false))), mM 16 6 133]) .ret) .skip))
 (.seq (.ops 132 9 [mM 0 135 12, fO 1 136 5 11, lO 2 137 true false 1 136, oO 3 138 (.callF q5Z [(.t 135), (.t 137)]), mM 4 134 138, eO 5 139 134 0, eO 6 140 134 1, mM 7 14 139, mM 8 15 140])
 (.seq (.seq
 (.ops 141 11 [mM 0 141 12, nO 1 142 141, bC 2 143 .eql 142 0, mM 3 144 143, gM 4 145 144 false 12, gG 5 146 144 false (.ixs 2 (.t 145) (.c (.int .i64 0))), gG 6 147 144 false (.off 1 (.t 146)), gG 7 148 144 false (.load false false 1 (.t 147)), gG 8 149 144 false (.len .sl (.t 148)), gG 9 150 144 false (.bin .eql .no (.t 149) (.c (.int .i64 0))), oO 10 151 (.pick (.t 144) (.c (.bool true)) (.t 150))])
 (.cond (.t 151)
 (.seq (.ops 152 1 [oO 0 6 (.mov (.c (.bool false)))]) .ret) .skip))
 (.seq (.ops 153 26 [mM 0 152 8, mM 1 153 15, bT 2 154 .eql 152 153, mM 3 155 154, gM 4 156 155 true 7, gM 5 157 155 true 14, ⟨6, some 158, some (155, true), (.bef 63 26), .callF q6y [(.t 156), (.t 157)]⟩, oO 7 159 (.pick (.t 155) (.t 158) (.c (.bool false))), mM 8 160 159, gM 9 161 160 true 10, gG 10 162 160 true (.bin .eql .no (.t 161) (.c (.int .i64 0))), oO 11 163 (.pick (.t 160) (.t 162) (.c (.bool false))), mM 12 164 163, ⟨13, some 165, some (164, true), (.bef 8191 26), .load true true 2 (.t 9)⟩, gM 14 166 164 true 12, ⟨15, some 167, some (164, true), (.bef 24575 26), .ixs 2 (.t 166) (.c (.int .i64 0))⟩, gG 16 168 164 true (.off 1 (.t 167)), ⟨17, some 169, some (164, true), (.bef 122879 26), .load false false 1 (.t 168)⟩, ⟨18, some 170, some (164, true), (.bef 253951 26), .ixs 2 (.t 169) (.c (.int .i64 0))⟩, ⟨19, some 171, some (164, true), (.bef 516095 26), .load false true 2 (.t 170)⟩, gG 20 172 164 true (.bin .eql (.flat [.int, .int]) (.t 165) (.t 171)), oO 21 173 (.pick (.t 164) (.t 172) (.c (.bool false))), mM 22 174 173, ⟨23, some 175, some (174, true), (.bef 8388607 26), .callF q0X []⟩, oO 24 176 (.pick (.t 174) (.t 175) (.c (.bool false))), mM 25 6 176]) .ret))))))))))),
 [.t 6]⟩
def q9X : KFn := ⟨
 (.seq (.ops 12 2 [oO 0 3 (.box 7 (.t 0)), oO 1 6 (.mov (.c (.bool false)))])
 (.seq (.seq
 (.ops 14 23 [lO 0 17 true true 7 3, oO 1 18 (.callF q2O [(.t 17)]), oO 2 19 (.un .not (.t 18)), mM 3 20 19, gG 4 21 20 false (.load true true 7 (.t 3)), gG 5 22 20 false (.callF q0W [(.t 21)]), gG 6 23 20 false (.bin .neq .no (.t 22) (.c (.int .i64 0))), oO 7 24 (.pick (.t 20) (.c (.bool true)) (.t 23)), mM 8 25 24, gG 9 26 25 false (.off 1 (.t 3)), gG 10 27 25 false (.load true false 1 (.t 26)), gG 11 28 25 false (.len .sl (.t 27)), gG 12 29 25 false (.bin .lss .no (.t 28) (.c (.int .i64 2))), oO 13 30 (.pick (.t 25) (.c (.bool true)) (.t 29)), mM 14 31 30, gG 15 32 31 false (.off 2 (.t 3)), gG 16 33 31 false (.load true false 1 (.t 32)), gG 17 34 31 false (.len .sl (.t 33)), gG 18 35 31 false (.off 1 (.t 3)), gG 19 36 31 false (.load true false 1 (.t 35)), gG 20 37 31 false (.len .sl (.t 36)), gG 21 38 31 false (.bin .neq .no (.t 34) (.t 37)), oO 22 39 (.pick (.t 31) (.c (.bool true)) (.t 38))])
 (.cond (.t 39)
 (.seq (.ops 37 2 [oO 0 40 (.callF q0X []), mM 1 6 40]) .ret) .skip))
 (.seq (.ops 39 7 [mM 0 41 1, oO 1 42 (.conv (.int .i64) (.t 41)), fO 2 43 1 3, lO 3 44 true false 1 43, nO 4 45 44, bT 5 46 .rem 42 45, mM 6 7 46])
 (.seq (.ops 46 3 [lO 0 47 true true 7 3, oO 1 8 (.new 7 (.agg [(.str ⟨#[]⟩), .nilsl, .nilsl, .nilsl, .nilsl, .nilsl, .nilsl])), sT 2 true 7 8 47])
 (.seq (.ops 49 14 [oB 0 48 0 14 (.buildSlice 1 0 [] []), fO 1 49 1 3, lB 2 50 2 14 true false 1 49, mM 3 51 7, oB 4 52 14 14 (.slsl 1 (.t 50) none (some (.t 51)) none), ⟨5, some 53, none, (.init 0), .append ⟨1, 16, (.str ⟨#[]⟩)⟩ .sl (.t 48) (.t 52)⟩, fO 6 54 1 3, lB 7 55 64 14 true false 1 54, mM 8 56 7, bC 9 57 .add 56 1, oB 10 58 960 14 (.slsl 1 (.t 55) (some (.t 57)) none none), ⟨11, some 59, none, (.bef 2047 14), .append ⟨1, 16, (.str ⟨#[]⟩)⟩ .sl (.t 53) (.t 58)⟩, fO 12 60 1 8, ⟨13, none, none, (.bef 8191 14), .store true 1 (.t 60) (.t 59)⟩])
 (.seq (.ops 63 14 [oB 0 61 0 14 (.buildSlice 1 0 [] []), fO 1 62 2 3, lB 2 63 2 14 true false 1 62, mM 3 64 7, oB 4 65 14 14 (.slsl 1 (.t 63) none (some (.t 64)) none), ⟨5, some 66, none, (.init 0), .append ⟨1, 8, (.int .i64 0)⟩ .sl (.t 61) (.t 65)⟩, fO 6 67 2 3, lB 7 68 64 14 true false 1 67, mM 8 69 7, bC 9 70 .add 69 1, oB 10 71 960 14 (.slsl 1 (.t 68) (some (.t 70)) none none), ⟨11, some 72, none, (.bef 2047 14), .append ⟨1, 8, (.int .i64 0)⟩ .sl (.t 66) (.t 71)⟩, fO 12 73 2 8, ⟨13, none, none, (.bef 8191 14), .store true 1 (.t 73) (.t 72)⟩])
 (.seq (.ops 77 1 [oO 0 9 (.mov (.c (.bool false)))])
 (.seq (.seq
 (.ops 78 1 [mI 0 10 0])
 (.block 0
 (.loop [(2, 0), (3, 0), (7, 0), (8, 0), (9, 0), (10, 0)]
 (.seq (.seq
 (.ops 79 5 [mM 0 74 10, fO 1 75 2 8, lO 2 76 true false 1 75, nO 3 77 76, bT 4 78 .lss 74 77])
 (.cond (.t 78) .skip
 (.exit 0)))
 (.seq (.block 1
 (.ops 84 10 [mM 0 81 9, mM 1 82 81, gG 2 83 82 false (.off 2 (.t 8)), gG 3 84 82 false (.load true false 1 (.t 83)), gM 4 85 82 false 10, gG 5 86 82 false (.ixs 1 (.t 84) (.t 85)), gG 6 87 82 false (.load false false 1 (.t 86)), gG 7 88 82 false (.bin .eql .no (.t 87) (.c (.int .i64 0))), oO 8 89 (.pick (.t 82) (.c (.bool true)) (.t 88)), mM 9 9 89]))
 (.ops 94 3 [mM 0 79 10, bC 1 80 .add 79 1, mM 2 10 80]))))))
 (.seq (.seq
 (.ops 97 2 [mM 0 90 9, oO 1 91 (.un .not (.t 90))])
 (.cond (.t 91)
 (.seq (.ops 99 7 [lO 0 92 true true 7 8, oO 1 93 (.callF q0W [(.t 92)]), bC 2 94 .eql 93 1, mM 3 95 94, gG 4 96 95 true (.callF q0X []), oO 5 97 (.pick (.t 95) (.t 96) (.c (.bool false))), mM 6 6 97]) .ret) .skip))
 (.seq (.seq
 (.ops 106 3 [lO 0 98 true true 7 8, oO 1 99 (.callF q0W [(.t 98)]), bC 2 100 .neq 99 0])
 (.cond (.t 100)
 (.seq (.ops 109 1 [oO 0 6 (.mov (.c (.bool false)))]) .ret) .skip))
 (.seq (.seq
 (.ops 110 1 [mI 0 11 0])
 (.block 2
 (.loop [(2, 0), (3, 0), (7, 0), (8, 0), (11, 0)]
 (.seq (.seq
 (.ops 111 5 [mM 0 101 11, fO 1 102 1 8, lO 2 103 true false 1 102, nO 3 104 103, bT 4 105 .lss 101 104])
 (.cond (.t 105) .skip
 (.exit 2)))
 (.seq (.block 3
 (.seq (.ops 116 2 [mM 0 108 11, mM 1 12 108])
 (.seq (.seq
 (.ops 118 3 [mM 0 109 11, mM 1 110 7, bT 2 111 .geq 109 110])
 (.cond (.t 111)
 (.ops 121 3 [mM 0 112 11, bC 1 113 .add 112 1, mM 2 12 113]) .skip))
 (.seq (.ops 124 9 [lO 0 115 true true 7 8, mM 1 116 11, mM 2 117 2, oO 3 118 (.callF q48 [(.t 115), (.t 116), (.t 117)]), mM 4 114 118, eO 5 119 114 0, eO 6 120 114 1, mM 7 13 119, mM 8 14 120])
 (.seq (.ops 133 9 [lO 0 122 true true 7 3, mM 1 123 12, mM 2 124 2, oO 3 125 (.callF q48 [(.t 122), (.t 123), (.t 124)]), mM 4 121 125, eO 5 126 121 0, eO 6 127 121 1, mM 7 15 126, mM 8 16 127])
 (.seq (.ops 142 9 [mM 0 128 14, mM 1 129 16, bT 2 130 .neq 128 129, mM 3 131 130, gM 4 132 131 false 13, gM 5 133 131 false 15, gG 6 134 131 false (.callF q6y [(.t 132), (.t 133)]), gG 7 135 131 false (.un .not (.t 134)), oO 8 136 (.pick (.t 131) (.c (.bool true)) (.t 135))])
 (.cond (.t 136)
 (.seq (.ops 151 1 [oO 0 6 (.mov (.c (.bool false)))]) .ret) .skip)))))))
 (.ops 152 3 [mM 0 106 11, bC 1 107 .add 106 1, mM 2 11 107]))))))
 (.seq (.ops 155 2 [oO 0 137 (.callF q0X []), mM 1 6 137]) .ret)))))))))))),
 [.t 6]⟩
def qbN : KFn := ⟨
 (.seq (.ops 4 2 [oO 0 1 (.box 7 (.t 0)), oO 1 2 (.mov (.c (.bool false)))])
 (.seq (.seq
 (.ops 6 40 [fO 0 5 0 1, lO 1 6 true false 1 5, oO 2 7 (.len .str (.t 6)), bC 3 8 .gtr 7 100, mM 4 9 8, gG 5 10 9 false (.off 1 (.t 1)), gG 6 11 9 false (.load true false 1 (.t 10)), gG 7 12 9 false (.len .sl (.t 11)), gG 8 13 9 false (.bin .gtr .no (.t 12) (.c (.int .i64 30))), oO 9 14 (.pick (.t 9) (.c (.bool true)) (.t 13)), mM 10 15 14, gG 11 16 15 false (.off 2 (.t 1)), gG 12 17 15 false (.load true false 1 (.t 16)), gG 13 18 15 false (.len .sl (.t 17)), gG 14 19 15 false (.bin .gtr .no (.t 18) (.c (.int .i64 30))), oO 15 20 (.pick (.t 15) (.c (.bool true)) (.t 19)), mM 16 21 20, gG 17 22 21 false (.off 4 (.t 1)), gG 18 23 21 false (.load true false 1 (.t 22)), gG 19 24 21 false (.len .sl (.t 23)), gG 20 25 21 false (.bin .gtr .no (.t 24) (.c (.int .i64 30))), oO 21 26 (.pick (.t 21) (.c (.bool true)) (.t 25)), mM 22 27 26, gG 23 28 27 false (.off 5 (.t 1)), gG 24 29 27 false (.load true false 1 (.t 28)), gG 25 30 27 false (.len .sl (.t 29)), gG 26 31 27 false (.bin .gtr .no (.t 30) (.c (.int .i64 30))), oO 27 32 (.pick (.t 27) (.c (.bool true)) (.t 31)), mM 28 33 32, gG 29 34 33 false (.off 6 (.t 1)), gG 30 35 33 false (.load true false 1 (.t 34)), gG 31 36 33 false (.len .sl (.t 35)), gG 32 37 33 false (.bin .gtr .no (.t 36) (.c (.int .i64 30))), oO 33 38 (.pick (.t 33) (.c (.bool true)) (.t 37)), mM 34 39 38, gG 35 40 39 false (.off 3 (.t 1)), gG 36 41 39 false (.load true false 1 (.t 40)), gG 37 42 39 false (.len .sl (.t 41)), gG 38 43 39 false (.bin .gtr .no (.t 42) (.c (.int .i64 14))), oO 39 44 (.pick (.t 39) (.c (.bool true)) (.t 43))])
 (.cond (.t 44)
 (.seq (.ops 46 1 [oO 0 2 (.mov (.c (.bool false)))]) .ret) .skip))
 (.seq (.seq
 (.ops 47 1 [mI 0 3 0])
 (.block 0
 (.loop [(1, 0), (3, 0)]
 (.seq (.seq
 (.ops 48 5 [mM 0 45 3, fO 1 46 1 1, lO 2 47 true false 1 46, nO 3 48 47, bT 4 49 .lss 45 48])
 (.cond (.t 49) .skip
 (.exit 0)))
 (.seq (.block 1
 (.seq (.ops 53 7 [fO 0 52 1 1, lO 1 53 true false 1 52, mM 2 54 3, xO 3 55 1 53 54, lO 4 56 false false 1 55, oO 5 57 (.len .str (.t 56)), bC 6 58 .gtr 57 100])
 (.cond (.t 58)
 (.seq (.ops 60 1 [oO 0 2 (.mov (.c (.bool false)))]) .ret) .skip)))
 (.ops 61 3 [mM 0 50 3, bC 1 51 .add 50 1, mM 2 3 51]))))))
 (.seq (.seq
 (.ops 64 1 [mI 0 4 0])
 (.block 2
 (.loop [(1, 0), (4, 0)]
 (.seq (.seq
 (.ops 65 5 [mM 0 59 4, fO 1 60 3 1, lO 2 61 true false 1 60, nO 3 62 61, bT 4 63 .lss 59 62])
 (.cond (.t 63) .skip
 (.exit 2)))
 (.seq (.block 3
 (.seq (.ops 70 17 [fO 0 66 3 1, lO 1 67 true false 1 66, mM 2 68 4, xO 3 69 7 67 68, fO 4 70 0 69, lO 5 71 false false 1 70, oO 6 72 (.len .str (.t 71)), bC 7 73 .gtr 72 100, mM 8 74 73, gG 9 75 74 false (.off 3 (.t 1)), gG 10 76 74 false (.load true false 1 (.t 75)), gM 11 77 74 false 4, gG 12 78 74 false (.ixs 7 (.t 76) (.t 77)), gG 13 79 74 false (.load false true 7 (.t 78)), gG 14 80 74 false (.callF qh2 [(.t 79), (.c (.int .i64 80))]), gG 15 81 74 false (.un .not (.t 80)), oO 16 82 (.pick (.t 74) (.c (.bool true)) (.t 81))])
 (.cond (.t 82)
 (.seq (.ops 87 1 [oO 0 2 (.mov (.c (.bool false)))]) .ret) .skip)))
 (.ops 88 3 [mM 0 64 4, bC 1 65 .add 64 1, mM 2 4 65]))))))
 (.seq (.ops 91 1 [oO 0 2 (.mov (.c (.bool true)))]) .ret))))),
 [.t 2]⟩
def qbO : KFn := ⟨
 (.seq (.ops 0 1 [oO 0 0 (.mov (.c (.bool false)))])
 (.seq (.ops 1 3 [oO 0 9 (.callF qcx []), oO 1 1 (.new 7 (.agg [(.str ⟨#[]⟩), .nilsl, .nilsl, .nilsl, .nilsl, .nilsl, .nilsl])), sT 2 true 7 1 9])
 (.seq (.ops 4 7 [lO 0 11 true true 7 1, oO 1 12 (.callF q48 [(.t 11), (.c (.int .i64 1)), (.c (.int .i64 0))]), mM 2 10 12, eO 3 13 10 0, eO 4 14 10 1, mM 5 2 13, mM 6 3 14])
 (.seq (.ops 11 8 [lO 0 16 true true 7 1, oO 1 17 (.callF q49 [(.t 16), (.c (.int .i64 1)), (.c (.int .i64 0))]), mM 2 15 17, eO 3 18 15 0, eO 4 19 15 1, oO 5 4 (.new 2 (.agg [(.int .i64 0), (.int .i64 0)])), sT 6 true 2 4 18, mM 7 5 19])
 (.seq (.ops 19 3 [lO 0 20 true true 7 1, oO 1 21 (.callF q5Y [(.t 20)]), mM 2 6 21])
 (.seq (.ops 22 8 [lO 0 23 true true 7 1, oO 1 24 (.buildSlice 1 3 [(.int .i64 0), (.int .i64 0), (.int .i64 0)] [(0, (.c (.int .i64 0))), (1, (.c (.int .i64 1))), (2, (.c (.int .i64 1)))]), oO 2 25 (.callF q6T [(.t 23), (.t 24)]), mM 3 22 25, eO 4 26 22 0, eO 5 27 22 1, mM 6 7 26, mM 7 8 27])
 (.seq (.seq
 (.ops 30 25 [mM 0 28 3, bC 1 29 .neq 28 0, mM 2 30 29, gM 3 31 30 false 5, gG 4 32 30 false (.bin .neq .no (.t 31) (.c (.int .i64 0))), oO 5 33 (.pick (.t 30) (.c (.bool true)) (.t 32)), mM 6 34 33, gM 7 35 34 false 8, gG 8 36 34 false (.bin .neq .no (.t 35) (.c (.int .i64 0))), oO 9 37 (.pick (.t 34) (.c (.bool true)) (.t 36)), mM 10 38 37, gM 11 39 38 false 6, gG 12 40 38 false (.len .sl (.t 39)), gG 13 41 38 false (.bin .neq .no (.t 40) (.c (.int .i64 3))), oO 14 42 (.pick (.t 38) (.c (.bool true)) (.t 41)), mM 15 43 42, gG 16 44 43 false (.load true true 7 (.t 1)), gG 17 45 43 false (.callF q0W [(.t 44)]), gG 18 46 43 false (.bin .neq .no (.t 45) (.c (.int .i64 0))), oO 19 47 (.pick (.t 43) (.c (.bool true)) (.t 46)), mM 20 48 47, gG 21 49 48 false (.build [(.str ⟨#[]⟩), .nilsl, .nilsl, .nilsl, .nilsl, .nilsl, .nilsl] []), gG 22 50 48 false (.callF q0W [(.t 49)]), gG 23 51 48 false (.bin .neq .no (.t 50) (.c (.int .i64 1))), oO 24 52 (.pick (.t 48) (.c (.bool true)) (.t 51))])
 (.cond (.t 52)
 (.seq (.ops 55 1 [oO 0 0 (.mov (.c (.bool false)))]) .ret) .skip))
 (.seq (.ops 56 26 [mM 0 53 2, oO 1 54 (.build [(.int .i64 0), (.int .i64 0)] [(0, 1, (.c (.int .i64 (-1)))), (1, 1, (.c (.int .i64 (-1))))]), oO 2 55 (.build [(.int .i64 0), (.int .i64 0)] [(0, 1, (.c (.int .i64 17))), (1, 1, (.c (.int .i64 (-1))))]), oO 3 56 (.build [(.int .i64 0), (.int .i64 0)] [(0, 1, (.c (.int .i64 17))), (1, 1, (.c (.int .i64 11)))]), oO 4 57 (.build [(.int .i64 0), (.int .i64 0)] [(0, 1, (.c (.int .i64 (-1)))), (1, 1, (.c (.int .i64 11)))]), oO 5 58 (.buildSlice 2 4 [(.agg [(.int .i64 0), (.int .i64 0)]), (.agg [(.int .i64 0), (.int .i64 0)]), (.agg [(.int .i64 0), (.int .i64 0)]), (.agg [(.int .i64 0), (.int .i64 0)])] [(0, (.t 54)), (1, (.t 55)), (2, (.t 56)), (3, (.t 57))]), oO 6 59 (.callF q6y [(.t 53), (.t 58)]), mM 7 60 59, gG 8 61 60 true (.load true true 2 (.t 4)), gG 9 62 60 true (.build [(.int .i64 0), (.int .i64 0)] []), gG 10 63 60 true (.bin .eql (.flat [.int, .int]) (.t 61) (.t 62)), oO 11 64 (.pick (.t 60) (.t 63) (.c (.bool false))), mM 12 65 64, gM 13 66 65 true 6, gG 14 67 65 true (.ixs 7 (.t 66) (.c (.int .i64 1))), gG 15 68 65 true (.load false true 7 (.t 67)), gG 16 69 65 true (.build [(.bool false), (.int .i64 0)] [(0, 1, (.c (.bool true)))]), gG 17 70 65 true (.build [(.int .i64 0), (.int .i64 0), (.int .i64 0), (.bool false), (.int .i64 0), (.int .i64 0), (.int .i64 0)] [(2, 1, (.c (.int .i64 1))), (3, 2, (.t 69))]), gG 18 71 65 true (.bin .eql (.flat [.int, .int, .int, .bool, .int, .int, .int]) (.t 68) (.t 70)), oO 19 72 (.pick (.t 65) (.t 71) (.c (.bool false))), mM 20 73 72, gM 21 74 73 true 7, gG 22 75 73 true (.buildSlice 1 1 [(.int .i64 0)] [(0, (.c (.int .i64 9)))]), gG 23 76 73 true (.callF q8v [(.t 74), (.t 75)]), oO 24 77 (.pick (.t 73) (.t 76) (.c (.bool false))), mM 25 0 77]) .ret)))))))),
 [.t 0]⟩
def q9j : KFn := ⟨
 (.seq (.ops 8 2 [oO 0 1 (.box 7 (.t 0)), mI 1 2 0])
 (.seq (.seq
 (.ops 10 3 [lO 0 11 true true 7 1, oO 1 12 (.callF q8w [(.t 11)]), mM 2 3 12])
 (.seq (.ops 13 2 [mM 0 13 3, bC 1 14 .neq 13 0])
 (.cond (.t 14)
 (.seq (.ops 15 2 [mM 0 15 3, mM 1 2 15]) .ret) .skip)))
 (.seq (.seq
 (.ops 17 4 [fO 0 16 3 1, lO 1 17 true false 1 16, nO 2 18 17, mI 3 19 0])
 (.block 0
 (.loop [(1, 0), (17, 0), (18, 0), (19, 0)]
 (.seq (.ops 21 1 [bT 0 20 .lss 19 18])
 (.seq (.cond (.t 20) .skip
 (.exit 0))
 (.seq (.block 1
 (.seq (.ops 22 6 [mM 0 21 19, xO 1 22 7 17 19, lO 2 23 false true 7 22, oO 3 5 (.new 7 (.agg [(.str ⟨#[]⟩), .nilsl, (.int .i64 0), .nilsl, .nilsl, .nilsl, (.bool false)])), mM 4 4 21, sT 5 true 7 5 23])
 (.seq (.ops 28 7 [fO 0 24 3 1, lB 1 25 1 7 true false 1 24, mM 2 26 4, oB 3 27 7 7 (.slsl 7 (.t 25) none (some (.t 26)) none), lB 4 28 0 7 true true 7 5, oB 5 29 31 7 (.callF q8x [(.t 27), (.t 28)]), mM 6 6 29])
 (.seq (.ops 35 2 [mM 0 30 6, bC 1 31 .neq 30 0])
 (.cond (.t 31)
 (.seq (.ops 37 2 [mM 0 32 6, mM 1 2 32]) .ret) .skip)))))
 (.ops 39 2 [bC 0 33 .add 19 1, mM 1 19 33])))))))
 (.seq (.seq
 (.ops 41 4 [fO 0 34 4 1, lO 1 35 true false 1 34, nO 2 36 35, mI 3 37 0])
 (.block 2
 (.loop [(1, 0), (35, 0), (36, 0), (37, 0)]
 (.seq (.ops 45 1 [bT 0 38 .lss 37 36])
 (.seq (.cond (.t 38) .skip
 (.exit 2))
 (.seq (.block 3
 (.seq (.ops 46 4 [xO 0 39 3 35 37, lO 1 40 false true 3 39, oO 2 8 (.new 3 (.agg [(.int .i64 0), (.int .i64 0), (.bool false)])), sT 3 true 3 8 40])
 (.seq (.ops 50 21 [fO 0 41 0 8, lO 1 42 true false 1 41, bC 2 43 .lss 42 0, mM 3 44 43, gG 4 45 44 false (.off 0 (.t 8)), gG 5 46 44 false (.load true false 1 (.t 45)), gG 6 47 44 false (.off 3 (.t 1)), gG 7 48 44 false (.load true false 1 (.t 47)), gG 8 49 44 false (.len .sl (.t 48)), gG 9 50 44 false (.bin .geq .no (.t 46) (.t 49)), oO 10 51 (.pick (.t 44) (.c (.bool true)) (.t 50)), mM 11 52 51, gG 12 53 52 false (.off 1 (.t 8)), gG 13 54 52 false (.load true false 1 (.t 53)), gG 14 55 52 false (.bin .lss .no (.t 54) (.c (.int .i64 1))), oO 15 56 (.pick (.t 52) (.c (.bool true)) (.t 55)), mM 16 57 56, gG 17 58 57 false (.off 1 (.t 8)), gG 18 59 57 false (.load true false 1 (.t 58)), gG 19 60 57 false (.bin .gtr .no (.t 59) (.c (.int .i64 4))), oO 20 61 (.pick (.t 57) (.c (.bool true)) (.t 60))])
 (.cond (.t 61)
 (.seq (.ops 71 1 [mI 0 2 3]) .ret) .skip))))
 (.ops 72 2 [bC 0 62 .add 37 1, mM 1 37 62])))))))
 (.seq (.seq
 (.ops 74 4 [fO 0 63 5 1, lO 1 64 true false 1 63, nO 2 65 64, mI 3 66 0])
 (.block 4
 (.loop [(1, 0), (64, 0), (65, 0), (66, 0)]
 (.seq (.ops 78 1 [bT 0 67 .lss 66 65])
 (.seq (.cond (.t 67) .skip
 (.exit 4))
 (.seq (.block 5
 (.seq (.ops 79 4 [xO 0 68 6 64 66, lO 1 69 false true 6 68, oO 2 10 (.new 6 (.agg [(.int .i64 0), (.int .i64 0), (.int .i64 0), (.int .i64 0), (.bool false), (.int .i64 0)])), sT 3 true 6 10 69])
 (.seq (.seq
 (.ops 83 16 [lO 0 70 true true 7 1, fO 1 71 0 10, lO 2 72 true false 1 71, fO 3 73 1 10, lO 4 74 true false 1 73, oO 5 75 (.callF q8y [(.t 70), (.t 72), (.t 74)]), oO 6 76 (.un .not (.t 75)), mM 7 77 76, gG 8 78 77 false (.load true true 7 (.t 1)), gG 9 79 77 false (.off 2 (.t 10)), gG 10 80 77 false (.load true false 1 (.t 79)), gG 11 81 77 false (.off 3 (.t 10)), gG 12 82 77 false (.load true false 1 (.t 81)), gG 13 83 77 false (.callF q8y [(.t 78), (.t 80), (.t 82)]), gG 14 84 77 false (.un .not (.t 83)), oO 15 85 (.pick (.t 77) (.c (.bool true)) (.t 84))])
 (.cond (.t 85)
 (.seq (.ops 99 1 [mI 0 2 3]) .ret) .skip))
 (.seq (.ops 100 3 [fO 0 86 5 10, lO 1 87 true false 1 86, bC 2 88 .lss 87 0])
 (.cond (.t 88)
 (.seq (.ops 103 1 [mI 0 2 1]) .ret) .skip)))))
 (.ops 104 2 [bC 0 89 .add 66 1, mM 1 66 89])))))))
 (.seq (.ops 106 1 [mI 0 2 0]) .ret)))))),
 [.t 2]⟩
def qbP : KFn := ⟨
 (.seq (.ops 0 3 [oO 0 3 (.box 7 (.t 0)), oO 1 6 (.mov (.c .nilsl)), mI 2 7 0])
 (.seq (.ops 3 12 [lO 0 12 true true 7 3, mM 1 13 1, mM 2 14 2, oO 3 15 (.callF q60 [(.t 12), (.t 13), (.t 14)]), mM 4 11 15, eO 5 16 11 0, eO 6 17 11 1, eO 7 18 11 2, oO 8 9 (.new 7 (.agg [(.str ⟨#[]⟩), .nilsl, (.int .i64 0), .nilsl, .nilsl, .nilsl, (.bool false)])), mM 9 8 16, sT 10 true 7 9 17, mM 11 10 18])
 (.seq (.seq
 (.ops 15 2 [mM 0 19 10, bC 1 20 .neq 19 0])
 (.cond (.t 20)
 (.seq (.ops 17 3 [mM 0 21 10, oO 1 6 (.mov (.c .nilsl)), mM 2 7 21]) .ret) .skip))
 (.seq (.ops 20 8 [mM 0 22 8, fO 1 23 5 9, lO 2 24 true false 1 23, oO 3 25 (.callF q5Z [(.t 22), (.t 24)]), eO 4 26 25 0, eO 5 27 25 1, mM 6 6 26, mM 7 7 27]) .ret)))),
 [.t 6, .t 7]⟩
def q80 : KFn := ⟨
 (.seq (.ops 0 3 [oO 0 3 (.box 7 (.t 0)), oO 1 6 (.new 2 (.agg [(.int .i64 0), (.int .i64 0)])), mI 2 7 0])
 (.seq (.ops 3 12 [lO 0 12 true true 7 3, mM 1 13 1, mM 2 14 2, oO 3 15 (.callF q60 [(.t 12), (.t 13), (.t 14)]), mM 4 11 15, eO 5 16 11 0, eO 6 17 11 1, eO 7 18 11 2, oO 8 9 (.new 7 (.agg [(.str ⟨#[]⟩), .nilsl, (.int .i64 0), .nilsl, .nilsl, .nilsl, (.bool false)])), mM 9 8 16, sT 10 true 7 9 17, mM 11 10 18])
 (.seq (.seq
 (.ops 15 2 [mM 0 19 10, bC 1 20 .neq 19 0])
 (.cond (.t 20)
 (.seq (.ops 17 4 [oO 0 21 (.build [(.int .i64 0), (.int .i64 0)] []), mM 1 22 10, sT 2 true 2 6 21, mM 3 7 22]) .ret) .skip))
 (.seq (.ops 21 8 [mM 0 23 8, oO 1 24 (.ixs 2 (.t 23) (.c (.int .i64 0))), fO 2 25 1 24, lO 3 26 false false 1 25, oO 4 27 (.ixs 2 (.t 26) (.c (.int .i64 0))), lO 5 28 false true 2 27, sT 6 true 2 6 28, mI 7 7 0]) .ret)))),
 [.cell 6 true 2, .t 7]⟩
def qe4 : KFn := ⟨
 (.seq (.ops 6 1 [oO 0 4 (.mov (.c (.bool false)))])
 (.seq (.seq
 (.ops 7 5 [mM 0 6 0, nO 1 7 6, mM 2 8 1, nO 3 9 8, bT 4 10 .neq 7 9])
 (.cond (.t 10)
 (.seq (.ops 12 1 [oO 0 4 (.mov (.c (.bool false)))]) .ret) .skip))
 (.seq (.seq
 (.ops 13 1 [mI 0 5 0])
 (.block 0
 (.loop [(0, 0), (1, 0), (5, 0)]
 (.seq (.seq
 (.ops 14 4 [mM 0 11 5, mM 1 12 0, nO 2 13 12, bT 3 14 .lss 11 13])
 (.cond (.t 14) .skip
 (.exit 0)))
 (.seq (.block 1
 (.seq (.ops 18 9 [mM 0 17 0, mM 1 18 5, xB 2 19 3 9 2 17 18, lB 3 20 7 9 false true 2 19, mM 4 21 1, mM 5 22 5, xB 6 23 48 9 2 21 22, lB 7 24 112 9 false true 2 23, oO 8 25 (.bin .neq (.flat [.int, .int]) (.t 20) (.t 24))])
 (.cond (.t 25)
 (.seq (.ops 27 1 [oO 0 4 (.mov (.c (.bool false)))]) .ret) .skip)))
 (.ops 28 3 [mM 0 15 5, bC 1 16 .add 15 1, mM 2 5 16]))))))
 (.seq (.ops 31 1 [oO 0 4 (.mov (.c (.bool true)))]) .ret)))),
 [.t 4]⟩
def q81 : KFn := ⟨
 (.seq (.ops 16 2 [oO 0 1 (.box 7 (.t 0)), oO 1 2 (.mov (.c .nilsl))])
 (.seq (.seq
 (.ops 18 3 [lO 0 8 true true 7 1, oO 1 9 (.callF q0W [(.t 8)]), bC 2 10 .neq 9 0])
 (.cond (.t 10)
 (.seq (.ops 21 1 [oO 0 2 (.mov (.c .nilsl))]) .ret) .skip))
 (.seq (.ops 22 1 [oO 0 3 (.mov (.c .nilsl))])
 (.seq (.seq
 (.ops 23 4 [fO 0 11 4 1, lO 1 12 true false 1 11, nO 2 13 12, mI 3 14 0])
 (.block 0
 (.loop [(3, 7), (12, 0), (13, 0), (14, 0)]
 (.seq (.ops 27 1 [bT 0 15 .lss 14 13])
 (.seq (.cond (.t 15) .skip
 (.exit 0))
 (.seq (.block 1
 (.seq (.ops 28 6 [mM 0 16 14, xO 1 17 3 12 14, lO 2 18 false true 3 17, oO 3 5 (.new 3 (.agg [(.int .i64 0), (.int .i64 0), (.bool false)])), mM 4 4 16, sT 5 true 3 5 18])
 (.seq (.ops 34 3 [fO 0 19 1 5, lO 1 20 true false 1 19, mI 2 21 0])
 (.block 2
 (.loop [(3, 7), (4, 0), (5, 0), (12, 0), (13, 0), (14, 0), (20, 0), (21, 0)]
 (.seq (.ops 37 1 [bT 0 22 .lss 21 20])
 (.seq (.cond (.t 22) .skip
 (.exit 2))
 (.seq (.block 3
 (.seq (.ops 38 2 [mM 0 23 21, mM 1 6 23])
 (.seq (.ops 40 8 [fO 0 24 2 5, lO 1 25 true false 1 24, mM 2 26 25, gM 3 27 26 true 6, gG 4 28 26 true (.bin .rem .no (.t 27) (.c (.int .i64 2))), gG 5 29 26 true (.bin .eql .no (.t 28) (.c (.int .i64 1))), oO 6 30 (.pick (.t 26) (.t 29) (.c (.bool false))), mM 7 7 30])
 (.ops 48 9 [mM 0 31 3, mM 1 32 4, mM 2 33 6, mM 3 34 7, oO 4 35 (.build [(.bool false), (.int .i64 0)] [(0, 1, (.t 34))]), oO 5 36 (.build [(.int .i64 0), (.int .i64 0), (.int .i64 0), (.bool false), (.int .i64 0), (.int .i64 0), (.int .i64 0)] [(1, 1, (.t 32)), (2, 1, (.t 33)), (3, 2, (.t 35))]), oO 6 37 (.buildSlice 7 1 [(.agg [(.int .i64 0), (.int .i64 0), (.int .i64 0), (.bool false), (.int .i64 0), (.int .i64 0), (.int .i64 0)])] [(0, (.t 36))]), oO 7 38 (.append ⟨7, 56, (.agg [(.int .i64 0), (.int .i64 0), (.int .i64 0), (.bool false), (.int .i64 0), (.int .i64 0), (.int .i64 0)])⟩ .sl (.t 31) (.t 37)), mM 8 3 38]))))
 (.ops 57 2 [bC 0 39 .add 21 1, mM 1 21 39])))))))))
 (.ops 59 2 [bC 0 40 .add 14 1, mM 1 14 40])))))))
 (.seq (.ops 61 2 [mM 0 41 3, mM 1 2 41]) .ret))))),
 [.t 2]⟩
def q9k : KFn := ⟨
 (.seq (.ops 10 3 [oO 0 2 (.box 7 (.t 0)), oO 1 4 (.mov (.c .nilsl)), mI 2 5 0])
 (.seq (.seq
 (.ops 13 3 [lO 0 12 true true 7 2, oO 1 13 (.callF q0W [(.t 12)]), mM 2 6 13])
 (.seq (.ops 16 2 [mM 0 14 6, bC 1 15 .neq 14 0])
 (.cond (.t 15)
 (.seq (.ops 18 3 [mM 0 16 6, oO 1 4 (.mov (.c .nilsl)), mM 2 5 16]) .ret) .skip)))
 (.seq (.seq
 (.ops 21 3 [mM 0 17 1, nO 1 18 17, mI 2 19 0])
 (.block 0
 (.loop [(1, 0), (2, 0), (17, 0), (18, 0), (19, 0)]
 (.seq (.ops 24 1 [bT 0 20 .lss 19 18])
 (.seq (.cond (.t 20) .skip
 (.exit 0))
 (.seq (.block 1
 (.seq (.ops 25 3 [xO 0 21 1 17 19, lO 1 22 false false 1 21, mM 2 8 22])
 (.seq (.ops 28 9 [mM 0 23 8, bC 1 24 .lss 23 0, mM 2 25 24, gM 3 26 25 false 8, gG 4 27 25 false (.off 1 (.t 2)), gG 5 28 25 false (.load true false 1 (.t 27)), gG 6 29 25 false (.len .sl (.t 28)), gG 7 30 25 false (.bin .geq .no (.t 26) (.t 29)), oO 8 31 (.pick (.t 25) (.c (.bool true)) (.t 30))])
 (.cond (.t 31)
 (.seq (.ops 37 2 [oO 0 4 (.mov (.c .nilsl)), mI 1 5 3]) .ret) .skip))))
 (.ops 39 2 [bC 0 32 .add 19 1, mM 1 19 32])))))))
 (.seq (.ops 41 1 [oO 0 9 (.mov (.c .nilsl))])
 (.seq (.seq
 (.ops 42 4 [fO 0 33 4 2, lO 1 34 true false 1 33, nO 2 35 34, mI 3 36 0])
 (.block 2
 (.loop [(1, 0), (9, 1), (34, 0), (35, 0), (36, 0)]
 (.seq (.ops 46 1 [bT 0 37 .lss 36 35])
 (.seq (.cond (.t 37) .skip
 (.exit 2))
 (.seq (.block 3
 (.seq (.ops 47 4 [xO 0 38 3 34 36, lO 1 39 false true 3 38, oO 2 11 (.new 3 (.agg [(.int .i64 0), (.int .i64 0), (.bool false)])), sT 3 true 3 11 39])
 (.ops 51 9 [mM 0 40 9, fO 1 41 1 11, lO 2 42 true false 1 41, mM 3 43 1, nO 4 44 43, bT 5 45 .mul 42 44, oO 6 46 (.buildSlice 1 1 [(.int .i64 0)] [(0, (.t 45))]), oO 7 47 (.append ⟨1, 8, (.int .i64 0)⟩ .sl (.t 40) (.t 46)), mM 8 9 47])))
 (.ops 60 2 [bC 0 48 .add 36 1, mM 1 36 48])))))))
 (.seq (.ops 62 3 [mM 0 49 9, mM 1 4 49, mI 2 5 0]) .ret)))))),
 [.t 4, .t 5]⟩
def q82 : KFn := ⟨
 (.seq (.ops 6 1 [oO 0 4 (.mov (.c (.bool false)))])
 (.seq (.seq
 (.ops 7 5 [mM 0 6 0, nO 1 7 6, mM 2 8 1, nO 3 9 8, bT 4 10 .neq 7 9])
 (.cond (.t 10)
 (.seq (.ops 12 1 [oO 0 4 (.mov (.c (.bool false)))]) .ret) .skip))
 (.seq (.seq
 (.ops 13 1 [mI 0 5 0])
 (.block 0
 (.loop [(0, 0), (1, 0), (5, 0)]
 (.seq (.seq
 (.ops 14 4 [mM 0 11 5, mM 1 12 0, nO 2 13 12, bT 3 14 .lss 11 13])
 (.cond (.t 14) .skip
 (.exit 0)))
 (.seq (.block 1
 (.seq (.ops 18 9 [mM 0 17 0, mM 1 18 5, xB 2 19 3 9 1 17 18, lB 3 20 7 9 false false 1 19, mM 4 21 1, mM 5 22 5, xB 6 23 48 9 1 21 22, lB 7 24 112 9 false false 1 23, bT 8 25 .neq 20 24])
 (.cond (.t 25)
 (.seq (.ops 27 1 [oO 0 4 (.mov (.c (.bool false)))]) .ret) .skip)))
 (.ops 28 3 [mM 0 15 5, bC 1 16 .add 15 1, mM 2 5 16]))))))
 (.seq (.ops 31 1 [oO 0 4 (.mov (.c (.bool true)))]) .ret)))),
 [.t 4]⟩
def q83 : KFn := ⟨
 (.seq (.ops 10 3 [oO 0 2 (.box 7 (.t 0)), oO 1 4 (.mov (.c .nilsl)), mI 2 5 0])
 (.seq (.seq
 (.ops 13 3 [mM 0 14 1, oO 1 15 (.callF q61 [(.t 14), (.c (.int .i64 100))]), oO 2 16 (.un .not (.t 15))])
 (.cond (.t 16)
 (.seq (.ops 16 2 [oO 0 4 (.mov (.c .nilsl)), mI 1 5 3]) .ret) .skip))
 (.seq (.seq
 (.ops 18 7 [fO 0 17 4 2, lO 1 18 true false 1 17, nO 2 19 18, fO 3 20 1 2, lO 4 21 true false 1 20, nO 5 22 21, bT 6 23 .neq 19 22])
 (.cond (.t 23)
 (.seq (.ops 25 2 [oO 0 4 (.mov (.c .nilsl)), mI 1 5 1]) .ret) .skip))
 (.seq (.seq
 (.ops 27 4 [fO 0 24 4 2, lO 1 25 true false 1 24, nO 2 26 25, mI 3 27 0])
 (.block 0
 (.loop [(1, 0), (2, 0), (25, 0), (26, 0), (27, 0)]
 (.seq (.ops 31 1 [bT 0 28 .lss 27 26])
 (.seq (.cond (.t 28) .skip
 (.exit 0))
 (.seq (.block 1
 (.seq (.ops 32 4 [xO 0 29 2 25 27, lO 1 30 false true 2 29, oO 2 7 (.new 2 (.agg [(.int .i64 0), (.int .i64 0)])), sT 3 true 2 7 30])
 (.seq (.ops 36 10 [fO 0 31 0 7, lO 1 32 true false 1 31, oO 2 33 (.callF q61 [(.t 32), (.c (.int .i64 1000))]), oO 3 34 (.un .not (.t 33)), mM 4 35 34, gG 5 36 35 false (.off 1 (.t 7)), gG 6 37 35 false (.load true false 1 (.t 36)), gG 7 38 35 false (.callF q61 [(.t 37), (.c (.int .i64 1000))]), gG 8 39 35 false (.un .not (.t 38)), oO 9 40 (.pick (.t 35) (.c (.bool true)) (.t 39))])
 (.cond (.t 40)
 (.seq (.ops 46 2 [oO 0 4 (.mov (.c .nilsl)), mI 1 5 3]) .ret) .skip))))
 (.ops 48 2 [bC 0 41 .add 27 1, mM 1 27 41])))))))
 (.seq (.seq
 (.ops 50 4 [fO 0 42 1 2, lO 1 43 true false 1 42, oO 2 44 (.callF q4Y [(.t 43)]), mM 3 8 44])
 (.seq (.ops 54 2 [mM 0 45 8, bC 1 46 .neq 45 0])
 (.cond (.t 46)
 (.seq (.ops 56 3 [mM 0 47 8, oO 1 4 (.mov (.c .nilsl)), mM 2 5 47]) .ret) .skip)))
 (.seq (.ops 59 6 [fO 0 48 4 2, lO 1 49 true false 1 48, mM 2 50 1, oO 3 51 (.build [.nilsl, (.int .i64 0)] [(0, 1, (.t 49)), (1, 1, (.t 50))]), oO 4 52 (.mkfn q2W [(.t 51)] []), mM 5 9 52])
 (.seq (.ops 65 1 [oO 0 10 (.mov (.c .nilsl))])
 (.seq (.seq
 (.ops 66 4 [fO 0 53 1 2, lO 1 54 true false 1 53, nO 2 55 54, mI 3 56 0])
 (.block 2
 (.loop [(9, 0), (10, 2), (54, 0), (55, 0), (56, 0)]
 (.seq (.ops 70 1 [bT 0 57 .lss 56 55])
 (.seq (.cond (.t 57) .skip
 (.exit 2))
 (.seq (.block 3
 (.seq (.ops 71 6 [mM 0 58 56, xO 1 59 2 54 56, lO 2 60 false true 2 59, oO 3 12 (.new 2 (.agg [(.str ⟨#[]⟩), .nilsl])), mM 4 11 58, sT 5 true 2 12 60])
 (.ops 77 17 [mM 0 61 10, fO 1 62 0 12, lB 2 63 2 17 true false 1 62, fO 3 64 1 12, lB 4 65 8 17 true false 1 64, mM 5 66 9, mM 6 67 11, oB 7 68 96 17 (.callV (.t 66) [(.t 67)]), mM 8 69 9, mM 9 70 11, bC 10 71 .add 70 1, oB 11 72 2016 17 (.callV (.t 69) [(.t 71)]), oB 12 73 4088 17 (.callF qdO [(.t 65), (.t 68), (.t 72)]), oO 13 74 (.build [(.str ⟨#[]⟩), .nilsl] [(0, 1, (.t 63)), (1, 1, (.t 73))]), ⟨14, some 75, none, (.bef 16382 17), .buildSlice 2 1 [(.agg [(.str ⟨#[]⟩), .nilsl])] [(0, (.t 74))]⟩, ⟨15, some 76, none, (.bef 32767 17), .append ⟨2, 40, (.agg [(.str ⟨#[]⟩), .nilsl])⟩ .sl (.t 61) (.t 75)⟩, mM 16 10 76])))
 (.ops 94 2 [bC 0 77 .add 56 1, mM 1 56 77])))))))
 (.seq (.seq
 (.ops 96 3 [mM 0 78 10, oO 1 79 (.callF q4Y [(.t 78)]), mM 2 13 79])
 (.seq (.ops 99 2 [mM 0 80 13, bC 1 81 .neq 80 0])
 (.cond (.t 81)
 (.seq (.ops 101 3 [mM 0 82 13, oO 1 4 (.mov (.c .nilsl)), mM 2 5 82]) .ret) .skip)))
 (.seq (.ops 104 3 [mM 0 83 10, mM 1 4 83, mI 2 5 0]) .ret)))))))))),
 [.t 4, .t 5]⟩
def q5M : KFn := ⟨
 (.seq (.ops 20 2 [oO 0 4 (.mov (.c .nilsl)), mI 1 5 0])
 (.seq (.ops 22 8 [mM 0 23 0, mM 1 24 1, oO 2 25 (.callF q8z [(.t 23), (.t 24)]), mM 3 22 25, eO 4 26 22 0, eO 5 27 22 1, mM 6 6 26, mM 7 7 27])
 (.seq (.seq
 (.ops 30 2 [mM 0 28 7, bC 1 29 .neq 28 0])
 (.cond (.t 29)
 (.seq (.ops 32 3 [mM 0 30 7, oO 1 4 (.mov (.c .nilsl)), mM 2 5 30]) .ret) .skip))
 (.seq (.ops 35 7 [mM 0 32 0, oO 1 33 (.callF q62 [(.t 32)]), mM 2 31 33, eO 3 34 31 0, eO 4 35 31 1, mM 5 8 34, mM 6 7 35])
 (.seq (.seq
 (.ops 42 2 [mM 0 36 7, bC 1 37 .neq 36 0])
 (.cond (.t 37)
 (.seq (.ops 44 3 [mM 0 38 7, oO 1 4 (.mov (.c .nilsl)), mM 2 5 38]) .ret) .skip))
 (.seq (.ops 47 4 [mM 0 39 0, mM 1 40 1, oO 2 41 (.callF q2J [(.t 39), (.t 40)]), mM 3 9 41])
 (.seq (.ops 51 3 [mM 0 42 8, nO 1 43 42, mM 2 10 43])
 (.seq (.ops 54 3 [mM 0 44 10, oO 1 45 (.mkslice ⟨5, 40, (.agg [(.int .i64 0), (.int .i64 0), (.int .i64 0), (.int .i64 0), (.int .i64 0)])⟩ (.t 44) (.t 44)), mM 2 11 45])
 (.seq (.seq
 (.ops 57 3 [mM 0 46 6, nO 1 47 46, mI 2 48 0])
 (.block 0
 (.loop [(8, 0), (9, 0), (10, 0), (11, 0), (46, 0), (47, 0), (48, 0)]
 (.seq (.ops 60 1 [bT 0 49 .lss 48 47])
 (.seq (.cond (.t 49) .skip
 (.exit 0))
 (.seq (.block 1
 (.seq (.ops 61 6 [mM 0 50 48, xO 1 51 2 46 48, lO 2 52 false true 2 51, oO 3 13 (.new 2 (.agg [(.int .i64 0), (.int .i64 0)])), mM 4 12 50, sT 5 true 2 13 52])
 (.ops 67 24 [mM 0 53 11, mM 1 54 12, mM 2 55 8, mM 3 56 12, xB 4 57 12 24 2 55 56, lB 5 58 28 24 false true 2 57, lB 6 59 0 24 true true 2 13, oB 7 60 124 24 (.callF q4Z [(.t 58), (.t 59)]), mM 8 61 8, mM 9 62 12, bC 10 63 .add 62 1, mM 11 64 10, bT 12 65 .rem 63 64, xB 13 66 7936 24 2 61 65, lB 14 67 16128 24 false true 2 66, lB 15 68 0 24 true true 2 13, oB 16 69 65532 24 (.callF q4Z [(.t 67), (.t 68)]), mM 17 70 9, mM 18 71 12, xB 19 72 393216 24 1 70 71, lB 20 73 917504 24 false false 1 72, oO 21 74 (.build [(.int .i64 0), (.int .i64 0), (.int .i64 0), (.int .i64 0), (.int .i64 0)] [(0, 2, (.t 60)), (2, 2, (.t 69)), (4, 1, (.t 73))]), xB 22 75 4194303 24 5 53 54, ⟨23, none, none, (.bef 8388607 24), .store false 5 (.t 75) (.t 74)⟩])))
 (.ops 91 2 [bC 0 76 .add 48 1, mM 1 48 76])))))))
 (.seq (.ops 93 1 [oO 0 14 (.mov (.c .nilsl))])
 (.seq (.seq
 (.ops 94 3 [mM 0 77 8, nO 1 78 77, mI 2 79 0])
 (.block 2
 (.loop [(8, 0), (10, 0), (11, 0), (14, 2), (77, 0), (78, 0), (79, 0)]
 (.seq (.ops 97 1 [bT 0 80 .lss 79 78])
 (.seq (.cond (.t 80) .skip
 (.exit 2))
 (.seq (.block 3
 (.seq (.ops 98 6 [mM 0 81 79, xO 1 82 2 77 79, lO 2 83 false true 2 82, oO 3 16 (.new 2 (.agg [(.int .i64 0), (.int .i64 0)])), mM 4 15 81, sT 5 true 2 16 83])
 (.seq (.ops 104 17 [lB 0 84 0 17 true true 2 16, mM 1 85 11, mM 2 86 15, mM 3 87 10, bT 4 88 .add 86 87, bC 5 89 .sub 88 1, mM 6 90 10, bT 7 91 .rem 89 90, xB 8 92 254 17 5 85 91, lB 9 93 510 17 false true 5 92, mM 10 94 11, mM 11 95 15, xB 12 96 3072 17 5 94 95, lB 13 97 7168 17 false true 5 96, oB 14 98 16383 17 (.callF q8A [(.t 84), (.t 93), (.t 97)]), oB 15 99 32767 17 (.len .sl (.t 98)), mI 16 100 0])
 (.block 4
 (.loop [(8, 0), (10, 0), (11, 0), (14, 2), (77, 0), (78, 0), (79, 0), (98, 0), (99, 0), (100, 0)]
 (.seq (.ops 121 1 [bT 0 101 .lss 100 99])
 (.seq (.cond (.t 101) .skip
 (.exit 4))
 (.seq (.block 5
 (.seq (.ops 122 4 [xO 0 102 2 98 100, lO 1 103 false true 2 102, oO 2 18 (.new 2 (.agg [(.int .i64 0), (.int .i64 0)])), sT 3 true 2 18 103])
 (.seq (.ops 126 13 [mM 0 104 14, oB 1 105 1 13 (.len .sl (.t 104)), bC 2 106 .eql 105 0, mM 3 107 106, gM 4 108 107 false 14, gM 5 109 107 false 14, ⟨6, some 110, some (107, false), (.bef 47 13), .len .sl (.t 109)⟩, gG 7 111 107 false (.bin .sub .no (.t 110) (.c (.int .i64 1))), ⟨8, some 112, some (107, false), (.bef 255 13), .ixs 2 (.t 108) (.t 111)⟩, ⟨9, some 113, some (107, false), (.bef 511 13), .load false true 2 (.t 112)⟩, ⟨10, some 114, some (107, false), (.bef 15 13), .load true true 2 (.t 18)⟩, gG 11 115 107 false (.bin .neq (.flat [.int, .int]) (.t 113) (.t 114)), oO 12 116 (.pick (.t 107) (.c (.bool true)) (.t 115))])
 (.cond (.t 116)
 (.ops 139 5 [mM 0 117 14, lO 1 118 true true 2 18, oO 2 119 (.buildSlice 2 1 [(.agg [(.int .i64 0), (.int .i64 0)])] [(0, (.t 118))]), oO 3 120 (.append ⟨2, 16, (.agg [(.int .i64 0), (.int .i64 0)])⟩ .sl (.t 117) (.t 119)), mM 4 14 120]) .skip))))
 (.ops 144 2 [bC 0 121 .add 100 1, mM 1 100 121])))))))))
 (.ops 146 2 [bC 0 122 .add 79 1, mM 1 79 122])))))))
 (.seq (.block 6
 (.loop [(8, 0), (14, 0)]
 (.seq (.seq
 (.ops 148 15 [mM 0 123 14, oB 1 124 1 15 (.len .sl (.t 123)), bC 2 125 .geq 124 2, mM 3 126 125, gM 4 127 126 true 14, gM 5 128 126 true 14, ⟨6, some 129, some (126, true), (.bef 47 15), .len .sl (.t 128)⟩, gG 7 130 126 true (.bin .sub .no (.t 129) (.c (.int .i64 1))), ⟨8, some 131, some (126, true), (.bef 255 15), .ixs 2 (.t 127) (.t 130)⟩, ⟨9, some 132, some (126, true), (.bef 511 15), .load false true 2 (.t 131)⟩, gM 10 133 126 true 14, ⟨11, some 134, some (126, true), (.bef 1039 15), .ixs 2 (.t 133) (.c (.int .i64 0))⟩, ⟨12, some 135, some (126, true), (.bef 3087 15), .load false true 2 (.t 134)⟩, gG 13 136 126 true (.bin .eql (.flat [.int, .int]) (.t 132) (.t 135)), oO 14 137 (.pick (.t 126) (.t 136) (.c (.bool false)))])
 (.cond (.t 137) .skip
 (.exit 6)))
 (.block 7
 (.ops 163 6 [mM 0 138 14, mM 1 139 14, nO 2 140 139, bC 3 141 .sub 140 1, oO 4 142 (.slsl 2 (.t 138) none (some (.t 141)) none), mM 5 14 142])))))
 (.seq (.seq
 (.ops 169 3 [mM 0 143 14, nO 1 144 143, mI 2 145 0])
 (.block 8
 (.loop [(8, 0), (14, 0), (143, 0), (144, 0), (145, 0)]
 (.seq (.ops 172 1 [bT 0 146 .lss 145 144])
 (.seq (.cond (.t 146) .skip
 (.exit 8))
 (.seq (.block 9
 (.seq (.ops 173 4 [xO 0 147 2 143 145, lO 1 148 false true 2 147, oO 2 20 (.new 2 (.agg [(.int .i64 0), (.int .i64 0)])), sT 3 true 2 20 148])
 (.seq (.ops 177 3 [lO 0 149 true true 2 20, oO 1 150 (.callF q5p [(.t 149), (.c (.int .i64 1048576))]), oO 2 151 (.un .not (.t 150))])
 (.cond (.t 151)
 (.seq (.ops 180 2 [oO 0 4 (.mov (.c .nilsl)), mI 1 5 3]) .ret) .skip))))
 (.ops 182 2 [bC 0 152 .add 145 1, mM 1 145 152])))))))
 (.seq (.seq
 (.ops 184 3 [mM 0 153 14, oO 1 154 (.callF q50 [(.t 153)]), mM 2 21 154])
 (.seq (.ops 187 2 [mM 0 155 21, bC 1 156 .neq 155 0])
 (.cond (.t 156)
 (.seq (.ops 189 3 [mM 0 157 21, oO 1 4 (.mov (.c .nilsl)), mM 2 5 157]) .ret) .skip)))
 (.seq (.seq
 (.ops 192 5 [mM 0 158 14, oO 1 159 (.callF q2a [(.t 158)]), mM 2 160 8, oO 3 161 (.callF q2a [(.t 160)]), bT 4 162 .neq 159 161])
 (.cond (.t 162)
 (.seq (.ops 197 2 [oO 0 4 (.mov (.c .nilsl)), mI 1 5 11]) .ret) .skip))
 (.seq (.ops 199 3 [mM 0 163 14, mM 1 4 163, mI 2 5 0]) .ret)))))))))))))))),
 [.t 4, .t 5]⟩
def qbQ : KFn := ⟨
 (.seq (.ops 8 2 [oO 0 2 (.box 7 (.t 0)), oO 1 4 (.mov (.c (.bool false)))])
 (.seq (.seq
 (.ops 10 22 [fO 0 7 1 2, lO 1 8 true false 1 7, nO 2 9 8, bC 3 10 .gtr 9 20, mM 4 11 10, gG 5 12 11 false (.off 4 (.t 2)), gG 6 13 11 false (.load true false 1 (.t 12)), gG 7 14 11 false (.len .sl (.t 13)), gG 8 15 11 false (.bin .gtr .no (.t 14) (.c (.int .i64 20))), oO 9 16 (.pick (.t 11) (.c (.bool true)) (.t 15)), mM 10 17 16, gG 11 18 17 false (.off 5 (.t 2)), gG 12 19 17 false (.load true false 1 (.t 18)), gG 13 20 17 false (.len .sl (.t 19)), gG 14 21 17 false (.bin .gtr .no (.t 20) (.c (.int .i64 20))), oO 15 22 (.pick (.t 17) (.c (.bool true)) (.t 21)), mM 16 23 22, gG 17 24 23 false (.off 3 (.t 2)), gG 18 25 23 false (.load true false 1 (.t 24)), gG 19 26 23 false (.len .sl (.t 25)), gG 20 27 23 false (.bin .gtr .no (.t 26) (.c (.int .i64 20))), oO 21 28 (.pick (.t 23) (.c (.bool true)) (.t 27))])
 (.cond (.t 28)
 (.seq (.ops 32 1 [oO 0 4 (.mov (.c (.bool false)))]) .ret) .skip))
 (.seq (.ops 33 1 [mI 0 5 0])
 (.seq (.seq
 (.ops 34 1 [mI 0 6 0])
 (.block 0
 (.loop [(1, 0), (2, 0), (5, 0), (6, 0)]
 (.seq (.seq
 (.ops 35 5 [mM 0 29 6, fO 1 30 1 2, lO 2 31 true false 1 30, nO 3 32 31, bT 4 33 .lss 29 32])
 (.cond (.t 33) .skip
 (.exit 0)))
 (.seq (.block 1
 (.seq (.seq
 (.ops 40 19 [fO 0 36 1 2, lO 1 37 true false 1 36, mM 2 38 6, xO 3 39 2 37 38, fO 4 40 1 39, lO 5 41 false false 1 40, nO 6 42 41, mM 7 43 1, bT 8 44 .gtr 42 43, mM 9 45 44, gG 10 46 45 false (.off 1 (.t 2)), gG 11 47 45 false (.load true false 1 (.t 46)), gM 12 48 45 false 6, gG 13 49 45 false (.ixs 2 (.t 47) (.t 48)), gG 14 50 45 false (.off 0 (.t 49)), gG 15 51 45 false (.load false false 1 (.t 50)), gG 16 52 45 false (.len .str (.t 51)), gG 17 53 45 false (.bin .gtr .no (.t 52) (.c (.int .i64 100))), oO 18 54 (.pick (.t 45) (.c (.bool true)) (.t 53))])
 (.cond (.t 54)
 (.seq (.ops 59 1 [oO 0 4 (.mov (.c (.bool false)))]) .ret) .skip))
 (.ops 60 10 [mM 0 55 5, fO 1 56 1 2, lO 2 57 true false 1 56, mM 3 58 6, xO 4 59 2 57 58, fO 5 60 1 59, lO 6 61 false false 1 60, nO 7 62 61, bT 8 63 .add 55 62, mM 9 5 63])))
 (.ops 70 3 [mM 0 34 6, bC 1 35 .add 34 1, mM 2 6 35]))))))
 (.seq (.ops 73 4 [mM 0 64 5, mM 1 65 1, bT 2 66 .leq 64 65, mM 3 4 66]) .ret))))),
 [.t 4]⟩
def q5a : KFn := ⟨
 (.seq (.ops 10 2 [oO 0 1 (.box 7 (.t 0)), mI 1 2 0])
 (.seq (.seq
 (.ops 12 10 [fO 0 10 0 1, lO 1 11 true false 1 10, oO 2 12 (.callF q8B [(.t 11)]), oO 3 13 (.un .not (.t 12)), mM 4 14 13, gG 5 15 14 false (.off 1 (.t 1)), gG 6 16 14 false (.load true false 1 (.t 15)), gG 7 17 14 false (.len .sl (.t 16)), gG 8 18 14 false (.bin .eql .no (.t 17) (.c (.int .i64 0))), oO 9 19 (.pick (.t 14) (.c (.bool true)) (.t 18))])
 (.cond (.t 19)
 (.seq (.ops 22 1 [mI 0 2 1]) .ret) .skip))
 (.seq (.seq
 (.ops 23 4 [fO 0 20 1 1, lO 1 21 true false 1 20, nO 2 22 21, mI 3 23 0])
 (.block 0
 (.loop [(1, 0), (21, 0), (22, 0), (23, 0)]
 (.seq (.ops 27 1 [bT 0 24 .lss 23 22])
 (.seq (.cond (.t 24) .skip
 (.exit 0))
 (.seq (.block 1
 (.seq (.ops 28 3 [xO 0 25 1 21 23, lO 1 26 false false 1 25, mM 2 4 26])
 (.seq (.ops 31 3 [mM 0 27 4, oO 1 28 (.callF qcy [(.t 27)]), oO 2 29 (.un .not (.t 28))])
 (.cond (.t 29)
 (.seq (.ops 34 1 [mI 0 2 1]) .ret) .skip))))
 (.ops 35 2 [bC 0 30 .add 23 1, mM 1 23 30])))))))
 (.seq (.seq
 (.ops 37 13 [fO 0 31 2 1, lO 1 32 true false 1 31, nO 2 33 32, fO 3 34 1 1, lO 4 35 true false 1 34, nO 5 36 35, bT 6 37 .neq 33 36, mM 7 38 37, gG 8 39 38 false (.off 2 (.t 1)), gG 9 40 38 false (.load true false 1 (.t 39)), gG 10 41 38 false (.callF q4D [(.t 40), (.c (.int .i64 0))]), gG 11 42 38 false (.un .not (.t 41)), oO 12 43 (.pick (.t 38) (.c (.bool true)) (.t 42))])
 (.cond (.t 43)
 (.seq (.ops 50 1 [mI 0 2 1]) .ret) .skip))
 (.seq (.ops 51 2 [oO 0 44 (.mkmap), mM 1 5 44])
 (.seq (.seq
 (.ops 53 4 [fO 0 45 1 1, lO 1 46 true false 1 45, nO 2 47 46, mI 3 48 0])
 (.block 2
 (.loop [(1, 0), (5, 0), (46, 0), (47, 0), (48, 0)]
 (.seq (.ops 57 1 [bT 0 49 .lss 48 47])
 (.seq (.cond (.t 49) .skip
 (.exit 2))
 (.seq (.block 3
 (.seq (.ops 58 3 [xO 0 50 1 46 48, lO 1 51 false false 1 50, mM 2 7 51])
 (.seq (.seq
 (.ops 61 3 [mM 0 52 5, mM 1 53 7, oO 2 54 (.lookup (.bool false) (.t 52) (.t 53) false)])
 (.cond (.t 54)
 (.seq (.ops 64 1 [mI 0 2 7]) .ret) .skip))
 (.ops 65 3 [mM 0 55 5, mM 1 56 7, ⟨2, none, none, .all, .mapset (.t 55) (.t 56) (.c (.bool true))⟩]))))
 (.ops 68 2 [bC 0 57 .add 48 1, mM 1 48 57])))))))
 (.seq (.seq
 (.ops 70 16 [fO 0 58 1 1, lO 1 59 true false 1 58, nO 2 60 59, bC 3 61 .gtr 60 12, mM 4 62 61, gG 5 63 62 false (.off 3 (.t 1)), gG 6 64 62 false (.load true false 1 (.t 63)), gG 7 65 62 false (.len .sl (.t 64)), gG 8 66 62 false (.bin .gtr .no (.t 65) (.c (.int .i64 12))), oO 9 67 (.pick (.t 62) (.c (.bool true)) (.t 66)), mM 10 68 67, gG 11 69 68 false (.off 4 (.t 1)), gG 12 70 68 false (.load true false 1 (.t 69)), gG 13 71 68 false (.len .sl (.t 70)), gG 14 72 68 false (.bin .gtr .no (.t 71) (.c (.int .i64 12))), oO 15 73 (.pick (.t 68) (.c (.bool true)) (.t 72))])
 (.cond (.t 73)
 (.seq (.ops 86 1 [mI 0 2 5]) .ret) .skip))
 (.seq (.seq
 (.ops 87 10 [fO 0 74 5 1, lO 1 75 true false 1 74, nO 2 76 75, bC 3 77 .gtr 76 24, mM 4 78 77, gG 5 79 78 false (.off 6 (.t 1)), gG 6 80 78 false (.load true false 1 (.t 79)), gG 7 81 78 false (.len .sl (.t 80)), gG 8 82 78 false (.bin .gtr .no (.t 81) (.c (.int .i64 16))), oO 9 83 (.pick (.t 78) (.c (.bool true)) (.t 82))])
 (.cond (.t 83)
 (.seq (.ops 97 1 [mI 0 2 5]) .ret) .skip))
 (.seq (.seq
 (.ops 98 4 [fO 0 84 2 1, lO 1 85 true false 1 84, nO 2 86 85, mI 3 87 0])
 (.block 4
 (.loop [(85, 0), (86, 0), (87, 0)]
 (.seq (.ops 102 1 [bT 0 88 .lss 87 86])
 (.seq (.cond (.t 88) .skip
 (.exit 4))
 (.seq (.block 5
 (.seq (.ops 103 3 [xO 0 89 1 85 87, lO 1 90 false false 1 89, mM 2 9 90])
 (.seq (.ops 106 6 [mM 0 91 9, bC 1 92 .lss 91 (-100), mM 2 93 92, gM 3 94 93 false 9, gG 4 95 93 false (.bin .gtr .no (.t 94) (.c (.int .i64 100))), oO 5 96 (.pick (.t 93) (.c (.bool true)) (.t 95))])
 (.cond (.t 96)
 (.seq (.ops 112 1 [mI 0 2 3]) .ret) .skip))))
 (.ops 113 2 [bC 0 97 .add 87 1, mM 1 87 97])))))))
 (.seq (.ops 115 1 [mI 0 2 0]) .ret)))))))))),
 [.t 2]⟩
def q5b : KFn := ⟨
 (.seq (.ops 8 2 [oO 0 3 (.box 7 (.t 1)), mI 1 4 0])
 (.seq (.seq
 (.ops 10 4 [fO 0 13 0 3, lO 1 14 true false 1 13, oO 2 15 (.callF q8B [(.t 14)]), oO 3 16 (.un .not (.t 15))])
 (.cond (.t 16)
 (.seq (.ops 14 1 [mI 0 4 1]) .ret) .skip))
 (.seq (.seq
 (.ops 15 13 [fO 0 17 2 3, lO 1 18 true false 1 17, bC 2 19 .neq 18 1, mM 3 20 19, gG 4 21 20 true (.off 2 (.t 3)), gG 5 22 20 true (.load true false 1 (.t 21)), gG 6 23 20 true (.bin .neq .no (.t 22) (.c (.int .i64 2))), oO 7 24 (.pick (.t 20) (.t 23) (.c (.bool false))), mM 8 25 24, gG 9 26 25 true (.off 2 (.t 3)), gG 10 27 25 true (.load true false 1 (.t 26)), gG 11 28 25 true (.bin .neq .no (.t 27) (.c (.int .i64 4))), oO 12 29 (.pick (.t 25) (.t 28) (.c (.bool false)))])
 (.cond (.t 29)
 (.seq (.ops 28 1 [mI 0 4 1]) .ret) .skip))
 (.seq (.seq
 (.ops 29 3 [mM 0 30 0, nO 1 31 30, mI 2 32 0])
 (.block 0
 (.loop [(3, 0), (30, 0), (31, 0), (32, 0)]
 (.seq (.ops 32 1 [bT 0 33 .lss 32 31])
 (.seq (.cond (.t 33) .skip
 (.exit 0))
 (.seq (.block 1
 (.seq (.ops 33 4 [xO 0 34 7 30 32, lO 1 35 false true 7 34, oO 2 6 (.new 7 (.agg [(.str ⟨#[]⟩), .nilsl, (.int .i64 0), .nilsl, .nilsl, .nilsl, (.bool false)])), sT 3 true 7 6 35])
 (.seq (.ops 37 5 [fO 0 36 0 6, lO 1 37 true false 1 36, fO 2 38 0 3, lO 3 39 true false 1 38, bT 4 40 .eql 37 39])
 (.cond (.t 40)
 (.seq (.ops 42 1 [mI 0 4 7]) .ret) .skip))))
 (.ops 43 2 [bC 0 41 .add 32 1, mM 1 32 41])))))))
 (.seq (.seq
 (.ops 45 7 [lO 0 43 true true 7 3, oO 1 44 (.callF q4a [(.t 43), (.c (.int .i64 0))]), mM 2 42 44, eO 3 45 42 0, eO 4 46 42 1, mM 5 7 45, mM 6 8 46])
 (.seq (.ops 52 2 [mM 0 47 8, bC 1 48 .neq 47 0])
 (.cond (.t 48)
 (.seq (.ops 54 2 [mM 0 49 8, mM 1 4 49]) .ret) .skip)))
 (.seq (.seq
 (.ops 56 7 [lO 0 51 true true 7 3, oO 1 52 (.callF qcz [(.t 51), (.c (.int .i64 0))]), mM 2 50 52, eO 3 53 50 0, eO 4 54 50 1, mM 5 9 53, mM 6 10 54])
 (.seq (.ops 63 2 [mM 0 55 10, bC 1 56 .neq 55 0])
 (.cond (.t 56)
 (.seq (.ops 65 2 [mM 0 57 10, mM 1 4 57]) .ret) .skip)))
 (.seq (.seq
 (.ops 67 7 [fO 0 58 5 3, lO 1 59 true false 1 58, nO 2 60 59, fO 3 61 1 3, lO 4 62 true false 1 61, nO 5 63 62, bT 6 64 .neq 60 63])
 (.cond (.t 64)
 (.seq (.ops 74 1 [mI 0 4 1]) .ret) .skip))
 (.seq (.seq
 (.ops 75 4 [fO 0 65 5 3, lO 1 66 true false 1 65, nO 2 67 66, mI 3 68 0])
 (.block 2
 (.loop [(66, 0), (67, 0), (68, 0)]
 (.seq (.ops 79 1 [bT 0 69 .lss 68 67])
 (.seq (.cond (.t 69) .skip
 (.exit 2))
 (.seq (.block 3
 (.seq (.ops 80 3 [xO 0 70 1 66 68, lO 1 71 false false 1 70, mM 2 12 71])
 (.seq (.ops 83 6 [mM 0 72 12, bC 1 73 .lss 72 0, mM 2 74 73, gM 3 75 74 false 12, gG 4 76 74 false (.bin .gtr .no (.t 75) (.c (.int .i64 500))), oO 5 77 (.pick (.t 74) (.c (.bool true)) (.t 76))])
 (.cond (.t 77)
 (.seq (.ops 89 1 [mI 0 4 3]) .ret) .skip))))
 (.ops 90 2 [bC 0 78 .add 68 1, mM 1 68 78])))))))
 (.seq (.ops 92 1 [mI 0 4 0]) .ret))))))))),
 [.t 4]⟩
def q84 : KFn := ⟨
 (.seq (.ops 0 2 [oO 0 3 (.box 7 (.t 0)), oO 1 6 (.mov (.c (.bool false)))])
 (.seq (.ops 2 25 [mM 0 7 1, oO 1 8 (.bin .leq .no (.c (.int .i64 0)) (.t 7)), mM 2 9 8, gM 3 10 9 true 1, gG 4 11 9 true (.off 3 (.t 3)), gG 5 12 9 true (.load true false 1 (.t 11)), gG 6 13 9 true (.len .sl (.t 12)), gG 7 14 9 true (.bin .lss .no (.t 10) (.t 13)), oO 8 15 (.pick (.t 9) (.t 14) (.c (.bool false))), mM 9 16 15, gM 10 17 16 true 2, gG 11 18 16 true (.bin .leq .no (.c (.int .i64 0)) (.t 17)), oO 12 19 (.pick (.t 16) (.t 18) (.c (.bool false))), mM 13 20 19, gM 14 21 20 true 2, gG 15 22 20 true (.off 3 (.t 3)), gG 16 23 20 true (.load true false 1 (.t 22)), gM 17 24 20 true 1, gG 18 25 20 true (.ixs 7 (.t 23) (.t 24)), gG 19 26 20 true (.off 1 (.t 25)), gG 20 27 20 true (.load false false 1 (.t 26)), gG 21 28 20 true (.len .sl (.t 27)), gG 22 29 20 true (.bin .lss .no (.t 21) (.t 28)), oO 23 30 (.pick (.t 20) (.t 29) (.c (.bool false))), mM 24 6 30]) .ret)),
 [.t 6]⟩
def q5N : KFn := ⟨
 (.seq (.ops 0 4 [oO 0 3 (.box 7 (.t 0)), oO 1 6 (.mov (.c .nilsl)), oO 2 7 (.new 7 (.agg [(.str ⟨#[]⟩), .nilsl, (.int .i64 0), .nilsl, .nilsl, .nilsl, (.bool false)])), mI 3 8 0])
 (.seq (.seq
 (.ops 4 3 [lO 0 13 true true 7 3, oO 1 14 (.callF q0W [(.t 13)]), mM 2 9 14])
 (.seq (.ops 7 2 [mM 0 15 9, bC 1 16 .neq 15 0])
 (.cond (.t 16)
 (.seq (.ops 9 5 [oO 0 17 (.build [(.str ⟨#[]⟩), .nilsl, (.int .i64 0), .nilsl, .nilsl, .nilsl, (.bool false)] []), mM 1 18 9, oO 2 6 (.mov (.c .nilsl)), sT 3 true 7 7 17, mM 4 8 18]) .ret) .skip)))
 (.seq (.seq
 (.ops 14 20 [mM 0 19 1, bC 1 20 .lss 19 0, mM 2 21 20, gM 3 22 21 false 1, gG 4 23 21 false (.off 1 (.t 3)), gG 5 24 21 false (.load true false 1 (.t 23)), gG 6 25 21 false (.len .sl (.t 24)), gG 7 26 21 false (.bin .geq .no (.t 22) (.t 25)), oO 8 27 (.pick (.t 21) (.c (.bool true)) (.t 26)), mM 9 28 27, gM 10 29 28 false 2, gG 11 30 28 false (.bin .lss .no (.t 29) (.c (.int .i64 0))), oO 12 31 (.pick (.t 28) (.c (.bool true)) (.t 30)), mM 13 32 31, gM 14 33 32 false 2, gG 15 34 32 false (.off 4 (.t 3)), gG 16 35 32 false (.load true false 1 (.t 34)), gG 17 36 32 false (.len .sl (.t 35)), gG 18 37 32 false (.bin .geq .no (.t 33) (.t 36)), oO 19 38 (.pick (.t 32) (.c (.bool true)) (.t 37))])
 (.cond (.t 38)
 (.seq (.ops 34 4 [oO 0 39 (.build [(.str ⟨#[]⟩), .nilsl, (.int .i64 0), .nilsl, .nilsl, .nilsl, (.bool false)] []), oO 1 6 (.mov (.c .nilsl)), sT 2 true 7 7 39, mI 3 8 3]) .ret) .skip))
 (.seq (.ops 38 12 [fO 0 40 3 3, lB 1 41 1 12 true false 1 40, fO 2 42 4 3, lB 3 43 4 12 true false 1 42, mM 4 44 2, xB 5 45 28 12 3 43 44, fO 6 46 0 45, lB 7 47 124 12 false false 1 46, xB 8 48 255 12 7 41 47, lB 9 49 511 12 false true 7 48, ⟨10, some 10, none, (.bef 0 12), .new 7 (.agg [(.str ⟨#[]⟩), .nilsl, (.int .i64 0), .nilsl, .nilsl, .nilsl, (.bool false)])⟩, ⟨11, none, none, (.init 10), .store true 7 (.t 10) (.t 49)⟩])
 (.seq (.ops 50 12 [lB 0 51 0 12 true true 7 10, fO 1 52 2 3, lB 2 53 2 12 true false 1 52, mM 3 54 1, xB 4 55 14 12 1 53 54, lB 5 56 30 12 false false 1 55, oB 6 57 63 12 (.callF q4a [(.t 51), (.t 56)]), mM 7 50 57, eO 8 58 50 0, eO 9 59 50 1, mM 10 11 58, mM 11 12 59])
 (.seq (.ops 62 6 [mM 0 60 11, lB 1 61 0 6 true true 7 10, mM 2 62 12, mM 3 6 60, ⟨4, none, none, (.bef 11 6), .store true 7 (.t 7) (.t 61)⟩, mM 5 8 62]) .ret)))))),
 [.t 6, .cell 7 true 7, .t 8]⟩
def q85 : KFn := ⟨
 (.seq (.ops 0 1 [oO 0 4 (.mov (.c (.bool false)))])
 (.seq (.ops 1 10 [mM 0 5 1, oO 1 6 (.un .neg (.t 5)), mM 2 7 0, bT 3 8 .leq 6 7, mM 4 9 8, gM 5 10 9 true 0, gM 6 11 9 true 1, gG 7 12 9 true (.bin .leq .no (.t 10) (.t 11)), oO 8 13 (.pick (.t 9) (.t 12) (.c (.bool false))), mM 9 4 13]) .ret)),
 [.t 4]⟩
def q7d : KFn := ⟨
 (.seq (.ops 16 1 [mI 0 2 0])
 (.seq (.seq
 (.ops 17 3 [mM 0 11 0, nO 1 12 11, bC 2 13 .gtr 12 16])
 (.cond (.t 13)
 (.seq (.ops 20 1 [mI 0 2 5]) .ret) .skip))
 (.seq (.seq
 (.ops 21 3 [mM 0 14 0, nO 1 15 14, bC 2 16 .lss 15 2])
 (.cond (.t 16)
 (.seq (.ops 24 1 [mI 0 2 11]) .ret) .skip))
 (.seq (.seq
 (.ops 25 3 [mM 0 17 0, nO 1 18 17, mI 2 19 0])
 (.block 0
 (.loop [(0, 0), (17, 0), (18, 0), (19, 0)]
 (.seq (.ops 28 1 [bT 0 20 .lss 19 18])
 (.seq (.cond (.t 20) .skip
 (.exit 0))
 (.seq (.block 1
 (.seq (.ops 29 6 [mM 0 21 19, xO 1 22 2 17 19, lO 2 23 false true 2 22, oO 3 4 (.new 2 (.agg [(.str ⟨#[]⟩), .nilsl])), mM 4 3 21, sT 5 true 2 4 23])
 (.seq (.seq
 (.ops 35 4 [fO 0 24 0 4, lO 1 25 true false 1 24, oO 2 26 (.callF qa3 [(.t 25)]), oO 3 27 (.un .not (.t 26))])
 (.cond (.t 27)
 (.seq (.ops 39 1 [mI 0 2 1]) .ret) .skip))
 (.seq (.seq
 (.ops 40 5 [mM 0 28 0, mM 1 29 3, oO 2 30 (.slsl 2 (.t 28) none (some (.t 29)) none), nO 3 31 30, mI 4 32 0])
 (.block 2
 (.loop [(0, 0), (4, 0), (17, 0), (18, 0), (19, 0), (30, 0), (31, 0), (32, 0)]
 (.seq (.ops 45 1 [bT 0 33 .lss 32 31])
 (.seq (.cond (.t 33) .skip
 (.exit 2))
 (.seq (.block 3
 (.seq (.ops 46 4 [xO 0 34 2 30 32, lO 1 35 false true 2 34, oO 2 6 (.new 2 (.agg [(.str ⟨#[]⟩), .nilsl])), sT 3 true 2 6 35])
 (.seq (.ops 50 5 [fO 0 36 0 6, lO 1 37 true false 1 36, fO 2 38 0 4, lO 3 39 true false 1 38, bT 4 40 .eql 37 39])
 (.cond (.t 40)
 (.seq (.ops 55 1 [mI 0 2 7]) .ret) .skip))))
 (.ops 56 2 [bC 0 41 .add 32 1, mM 1 32 41])))))))
 (.seq (.ops 58 4 [fO 0 42 1 4, lO 1 43 true false 1 42, oO 2 44 (.callF q6z [(.t 43)]), mM 3 7 44])
 (.seq (.ops 62 2 [mM 0 45 7, bC 1 46 .neq 45 0])
 (.cond (.t 46)
 (.seq (.ops 64 2 [mM 0 47 7, mM 1 2 47]) .ret) .skip)))))))
 (.ops 66 2 [bC 0 48 .add 19 1, mM 1 19 48])))))))
 (.seq (.seq
 (.ops 68 3 [mM 0 49 0, nO 1 50 49, mI 2 51 0])
 (.block 4
 (.loop [(0, 0), (49, 0), (50, 0), (51, 0)]
 (.seq (.ops 71 1 [bT 0 52 .lss 51 50])
 (.seq (.cond (.t 52) .skip
 (.exit 4))
 (.seq (.block 5
 (.seq (.ops 72 6 [mM 0 53 51, xO 1 54 2 49 51, lO 2 55 false true 2 54, oO 3 9 (.new 2 (.agg [(.str ⟨#[]⟩), .nilsl])), mM 4 8 53, sT 5 true 2 9 55])
 (.seq (.ops 78 10 [mM 0 56 0, mM 1 57 8, bC 2 58 .add 57 1, mM 3 59 0, nO 4 60 59, bT 5 61 .rem 58 60, xO 6 62 2 56 61, lO 7 63 false true 2 62, oO 8 10 (.new 2 (.agg [(.str ⟨#[]⟩), .nilsl])), sT 9 true 2 10 63])
 (.seq (.ops 88 13 [fO 0 64 1 9, lB 1 65 1 13 true false 1 64, fO 2 66 1 9, lB 3 67 4 13 true false 1 66, oB 4 68 12 13 (.len .sl (.t 67)), bC 5 69 .sub 68 1, xB 6 70 63 13 2 65 69, lB 7 71 127 13 false true 2 70, fO 8 72 1 10, lB 9 73 256 13 true false 1 72, oB 10 74 768 13 (.ixs 2 (.t 73) (.c (.int .i64 0))), lB 11 75 1792 13 false true 2 74, oO 12 76 (.bin .neq (.flat [.int, .int]) (.t 71) (.t 75))])
 (.cond (.t 76)
 (.seq (.ops 101 1 [mI 0 2 11]) .ret) .skip)))))
 (.ops 102 2 [bC 0 77 .add 51 1, mM 1 51 77])))))))
 (.seq (.ops 104 4 [mM 0 78 0, oO 1 79 (.callF q5q [(.t 78)]), oO 2 80 (.callF q50 [(.t 79)]), mM 3 2 80]) .ret)))))),
 [.t 2]⟩
def q2T : KFn := ⟨
 (.seq (.ops 0 2 [oO 0 2 (.box 2 (.t 0)), oO 1 4 (.new 2 (.agg [(.int .i64 0), (.int .i64 0)]))])
 (.seq (.ops 2 11 [fO 0 6 0 2, lB 1 7 1 11 true false 1 6, mM 2 8 1, fO 3 9 0 2, lB 4 10 8 11 true false 1 9, oB 5 11 24 11 (.len .sl (.t 10)), bT 6 12 .rem 8 11, xB 7 13 127 11 2 7 12, lB 8 14 255 11 false true 2 13, oB 9 5 0 11 (.new 2 (.agg [(.int .i64 0), (.int .i64 0)])), ⟨10, none, none, (.init 9), .store true 2 (.t 5) (.t 14)⟩])
 (.seq (.ops 13 12 [fO 0 15 1 2, lO 1 16 true false 1 15, fO 2 17 0 5, lO 3 18 true false 1 17, bT 4 19 .mul 16 18, fO 5 20 1 2, lO 6 21 true false 1 20, fO 7 22 1 5, lO 8 23 true false 1 22, bT 9 24 .mul 21 23, oO 10 25 (.build [(.int .i64 0), (.int .i64 0)] [(0, 1, (.t 19)), (1, 1, (.t 24))]), sT 11 true 2 4 25]) .ret))),
 [.cell 4 true 2]⟩
def q9l : KFn := ⟨
 (.seq (.ops 14 3 [oO 0 4 (.box 2 (.t 1)), oO 1 5 (.box 2 (.t 2)), oO 2 6 (.mov (.c .nilsl))])
 (.seq (.ops 17 4 [mM 0 11 0, nO 1 12 11, bC 2 13 .sub 12 1, mM 3 7 13])
 (.seq (.ops 21 4 [mM 0 14 0, nO 1 15 14, oO 2 16 (.mkslice ⟨2, 16, (.agg [(.int .i64 0), (.int .i64 0)])⟩ (.t 15) (.t 15)), mM 3 8 16])
 (.seq (.seq
 (.ops 25 3 [mM 0 17 0, nO 1 18 17, mI 2 19 0])
 (.block 0
 (.loop [(4, 0), (5, 0), (7, 0), (8, 0), (17, 0), (18, 0), (19, 0)]
 (.seq (.ops 28 1 [bT 0 20 .lss 19 18])
 (.seq (.cond (.t 20) .skip
 (.exit 0))
 (.seq (.block 1
 (.seq (.ops 29 6 [mM 0 21 19, xO 1 22 2 17 19, lO 2 23 false true 2 22, oO 3 10 (.new 2 (.agg [(.int .i64 0), (.int .i64 0)])), mM 4 9 21, sT 5 true 2 10 23])
 (.ops 35 37 [mM 0 24 8, mM 1 25 9, fO 2 26 0 10, lB 3 27 4 37 true false 1 26, mM 4 28 7, mM 5 29 9, bT 6 30 .sub 28 29, fO 7 31 0 4, lB 8 32 128 37 true false 1 31, bT 9 33 .mul 30 32, mM 10 34 9, fO 11 35 0 5, lB 12 36 2048 37 true false 1 35, bT 13 37 .mul 34 36, bT 14 38 .add 33 37, mM 15 39 7, oB 16 40 65520 37 (.callF q3G [(.t 38), (.t 39)]), bT 17 41 .add 27 40, fO 18 42 1 10, lB 19 43 262144 37 true false 1 42, mM 20 44 7, mM 21 45 9, bT 22 46 .sub 44 45, fO 23 47 1 4, lB 24 48 8388608 37 true false 1 47, bT 25 49 .mul 46 48, mM 26 50 9, fO 27 51 1 5, lB 28 52 134217728 37 true false 1 51, bT 29 53 .mul 50 52, bT 30 54 .add 49 53, mM 31 55 7, oB 32 56 4294049776 37 (.callF q3G [(.t 54), (.t 55)]), bT 33 57 .add 43 56, oO 34 58 (.build [(.int .i64 0), (.int .i64 0)] [(0, 1, (.t 41)), (1, 1, (.t 57))]), xB 35 59 34359738367 37 2 24 25, ⟨36, none, none, (.bef 68719476735 37), .store false 2 (.t 59) (.t 58)⟩])))
 (.ops 72 2 [bC 0 60 .add 19 1, mM 1 19 60])))))))
 (.seq (.ops 74 2 [mM 0 61 8, mM 1 6 61]) .ret))))),
 [.t 6]⟩
def q5c : KFn := ⟨
 (.seq (.ops 14 2 [oO 0 4 (.mov (.c .nilsl)), mI 1 5 0])
 (.seq (.ops 16 7 [mM 0 21 0, oO 1 22 (.callF q62 [(.t 21)]), mM 2 20 22, eO 3 23 20 0, eO 4 24 20 1, mM 5 6 23, mM 6 7 24])
 (.seq (.seq
 (.ops 23 2 [mM 0 25 7, bC 1 26 .neq 25 0])
 (.cond (.t 26)
 (.seq (.ops 25 3 [mM 0 27 7, oO 1 4 (.mov (.c .nilsl)), mM 2 5 27]) .ret) .skip))
 (.seq (.seq
 (.ops 28 5 [mM 0 28 1, nO 1 29 28, mM 2 30 0, nO 3 31 30, bT 4 32 .neq 29 31])
 (.cond (.t 32)
 (.seq (.ops 33 2 [oO 0 4 (.mov (.c .nilsl)), mI 1 5 1]) .ret) .skip))
 (.seq (.seq
 (.ops 35 3 [mM 0 33 1, nO 1 34 33, mI 2 35 0])
 (.block 0
 (.loop [(0, 0), (1, 0), (6, 0), (33, 0), (34, 0), (35, 0)]
 (.seq (.ops 38 1 [bT 0 36 .lss 35 34])
 (.seq (.cond (.t 36) .skip
 (.exit 0))
 (.seq (.block 1
 (.seq (.ops 39 3 [xO 0 37 1 33 35, lO 1 38 false false 1 37, mM 2 9 38])
 (.seq (.ops 42 6 [mM 0 39 9, bC 1 40 .lss 39 0, mM 2 41 40, gM 3 42 41 false 9, gG 4 43 41 false (.bin .gtr .no (.t 42) (.c (.int .i64 500))), oO 5 44 (.pick (.t 41) (.c (.bool true)) (.t 43))])
 (.cond (.t 44)
 (.seq (.ops 48 2 [oO 0 4 (.mov (.c .nilsl)), mI 1 5 3]) .ret) .skip))))
 (.ops 50 2 [bC 0 45 .add 35 1, mM 1 35 45])))))))
 (.seq (.ops 52 3 [mM 0 46 6, oO 1 47 (.callF q2a [(.t 46)]), mM 2 10 47])
 (.seq (.ops 55 4 [mM 0 48 0, mM 1 49 1, oO 2 50 (.callF q2J [(.t 48), (.t 49)]), mM 3 11 50])
 (.seq (.ops 59 4 [mM 0 51 6, nO 1 52 51, oO 2 53 (.mkslice ⟨2, 16, (.agg [(.int .i64 0), (.int .i64 0)])⟩ (.t 52) (.t 52)), mM 3 12 53])
 (.seq (.seq
 (.ops 63 3 [mM 0 54 6, nO 1 55 54, mI 2 56 0])
 (.block 2
 (.loop [(6, 0), (10, 0), (11, 0), (12, 0), (54, 0), (55, 0), (56, 0)]
 (.seq (.ops 66 1 [bT 0 57 .lss 56 55])
 (.seq (.cond (.t 57) .skip
 (.exit 2))
 (.seq (.block 3
 (.seq (.ops 67 6 [mM 0 58 56, xO 1 59 2 54 56, lO 2 60 false true 2 59, oO 3 14 (.new 2 (.agg [(.int .i64 0), (.int .i64 0)])), mM 4 13 58, sT 5 true 2 14 60])
 (.seq (.ops 73 10 [mM 0 61 6, mM 1 62 13, bC 2 63 .add 62 1, mM 3 64 6, nO 4 65 64, bT 5 66 .rem 63 65, xO 6 67 2 61 66, lO 7 68 false true 2 67, oO 8 15 (.new 2 (.agg [(.int .i64 0), (.int .i64 0)])), sT 9 true 2 15 68])
 (.seq (.ops 83 19 [fO 0 69 0 15, lB 1 70 1 19 true false 1 69, fO 2 71 0 14, lB 3 72 4 19 true false 1 71, bT 4 73 .sub 70 72, fO 5 74 1 15, lB 6 75 32 19 true false 1 74, fO 7 76 1 14, lB 8 77 128 19 true false 1 76, bT 9 78 .sub 75 77, mM 10 79 10, mM 11 80 11, mM 12 81 13, xB 13 82 6144 19 1 80 81, lB 14 83 14336 19 false false 1 82, bT 15 84 .mul 79 83, mM 16 16 73, mM 17 17 78, mM 18 18 84])
 (.seq (.ops 102 9 [mM 0 85 16, mM 1 86 16, bT 2 87 .mul 85 86, mM 3 88 17, mM 4 89 17, bT 5 90 .mul 88 89, bT 6 91 .add 87 90, oO 7 92 (.callF qa4 [(.t 91)]), mM 8 19 92])
 (.ops 111 16 [mM 0 93 12, mM 1 94 13, mM 2 95 18, mM 3 96 17, bT 4 97 .mul 95 96, mM 5 98 19, oO 6 99 (.callF q2h [(.t 97), (.t 98)]), mM 7 100 18, oO 8 101 (.un .neg (.t 100)), mM 9 102 16, bT 10 103 .mul 101 102, mM 11 104 19, oO 12 105 (.callF q2h [(.t 103), (.t 104)]), oO 13 106 (.build [(.int .i64 0), (.int .i64 0)] [(0, 1, (.t 99)), (1, 1, (.t 105))]), xO 14 107 2 93 94, sT 15 false 2 107 106]))))))
 (.ops 127 2 [bC 0 108 .add 56 1, mM 1 56 108])))))))
 (.seq (.ops 129 3 [mM 0 109 12, mM 1 4 109, mI 2 5 0]) .ret)))))))))),
 [.t 4, .t 5]⟩
def q5O : KFn := ⟨
 (.seq (.ops 0 2 [oO 0 2 (.mov (.c .nilsl)), mI 1 3 0])
 (.seq (.seq
 (.ops 2 3 [mM 0 5 0, oO 1 6 (.callF q4Y [(.t 5)]), mM 2 4 6])
 (.seq (.ops 5 2 [mM 0 7 4, bC 1 8 .neq 7 0])
 (.cond (.t 8)
 (.seq (.ops 7 3 [mM 0 9 4, oO 1 2 (.mov (.c .nilsl)), mM 2 3 9]) .ret) .skip)))
 (.seq (.ops 10 4 [mM 0 10 0, oO 1 11 (.callF q5q [(.t 10)]), mM 2 2 11, mI 3 3 0]) .ret))),
 [.t 2, .t 3]⟩
def q2G : KFn := ⟨
 (.seq (.ops 16 1 [oO 0 4 (.mov (.c .nilsl))])
 (.seq (.ops 17 1 [oO 0 5 (.mov (.c .nilsl))])
 (.seq (.seq
 (.ops 18 3 [mM 0 8 0, nO 1 9 8, mI 2 10 0])
 (.block 0
 (.loop [(1, 0), (5, 1), (8, 0), (9, 0), (10, 0)]
 (.seq (.ops 21 1 [bT 0 11 .lss 10 9])
 (.seq (.cond (.t 11) .skip
 (.exit 0))
 (.seq (.block 1
 (.seq (.ops 22 6 [mM 0 12 10, xO 1 13 2 8 10, lO 2 14 false true 2 13, oO 3 7 (.new 2 (.agg [(.str ⟨#[]⟩), .nilsl])), mM 4 6 12, sT 5 true 2 7 14])
 (.seq (.ops 28 5 [fO 0 15 1 7, lO 1 16 true false 1 15, nO 2 17 16, bC 3 18 .sub 17 1, mI 4 19 0])
 (.block 2
 (.loop [(1, 0), (5, 1), (6, 0), (8, 0), (9, 0), (10, 0), (18, 0), (19, 0)]
 (.seq (.ops 33 1 [bT 0 20 .lss 19 18])
 (.seq (.cond (.t 20) .skip
 (.exit 2))
 (.seq (.block 3
 (.ops 34 8 [mM 0 21 5, mM 1 22 1, mM 2 23 6, xO 3 24 1 22 23, lO 4 25 false false 1 24, oO 5 26 (.buildSlice 1 1 [(.int .i64 0)] [(0, (.t 25))]), oO 6 27 (.append ⟨1, 8, (.int .i64 0)⟩ .sl (.t 21) (.t 26)), mM 7 5 27]))
 (.ops 42 2 [bC 0 28 .add 19 1, mM 1 19 28])))))))))
 (.ops 44 2 [bC 0 29 .add 10 1, mM 1 10 29])))))))
 (.seq (.ops 46 2 [mM 0 30 5, mM 1 4 30]) .ret)))),
 [.t 4]⟩
def q7e : KFn := ⟨
 (.seq (.ops 0 3 [oO 0 2 (.box 2 (.t 0)), oO 1 3 (.box 2 (.t 1)), oO 2 4 (.new 2 (.agg [(.int .i64 0), (.int .i64 0)]))])
 (.seq (.ops 3 12 [fO 0 5 0 2, lO 1 6 true false 1 5, fO 2 7 0 3, lO 3 8 true false 1 7, bT 4 9 .add 6 8, fO 5 10 1 2, lO 6 11 true false 1 10, fO 7 12 1 3, lO 8 13 true false 1 12, bT 9 14 .add 11 13, oO 10 15 (.build [(.int .i64 0), (.int .i64 0)] [(0, 1, (.t 9)), (1, 1, (.t 14))]), sT 11 true 2 4 15]) .ret)),
 [.cell 4 true 2]⟩
def q5d : KFn := ⟨
 (.seq (.ops 0 4 [oO 0 3 (.box 2 (.t 0)), oO 1 4 (.box 5 (.t 1)), oO 2 5 (.box 5 (.t 2)), oO 3 6 (.mov (.c .nilsl))])
 (.seq (.ops 4 19 [fO 0 12 0 4, lB 1 13 1 19 true true 2 12, oB 2 14 3 19 (.callF q2b [(.t 13)]), fO 3 15 2 4, lB 4 16 8 19 true true 2 15, oB 5 17 31 19 (.callF q2b [(.t 16)]), fO 6 18 0 5, lB 7 19 64 19 true true 2 18, oB 8 20 255 19 (.callF q2b [(.t 19)]), fO 9 21 2 5, lB 10 22 512 19 true true 2 21, oB 11 23 2047 19 (.callF q2b [(.t 22)]), oB 12 24 4095 19 (.callF qfl [(.t 14), (.t 17), (.t 20), (.t 23)]), mM 13 11 24, eO 14 25 11 0, eO 15 26 11 1, oB 16 7 0 19 (.new 6 (.agg [(.bool false), .nilsl, .nilsl, (.bool false), .nilsl, .nilsl])), ⟨17, none, none, (.init 16), .store true 6 (.t 7) (.t 25)⟩, mM 18 8 26])
 (.seq (.seq
 (.ops 23 2 [mM 0 27 8, bC 1 28 .eql 27 0])
 (.cond (.t 28)
 (.seq (.ops 25 11 [lB 0 30 0 11 true true 6 7, lB 1 31 0 11 true true 2 3, oB 2 32 2 11 (.callF q2b [(.t 31)]), oB 3 33 7 11 (.callF q5E [(.t 30), (.t 32)]), oB 4 34 15 11 (.callF qfm [(.t 33)]), mM 5 29 34, eO 6 35 29 0, eO 7 36 29 1, oB 8 9 0 11 (.new 2 (.agg [(.int .i64 0), (.int .i64 0)])), ⟨9, none, none, (.init 8), .store true 2 (.t 9) (.t 35)⟩, mM 10 10 36])
 (.seq (.ops 36 13 [mM 0 37 10, bC 1 38 .eql 37 0, mM 2 39 38, gG 3 40 39 true (.load true true 2 (.t 9)), gG 4 41 39 true (.off 4 (.t 4)), gG 5 42 39 true (.load true false 1 (.t 41)), gG 6 43 39 true (.off 4 (.t 5)), gG 7 44 39 true (.load true false 1 (.t 43)), gG 8 45 39 true (.mm true [(.t 42), (.t 44)]), gG 9 46 39 true (.bin .mul .no (.c (.int .i64 4)) (.t 45)), gG 10 47 39 true (.bin .add .no (.t 46) (.c (.int .i64 4))), gG 11 48 39 true (.callF q5p [(.t 40), (.t 47)]), oO 12 49 (.pick (.t 39) (.t 48) (.c (.bool false)))])
 (.cond (.t 49)
 (.seq (.ops 49 5 [lO 0 50 true true 2 3, lO 1 51 true true 2 9, oO 2 52 (.callF q4Z [(.t 50), (.t 51)]), oO 3 53 (.buildSlice 2 1 [(.agg [(.int .i64 0), (.int .i64 0)])] [(0, (.t 52))]), mM 4 6 53]) .ret) .skip))) .skip))
 (.seq (.ops 54 6 [fO 0 54 2 4, lO 1 55 true true 2 54, fO 2 56 0 5, lO 3 57 true true 2 56, oO 4 58 (.buildSlice 2 2 [(.agg [(.int .i64 0), (.int .i64 0)]), (.agg [(.int .i64 0), (.int .i64 0)])] [(0, (.t 55)), (1, (.t 57))]), mM 5 6 58]) .ret)))),
 [.t 6]⟩
def q5e : KFn := ⟨
 (.seq (.ops 0 2 [oO 0 2 (.box 2 (.t 0)), oO 1 4 (.mov (.c (.bool false)))])
 (.seq (.ops 2 25 [mM 0 5 1, oO 1 6 (.un .neg (.t 5)), fO 2 7 0 2, lO 3 8 true false 1 7, bT 4 9 .leq 6 8, mM 5 10 9, gG 6 11 10 true (.off 0 (.t 2)), gG 7 12 10 true (.load true false 1 (.t 11)), gM 8 13 10 true 1, gG 9 14 10 true (.bin .leq .no (.t 12) (.t 13)), oO 10 15 (.pick (.t 10) (.t 14) (.c (.bool false))), mM 11 16 15, gM 12 17 16 true 1, gG 13 18 16 true (.un .neg (.t 17)), gG 14 19 16 true (.off 1 (.t 2)), gG 15 20 16 true (.load true false 1 (.t 19)), gG 16 21 16 true (.bin .leq .no (.t 18) (.t 20)), oO 17 22 (.pick (.t 16) (.t 21) (.c (.bool false))), mM 18 23 22, gG 19 24 23 true (.off 1 (.t 2)), gG 20 25 23 true (.load true false 1 (.t 24)), gM 21 26 23 true 1, gG 22 27 23 true (.bin .leq .no (.t 25) (.t 26)), oO 23 28 (.pick (.t 23) (.t 27) (.c (.bool false))), mM 24 4 28]) .ret)),
 [.t 4]⟩
def q7f : KFn := ⟨
 (.seq (.ops 0 1 [mI 0 2 0])
 (.seq (.seq
 (.ops 1 3 [mM 0 3 0, nO 1 4 3, bC 2 5 .gtr 4 40])
 (.cond (.t 5)
 (.seq (.ops 4 1 [mI 0 2 5]) .ret) .skip))
 (.seq (.seq
 (.ops 5 3 [mM 0 6 0, nO 1 7 6, bC 2 8 .lss 7 3])
 (.cond (.t 8)
 (.seq (.ops 8 1 [mI 0 2 11]) .ret) .skip))
 (.seq (.seq
 (.ops 9 2 [mM 0 9 0, oO 1 10 (.callF q1T [(.t 9), (.c (.fn q63 [] []))])])
 (.cond (.t 10)
 (.seq (.ops 11 1 [mI 0 2 3]) .ret) .skip))
 (.seq (.seq
 (.ops 12 3 [mM 0 11 0, oO 1 12 (.callF qa5 [(.t 11)]), oO 2 13 (.un .not (.t 12))])
 (.cond (.t 13)
 (.seq (.ops 15 1 [mI 0 2 11]) .ret) .skip))
 (.seq (.ops 16 1 [mI 0 2 0]) .ret)))))),
 [.t 2]⟩
def q39 : KFn := ⟨
 (.seq (.ops 0 1 [mI 0 2 0])
 (.seq (.ops 1 4 [mM 0 3 0, oO 1 4 (.callF q7u [(.t 3)]), oO 2 5 (.callF q1M [(.t 4), (.c (.int .i64 0))]), mM 3 2 5]) .ret)),
 [.t 2]⟩
def q86 : KFn := ⟨
 (.seq (.ops 0 1 [oO 0 2 (.mov (.c (.bool false)))])
 (.seq (.ops 1 5 [mM 0 3 0, oO 1 4 (.build [(.int .i64 0), (.bool false), .nilsl, .nilsl, (.str ⟨#[]⟩), .nilsl] [(0, 1, (.c (.int .i64 2))), (4, 1, (.t 3))]), oO 2 5 (.callF q51 [(.t 4)]), bC 3 6 .eql 5 0, mM 4 2 6]) .ret)),
 [.t 2]⟩
def q87 : KFn := ⟨
 (.seq (.ops 0 1 [oO 0 2 (.mov (.c (.bool false)))])
 (.seq (.ops 1 6 [mM 0 3 0, oO 1 4 (.buildSlice 1 1 [(.str ⟨#[]⟩)] [(0, (.t 3))]), oO 2 5 (.build [.nilsl, (.int .i64 0), .nilsl] [(0, 1, (.t 4))]), oO 3 6 (.callF qdP [(.t 5)]), bC 4 7 .eql 6 0, mM 5 2 7]) .ret)),
 [.t 2]⟩
def q2H : KFn := ⟨
 (.seq (.ops 0 1 [oO 0 4 (.mov (.c (.bool false)))])
 (.seq (.ops 1 5 [mM 0 5 0, mM 1 6 1, oO 2 7 (.callF q64 [(.t 5), (.t 6)]), bC 3 8 .geq 7 0, mM 4 4 8]) .ret)),
 [.t 4]⟩
def q88 : KFn := ⟨
 (.seq (.ops 0 3 [oO 0 2 (.box 7 (.t 0)), oO 1 4 (.mov (.c .nilsl)), mI 2 5 0])
 (.seq (.ops 3 10 [lO 0 10 true true 7 2, mM 1 11 1, oO 2 12 (.callF qcB [(.t 10), (.t 11)]), mM 3 9 12, eO 4 13 9 0, eO 5 14 9 1, eO 6 15 9 2, mM 7 6 13, mM 8 7 14, mM 9 8 15])
 (.seq (.ops 13 4 [mM 0 16 6, mM 1 17 8, mM 2 4 16, mM 3 5 17]) .ret))),
 [.t 4, .t 5]⟩
def q6k : KFn := ⟨
 (.seq (.ops 0 1 [oO 0 2 (.mov (.c (.bool false)))])
 (.seq (.ops 1 5 [mM 0 3 0, oO 1 4 (.build [(.int .i64 0), (.bool false), .nilsl, .nilsl, (.str ⟨#[]⟩), .nilsl] [(0, 1, (.c (.int .i64 2))), (4, 1, (.t 3))]), oO 2 5 (.callF q51 [(.t 4)]), bC 3 6 .eql 5 0, mM 4 2 6]) .ret)),
 [.t 2]⟩
def q6l : KFn := ⟨
 (.seq (.ops 6 1 [mI 0 2 0])
 (.seq (.seq
 (.ops 7 3 [mM 0 4 0, nO 1 5 4, bC 2 6 .gtr 5 40])
 (.cond (.t 6)
 (.seq (.ops 10 1 [mI 0 2 5]) .ret) .skip))
 (.seq (.seq
 (.ops 11 3 [mM 0 7 0, nO 1 8 7, bC 2 9 .lss 8 2])
 (.cond (.t 9)
 (.seq (.ops 14 1 [mI 0 2 11]) .ret) .skip))
 (.seq (.seq
 (.ops 15 2 [mM 0 10 0, oO 1 11 (.callF q1T [(.t 10), (.c (.fn q5r [] []))])])
 (.cond (.t 11)
 (.seq (.ops 17 1 [mI 0 2 3]) .ret) .skip))
 (.seq (.seq
 (.ops 18 4 [mM 0 12 0, nO 1 13 12, bC 2 14 .sub 13 1, mI 3 15 0])
 (.block 0
 (.loop [(0, 0), (14, 0), (15, 0)]
 (.seq (.ops 22 1 [bT 0 16 .lss 15 14])
 (.seq (.cond (.t 16) .skip
 (.exit 0))
 (.seq (.block 1
 (.seq (.ops 23 2 [mM 0 17 15, mM 1 3 17])
 (.seq (.ops 25 10 [mM 0 18 0, mM 1 19 3, xB 2 20 3 10 2 18 19, lB 3 21 7 10 false true 2 20, mM 4 22 0, mM 5 23 3, bC 6 24 .add 23 1, xB 7 25 112 10 2 22 24, lB 8 26 240 10 false true 2 25, oO 9 27 (.bin .eql (.flat [.int, .int]) (.t 21) (.t 26))])
 (.cond (.t 27)
 (.seq (.ops 35 1 [mI 0 2 11]) .ret) .skip))))
 (.ops 36 2 [bC 0 28 .add 15 1, mM 1 15 28])))))))
 (.seq (.ops 38 1 [mI 0 2 0]) .ret)))))),
 [.t 2]⟩
def q5f : KFn := ⟨
 (.seq (.ops 8 1 [oO 0 2 (.mov (.c .nilsl))])
 (.seq (.ops 9 1 [oO 0 3 (.mov (.c .nilsl))])
 (.seq (.seq
 (.ops 10 3 [mM 0 6 0, nO 1 7 6, mI 2 8 0])
 (.block 0
 (.loop [(3, 2), (6, 0), (7, 0), (8, 0)]
 (.seq (.ops 13 1 [bT 0 9 .lss 8 7])
 (.seq (.cond (.t 9) .skip
 (.exit 0))
 (.seq (.block 1
 (.seq (.ops 14 4 [xO 0 10 2 6 8, lO 1 11 false true 2 10, oO 2 5 (.new 2 (.agg [(.str ⟨#[]⟩), .nilsl])), sT 3 true 2 5 11])
 (.ops 18 10 [mM 0 12 3, fO 1 13 1 5, lO 2 14 true false 1 13, fO 3 15 1 5, lO 4 16 true false 1 15, nO 5 17 16, bC 6 18 .sub 17 1, oO 7 19 (.slsl 2 (.t 14) none (some (.t 18)) none), oO 8 20 (.append ⟨2, 16, (.agg [(.int .i64 0), (.int .i64 0)])⟩ .sl (.t 12) (.t 19)), mM 9 3 20])))
 (.ops 28 2 [bC 0 21 .add 8 1, mM 1 8 21])))))))
 (.seq (.ops 30 2 [mM 0 22 3, mM 1 2 22]) .ret)))),
 [.t 2]⟩
def q4T : KFn := ⟨
 (.seq (.ops 0 1 [mI 0 4 0])
 (.seq (.seq
 (.ops 1 2 [mM 0 5 0, bC 1 6 .lss 5 0])
 (.cond (.t 6)
 (.seq (.ops 3 6 [mM 0 7 0, oO 1 8 (.un .neg (.t 7)), mM 2 9 1, oO 3 10 (.callF q3G [(.t 8), (.t 9)]), oO 4 11 (.un .neg (.t 10)), mM 5 4 11]) .ret) .skip))
 (.seq (.ops 9 8 [mM 0 12 0, oO 1 13 (.bin .mul .no (.c (.int .i64 2)) (.t 12)), mM 2 14 1, bT 3 15 .add 13 14, mM 4 16 1, oO 5 17 (.bin .mul .no (.c (.int .i64 2)) (.t 16)), bT 6 18 .quo 15 17, mM 7 4 18]) .ret))),
 [.t 4]⟩
def q6m : KFn := ⟨
 (.seq (.ops 4 1 [mI 0 2 0])
 (.seq (.ops 5 5 [mM 0 4 0, oO 1 5 (.conv (.float .f64) (.t 4)), oO 2 6 (.callF qh7 [(.t 5)]), oO 3 7 (.conv (.int .i64) (.t 6)), mM 4 3 7])
 (.seq (.block 0
 (.loop [(0, 0), (3, 0)]
 (.seq (.seq
 (.ops 10 5 [mM 0 8 3, mM 1 9 3, bT 2 10 .mul 8 9, mM 3 11 0, bT 4 12 .gtr 10 11])
 (.cond (.t 12) .skip
 (.exit 0)))
 (.block 1
 (.ops 15 3 [mM 0 13 3, bC 1 14 .sub 13 1, mM 2 3 14])))))
 (.seq (.block 2
 (.loop [(0, 0), (3, 0)]
 (.seq (.seq
 (.ops 18 7 [mM 0 15 3, bC 1 16 .add 15 1, mM 2 17 3, bC 3 18 .add 17 1, bT 4 19 .mul 16 18, mM 5 20 0, bT 6 21 .leq 19 20])
 (.cond (.t 21) .skip
 (.exit 2)))
 (.block 3
 (.ops 25 3 [mM 0 22 3, bC 1 23 .add 22 1, mM 2 3 23])))))
 (.seq (.ops 28 2 [mM 0 24 3, mM 1 2 24]) .ret))))),
 [.t 2]⟩
def q36 : KFn := ⟨
 (.seq (.ops 0 1 [mI 0 4 0])
 (.seq (.seq
 (.ops 1 2 [mM 0 5 0, bC 1 6 .lss 5 0])
 (.cond (.t 6)
 (.seq (.ops 3 6 [mM 0 7 0, oO 1 8 (.un .neg (.t 7)), mM 2 9 1, oO 3 10 (.callF q2h [(.t 8), (.t 9)]), oO 4 11 (.un .neg (.t 10)), mM 5 4 11]) .ret) .skip))
 (.seq (.ops 9 8 [mM 0 12 0, oO 1 13 (.bin .mul .no (.c (.int .i64 2)) (.t 12)), mM 2 14 1, bT 3 15 .add 13 14, mM 4 16 1, oO 5 17 (.bin .mul .no (.c (.int .i64 2)) (.t 16)), bT 6 18 .quo 15 17, mM 7 4 18]) .ret))),
 [.t 4]⟩
def qat : KFn := ⟨
 (.seq (.ops 0 6 [oO 0 4 (.box 6 (.t 0)), oO 1 5 (.box 6 (.t 1)), oO 2 6 (.box 6 (.t 2)), oO 3 7 (.box 6 (.t 3)), oO 4 8 (.new 6 (.agg [(.bool false), .nilsl, .nilsl, (.bool false), .nilsl, .nilsl])), mI 5 9 0])
 (.seq (.ops 6 5 [lO 0 13 true true 6 7, lO 1 14 true true 6 6, oO 2 15 (.callF q5E [(.t 13), (.t 14)]), oO 3 10 (.new 6 (.agg [(.bool false), .nilsl, .nilsl, (.bool false), .nilsl, .nilsl])), sT 4 true 6 10 15])
 (.seq (.ops 11 17 [lB 0 17 0 17 true true 6 6, lB 1 18 0 17 true true 6 4, oB 2 19 3 17 (.callF q5E [(.t 17), (.t 18)]), lB 3 20 0 17 true true 6 10, oB 4 21 15 17 (.callF q9F [(.t 19), (.t 20)]), lB 5 22 0 17 true true 6 5, lB 6 23 0 17 true true 6 4, oB 7 24 127 17 (.callF q5E [(.t 22), (.t 23)]), lB 8 25 0 17 true true 6 10, oB 9 26 511 17 (.callF q9F [(.t 24), (.t 25)]), oB 10 27 1023 17 (.callF qh8 [(.t 21), (.t 26)]), mM 11 16 27, eO 12 28 16 0, eO 13 29 16 1, oB 14 11 0 17 (.new 3 (.agg [(.bool false), .nilsl, .nilsl])), ⟨15, none, none, (.init 14), .store true 3 (.t 11) (.t 28)⟩, mM 16 12 29])
 (.seq (.seq
 (.ops 28 2 [mM 0 30 12, oO 1 31 (.un .not (.t 30))])
 (.cond (.t 31)
 (.seq (.ops 30 3 [oO 0 32 (.build [(.bool false), .nilsl, .nilsl, (.bool false), .nilsl, .nilsl] []), sT 1 true 6 8 32, mI 2 9 10]) .ret) .skip))
 (.seq (.ops 33 6 [lO 0 33 true true 6 4, lO 1 34 true true 6 5, lO 2 35 true true 3 11, oO 3 36 (.callF qiH [(.t 33), (.t 34), (.t 35)]), sT 4 true 6 8 36, mI 5 9 0]) .ret))))),
 [.cell 8 true 6, .t 9]⟩
def q5Q : KFn := ⟨
 (.seq (.ops 0 2 [oO 0 1 (.box 2 (.t 0)), oO 1 2 (.new 6 (.agg [(.bool false), .nilsl, .nilsl, (.bool false), .nilsl, .nilsl]))])
 (.seq (.ops 2 6 [fO 0 3 0 1, lO 1 4 true false 1 3, fO 2 5 1 1, lO 3 6 true false 1 5, oO 4 7 (.callF qiI [(.t 4), (.t 6)]), sT 5 true 6 2 7]) .ret)),
 [.cell 2 true 6]⟩
def qau : KFn := ⟨
 (.seq (.ops 0 3 [oO 0 1 (.box 6 (.t 0)), oO 1 2 (.new 2 (.agg [(.int .i64 0), (.int .i64 0)])), mI 2 3 0])
 (.seq (.ops 3 8 [fO 0 9 0 1, lO 1 10 true true 3 9, oO 2 11 (.callF q5s [(.t 10)]), mM 3 8 11, eO 4 12 8 0, eO 5 13 8 1, mM 6 4 12, mM 7 5 13])
 (.seq (.ops 11 8 [fO 0 15 3 1, lO 1 16 true true 3 15, oO 2 17 (.callF q5s [(.t 16)]), mM 3 14 17, eO 4 18 14 0, eO 5 19 14 1, mM 6 6 18, mM 7 7 19])
 (.seq (.seq
 (.ops 19 6 [mM 0 20 5, oO 1 21 (.un .not (.t 20)), mM 2 22 21, gM 3 23 22 false 7, gG 4 24 22 false (.un .not (.t 23)), oO 5 25 (.pick (.t 22) (.c (.bool true)) (.t 24))])
 (.cond (.t 25)
 (.seq (.ops 25 3 [oO 0 26 (.build [(.int .i64 0), (.int .i64 0)] []), sT 1 true 2 2 26, mI 2 3 3]) .ret) .skip))
 (.seq (.ops 28 5 [mM 0 27 4, mM 1 28 6, oO 2 29 (.build [(.int .i64 0), (.int .i64 0)] [(0, 1, (.t 27)), (1, 1, (.t 28))]), sT 3 true 2 2 29, mI 4 3 0]) .ret))))),
 [.cell 2 true 2, .t 3]⟩
def qbW : KFn := ⟨
 (.seq (.ops 0 3 [oO 0 2 (.box 6 (.t 0)), oO 1 3 (.box 6 (.t 1)), oO 2 4 (.new 6 (.agg [(.bool false), .nilsl, .nilsl, (.bool false), .nilsl, .nilsl]))])
 (.seq (.ops 3 12 [fO 0 5 0 2, lB 1 6 1 12 true true 3 5, fO 2 7 0 3, lB 3 8 4 12 true true 3 7, oB 4 9 15 12 (.callF q96 [(.t 6), (.t 8)]), fO 5 10 3 2, lB 6 11 32 12 true true 3 10, fO 7 12 3 3, lB 8 13 128 12 true true 3 12, oB 9 14 511 12 (.callF q96 [(.t 11), (.t 13)]), oO 10 15 (.build [(.bool false), .nilsl, .nilsl, (.bool false), .nilsl, .nilsl] [(0, 3, (.t 9)), (3, 3, (.t 14))]), ⟨11, none, none, (.bef 2047 12), .store true 6 (.t 4) (.t 15)⟩]) .ret)),
 [.cell 4 true 6]⟩
def q1R : KFn := ⟨
 (.seq (.ops 0 1 [oO 0 4 (.mov (.c (.bool false)))])
 (.seq (.ops 1 5 [mM 0 5 0, mM 1 6 1, oO 2 7 (.callF q2e [(.t 5), (.t 6)]), bC 3 8 .geq 7 0, mM 4 4 8]) .ret)),
 [.t 4]⟩
def q5R : KFn := ⟨
 (.seq (.ops 0 2 [oO 0 1 (.box 2 (.t 0)), oO 1 2 (.mov (.c (.bool false)))])
 (.seq (.ops 2 19 [fO 0 3 0 1, lO 1 4 true false 1 3, bC 2 5 .lss 4 (-1048576), mM 3 6 5, gG 4 7 6 false (.off 0 (.t 1)), gG 5 8 6 false (.load true false 1 (.t 7)), gG 6 9 6 false (.bin .gtr .no (.t 8) (.c (.int .i64 1048576))), oO 7 10 (.pick (.t 6) (.c (.bool true)) (.t 9)), mM 8 11 10, gG 9 12 11 false (.off 1 (.t 1)), gG 10 13 11 false (.load true false 1 (.t 12)), gG 11 14 11 false (.bin .lss .no (.t 13) (.c (.int .i64 (-1048576)))), oO 12 15 (.pick (.t 11) (.c (.bool true)) (.t 14)), mM 13 16 15, gG 14 17 16 false (.off 1 (.t 1)), gG 15 18 16 false (.load true false 1 (.t 17)), gG 16 19 16 false (.bin .gtr .no (.t 18) (.c (.int .i64 1048576))), oO 17 20 (.pick (.t 16) (.c (.bool true)) (.t 19)), mM 18 2 20]) .ret)),
 [.t 2]⟩
def q6n : KFn := ⟨
 (.seq (.ops 18 1 [oO 0 2 (.mov (.c (.bool false)))])
 (.seq (.ops 19 3 [mM 0 10 0, nO 1 11 10, mM 2 3 11])
 (.seq (.seq
 (.ops 22 3 [mM 0 12 0, nO 1 13 12, mI 2 14 0])
 (.block 0
 (.loop [(0, 0), (3, 0), (12, 0), (13, 0), (14, 0)]
 (.seq (.ops 25 1 [bT 0 15 .lss 14 13])
 (.seq (.cond (.t 15) .skip
 (.exit 0))
 (.seq (.block 1
 (.seq (.ops 26 6 [mM 0 16 14, xO 1 17 2 12 14, lO 2 18 false true 2 17, oO 3 5 (.new 2 (.agg [(.int .i64 0), (.int .i64 0)])), mM 4 4 16, sT 5 true 2 5 18])
 (.seq (.ops 32 5 [mM 0 19 0, mM 1 20 4, oB 2 21 3 5 (.slsl 2 (.t 19) none (some (.t 20)) none), lB 3 22 0 5 true true 2 5, oB 4 23 15 5 (.callF q3Z [(.t 21), (.t 22)])])
 (.cond (.t 23)
 (.seq (.ops 37 1 [oO 0 2 (.mov (.c (.bool false)))]) .ret) .skip))))
 (.ops 38 2 [bC 0 24 .add 14 1, mM 1 14 24])))))))
 (.seq (.seq
 (.ops 40 3 [mM 0 25 0, nO 1 26 25, mI 2 27 0])
 (.block 2
 (.loop [(0, 0), (3, 0), (25, 0), (26, 0), (27, 0)]
 (.seq (.ops 43 1 [bT 0 28 .lss 27 26])
 (.seq (.cond (.t 28) .skip
 (.exit 2))
 (.seq (.block 3
 (.seq (.ops 44 6 [mM 0 29 27, xO 1 30 2 25 27, lO 2 31 false true 2 30, oO 3 7 (.new 2 (.agg [(.int .i64 0), (.int .i64 0)])), mM 4 6 29, sT 5 true 2 7 31])
 (.seq (.ops 50 9 [mM 0 32 0, mM 1 33 6, bC 2 34 .add 33 1, mM 3 35 3, bT 4 36 .rem 34 35, xO 5 37 2 32 36, lO 6 38 false true 2 37, oO 7 8 (.new 2 (.agg [(.int .i64 0), (.int .i64 0)])), sT 8 true 2 8 38])
 (.seq (.seq
 (.ops 59 10 [lB 0 39 0 10 true true 2 7, lB 1 40 0 10 true true 2 8, mM 2 41 0, mM 3 42 6, bC 4 43 .add 42 2, mM 5 44 3, bT 6 45 .rem 43 44, xB 7 46 124 10 2 41 45, lB 8 47 252 10 false true 2 46, oB 9 48 511 10 (.callF qa6 [(.t 39), (.t 40), (.t 47)])])
 (.cond (.t 48)
 (.seq (.ops 69 1 [oO 0 2 (.mov (.c (.bool false)))]) .ret) .skip))
 (.seq (.ops 70 3 [mM 0 49 6, bC 1 50 .add 49 2, mM 2 9 50])
 (.block 4
 (.loop [(0, 0), (3, 0), (6, 0), (7, 0), (8, 0), (9, 0), (25, 0), (26, 0), (27, 0)]
 (.seq (.seq
 (.ops 73 11 [mM 0 51 9, mM 1 52 3, bT 2 53 .lss 51 52, mM 3 54 53, gM 4 55 54 true 9, gG 5 56 54 true (.bin .add .no (.t 55) (.c (.int .i64 1))), gM 6 57 54 true 3, gG 7 58 54 true (.bin .rem .no (.t 56) (.t 57)), gM 8 59 54 true 6, gG 9 60 54 true (.bin .neq .no (.t 58) (.t 59)), oO 10 61 (.pick (.t 54) (.t 60) (.c (.bool false)))])
 (.cond (.t 61) .skip
 (.exit 4)))
 (.seq (.block 5
 (.seq (.ops 84 14 [lB 0 64 0 14 true true 2 7, lB 1 65 0 14 true true 2 8, mM 2 66 0, mM 3 67 9, xB 4 68 12 14 2 66 67, lB 5 69 28 14 false true 2 68, mM 6 70 0, mM 7 71 9, bC 8 72 .add 71 1, mM 9 73 3, bT 10 74 .rem 72 73, xB 11 75 1984 14 2 70 74, lB 12 76 4032 14 false true 2 75, oB 13 77 8191 14 (.callF qcF [(.t 64), (.t 65), (.t 69), (.t 76)])])
 (.cond (.t 77)
 (.seq (.ops 98 1 [oO 0 2 (.mov (.c (.bool false)))]) .ret) .skip)))
 (.ops 99 3 [mM 0 62 9, bC 1 63 .add 62 1, mM 2 9 63]))))))))))
 (.ops 102 2 [bC 0 78 .add 27 1, mM 1 27 78])))))))
 (.seq (.ops 104 1 [oO 0 2 (.mov (.c (.bool true)))]) .ret))))),
 [.t 2]⟩
def q5S : KFn := ⟨
 (.seq (.ops 0 1 [mI 0 4 0])
 (.seq (.ops 1 3 [mM 0 7 0, oO 1 8 (.callF q52 [(.t 7)]), mM 2 5 8])
 (.seq (.ops 4 3 [mM 0 9 1, oO 1 10 (.callF q52 [(.t 9)]), mM 2 6 10])
 (.seq (.seq
 (.ops 7 1 [mM 0 11 5])
 (.cond (.t 11)
 (.seq (.seq
 (.ops 8 1 [mM 0 12 6])
 (.cond (.t 12)
 (.seq (.ops 9 1 [mI 0 4 0]) .ret) .skip))
 (.seq (.ops 10 1 [mI 0 4 (-1)]) .ret)) .skip))
 (.seq (.seq
 (.ops 11 1 [mM 0 13 6])
 (.cond (.t 13)
 (.seq (.ops 12 1 [mI 0 4 1]) .ret) .skip))
 (.seq (.seq
 (.ops 13 3 [mM 0 14 0, mM 1 15 1, bT 2 16 .lss 14 15])
 (.cond (.t 16)
 (.seq (.ops 16 1 [mI 0 4 (-1)]) .ret) .skip))
 (.seq (.seq
 (.ops 17 3 [mM 0 17 0, mM 1 18 1, bT 2 19 .gtr 17 18])
 (.cond (.t 19)
 (.seq (.ops 20 1 [mI 0 4 1]) .ret) .skip))
 (.seq (.ops 21 1 [mI 0 4 0]) .ret)))))))),
 [.t 4]⟩
def q7g : KFn := ⟨
 (.seq (.ops 0 1 [mI 0 2 0])
 (.seq (.seq
 (.ops 1 3 [mM 0 3 0, oO 1 4 (.callF q50 [(.t 3)]), bC 2 5 .neq 4 0])
 (.cond (.t 5)
 (.seq (.ops 4 1 [mI 0 2 0]) .ret) .skip))
 (.seq (.ops 5 3 [mM 0 6 0, oO 1 7 (.callF qcG [(.t 6)]), mM 2 2 7]) .ret))),
 [.t 2]⟩
def q7h : KFn := ⟨
 (.seq (.ops 0 2 [oO 0 1 (.box 6 (.t 0)), mI 1 2 0])
 (.seq (.ops 2 3 [lO 0 3 true true 6 1, oO 1 4 (.callF q7v [(.t 3), (.c (.int .i64 1))]), mM 2 2 4]) .ret)),
 [.t 2]⟩
def q9n : KFn := ⟨
 (.seq (.ops 8 2 [oO 0 1 (.box 3 (.t 0)), mI 1 2 0])
 (.seq (.seq
 (.ops 10 10 [fO 0 11 0 1, lO 1 12 true false 1 11, nO 2 13 12, bC 3 14 .gtr 13 12, mM 4 15 14, gG 5 16 15 false (.off 2 (.t 1)), gG 6 17 15 false (.load true false 1 (.t 16)), gG 7 18 15 false (.len .sl (.t 17)), gG 8 19 15 false (.bin .gtr .no (.t 18) (.c (.int .i64 32))), oO 9 20 (.pick (.t 15) (.c (.bool true)) (.t 19))])
 (.cond (.t 20)
 (.seq (.ops 20 1 [mI 0 2 5]) .ret) .skip))
 (.seq (.seq
 (.ops 21 4 [fO 0 21 0 1, lO 1 22 true false 1 21, nO 2 23 22, bC 3 24 .eql 23 0])
 (.cond (.t 24)
 (.seq (.ops 25 1 [mI 0 2 1]) .ret) .skip))
 (.seq (.seq
 (.ops 26 4 [fO 0 25 0 1, lO 1 26 true false 1 25, nO 2 27 26, mI 3 28 0])
 (.block 0
 (.loop [(1, 0), (26, 0), (27, 0), (28, 0)]
 (.seq (.ops 30 1 [bT 0 29 .lss 28 27])
 (.seq (.cond (.t 29) .skip
 (.exit 0))
 (.seq (.block 1
 (.seq (.ops 31 3 [xO 0 30 1 26 28, lO 1 31 false false 1 30, mM 2 4 31])
 (.seq (.ops 34 3 [mM 0 32 4, oO 1 33 (.callF qcH [(.t 32)]), oO 2 34 (.un .not (.t 33))])
 (.cond (.t 34)
 (.seq (.ops 37 1 [mI 0 2 1]) .ret) .skip))))
 (.ops 38 2 [bC 0 35 .add 28 1, mM 1 28 35])))))))
 (.seq (.seq
 (.ops 40 4 [fO 0 36 2 1, lO 1 37 true false 1 36, nO 2 38 37, mI 3 39 0])
 (.block 2
 (.loop [(1, 0), (37, 0), (38, 0), (39, 0)]
 (.seq (.ops 44 1 [bT 0 40 .lss 39 38])
 (.seq (.cond (.t 40) .skip
 (.exit 2))
 (.seq (.block 3
 (.seq (.ops 45 4 [xO 0 41 5 37 39, lO 1 42 false true 5 41, oO 2 6 (.new 5 (.agg [(.str ⟨#[]⟩), (.bool false), .nilsl, .nilsl, .nilsl])), sT 3 true 5 6 42])
 (.seq (.ops 49 22 [fO 0 43 0 6, lO 1 44 true false 1 43, oO 2 45 (.callF qiJ [(.t 44)]), oO 3 46 (.un .not (.t 45)), mM 4 47 46, gG 5 48 47 false (.off 4 (.t 6)), gG 6 49 47 false (.load true false 1 (.t 48)), gG 7 50 47 false (.len .sl (.t 49)), gG 8 51 47 false (.off 0 (.t 1)), gG 9 52 47 false (.load true false 1 (.t 51)), gG 10 53 47 false (.len .sl (.t 52)), gG 11 54 47 false (.bin .neq .no (.t 50) (.t 53)), oO 12 55 (.pick (.t 47) (.c (.bool true)) (.t 54)), mM 13 56 55, gG 14 57 56 false (.off 4 (.t 6)), gG 15 58 56 false (.load true false 1 (.t 57)), gG 16 59 56 false (.ixs 3 (.t 58) (.c (.int .i64 0))), gG 17 60 56 false (.load false true 3 (.t 59)), gG 18 61 56 false (.build [(.bool false), .nilsl, .nilsl] []), gG 19 62 56 false (.callF q73 [(.t 60), (.t 61)]), gG 20 63 56 false (.bin .neq .no (.t 62) (.c (.int .i64 0))), oO 21 64 (.pick (.t 56) (.c (.bool true)) (.t 63))])
 (.cond (.t 64)
 (.seq (.ops 71 1 [mI 0 2 1]) .ret) .skip))))
 (.ops 72 2 [bC 0 65 .add 39 1, mM 1 39 65])))))))
 (.seq (.seq
 (.ops 74 4 [fO 0 66 0 1, lO 1 67 true false 1 66, nO 2 68 67, mI 3 69 0])
 (.block 4
 (.loop [(1, 0), (67, 0), (68, 0), (69, 0)]
 (.seq (.ops 78 1 [bT 0 70 .lss 69 68])
 (.seq (.cond (.t 70) .skip
 (.exit 4))
 (.seq (.block 5
 (.seq (.ops 79 5 [mM 0 71 69, xO 1 72 1 67 69, lO 2 73 false false 1 72, mM 3 7 71, mM 4 8 73])
 (.seq (.ops 84 6 [fO 0 74 0 1, lO 1 75 true false 1 74, mM 2 76 7, oO 3 77 (.slsl 1 (.t 75) none (some (.t 76)) none), mM 4 78 8, oO 5 79 (.callF q34 [(.t 77), (.t 78)])])
 (.cond (.t 79)
 (.seq (.ops 90 1 [mI 0 2 7]) .ret) .skip))))
 (.ops 91 2 [bC 0 80 .add 69 1, mM 1 69 80])))))))
 (.seq (.seq
 (.ops 93 4 [fO 0 81 2 1, lO 1 82 true false 1 81, nO 2 83 82, mI 3 84 0])
 (.block 6
 (.loop [(1, 0), (82, 0), (83, 0), (84, 0)]
 (.seq (.ops 97 1 [bT 0 85 .lss 84 83])
 (.seq (.cond (.t 85) .skip
 (.exit 6))
 (.seq (.block 7
 (.seq (.ops 98 6 [mM 0 86 84, xO 1 87 5 82 84, lO 2 88 false true 5 87, oO 3 10 (.new 5 (.agg [(.str ⟨#[]⟩), (.bool false), .nilsl, .nilsl, .nilsl])), mM 4 9 86, sT 5 true 5 10 88])
 (.seq (.ops 104 8 [fO 0 89 2 1, lB 1 90 1 8 true false 1 89, mM 2 91 9, oB 3 92 7 8 (.slsl 5 (.t 90) none (some (.t 91)) none), fO 4 93 0 10, lB 5 94 16 8 true false 1 93, oB 6 95 63 8 (.callF qlF [(.t 92), (.t 94)]), bC 7 96 .geq 95 0])
 (.cond (.t 96)
 (.seq (.ops 112 1 [mI 0 2 7]) .ret) .skip))))
 (.ops 113 2 [bC 0 97 .add 84 1, mM 1 84 97])))))))
 (.seq (.seq
 (.ops 115 5 [lO 0 98 true true 3 1, fO 1 99 1 1, lO 2 100 true false 1 99, oO 3 101 (.callF qbm [(.t 98), (.t 100)]), oO 4 102 (.un .not (.t 101))])
 (.cond (.t 102)
 (.seq (.ops 120 1 [mI 0 2 3]) .ret) .skip))
 (.seq (.ops 121 1 [mI 0 2 0]) .ret))))))))),
 [.t 2]⟩
def q3o : KFn := ⟨
 (.seq (.ops 8 1 [mI 0 4 0])
 (.seq (.seq
 (.ops 9 3 [mM 0 6 0, nO 1 7 6, mI 2 8 0])
 (.block 0
 (.loop [(0, 0), (1, 0), (7, 0), (8, 0)]
 (.seq (.ops 12 1 [bT 0 9 .lss 8 7])
 (.seq (.cond (.t 9) .skip
 (.exit 0))
 (.seq (.block 1
 (.seq (.ops 13 2 [mM 0 10 8, mM 1 5 10])
 (.seq (.ops 15 6 [mM 0 11 1, mM 1 12 0, mM 2 13 5, xO 3 14 1 12 13, lO 4 15 false false 1 14, bT 5 16 .eql 11 15])
 (.cond (.t 16)
 (.seq (.ops 21 2 [mM 0 17 5, mM 1 4 17]) .ret) .skip))))
 (.ops 23 2 [bC 0 18 .add 8 1, mM 1 8 18])))))))
 (.seq (.ops 25 1 [mI 0 4 (-1)]) .ret))),
 [.t 4]⟩
def q8a : KFn := ⟨
 (.seq (.ops 12 4 [oO 0 2 (.box 7 (.t 0)), oO 1 4 (.mov (.c .nilsl)), oO 2 5 (.mov (.c .nilsl)), mI 3 6 0])
 (.seq (.ops 16 8 [lO 0 17 true true 7 2, mM 1 18 1, oO 2 19 (.callF q4a [(.t 17), (.t 18)]), mM 3 16 19, eO 4 20 16 0, eO 5 21 16 1, mM 6 7 20, mM 7 8 21])
 (.seq (.seq
 (.ops 24 2 [mM 0 22 8, bC 1 23 .neq 22 0])
 (.cond (.t 23)
 (.seq (.ops 26 4 [mM 0 24 8, oO 1 4 (.mov (.c .nilsl)), oO 2 5 (.mov (.c .nilsl)), mM 3 6 24]) .ret) .skip))
 (.seq (.seq
 (.ops 30 4 [fO 0 25 3 2, lO 1 26 true false 1 25, nO 2 27 26, bC 3 28 .gtr 27 16])
 (.cond (.t 28)
 (.seq (.ops 34 3 [oO 0 4 (.mov (.c .nilsl)), oO 1 5 (.mov (.c .nilsl)), mI 2 6 5]) .ret) .skip))
 (.seq (.ops 37 1 [oO 0 9 (.mov (.c .nilsl))])
 (.seq (.seq
 (.ops 38 4 [fO 0 29 3 2, lO 1 30 true false 1 29, nO 2 31 30, mI 3 32 0])
 (.block 0
 (.loop [(2, 0), (7, 0), (9, 1), (30, 0), (31, 0), (32, 0)]
 (.seq (.ops 42 1 [bT 0 33 .lss 32 31])
 (.seq (.cond (.t 33) .skip
 (.exit 0))
 (.seq (.block 1
 (.seq (.ops 43 4 [xO 0 34 2 30 32, lO 1 35 false true 2 34, oO 2 11 (.new 2 (.agg [(.int .i64 0), (.int .i64 0)])), sT 3 true 2 11 35])
 (.seq (.seq
 (.ops 47 11 [fO 0 36 0 11, lO 1 37 true false 1 36, bC 2 38 .lss 37 0, mM 3 39 38, gG 4 40 39 false (.off 0 (.t 11)), gG 5 41 39 false (.load true false 1 (.t 40)), gG 6 42 39 false (.off 1 (.t 2)), gG 7 43 39 false (.load true false 1 (.t 42)), gG 8 44 39 false (.len .sl (.t 43)), gG 9 45 39 false (.bin .geq .no (.t 41) (.t 44)), oO 10 46 (.pick (.t 39) (.c (.bool true)) (.t 45))])
 (.cond (.t 46)
 (.seq (.ops 58 3 [oO 0 4 (.mov (.c .nilsl)), oO 1 5 (.mov (.c .nilsl)), mI 2 6 3]) .ret) .skip))
 (.seq (.ops 61 13 [fO 0 48 1 2, lO 1 49 true false 1 48, fO 2 50 0 11, lO 3 51 true false 1 50, xO 4 52 2 49 51, fO 5 53 1 52, lO 6 54 false false 1 53, oO 7 55 (.callF q65 [(.t 54)]), mM 8 47 55, eO 9 56 47 0, eO 10 57 47 1, mM 11 12 56, mM 12 13 57])
 (.seq (.seq
 (.ops 74 2 [mM 0 58 13, bC 1 59 .neq 58 0])
 (.cond (.t 59)
 (.seq (.ops 76 4 [mM 0 60 13, oO 1 4 (.mov (.c .nilsl)), oO 2 5 (.mov (.c .nilsl)), mM 3 6 60]) .ret) .skip))
 (.seq (.ops 80 12 [mM 0 62 7, fO 1 63 0 11, lO 2 64 true false 1 63, xO 3 65 2 62 64, fO 4 66 1 65, lO 5 67 false false 1 66, oO 6 68 (.callF q65 [(.t 67)]), mM 7 61 68, eO 8 69 61 0, eO 9 70 61 1, mM 10 14 69, mM 11 13 70])
 (.seq (.seq
 (.ops 92 2 [mM 0 71 13, bC 1 72 .neq 71 0])
 (.cond (.t 72)
 (.seq (.ops 94 4 [mM 0 73 13, oO 1 4 (.mov (.c .nilsl)), oO 2 5 (.mov (.c .nilsl)), mM 3 6 73]) .ret) .skip))
 (.seq (.ops 98 10 [mM 0 75 12, mM 1 76 14, fO 2 77 1 11, lO 3 78 true false 1 77, oO 4 79 (.callF qcI [(.t 75), (.t 76), (.c (.bool false)), (.t 78)]), mM 5 74 79, eO 6 80 74 0, eO 7 81 74 1, mM 8 15 80, mM 9 13 81])
 (.seq (.seq
 (.ops 108 2 [mM 0 82 13, bC 1 83 .neq 82 0])
 (.cond (.t 83)
 (.seq (.ops 110 4 [mM 0 84 13, oO 1 4 (.mov (.c .nilsl)), oO 2 5 (.mov (.c .nilsl)), mM 3 6 84]) .ret) .skip))
 (.ops 114 5 [mM 0 85 9, mM 1 86 15, oO 2 87 (.buildSlice 1 1 [(.int .i64 0)] [(0, (.t 86))]), oO 3 88 (.append ⟨1, 8, (.int .i64 0)⟩ .sl (.t 85) (.t 87)), mM 4 9 88]))))))))))
 (.ops 119 2 [bC 0 89 .add 32 1, mM 1 32 89])))))))
 (.seq (.ops 121 5 [mM 0 90 9, mM 1 91 7, mM 2 4 90, mM 3 5 91, mI 4 6 0]) .ret))))))),
 [.t 4, .t 5, .t 6]⟩
end Go.F
