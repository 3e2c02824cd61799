/- Parts of the proof, part 31: Code1. -/
import Derived.Test.YtjjkgfikkihokaaGreatZ30
set_option linter.all false
namespace Go.F
def q3C : KFn := ⟨
 (.seq (.ops 0 1 [oO 0 4 (.mov (.c (.bool false)))])
 (.seq (.seq
 (.ops 1 4 [mM 0 9 0, mM 1 10 1, oO 2 11 (.callF qey [(.t 9), (.t 10)]), oO 3 12 (.un .not (.t 11))])
 (.cond (.t 12)
 (.seq (.ops 5 2 [oO 0 13 (.callF q11 []), mM 1 4 13]) .ret) .skip))
 (.seq (.ops 7 8 [mM 0 15 0, mM 1 16 1, oO 2 17 (.callF q2E [(.t 15), (.t 16)]), mM 3 14 17, eO 4 18 14 0, eO 5 19 14 1, mM 6 5 18, mM 7 6 19])
 (.seq (.ops 15 8 [mM 0 21 0, mM 1 22 1, oO 2 23 (.callF qik [(.t 21), (.t 22)]), mM 3 20 23, eO 4 24 20 0, eO 5 25 20 1, mM 6 7 24, mM 7 8 25])
 (.seq (.ops 23 12 [mM 0 26 5, mM 1 27 7, oO 2 28 (.callF q6a [(.t 26), (.t 27)]), mM 3 29 28, gM 4 30 29 true 6, gM 5 31 29 true 8, gG 6 32 29 true (.bin .eql .no (.t 30) (.t 31)), oO 7 33 (.pick (.t 29) (.t 32) (.c (.bool false))), mM 8 34 33, gG 9 35 34 true (.callF q11 []), oO 10 36 (.pick (.t 34) (.t 35) (.c (.bool false))), mM 11 4 36]) .ret))))),
 [.t 4]⟩
def q3F : KFn := ⟨
 (.seq (.ops 8 1 [oO 0 4 (.mov (.c (.bool false)))])
 (.seq (.seq
 (.ops 9 4 [mM 0 13 0, mM 1 14 1, oO 2 15 (.callF qey [(.t 13), (.t 14)]), oO 3 16 (.un .not (.t 15))])
 (.cond (.t 16)
 (.seq (.ops 13 2 [oO 0 17 (.callF q11 []), mM 1 4 17]) .ret) .skip))
 (.seq (.ops 15 8 [mM 0 19 0, mM 1 20 1, oO 2 21 (.callF q2E [(.t 19), (.t 20)]), mM 3 18 21, eO 4 22 18 0, eO 5 23 18 1, mM 6 5 22, mM 7 6 23])
 (.seq (.seq
 (.ops 23 2 [mM 0 24 6, bC 1 25 .neq 24 0])
 (.cond (.t 25)
 (.seq (.ops 25 7 [mM 0 26 5, nO 1 27 26, bC 2 28 .eql 27 0, mM 3 29 28, gG 4 30 29 true (.callF q11 []), oO 5 31 (.pick (.t 29) (.t 30) (.c (.bool false))), mM 6 4 31]) .ret) .skip))
 (.seq (.seq
 (.ops 32 10 [mM 0 32 5, oO 1 33 (.callF q12 [(.t 32)]), bC 2 34 .neq 33 0, mM 3 35 34, gM 4 36 35 false 5, gG 5 37 35 false (.len .sl (.t 36)), gM 6 38 35 false 1, gG 7 39 35 false (.len .sl (.t 38)), gG 8 40 35 false (.bin .neq .no (.t 37) (.t 39)), oO 9 41 (.pick (.t 35) (.c (.bool true)) (.t 40))])
 (.cond (.t 41)
 (.seq (.ops 42 1 [oO 0 4 (.mov (.c (.bool false)))]) .ret) .skip))
 (.seq (.seq
 (.ops 43 1 [mI 0 7 0])
 (.block 0
 (.loop [(0, 0), (1, 0), (5, 0), (7, 0)]
 (.seq (.seq
 (.ops 44 4 [mM 0 42 7, mM 1 43 1, nO 2 44 43, bT 3 45 .lss 42 44])
 (.cond (.t 45) .skip
 (.exit 0)))
 (.seq (.block 1
 (.seq (.ops 48 7 [mM 0 48 5, mM 1 49 7, xO 2 50 2 48 49, fO 3 51 1 50, lO 4 52 false false 1 51, nO 5 53 52, mM 6 8 53])
 (.seq (.seq
 (.ops 55 11 [mM 0 54 8, bC 1 55 .lss 54 2, mM 2 56 55, gM 3 57 56 false 1, gM 4 58 56 false 7, gG 5 59 56 false (.ixs 3 (.t 57) (.t 58)), gG 6 60 56 false (.off 1 (.t 59)), gG 7 61 56 false (.load false false 1 (.t 60)), gG 8 62 56 false (.len .sl (.t 61)), gG 9 63 56 false (.bin .lss .no (.t 62) (.c (.int .i64 2))), oO 10 64 (.pick (.t 56) (.c (.bool true)) (.t 63))])
 (.cond (.t 64)
 (.seq (.ops 66 1 [oO 0 4 (.mov (.c (.bool false)))]) .ret) .skip))
 (.seq (.ops 67 16 [mM 0 66 0, mM 1 67 1, mM 2 68 7, xO 3 69 3 67 68, fO 4 70 1 69, lO 5 71 false false 1 70, oO 6 72 (.ixs 1 (.t 71) (.c (.int .i64 0))), lO 7 73 false false 1 72, oO 8 74 (.callF qjU [(.t 66), (.t 73)]), oO 9 75 (.callF q6N [(.t 74)]), mM 10 65 75, eO 11 76 65 0, eO 12 77 65 1, oO 13 9 (.new 2 (.agg [(.int .i64 0), (.int .i64 0)])), sT 14 true 2 9 76, mM 15 10 77])
 (.seq (.ops 83 23 [mM 0 79 0, mM 1 80 1, mM 2 81 7, xB 3 82 6 23 3 80 81, fO 4 83 1 82, lB 5 84 30 23 false false 1 83, mM 6 85 1, mM 7 86 7, xB 8 87 192 23 3 85 86, fO 9 88 1 87, lB 10 89 960 23 false false 1 88, oB 11 90 1984 23 (.len .sl (.t 89)), bC 12 91 .sub 90 1, xB 13 92 8190 23 1 84 91, lB 14 93 16382 23 false false 1 92, oB 15 94 32767 23 (.callF qjU [(.t 79), (.t 93)]), oB 16 95 65535 23 (.callF q6N [(.t 94)]), mM 17 78 95, eO 18 96 78 0, eO 19 97 78 1, oB 20 11 0 23 (.new 2 (.agg [(.int .i64 0), (.int .i64 0)])), ⟨21, none, none, (.init 20), .store true 2 (.t 11) (.t 96)⟩, mM 22 12 97])
 (.seq (.ops 106 53 [mM 0 98 10, bC 1 99 .neq 98 0, mM 2 100 99, gM 3 101 100 false 12, gG 4 102 100 false (.bin .neq .no (.t 101) (.c (.int .i64 0))), oO 5 103 (.pick (.t 100) (.c (.bool true)) (.t 102)), mM 6 104 103, gM 7 105 104 false 5, gM 8 106 104 false 7, ⟨9, some 107, some (104, false), (.bef 511 53), .ixs 2 (.t 105) (.t 106)⟩, gG 10 108 104 false (.off 1 (.t 107)), ⟨11, some 109, some (104, false), (.bef 2047 53), .load false false 1 (.t 108)⟩, ⟨12, some 110, some (104, false), (.bef 4095 53), .ixs 2 (.t 109) (.c (.int .i64 0))⟩, ⟨13, some 111, some (104, false), (.bef 8191 53), .load false true 2 (.t 110)⟩, ⟨14, some 112, some (104, false), (.bef 127 53), .load true true 2 (.t 9)⟩, gG 15 113 104 false (.bin .neq (.flat [.int, .int]) (.t 111) (.t 112)), oO 16 114 (.pick (.t 104) (.c (.bool true)) (.t 113)), mM 17 115 114, gM 18 116 115 false 5, gM 19 117 115 false 7, ⟨20, some 118, some (115, false), (.bef 1048575 53), .ixs 2 (.t 116) (.t 117)⟩, gG 21 119 115 false (.off 1 (.t 118)), ⟨22, some 120, some (115, false), (.bef 4194303 53), .load false false 1 (.t 119)⟩, gM 23 121 115 false 8, gG 24 122 115 false (.bin .sub .no (.t 121) (.c (.int .i64 1))), ⟨25, some 123, some (115, false), (.bef 33554431 53), .ixs 2 (.t 120) (.t 122)⟩, ⟨26, some 124, some (115, false), (.bef 67108863 53), .load false true 2 (.t 123)⟩, ⟨27, some 125, some (115, false), (.bef 262143 53), .load true true 2 (.t 11)⟩, gG 28 126 115 false (.bin .neq (.flat [.int, .int]) (.t 124) (.t 125)), oO 29 127 (.pick (.t 115) (.c (.bool true)) (.t 126)), mM 30 128 127, gM 31 129 128 false 8, gM 32 130 128 false 1, gM 33 131 128 false 7, ⟨34, some 132, some (128, false), (.bef 15032385535 53), .ixs 3 (.t 130) (.t 131)⟩, gG 35 133 128 false (.off 2 (.t 132)), ⟨36, some 134, some (128, false), (.bef 66571993087 53), .load false false 1 (.t 133)⟩, gG 37 135 128 false (.bin .add .no (.t 134) (.c (.int .i64 1))), gG 38 136 128 false (.bin .gtr .no (.t 129) (.t 135)), oO 39 137 (.pick (.t 128) (.c (.bool true)) (.t 136)), mM 40 138 137, gM 41 139 138 false 5, gM 42 140 138 false 7, ⟨43, some 141, some (138, false), (.bef 8796093022207 53), .ixs 2 (.t 139) (.t 140)⟩, gG 44 142 138 false (.off 0 (.t 141)), ⟨45, some 143, some (138, false), (.bef 35184372088831 53), .load false false 1 (.t 142)⟩, gM 46 144 138 false 1, gM 47 145 138 false 7, ⟨48, some 146, some (138, false), (.bef 213305255788543 53), .ixs 3 (.t 144) (.t 145)⟩, gG 49 147 138 false (.off 0 (.t 146)), ⟨50, some 148, some (138, false), (.bef 1057730185920511 53), .load false false 1 (.t 147)⟩, gG 51 149 138 false (.bin .neq .no (.t 143) (.t 148)), oO 52 150 (.pick (.t 138) (.c (.bool true)) (.t 149))])
 (.cond (.t 150)
 (.seq (.ops 159 1 [oO 0 4 (.mov (.c (.bool false)))]) .ret) .skip)))))))
 (.ops 160 3 [mM 0 46 7, bC 1 47 .add 46 1, mM 2 7 47]))))))
 (.seq (.ops 163 2 [oO 0 151 (.callF q11 []), mM 1 4 151]) .ret))))))),
 [.t 4]⟩
def qfb : KFn := ⟨
 (.seq (.ops 6 1 [oO 0 4 (.mov (.c (.bool false)))])
 (.seq (.seq
 (.ops 7 5 [mM 0 6 0, nO 1 7 6, mM 2 8 1, nO 3 9 8, bT 4 10 .neq 7 9])
 (.cond (.t 10)
 (.seq (.ops 12 1 [oO 0 4 (.mov (.c (.bool false)))]) .ret) .skip))
 (.seq (.seq
 (.ops 13 1 [mI 0 5 0])
 (.block 0
 (.loop [(0, 0), (1, 0), (5, 0)]
 (.seq (.seq
 (.ops 14 4 [mM 0 11 5, mM 1 12 0, nO 2 13 12, bT 3 14 .lss 11 13])
 (.cond (.t 14) .skip
 (.exit 0)))
 (.seq (.block 1
 (.seq (.ops 18 9 [mM 0 17 0, mM 1 18 5, xB 2 19 3 9 2 17 18, lB 3 20 7 9 false true 2 19, mM 4 21 1, mM 5 22 5, xB 6 23 48 9 2 21 22, lB 7 24 112 9 false true 2 23, oO 8 25 (.bin .neq (.flat [.int, .int]) (.t 20) (.t 24))])
 (.cond (.t 25)
 (.seq (.ops 27 1 [oO 0 4 (.mov (.c (.bool false)))]) .ret) .skip)))
 (.ops 28 3 [mM 0 15 5, bC 1 16 .add 15 1, mM 2 5 16]))))))
 (.seq (.ops 31 1 [oO 0 4 (.mov (.c (.bool true)))]) .ret)))),
 [.t 4]⟩
def qcJ : KFn := ⟨
 (.seq (.ops 0 1 [oO 0 0 (.mov (.c (.bool false)))])
 (.seq (.ops 1 7 [oO 0 15 (.callF q6o []), oO 1 16 (.callF q1b [(.t 15)]), mM 2 14 16, eO 3 17 14 0, eO 4 18 14 1, mM 5 1 17, mM 6 2 18])
 (.seq (.ops 20 9 [oO 0 20 (.callF q6o []), oO 1 21 (.build [(.int .i64 0), (.int .i64 0)] [(0, 1, (.c (.int .i64 1))), (1, 1, (.c (.int .i64 11000)))]), oO 2 22 (.callF q1a [(.t 20), (.t 21)]), mM 3 19 22, eO 4 23 19 0, eO 5 24 19 1, oO 6 3 (.new 2 (.agg [(.int .i64 0), (.int .i64 0)])), sT 7 true 2 3 23, mM 8 4 24])
 (.seq (.ops 41 9 [oO 0 26 (.callF q6o []), oO 1 27 (.build [(.int .i64 0), (.int .i64 0)] [(0, 1, (.c (.int .i64 1))), (1, 1, (.c (.int .i64 16001)))]), oO 2 28 (.callF q1a [(.t 26), (.t 27)]), mM 3 25 28, eO 4 29 25 0, eO 5 30 25 1, oO 6 5 (.new 2 (.agg [(.int .i64 0), (.int .i64 0)])), sT 7 true 2 5 29, mM 8 6 30])
 (.seq (.ops 62 4 [oO 0 31 (.callF q6o []), oO 1 32 (.build [(.bool false), (.int .i64 0)] [(0, 1, (.c (.bool true)))]), oO 2 33 (.callF q1i [(.t 31), (.t 32)]), mM 3 7 33])
 (.seq (.ops 78 10 [oO 0 34 (.callF qaK [(.c (.int .i64 0)), (.c (.int .i64 0))]), oO 1 35 (.build [(.str ⟨#[]⟩), (.bool false), .nilsl, .nilsl, (.bool false), .nilsl, .nilsl] [(0, 1, (.c (.str ⟨#[80]⟩))), (1, 6, (.t 34))]), oO 2 36 (.callF qaK [(.c (.int .i64 8)), (.c (.int .i64 0))]), oO 3 37 (.build [(.str ⟨#[]⟩), (.bool false), .nilsl, .nilsl, (.bool false), .nilsl, .nilsl] [(0, 1, (.c (.str ⟨#[81]⟩))), (1, 6, (.t 36))]), oO 4 38 (.callF qaK [(.c (.int .i64 8)), (.c (.int .i64 6))]), oO 5 39 (.build [(.str ⟨#[]⟩), (.bool false), .nilsl, .nilsl, (.bool false), .nilsl, .nilsl] [(0, 1, (.c (.str ⟨#[82]⟩))), (1, 6, (.t 38))]), oO 6 40 (.callF qaK [(.c (.int .i64 8)), (.c (.int .i64 0))]), oO 7 41 (.build [(.str ⟨#[]⟩), (.bool false), .nilsl, .nilsl, (.bool false), .nilsl, .nilsl] [(0, 1, (.c (.str ⟨#[83]⟩))), (1, 6, (.t 40))]), oO 8 42 (.buildSlice 7 4 [(.agg [(.str ⟨#[]⟩), (.bool false), .nilsl, .nilsl, (.bool false), .nilsl, .nilsl]), (.agg [(.str ⟨#[]⟩), (.bool false), .nilsl, .nilsl, (.bool false), .nilsl, .nilsl]), (.agg [(.str ⟨#[]⟩), (.bool false), .nilsl, .nilsl, (.bool false), .nilsl, .nilsl]), (.agg [(.str ⟨#[]⟩), (.bool false), .nilsl, .nilsl, (.bool false), .nilsl, .nilsl])] [(0, (.t 35)), (1, (.t 37)), (2, (.t 39)), (3, (.t 41))]), mM 9 8 42])
 (.seq (.ops 88 12 [mM 0 44 8, oO 1 45 (.buildSlice 1 2 [(.str ⟨#[]⟩), (.str ⟨#[]⟩)] [(0, (.c (.str ⟨#[80]⟩))), (1, (.c (.str ⟨#[81]⟩)))]), oO 2 46 (.build [(.str ⟨#[]⟩), .nilsl, (.int .i64 0)] [(0, 1, (.c (.str ⟨#[104, 101, 109]⟩))), (1, 1, (.t 45)), (2, 1, (.c (.int .i64 1)))]), oO 3 47 (.buildSlice 1 3 [(.str ⟨#[]⟩), (.str ⟨#[]⟩), (.str ⟨#[]⟩)] [(0, (.c (.str ⟨#[81]⟩))), (1, (.c (.str ⟨#[82]⟩))), (2, (.c (.str ⟨#[80]⟩)))]), oO 4 48 (.build [(.str ⟨#[]⟩), .nilsl, (.int .i64 0)] [(0, 1, (.c (.str ⟨#[115, 105, 100, 101]⟩))), (1, 1, (.t 47)), (2, 1, (.c (.int .i64 2)))]), oO 5 49 (.buildSlice 3 2 [(.agg [(.str ⟨#[]⟩), .nilsl, (.int .i64 0)]), (.agg [(.str ⟨#[]⟩), .nilsl, (.int .i64 0)])] [(0, (.t 46)), (1, (.t 48))]), oO 6 50 (.callF q2E [(.t 44), (.t 49)]), mM 7 43 50, eO 8 51 43 0, eO 9 52 43 1, mM 10 9 51, mM 11 10 52])
 (.seq (.ops 100 12 [mM 0 54 8, oO 1 55 (.buildSlice 1 2 [(.str ⟨#[]⟩), (.str ⟨#[]⟩)] [(0, (.c (.str ⟨#[80]⟩))), (1, (.c (.str ⟨#[81]⟩)))]), oO 2 56 (.build [(.str ⟨#[]⟩), .nilsl, (.int .i64 0)] [(0, 1, (.c (.str ⟨#[104, 101, 109]⟩))), (1, 1, (.t 55)), (2, 1, (.c (.int .i64 1)))]), oO 3 57 (.buildSlice 1 3 [(.str ⟨#[]⟩), (.str ⟨#[]⟩), (.str ⟨#[]⟩)] [(0, (.c (.str ⟨#[83]⟩))), (1, (.c (.str ⟨#[82]⟩))), (2, (.c (.str ⟨#[80]⟩)))]), oO 4 58 (.build [(.str ⟨#[]⟩), .nilsl, (.int .i64 0)] [(0, 1, (.c (.str ⟨#[115, 105, 100, 101]⟩))), (1, 1, (.t 57)), (2, 1, (.c (.int .i64 2)))]), oO 5 59 (.buildSlice 3 2 [(.agg [(.str ⟨#[]⟩), .nilsl, (.int .i64 0)]), (.agg [(.str ⟨#[]⟩), .nilsl, (.int .i64 0)])] [(0, (.t 56)), (1, (.t 58))]), oO 6 60 (.callF q2E [(.t 54), (.t 59)]), mM 7 53 60, eO 8 61 53 0, eO 9 62 53 1, mM 10 11 61, mM 11 12 62])
 (.seq (.ops 112 2 [oO 0 63 (.callF q6o []), mM 1 13 63])
 (.seq (.ops 126 4 [mM 0 64 13, oO 1 65 (.ixs 2 (.t 64) (.c (.int .i64 1))), fO 2 66 0 65, ⟨3, none, none, .all, .store false 1 (.t 66) (.c (.str ⟨#[104, 101, 109]⟩))⟩])
 (.seq (.seq
 (.ops 130 34 [mM 0 67 2, bC 1 68 .neq 67 0, mM 2 69 68, gM 3 70 69 false 4, gG 4 71 69 false (.bin .neq .no (.t 70) (.c (.int .i64 0))), oO 5 72 (.pick (.t 69) (.c (.bool true)) (.t 71)), mM 6 73 72, gM 7 74 73 false 6, gG 8 75 73 false (.bin .neq .no (.t 74) (.c (.int .i64 3))), oO 9 76 (.pick (.t 73) (.c (.bool true)) (.t 75)), mM 10 77 76, gM 11 78 77 false 10, gG 12 79 77 false (.bin .neq .no (.t 78) (.c (.int .i64 0))), oO 13 80 (.pick (.t 77) (.c (.bool true)) (.t 79)), mM 14 81 80, gM 15 82 81 false 12, gG 16 83 81 false (.bin .neq .no (.t 82) (.c (.int .i64 11))), oO 17 84 (.pick (.t 81) (.c (.bool true)) (.t 83)), mM 18 85 84, gG 19 86 85 false (.load true true 2 (.t 3)), gG 20 87 85 false (.build [(.int .i64 0), (.int .i64 0)] [(0, 1, (.c (.int .i64 4))), (1, 1, (.c (.int .i64 3)))]), gG 21 88 85 false (.bin .neq (.flat [.int, .int]) (.t 86) (.t 87)), oO 22 89 (.pick (.t 85) (.c (.bool true)) (.t 88)), mM 23 90 89, gM 24 91 90 false 13, gG 25 92 90 false (.callF q12 [(.t 91)]), gG 26 93 90 false (.bin .neq .no (.t 92) (.c (.int .i64 7))), oO 27 94 (.pick (.t 90) (.c (.bool true)) (.t 93)), mM 28 95 94, gG 29 96 95 false (.callF q6o []), gG 30 97 95 false (.slsl 2 (.t 96) none (some (.c (.int .i64 1))) none), gG 31 98 95 false (.callF q12 [(.t 97)]), gG 32 99 95 false (.bin .neq .no (.t 98) (.c (.int .i64 11))), oO 33 100 (.pick (.t 95) (.c (.bool true)) (.t 99))])
 (.cond (.t 100)
 (.seq (.ops 176 1 [oO 0 0 (.mov (.c (.bool false)))]) .ret) .skip))
 (.seq (.seq
 (.ops 177 13 [mM 0 101 7, oO 1 102 (.build [(.int .i64 0), (.int .i64 0)] [(0, 1, (.c (.int .i64 (-8))))]), oO 2 103 (.build [(.int .i64 0), (.int .i64 0)] []), oO 3 104 (.buildSlice 2 2 [(.agg [(.int .i64 0), (.int .i64 0)]), (.agg [(.int .i64 0), (.int .i64 0)])] [(0, (.t 102)), (1, (.t 103))]), oO 4 105 (.build [(.str ⟨#[]⟩), .nilsl] [(0, 1, (.c (.str ⟨#[104, 101, 109]⟩))), (1, 1, (.t 104))]), oO 5 106 (.build [(.int .i64 0), (.int .i64 0)] []), oO 6 107 (.build [(.int .i64 0), (.int .i64 0)] [(0, 1, (.c (.int .i64 (-8)))), (1, 1, (.c (.int .i64 6)))]), oO 7 108 (.build [(.int .i64 0), (.int .i64 0)] [(0, 1, (.c (.int .i64 (-8))))]), oO 8 109 (.buildSlice 2 3 [(.agg [(.int .i64 0), (.int .i64 0)]), (.agg [(.int .i64 0), (.int .i64 0)]), (.agg [(.int .i64 0), (.int .i64 0)])] [(0, (.t 106)), (1, (.t 107)), (2, (.t 108))]), oO 9 110 (.build [(.str ⟨#[]⟩), .nilsl] [(0, 1, (.c (.str ⟨#[115, 105, 100, 101]⟩))), (1, 1, (.t 109))]), oO 10 111 (.buildSlice 2 2 [(.agg [(.str ⟨#[]⟩), .nilsl]), (.agg [(.str ⟨#[]⟩), .nilsl])] [(0, (.t 105)), (1, (.t 110))]), oO 11 112 (.callF q6a [(.t 101), (.t 111)]), oO 12 113 (.un .not (.t 112))])
 (.cond (.t 113)
 (.seq (.ops 190 1 [oO 0 0 (.mov (.c (.bool false)))]) .ret) .skip))
 (.seq (.ops 191 21 [mM 0 114 1, oO 1 115 (.build [(.int .i64 0), (.int .i64 0)] []), oO 2 116 (.build [(.int .i64 0), (.int .i64 0)] [(0, 1, (.c (.int .i64 8)))]), oO 3 117 (.build [(.int .i64 0), (.int .i64 0)] [(0, 1, (.c (.int .i64 8))), (1, 1, (.c (.int .i64 6)))]), oO 4 118 (.buildSlice 2 3 [(.agg [(.int .i64 0), (.int .i64 0)]), (.agg [(.int .i64 0), (.int .i64 0)]), (.agg [(.int .i64 0), (.int .i64 0)])] [(0, (.t 115)), (1, (.t 116)), (2, (.t 117))]), oO 5 119 (.callF q2b [(.t 114), (.t 118)]), mM 6 120 119, gM 7 121 120 true 9, gG 8 122 120 true (.build [(.int .i64 0), (.int .i64 0)] []), gG 9 123 120 true (.build [(.int .i64 0), (.int .i64 0)] [(0, 1, (.c (.int .i64 8)))]), gG 10 124 120 true (.buildSlice 2 2 [(.agg [(.int .i64 0), (.int .i64 0)]), (.agg [(.int .i64 0), (.int .i64 0)])] [(0, (.t 122)), (1, (.t 123))]), gG 11 125 120 true (.build [(.str ⟨#[]⟩), .nilsl] [(0, 1, (.c (.str ⟨#[104, 101, 109]⟩))), (1, 1, (.t 124))]), gG 12 126 120 true (.build [(.int .i64 0), (.int .i64 0)] [(0, 1, (.c (.int .i64 8)))]), gG 13 127 120 true (.build [(.int .i64 0), (.int .i64 0)] [(0, 1, (.c (.int .i64 6))), (1, 1, (.c (.int .i64 3)))]), gG 14 128 120 true (.build [(.int .i64 0), (.int .i64 0)] []), gG 15 129 120 true (.buildSlice 2 3 [(.agg [(.int .i64 0), (.int .i64 0)]), (.agg [(.int .i64 0), (.int .i64 0)]), (.agg [(.int .i64 0), (.int .i64 0)])] [(0, (.t 126)), (1, (.t 127)), (2, (.t 128))]), gG 16 130 120 true (.build [(.str ⟨#[]⟩), .nilsl] [(0, 1, (.c (.str ⟨#[115, 105, 100, 101]⟩))), (1, 1, (.t 129))]), gG 17 131 120 true (.buildSlice 2 2 [(.agg [(.str ⟨#[]⟩), .nilsl]), (.agg [(.str ⟨#[]⟩), .nilsl])] [(0, (.t 125)), (1, (.t 130))]), gG 18 132 120 true (.callF q6a [(.t 121), (.t 131)]), oO 19 133 (.pick (.t 120) (.t 132) (.c (.bool false))), mM 20 0 133]) .ret))))))))))))),
 [.t 0]⟩
def q6A : KFn := ⟨
 (.seq (.ops 0 2 [oO 0 2 (.mov (.c .nilsl)), mI 1 3 0])
 (.seq (.seq
 (.ops 2 3 [mM 0 5 0, oO 1 6 (.callF q12 [(.t 5)]), mM 2 4 6])
 (.seq (.ops 5 2 [mM 0 7 4, bC 1 8 .neq 7 0])
 (.cond (.t 8)
 (.seq (.ops 7 3 [mM 0 9 4, oO 1 2 (.mov (.c .nilsl)), mM 2 3 9]) .ret) .skip)))
 (.seq (.ops 10 4 [mM 0 10 0, oO 1 11 (.callF q6c [(.t 10)]), mM 2 2 11, mI 3 3 0]) .ret))),
 [.t 2, .t 3]⟩
def q83 : KFn := ⟨
 (.seq (.ops 16 1 [mI 0 2 0])
 (.seq (.seq
 (.ops 17 3 [mM 0 11 0, nO 1 12 11, bC 2 13 .gtr 12 16])
 (.cond (.t 13)
 (.seq (.ops 20 1 [mI 0 2 5]) .ret) .skip))
 (.seq (.seq
 (.ops 21 3 [mM 0 14 0, nO 1 15 14, bC 2 16 .lss 15 2])
 (.cond (.t 16)
 (.seq (.ops 24 1 [mI 0 2 11]) .ret) .skip))
 (.seq (.seq
 (.ops 25 3 [mM 0 17 0, nO 1 18 17, mI 2 19 0])
 (.block 0
 (.loop [(0, 0), (17, 0), (18, 0), (19, 0)]
 (.seq (.ops 28 1 [bT 0 20 .lss 19 18])
 (.seq (.cond (.t 20) .skip
 (.exit 0))
 (.seq (.block 1
 (.seq (.ops 29 6 [mM 0 21 19, xO 1 22 2 17 19, lO 2 23 false true 2 22, oO 3 4 (.new 2 (.agg [(.str ⟨#[]⟩), .nilsl])), mM 4 3 21, sT 5 true 2 4 23])
 (.seq (.seq
 (.ops 35 4 [fO 0 24 0 4, lO 1 25 true false 1 24, oO 2 26 (.callF qaL [(.t 25)]), oO 3 27 (.un .not (.t 26))])
 (.cond (.t 27)
 (.seq (.ops 39 1 [mI 0 2 1]) .ret) .skip))
 (.seq (.seq
 (.ops 40 5 [mM 0 28 0, mM 1 29 3, oO 2 30 (.slsl 2 (.t 28) none (some (.t 29)) none), nO 3 31 30, mI 4 32 0])
 (.block 2
 (.loop [(0, 0), (4, 0), (17, 0), (18, 0), (19, 0), (30, 0), (31, 0), (32, 0)]
 (.seq (.ops 45 1 [bT 0 33 .lss 32 31])
 (.seq (.cond (.t 33) .skip
 (.exit 2))
 (.seq (.block 3
 (.seq (.ops 46 4 [xO 0 34 2 30 32, lO 1 35 false true 2 34, oO 2 6 (.new 2 (.agg [(.str ⟨#[]⟩), .nilsl])), sT 3 true 2 6 35])
 (.seq (.ops 50 5 [fO 0 36 0 6, lO 1 37 true false 1 36, fO 2 38 0 4, lO 3 39 true false 1 38, bT 4 40 .eql 37 39])
 (.cond (.t 40)
 (.seq (.ops 55 1 [mI 0 2 7]) .ret) .skip))))
 (.ops 56 2 [bC 0 41 .add 32 1, mM 1 32 41])))))))
 (.seq (.ops 58 4 [fO 0 42 1 4, lO 1 43 true false 1 42, oO 2 44 (.callF q58 [(.t 43)]), mM 3 7 44])
 (.seq (.ops 62 2 [mM 0 45 7, bC 1 46 .neq 45 0])
 (.cond (.t 46)
 (.seq (.ops 64 2 [mM 0 47 7, mM 1 2 47]) .ret) .skip)))))))
 (.ops 66 2 [bC 0 48 .add 19 1, mM 1 19 48])))))))
 (.seq (.seq
 (.ops 68 3 [mM 0 49 0, nO 1 50 49, mI 2 51 0])
 (.block 4
 (.loop [(0, 0), (49, 0), (50, 0), (51, 0)]
 (.seq (.ops 71 1 [bT 0 52 .lss 51 50])
 (.seq (.cond (.t 52) .skip
 (.exit 4))
 (.seq (.block 5
 (.seq (.ops 72 6 [mM 0 53 51, xO 1 54 2 49 51, lO 2 55 false true 2 54, oO 3 9 (.new 2 (.agg [(.str ⟨#[]⟩), .nilsl])), mM 4 8 53, sT 5 true 2 9 55])
 (.seq (.ops 78 10 [mM 0 56 0, mM 1 57 8, bC 2 58 .add 57 1, mM 3 59 0, nO 4 60 59, bT 5 61 .rem 58 60, xO 6 62 2 56 61, lO 7 63 false true 2 62, oO 8 10 (.new 2 (.agg [(.str ⟨#[]⟩), .nilsl])), sT 9 true 2 10 63])
 (.seq (.ops 88 13 [fO 0 64 1 9, lB 1 65 1 13 true false 1 64, fO 2 66 1 9, lB 3 67 4 13 true false 1 66, oB 4 68 12 13 (.len .sl (.t 67)), bC 5 69 .sub 68 1, xB 6 70 63 13 2 65 69, lB 7 71 127 13 false true 2 70, fO 8 72 1 10, lB 9 73 256 13 true false 1 72, oB 10 74 768 13 (.ixs 2 (.t 73) (.c (.int .i64 0))), lB 11 75 1792 13 false true 2 74, oO 12 76 (.bin .neq (.flat [.int, .int]) (.t 71) (.t 75))])
 (.cond (.t 76)
 (.seq (.ops 101 1 [mI 0 2 11]) .ret) .skip)))))
 (.ops 102 2 [bC 0 77 .add 51 1, mM 1 51 77])))))))
 (.seq (.ops 104 4 [mM 0 78 0, oO 1 79 (.callF q6c [(.t 78)]), oO 2 80 (.callF q3h [(.t 79)]), mM 3 2 80]) .ret)))))),
 [.t 2]⟩
def qcK : KFn := ⟨
 (.seq (.ops 4 1 [mI 0 2 0])
 (.seq (.seq
 (.ops 5 3 [mM 0 8 0, nO 1 9 8, bC 2 10 .gtr 9 16])
 (.cond (.t 10)
 (.seq (.ops 8 1 [mI 0 2 5]) .ret) .skip))
 (.seq (.seq
 (.ops 9 3 [mM 0 11 0, nO 1 12 11, bC 2 13 .lss 12 2])
 (.cond (.t 13)
 (.seq (.ops 12 1 [mI 0 2 11]) .ret) .skip))
 (.seq (.seq
 (.ops 13 1 [mI 0 3 0])
 (.block 0
 (.loop [(0, 0), (3, 0)]
 (.seq (.seq
 (.ops 14 4 [mM 0 14 3, mM 1 15 0, nO 2 16 15, bT 3 17 .lss 14 16])
 (.cond (.t 17) .skip
 (.exit 0)))
 (.seq (.block 1
 (.seq (.seq
 (.ops 18 7 [mM 0 20 0, mM 1 21 3, xO 2 22 2 20 21, fO 3 23 0 22, lO 4 24 false false 1 23, oO 5 25 (.callF qjX [(.t 24)]), oO 6 26 (.un .not (.t 25))])
 (.cond (.t 26)
 (.seq (.ops 25 1 [mI 0 2 1]) .ret) .skip))
 (.seq (.seq
 (.ops 26 8 [mM 0 27 0, mM 1 28 3, mM 2 29 0, mM 3 30 3, xO 4 31 2 29 30, fO 5 32 0 31, lO 6 33 false false 1 32, oO 7 34 (.callF qil [(.t 27), (.t 28), (.t 33)])])
 (.cond (.t 34)
 (.seq (.ops 34 1 [mI 0 2 7]) .ret) .skip))
 (.seq (.ops 35 7 [mM 0 35 0, mM 1 36 3, xO 2 37 2 35 36, fO 3 38 1 37, lO 4 39 false false 1 38, oO 5 40 (.callF qdE [(.t 39)]), mM 6 4 40])
 (.seq (.ops 42 2 [mM 0 41 4, bC 1 42 .neq 41 0])
 (.cond (.t 42)
 (.seq (.ops 44 2 [mM 0 43 4, mM 1 2 43]) .ret) .skip))))))
 (.ops 46 3 [mM 0 18 3, bC 1 19 .add 18 1, mM 2 3 19]))))))
 (.seq (.seq
 (.ops 49 1 [mI 0 5 0])
 (.block 2
 (.loop [(0, 0), (5, 0)]
 (.seq (.seq
 (.ops 50 4 [mM 0 44 5, mM 1 45 0, nO 2 46 45, bT 3 47 .lss 44 46])
 (.cond (.t 47) .skip
 (.exit 2)))
 (.seq (.block 3
 (.seq (.ops 54 16 [mM 0 50 0, mM 1 51 5, xB 2 52 3 16 2 50 51, fO 3 53 1 52, lB 4 54 15 16 false false 1 53, mM 5 55 0, mM 6 56 5, bC 7 57 .add 56 1, mM 8 58 0, oB 9 59 256 16 (.len .sl (.t 58)), bT 10 60 .rem 57 59, xB 11 61 2016 16 2 55 60, fO 12 62 1 61, lB 13 63 8160 16 false false 1 62, mM 14 6 54, mM 15 7 63])
 (.seq (.ops 70 10 [mM 0 64 6, mM 1 65 6, oB 2 66 2 10 (.len .sl (.t 65)), bC 3 67 .sub 66 1, xB 4 68 15 10 2 64 67, lB 5 69 31 10 false true 2 68, mM 6 70 7, oB 7 71 64 10 (.ixs 2 (.t 70) (.c (.int .i64 0))), lB 8 72 192 10 false true 2 71, oO 9 73 (.bin .neq (.flat [.int, .int]) (.t 69) (.t 72))])
 (.cond (.t 73)
 (.seq (.ops 80 1 [mI 0 2 11]) .ret) .skip))))
 (.ops 81 3 [mM 0 48 5, bC 1 49 .add 48 1, mM 2 5 49]))))))
 (.seq (.ops 84 4 [mM 0 74 0, oO 1 75 (.callF q9c [(.t 74)]), oO 2 76 (.callF q9G [(.t 75)]), mM 3 2 76]) .ret)))))),
 [.t 2]⟩
def qhh : KFn := ⟨
 (.seq (.ops 6 1 [oO 0 4 (.mov (.c (.bool false)))])
 (.seq (.seq
 (.ops 7 8 [mM 0 8 0, nO 1 9 8, bC 2 10 .gtr 9 12, mM 3 11 10, gM 4 12 11 false 1, gG 5 13 11 false (.len .sl (.t 12)), gG 6 14 11 false (.bin .gtr .no (.t 13) (.c (.int .i64 20))), oO 7 15 (.pick (.t 11) (.c (.bool true)) (.t 14))])
 (.cond (.t 15)
 (.seq (.ops 15 1 [oO 0 4 (.mov (.c (.bool false)))]) .ret) .skip))
 (.seq (.seq
 (.ops 16 1 [mI 0 5 0])
 (.block 0
 (.loop [(0, 0), (1, 0), (5, 0)]
 (.seq (.seq
 (.ops 17 4 [mM 0 16 5, mM 1 17 0, nO 2 18 17, bT 3 19 .lss 16 18])
 (.cond (.t 19) .skip
 (.exit 0)))
 (.seq (.block 1
 (.seq (.ops 21 16 [mM 0 22 0, mM 1 23 5, xO 2 24 7 22 23, fO 3 25 0 24, lO 4 26 false false 1 25, oO 5 27 (.len .str (.t 26)), bC 6 28 .gtr 27 60, mM 7 29 28, gM 8 30 29 false 0, gM 9 31 29 false 5, gG 10 32 29 false (.ixs 7 (.t 30) (.t 31)), gG 11 33 29 false (.off 1 (.t 32)), gG 12 34 29 false (.load false true 6 (.t 33)), gG 13 35 29 false (.callF qim [(.t 34), (.c (.int .i64 2))]), gG 14 36 29 false (.un .not (.t 35)), oO 15 37 (.pick (.t 29) (.c (.bool true)) (.t 36))])
 (.cond (.t 37)
 (.seq (.ops 37 1 [oO 0 4 (.mov (.c (.bool false)))]) .ret) .skip)))
 (.ops 38 3 [mM 0 20 5, bC 1 21 .add 20 1, mM 2 5 21]))))))
 (.seq (.seq
 (.ops 41 1 [mI 0 6 0])
 (.block 2
 (.loop [(1, 0), (6, 0)]
 (.seq (.seq
 (.ops 42 4 [mM 0 38 6, mM 1 39 1, nO 2 40 39, bT 3 41 .lss 38 40])
 (.cond (.t 41) .skip
 (.exit 2)))
 (.seq (.block 3
 (.seq (.seq
 (.ops 46 24 [mM 0 44 1, mM 1 45 6, xO 2 46 3 44 45, fO 3 47 0 46, lO 4 48 false false 1 47, oO 5 49 (.len .str (.t 48)), bC 6 50 .gtr 49 60, mM 7 51 50, gM 8 52 51 false 1, gM 9 53 51 false 6, gG 10 54 51 false (.ixs 3 (.t 52) (.t 53)), gG 11 55 51 false (.off 1 (.t 54)), gG 12 56 51 false (.load false false 1 (.t 55)), gG 13 57 51 false (.len .sl (.t 56)), gG 14 58 51 false (.bin .gtr .no (.t 57) (.c (.int .i64 6))), oO 15 59 (.pick (.t 51) (.c (.bool true)) (.t 58)), mM 16 60 59, gM 17 61 60 false 1, gM 18 62 60 false 6, gG 19 63 60 false (.ixs 3 (.t 61) (.t 62)), gG 20 64 60 false (.off 2 (.t 63)), gG 21 65 60 false (.load false false 1 (.t 64)), gG 22 66 60 false (.bin .gtr .no (.t 65) (.c (.int .i64 40))), oO 23 67 (.pick (.t 60) (.c (.bool true)) (.t 66))])
 (.cond (.t 67)
 (.seq (.ops 70 1 [oO 0 4 (.mov (.c (.bool false)))]) .ret) .skip))
 (.seq (.ops 71 1 [mI 0 7 0])
 (.block 4
 (.loop [(1, 0), (6, 0), (7, 0)]
 (.seq (.seq
 (.ops 72 8 [mM 0 68 7, mM 1 69 1, mM 2 70 6, xO 3 71 3 69 70, fO 4 72 1 71, lO 5 73 false false 1 72, nO 6 74 73, bT 7 75 .lss 68 74])
 (.cond (.t 75) .skip
 (.exit 4)))
 (.seq (.block 5
 (.seq (.ops 80 10 [mM 0 78 1, mM 1 79 6, xO 2 80 3 78 79, fO 3 81 1 80, lO 4 82 false false 1 81, mM 5 83 7, xO 6 84 1 82 83, lO 7 85 false false 1 84, oO 8 86 (.len .str (.t 85)), bC 9 87 .gtr 86 60])
 (.cond (.t 87)
 (.seq (.ops 90 1 [oO 0 4 (.mov (.c (.bool false)))]) .ret) .skip)))
 (.ops 91 3 [mM 0 76 7, bC 1 77 .add 76 1, mM 2 7 77]))))))))
 (.ops 94 3 [mM 0 42 6, bC 1 43 .add 42 1, mM 2 6 43]))))))
 (.seq (.ops 97 1 [oO 0 4 (.mov (.c (.bool true)))]) .ret))))),
 [.t 4]⟩
def q84 : KFn := ⟨
 (.seq (.ops 12 2 [oO 0 4 (.mov (.c .nilsl)), mI 1 5 0])
 (.seq (.seq
 (.ops 14 3 [mM 0 20 1, nO 1 21 20, bC 2 22 .gtr 21 16])
 (.cond (.t 22)
 (.seq (.ops 17 2 [oO 0 4 (.mov (.c .nilsl)), mI 1 5 5]) .ret) .skip))
 (.seq (.ops 19 2 [oO 0 23 (.mkmap), mM 1 6 23])
 (.seq (.seq
 (.ops 21 3 [mM 0 24 0, nO 1 25 24, mI 2 26 0])
 (.block 0
 (.loop [(1, 0), (6, 0), (24, 0), (25, 0), (26, 0)]
 (.seq (.ops 24 1 [bT 0 27 .lss 26 25])
 (.seq (.cond (.t 27) .skip
 (.exit 0))
 (.seq (.block 1
 (.seq (.ops 25 4 [xO 0 28 7 24 26, lO 1 29 false true 7 28, oO 2 8 (.new 7 (.agg [(.str ⟨#[]⟩), (.bool false), .nilsl, .nilsl, (.bool false), .nilsl, .nilsl])), sT 3 true 7 8 29])
 (.seq (.ops 29 10 [mM 0 31 6, fO 1 32 0 8, lO 2 33 true false 1 32, oO 3 34 (.lookup (.agg [(.bool false), .nilsl, .nilsl, (.bool false), .nilsl, .nilsl]) (.t 31) (.t 33) true), mM 4 30 34, eO 5 35 30 0, eO 6 36 30 1, oO 7 9 (.new 6 (.agg [(.bool false), .nilsl, .nilsl, (.bool false), .nilsl, .nilsl])), sT 8 true 6 9 35, mM 9 10 36])
 (.seq (.ops 39 2 [mM 0 37 10, oO 1 38 (.un .not (.t 37))])
 (.cond (.t 38)
 (.ops 41 6 [mM 0 39 6, fO 1 40 0 8, lO 2 41 true false 1 40, fO 3 42 1 8, lO 4 43 true true 6 42, ⟨5, none, none, .all, .mapset (.t 39) (.t 41) (.t 43)⟩]) .skip)))))
 (.ops 47 2 [bC 0 44 .add 26 1, mM 1 26 44])))))))
 (.seq (.ops 49 1 [oO 0 11 (.mov (.c .nilsl))])
 (.seq (.seq
 (.ops 50 3 [mM 0 45 1, nO 1 46 45, mI 2 47 0])
 (.block 2
 (.loop [(1, 0), (6, 0), (11, 2), (45, 0), (46, 0), (47, 0)]
 (.seq (.ops 53 1 [bT 0 48 .lss 47 46])
 (.seq (.cond (.t 48) .skip
 (.exit 2))
 (.seq (.block 3
 (.seq (.ops 54 4 [xO 0 49 3 45 47, lO 1 50 false true 3 49, oO 2 13 (.new 3 (.agg [(.str ⟨#[]⟩), .nilsl, (.int .i64 0)])), sT 3 true 3 13 50])
 (.seq (.ops 58 8 [mM 0 52 6, lO 1 53 true true 3 13, oO 2 54 (.callF qcf [(.t 52), (.t 53)]), mM 3 51 54, eO 4 55 51 0, eO 5 56 51 1, mM 6 14 55, mM 7 15 56])
 (.seq (.seq
 (.ops 66 2 [mM 0 57 15, bC 1 58 .neq 57 0])
 (.cond (.t 58)
 (.seq (.ops 68 3 [mM 0 59 15, oO 1 4 (.mov (.c .nilsl)), mM 2 5 59]) .ret) .skip))
 (.ops 71 8 [mM 0 60 11, fO 1 61 0 13, lO 2 62 true false 1 61, mM 3 63 14, oO 4 64 (.build [(.str ⟨#[]⟩), .nilsl] [(0, 1, (.t 62)), (1, 1, (.t 63))]), oO 5 65 (.buildSlice 2 1 [(.agg [(.str ⟨#[]⟩), .nilsl])] [(0, (.t 64))]), oO 6 66 (.append ⟨2, 40, (.agg [(.str ⟨#[]⟩), .nilsl])⟩ .sl (.t 60) (.t 65)), mM 7 11 66])))))
 (.ops 79 2 [bC 0 67 .add 47 1, mM 1 47 67])))))))
 (.seq (.seq
 (.ops 81 3 [mM 0 68 1, nO 1 69 68, mI 2 70 0])
 (.block 4
 (.loop [(1, 0), (11, 0), (68, 0), (69, 0), (70, 0)]
 (.seq (.ops 84 1 [bT 0 71 .lss 70 69])
 (.seq (.cond (.t 71) .skip
 (.exit 4))
 (.seq (.block 5
 (.seq (.ops 85 6 [mM 0 72 70, xO 1 73 3 68 70, lO 2 74 false true 3 73, oO 3 17 (.new 3 (.agg [(.str ⟨#[]⟩), .nilsl, (.int .i64 0)])), mM 4 16 72, sT 5 true 3 17 74])
 (.seq (.ops 91 10 [mM 0 75 1, mM 1 76 16, bC 2 77 .add 76 1, mM 3 78 1, nO 4 79 78, bT 5 80 .rem 77 79, xO 6 81 3 75 80, lO 7 82 false true 3 81, oO 8 18 (.new 3 (.agg [(.str ⟨#[]⟩), .nilsl, (.int .i64 0)])), sT 9 true 3 18 82])
 (.seq (.ops 101 13 [fO 0 83 1 17, lB 1 84 1 13 true false 1 83, fO 2 85 1 17, lB 3 86 4 13 true false 1 85, oB 4 87 12 13 (.len .sl (.t 86)), bC 5 88 .sub 87 1, xB 6 89 63 13 1 84 88, lB 7 90 127 13 false false 1 89, fO 8 91 1 18, lB 9 92 256 13 true false 1 91, oB 10 93 768 13 (.ixs 1 (.t 92) (.c (.int .i64 0))), lB 11 94 1792 13 false false 1 93, bT 12 95 .neq 90 94])
 (.cond (.t 95)
 (.seq (.ops 114 2 [oO 0 4 (.mov (.c .nilsl)), mI 1 5 11]) .ret) .skip)))))
 (.ops 116 2 [bC 0 96 .add 70 1, mM 1 70 96])))))))
 (.seq (.seq
 (.ops 118 3 [mM 0 97 11, oO 1 98 (.callF q12 [(.t 97)]), mM 2 19 98])
 (.seq (.ops 121 2 [mM 0 99 19, bC 1 100 .neq 99 0])
 (.cond (.t 100)
 (.seq (.ops 123 3 [mM 0 101 19, oO 1 4 (.mov (.c .nilsl)), mM 2 5 101]) .ret) .skip)))
 (.seq (.ops 126 3 [mM 0 102 11, mM 1 4 102, mI 2 5 0]) .ret))))))))),
 [.t 4, .t 5]⟩
def qcL : KFn := ⟨
 (.seq (.ops 8 2 [oO 0 4 (.mov (.c .nilsl)), mI 1 5 0])
 (.seq (.seq
 (.ops 10 3 [mM 0 14 1, nO 1 15 14, bC 2 16 .gtr 15 16])
 (.cond (.t 16)
 (.seq (.ops 13 2 [oO 0 4 (.mov (.c .nilsl)), mI 1 5 5]) .ret) .skip))
 (.seq (.ops 15 1 [oO 0 6 (.mov (.c .nilsl))])
 (.seq (.seq
 (.ops 16 1 [mI 0 7 0])
 (.block 0
 (.loop [(0, 0), (1, 0), (6, 2), (7, 0)]
 (.seq (.seq
 (.ops 17 4 [mM 0 17 7, mM 1 18 1, nO 2 19 18, bT 3 20 .lss 17 19])
 (.cond (.t 20) .skip
 (.exit 0)))
 (.seq (.block 1
 (.seq (.ops 21 11 [mM 0 24 0, mM 1 25 1, mM 2 26 7, xO 3 27 3 25 26, lO 4 28 false true 3 27, oO 5 29 (.callF qjY [(.t 24), (.t 28)]), mM 6 23 29, eO 7 30 23 0, eO 8 31 23 1, mM 9 8 30, mM 10 9 31])
 (.seq (.seq
 (.ops 32 2 [mM 0 32 9, bC 1 33 .neq 32 0])
 (.cond (.t 33)
 (.seq (.ops 34 3 [mM 0 34 9, oO 1 4 (.mov (.c .nilsl)), mM 2 5 34]) .ret) .skip))
 (.ops 37 11 [mM 0 35 6, mM 1 36 1, mM 2 37 7, xO 3 38 3 36 37, fO 4 39 0 38, lO 5 40 false false 1 39, mM 6 41 8, oO 7 42 (.build [(.str ⟨#[]⟩), .nilsl] [(0, 1, (.t 40)), (1, 1, (.t 41))]), oO 8 43 (.buildSlice 2 1 [(.agg [(.str ⟨#[]⟩), .nilsl])] [(0, (.t 42))]), oO 9 44 (.append ⟨2, 40, (.agg [(.str ⟨#[]⟩), .nilsl])⟩ .sl (.t 35) (.t 43)), mM 10 6 44]))))
 (.ops 48 3 [mM 0 21 7, bC 1 22 .add 21 1, mM 2 7 22]))))))
 (.seq (.seq
 (.ops 51 1 [mI 0 10 0])
 (.block 2
 (.loop [(1, 0), (6, 0), (10, 0)]
 (.seq (.seq
 (.ops 52 4 [mM 0 45 10, mM 1 46 1, nO 2 47 46, bT 3 48 .lss 45 47])
 (.cond (.t 48) .skip
 (.exit 2)))
 (.seq (.block 3
 (.seq (.ops 56 16 [mM 0 51 1, mM 1 52 10, xB 2 53 3 16 3 51 52, fO 3 54 1 53, lB 4 55 15 16 false false 1 54, mM 5 56 1, mM 6 57 10, bC 7 58 .add 57 1, mM 8 59 1, oB 9 60 256 16 (.len .sl (.t 59)), bT 10 61 .rem 58 60, xB 11 62 2016 16 3 56 61, fO 12 63 1 62, lB 13 64 8160 16 false false 1 63, mM 14 11 55, mM 15 12 64])
 (.seq (.ops 72 10 [mM 0 65 11, mM 1 66 11, oB 2 67 2 10 (.len .sl (.t 66)), bC 3 68 .sub 67 1, xB 4 69 15 10 1 65 68, lB 5 70 31 10 false false 1 69, mM 6 71 12, oB 7 72 64 10 (.ixs 1 (.t 71) (.c (.int .i64 0))), lB 8 73 192 10 false false 1 72, bT 9 74 .neq 70 73])
 (.cond (.t 74)
 (.seq (.ops 82 2 [oO 0 4 (.mov (.c .nilsl)), mI 1 5 11]) .ret) .skip))))
 (.ops 84 3 [mM 0 49 10, bC 1 50 .add 49 1, mM 2 10 50]))))))
 (.seq (.seq
 (.ops 87 3 [mM 0 75 6, oO 1 76 (.callF q6n [(.t 75)]), mM 2 13 76])
 (.seq (.ops 90 2 [mM 0 77 13, bC 1 78 .neq 77 0])
 (.cond (.t 78)
 (.seq (.ops 92 3 [mM 0 79 13, oO 1 4 (.mov (.c .nilsl)), mM 2 5 79]) .ret) .skip)))
 (.seq (.ops 95 3 [mM 0 80 6, mM 1 4 80, mI 2 5 0]) .ret))))))),
 [.t 4, .t 5]⟩
def qfc : KFn := ⟨
 (.seq (.ops 6 1 [oO 0 4 (.mov (.c (.bool false)))])
 (.seq (.seq
 (.ops 7 5 [mM 0 6 0, nO 1 7 6, mM 2 8 1, nO 3 9 8, bT 4 10 .neq 7 9])
 (.cond (.t 10)
 (.seq (.ops 12 1 [oO 0 4 (.mov (.c (.bool false)))]) .ret) .skip))
 (.seq (.seq
 (.ops 13 1 [mI 0 5 0])
 (.block 0
 (.loop [(0, 0), (1, 0), (5, 0)]
 (.seq (.seq
 (.ops 14 4 [mM 0 11 5, mM 1 12 0, nO 2 13 12, bT 3 14 .lss 11 13])
 (.cond (.t 14) .skip
 (.exit 0)))
 (.seq (.block 1
 (.seq (.ops 18 25 [mM 0 17 0, mM 1 18 5, xB 2 19 3 25 2 17 18, fO 3 20 0 19, lB 4 21 15 25 false false 1 20, mM 5 22 1, mM 6 23 5, xB 7 24 96 25 2 22 23, fO 8 25 0 24, lB 9 26 480 25 false false 1 25, bT 10 27 .neq 21 26, mM 11 28 27, gM 12 29 28 false 0, gM 13 30 28 false 5, ⟨14, some 31, some (28, false), (.bef 16383 25), .ixs 2 (.t 29) (.t 30)⟩, gG 15 32 28 false (.off 1 (.t 31)), ⟨16, some 33, some (28, false), (.bef 65535 25), .load false false 1 (.t 32)⟩, gM 17 34 28 false 1, gM 18 35 28 false 5, ⟨19, some 36, some (28, false), (.bef 397311 25), .ixs 2 (.t 34) (.t 35)⟩, gG 20 37 28 false (.off 1 (.t 36)), ⟨21, some 38, some (28, false), (.bef 1970175 25), .load false false 1 (.t 37)⟩, ⟨22, some 39, some (28, false), (.bef 4194303 25), .callF q2b [(.t 33), (.t 38)]⟩, gG 23 40 28 false (.un .not (.t 39)), oO 24 41 (.pick (.t 28) (.c (.bool true)) (.t 40))])
 (.cond (.t 41)
 (.seq (.ops 43 1 [oO 0 4 (.mov (.c (.bool false)))]) .ret) .skip)))
 (.ops 44 3 [mM 0 15 5, bC 1 16 .add 15 1, mM 2 5 16]))))))
 (.seq (.ops 47 1 [oO 0 4 (.mov (.c (.bool true)))]) .ret)))),
 [.t 4]⟩
def q76 : KFn := ⟨
 (.seq (.ops 0 3 [oO 0 3 (.box 2 (.t 1)), oO 1 4 (.new 2 (.agg [(.int .i64 0), (.int .i64 0)])), mI 2 5 0])
 (.seq (.seq
 (.ops 3 3 [mM 0 7 0, oO 1 8 (.callF q12 [(.t 7)]), mM 2 6 8])
 (.seq (.ops 6 2 [mM 0 9 6, bC 1 10 .neq 9 0])
 (.cond (.t 10)
 (.seq (.ops 8 4 [oO 0 11 (.build [(.int .i64 0), (.int .i64 0)] []), mM 1 12 6, sT 2 true 2 4 11, mM 3 5 12]) .ret) .skip)))
 (.seq (.seq
 (.ops 12 10 [fO 0 13 0 3, lO 1 14 true false 1 13, bC 2 15 .lss 14 0, mM 3 16 15, gG 4 17 16 false (.off 0 (.t 3)), gG 5 18 16 false (.load true false 1 (.t 17)), gM 6 19 16 false 0, gG 7 20 16 false (.len .sl (.t 19)), gG 8 21 16 false (.bin .geq .no (.t 18) (.t 20)), oO 9 22 (.pick (.t 16) (.c (.bool true)) (.t 21))])
 (.cond (.t 22)
 (.seq (.ops 22 3 [oO 0 23 (.build [(.int .i64 0), (.int .i64 0)] []), sT 1 true 2 4 23, mI 2 5 3]) .ret) .skip))
 (.seq (.ops 25 13 [mM 0 24 0, fO 1 25 0 3, lB 2 26 2 13 true false 1 25, xB 3 27 7 13 2 24 26, fO 4 28 1 27, lB 5 29 31 13 false false 1 28, fO 6 30 1 3, lB 7 31 64 13 true false 1 30, oB 8 32 255 13 (.callF qaM [(.t 29), (.t 31)]), eO 9 33 32 0, eO 10 34 32 1, ⟨11, none, none, (.bef 2047 13), .store true 2 (.t 4) (.t 33)⟩, mM 12 5 34]) .ret)))),
 [.cell 4 true 2, .t 5]⟩
def q77 : KFn := ⟨
 (.seq (.ops 20 2 [oO 0 3 (.box 2 (.t 1)), oO 1 4 (.mov (.c .nilsl))])
 (.seq (.ops 22 1 [oO 0 5 (.mov (.c .nilsl))])
 (.seq (.seq
 (.ops 23 3 [mM 0 11 0, nO 1 12 11, mI 2 13 0])
 (.block 0
 (.loop [(0, 0), (3, 0), (5, 2), (12, 0), (13, 0)]
 (.seq (.ops 26 1 [bT 0 14 .lss 13 12])
 (.seq (.cond (.t 14) .skip
 (.exit 0))
 (.seq (.block 1
 (.seq (.ops 27 2 [mM 0 15 13, mM 1 6 15])
 (.seq (.ops 29 6 [mM 0 16 0, mM 1 17 6, xO 2 18 2 16 17, lO 3 19 false true 2 18, oO 4 7 (.new 2 (.agg [(.str ⟨#[]⟩), .nilsl])), sT 5 true 2 7 19])
 (.seq (.seq
 (.ops 35 2 [fO 0 20 0 3, lO 1 21 true false 1 20])
 (.cond (.t 21)
 (.ops 37 11 [mM 0 22 0, mM 1 23 0, nO 2 24 23, mM 3 25 6, bT 4 26 .sub 24 25, mM 5 27 0, nO 6 28 27, bT 7 29 .rem 26 28, xO 8 30 2 22 29, lO 9 31 false true 2 30, sT 10 true 2 7 31]) .skip))
 (.seq (.ops 48 1 [oO 0 8 (.mov (.c .nilsl))])
 (.seq (.seq
 (.ops 49 4 [fO 0 32 1 7, lO 1 33 true false 1 32, nO 2 34 33, mI 3 35 0])
 (.block 2
 (.loop [(0, 0), (3, 0), (5, 0), (7, 0), (8, 2), (12, 0), (13, 0), (33, 0), (34, 0), (35, 0)]
 (.seq (.ops 53 1 [bT 0 36 .lss 35 34])
 (.seq (.cond (.t 36) .skip
 (.exit 2))
 (.seq (.block 3
 (.seq (.ops 54 4 [xO 0 37 2 33 35, lO 1 38 false true 2 37, oO 2 10 (.new 2 (.agg [(.int .i64 0), (.int .i64 0)])), sT 3 true 2 10 38])
 (.ops 58 7 [mM 0 39 8, lO 1 40 true true 2 3, lO 2 41 true true 2 10, oO 3 42 (.callF q8w [(.t 40), (.t 41)]), oO 4 43 (.buildSlice 2 1 [(.agg [(.int .i64 0), (.int .i64 0)])] [(0, (.t 42))]), oO 5 44 (.append ⟨2, 16, (.agg [(.int .i64 0), (.int .i64 0)])⟩ .sl (.t 39) (.t 43)), mM 6 8 44])))
 (.ops 65 2 [bC 0 45 .add 35 1, mM 1 35 45])))))))
 (.seq (.seq
 (.ops 67 2 [fO 0 46 0 3, lO 1 47 true false 1 46])
 (.cond (.t 47)
 (.ops 69 2 [mM 0 48 8, oO 1 49 (.callF q4R [(.t 48)])]) .skip))
 (.ops 107 8 [mM 0 50 5, fO 1 51 0 7, lO 2 52 true false 1 51, mM 3 53 8, oO 4 54 (.build [(.str ⟨#[]⟩), .nilsl] [(0, 1, (.t 52)), (1, 1, (.t 53))]), oO 5 55 (.buildSlice 2 1 [(.agg [(.str ⟨#[]⟩), .nilsl])] [(0, (.t 54))]), oO 6 56 (.append ⟨2, 40, (.agg [(.str ⟨#[]⟩), .nilsl])⟩ .sl (.t 50) (.t 55)), mM 7 5 56]))))))))
 (.ops 115 2 [bC 0 57 .add 13 1, mM 1 13 57])))))))
 (.seq (.ops 117 2 [mM 0 58 5, mM 1 4 58]) .ret)))),
 [.t 4]⟩
def q85 : KFn := ⟨
 (.seq (.ops 0 1 [mI 0 2 0])
 (.seq (.seq
 (.ops 1 3 [mM 0 3 0, nO 1 4 3, bC 2 5 .gtr 4 40])
 (.cond (.t 5)
 (.seq (.ops 4 1 [mI 0 2 5]) .ret) .skip))
 (.seq (.seq
 (.ops 5 3 [mM 0 6 0, nO 1 7 6, bC 2 8 .lss 7 3])
 (.cond (.t 8)
 (.seq (.ops 8 1 [mI 0 2 11]) .ret) .skip))
 (.seq (.seq
 (.ops 9 2 [mM 0 9 0, oO 1 10 (.callF q2k [(.t 9), (.c (.fn q6O [] []))])])
 (.cond (.t 10)
 (.seq (.ops 11 1 [mI 0 2 3]) .ret) .skip))
 (.seq (.seq
 (.ops 12 3 [mM 0 11 0, oO 1 12 (.callF qaN [(.t 11)]), oO 2 13 (.un .not (.t 12))])
 (.cond (.t 13)
 (.seq (.ops 15 1 [mI 0 2 11]) .ret) .skip))
 (.seq (.ops 16 1 [mI 0 2 0]) .ret)))))),
 [.t 2]⟩
def qbi : KFn := ⟨
 (.seq (.ops 0 3 [oO 0 1 (.box 6 (.t 0)), oO 1 2 (.new 2 (.agg [(.int .i64 0), (.int .i64 0)])), mI 2 3 0])
 (.seq (.ops 3 8 [fO 0 9 0 1, lO 1 10 true true 3 9, oO 2 11 (.callF q6d [(.t 10)]), mM 3 8 11, eO 4 12 8 0, eO 5 13 8 1, mM 6 4 12, mM 7 5 13])
 (.seq (.ops 11 8 [fO 0 15 3 1, lO 1 16 true true 3 15, oO 2 17 (.callF q6d [(.t 16)]), mM 3 14 17, eO 4 18 14 0, eO 5 19 14 1, mM 6 6 18, mM 7 7 19])
 (.seq (.seq
 (.ops 19 6 [mM 0 20 5, oO 1 21 (.un .not (.t 20)), mM 2 22 21, gM 3 23 22 false 7, gG 4 24 22 false (.un .not (.t 23)), oO 5 25 (.pick (.t 22) (.c (.bool true)) (.t 24))])
 (.cond (.t 25)
 (.seq (.ops 25 3 [oO 0 26 (.build [(.int .i64 0), (.int .i64 0)] []), sT 1 true 2 2 26, mI 2 3 3]) .ret) .skip))
 (.seq (.ops 28 5 [mM 0 27 4, mM 1 28 6, oO 2 29 (.build [(.int .i64 0), (.int .i64 0)] [(0, 1, (.t 27)), (1, 1, (.t 28))]), sT 3 true 2 2 29, mI 4 3 0]) .ret))))),
 [.cell 2 true 2, .t 3]⟩
def qjt : KFn := ⟨
 (.seq (.ops 8 1 [oO 0 4 (.new 6 (.agg [(.bool false), .nilsl, .nilsl, (.bool false), .nilsl, .nilsl]))])
 (.seq (.seq
 (.ops 9 1 [mI 0 5 0])
 (.block 0
 (.loop [(0, 0), (1, 0), (4, 0), (5, 0)]
 (.seq (.seq
 (.ops 10 4 [mM 0 6 5, mM 1 7 0, nO 2 8 7, bT 3 9 .lss 6 8])
 (.cond (.t 9) .skip
 (.exit 0)))
 (.seq (.block 1
 (.seq (.ops 14 7 [mM 0 12 0, mM 1 13 5, xO 2 14 7 12 13, fO 3 15 0 14, lO 4 16 false false 1 15, mM 5 17 1, bT 6 18 .eql 16 17])
 (.cond (.t 18)
 (.seq (.ops 21 6 [mM 0 19 0, mM 1 20 5, xO 2 21 7 19 20, fO 3 22 1 21, lO 4 23 false true 6 22, sT 5 true 6 4 23]) .ret) .skip)))
 (.ops 27 3 [mM 0 10 5, bC 1 11 .add 10 1, mM 2 5 11]))))))
 (.seq (.ops 30 2 [oO 0 24 (.build [(.bool false), .nilsl, .nilsl, (.bool false), .nilsl, .nilsl] []), sT 1 true 6 4 24]) .ret))),
 [.cell 4 true 6]⟩
def qbk : KFn := ⟨
 (.seq (.ops 0 2 [oO 0 2 (.box 2 (.t 0)), oO 1 4 (.mov (.c (.bool false)))])
 (.seq (.ops 2 25 [fO 0 5 0 2, lO 1 6 true false 1 5, mM 2 7 1, oO 3 8 (.un .neg (.t 7)), bT 4 9 .geq 6 8, mM 5 10 9, gG 6 11 10 true (.off 0 (.t 2)), gG 7 12 10 true (.load true false 1 (.t 11)), gM 8 13 10 true 1, gG 9 14 10 true (.bin .leq .no (.t 12) (.t 13)), oO 10 15 (.pick (.t 10) (.t 14) (.c (.bool false))), mM 11 16 15, gG 12 17 16 true (.off 1 (.t 2)), gG 13 18 16 true (.load true false 1 (.t 17)), gM 14 19 16 true 1, gG 15 20 16 true (.un .neg (.t 19)), gG 16 21 16 true (.bin .geq .no (.t 18) (.t 20)), oO 17 22 (.pick (.t 16) (.t 21) (.c (.bool false))), mM 18 23 22, gG 19 24 23 true (.off 1 (.t 2)), gG 20 25 23 true (.load true false 1 (.t 24)), gM 21 26 23 true 1, gG 22 27 23 true (.bin .leq .no (.t 25) (.t 26)), oO 23 28 (.pick (.t 23) (.t 27) (.c (.bool false))), mM 24 4 28]) .ret)),
 [.t 4]⟩
def qcP : KFn := ⟨
 (.seq (.ops 4 1 [mI 0 2 0])
 (.seq (.seq
 (.ops 5 3 [mM 0 4 0, nO 1 5 4, bC 2 6 .gtr 5 40])
 (.cond (.t 6)
 (.seq (.ops 8 1 [mI 0 2 5]) .ret) .skip))
 (.seq (.seq
 (.ops 9 3 [mM 0 7 0, nO 1 8 7, bC 2 9 .lss 8 3])
 (.cond (.t 9)
 (.seq (.ops 12 1 [mI 0 2 11]) .ret) .skip))
 (.seq (.seq
 (.ops 13 1 [mI 0 3 0])
 (.block 0
 (.loop [(0, 0), (3, 0)]
 (.seq (.seq
 (.ops 14 4 [mM 0 10 3, mM 1 11 0, nO 2 12 11, bT 3 13 .lss 10 12])
 (.cond (.t 13) .skip
 (.exit 0)))
 (.seq (.block 1
 (.seq (.ops 18 6 [mM 0 16 0, mM 1 17 3, xO 2 18 2 16 17, lO 3 19 false true 2 18, oO 4 20 (.callF qbF [(.t 19), (.c (.int .i64 1048576))]), oO 5 21 (.un .not (.t 20))])
 (.cond (.t 21)
 (.seq (.ops 24 1 [mI 0 2 3]) .ret) .skip)))
 (.ops 25 3 [mM 0 14 3, bC 1 15 .add 14 1, mM 2 3 15]))))))
 (.seq (.seq
 (.ops 28 3 [mM 0 22 0, oO 1 23 (.callF qgw [(.t 22)]), oO 2 24 (.un .not (.t 23))])
 (.cond (.t 24)
 (.seq (.ops 31 1 [mI 0 2 11]) .ret) .skip))
 (.seq (.ops 32 1 [mI 0 2 0]) .ret)))))),
 [.t 2]⟩
def q3V : KFn := ⟨
 (.seq (.ops 0 1 [oO 0 0 (.mov (.c .nilsl))])
 (.seq (.ops 1 11 [oO 0 1 (.build [(.int .i64 0), (.int .i64 0)] []), oO 1 2 (.build [(.int .i64 0), (.int .i64 0)] [(0, 1, (.c (.int .i64 8)))]), oO 2 3 (.buildSlice 2 2 [(.agg [(.int .i64 0), (.int .i64 0)]), (.agg [(.int .i64 0), (.int .i64 0)])] [(0, (.t 1)), (1, (.t 2))]), oO 3 4 (.build [(.str ⟨#[]⟩), .nilsl] [(0, 1, (.c (.str ⟨#[104, 101, 109]⟩))), (1, 1, (.t 3))]), oO 4 5 (.build [(.int .i64 0), (.int .i64 0)] [(0, 1, (.c (.int .i64 8)))]), oO 5 6 (.build [(.int .i64 0), (.int .i64 0)] [(0, 1, (.c (.int .i64 8))), (1, 1, (.c (.int .i64 6)))]), oO 6 7 (.build [(.int .i64 0), (.int .i64 0)] []), oO 7 8 (.buildSlice 2 3 [(.agg [(.int .i64 0), (.int .i64 0)]), (.agg [(.int .i64 0), (.int .i64 0)]), (.agg [(.int .i64 0), (.int .i64 0)])] [(0, (.t 5)), (1, (.t 6)), (2, (.t 7))]), oO 8 9 (.build [(.str ⟨#[]⟩), .nilsl] [(0, 1, (.c (.str ⟨#[115, 105, 100, 101]⟩))), (1, 1, (.t 8))]), oO 9 10 (.buildSlice 2 2 [(.agg [(.str ⟨#[]⟩), .nilsl]), (.agg [(.str ⟨#[]⟩), .nilsl])] [(0, (.t 4)), (1, (.t 9))]), mM 10 0 10]) .ret)),
 [.t 0]⟩
def qju : KFn := ⟨
 (.seq (.ops 0 1 [oO 0 4 (.new 6 (.agg [(.bool false), .nilsl, .nilsl, (.bool false), .nilsl, .nilsl]))])
 (.seq (.ops 1 6 [mM 0 5 0, oO 1 6 (.callF qdI [(.t 5)]), mM 2 7 1, oO 3 8 (.callF qdI [(.t 7)]), oO 4 9 (.build [(.bool false), .nilsl, .nilsl, (.bool false), .nilsl, .nilsl] [(0, 3, (.t 6)), (3, 3, (.t 8))]), sT 5 true 6 4 9]) .ret)),
 [.cell 4 true 6]⟩
def q62 : KFn := ⟨
 (.seq (.ops 8 1 [oO 0 2 (.mov (.c .nilsl))])
 (.seq (.ops 9 1 [oO 0 3 (.mov (.c .nilsl))])
 (.seq (.seq
 (.ops 10 3 [mM 0 6 0, nO 1 7 6, mI 2 8 0])
 (.block 0
 (.loop [(3, 2), (6, 0), (7, 0), (8, 0)]
 (.seq (.ops 13 1 [bT 0 9 .lss 8 7])
 (.seq (.cond (.t 9) .skip
 (.exit 0))
 (.seq (.block 1
 (.seq (.ops 14 4 [xO 0 10 2 6 8, lO 1 11 false true 2 10, oO 2 5 (.new 2 (.agg [(.str ⟨#[]⟩), .nilsl])), sT 3 true 2 5 11])
 (.ops 18 10 [mM 0 12 3, fO 1 13 1 5, lO 2 14 true false 1 13, fO 3 15 1 5, lO 4 16 true false 1 15, nO 5 17 16, bC 6 18 .sub 17 1, oO 7 19 (.slsl 2 (.t 14) none (some (.t 18)) none), oO 8 20 (.append ⟨2, 16, (.agg [(.int .i64 0), (.int .i64 0)])⟩ .sl (.t 12) (.t 19)), mM 9 3 20])))
 (.ops 28 2 [bC 0 21 .add 8 1, mM 1 8 21])))))))
 (.seq (.ops 30 2 [mM 0 22 3, mM 1 2 22]) .ret)))),
 [.t 2]⟩
def q8S : KFn := ⟨
 (.seq (.ops 6 1 [oO 0 2 (.mov (.c .nilsl))])
 (.seq (.ops 7 1 [oO 0 3 (.mov (.c .nilsl))])
 (.seq (.seq
 (.ops 8 1 [mI 0 4 0])
 (.block 0
 (.loop [(0, 0), (3, 2), (4, 0)]
 (.seq (.seq
 (.ops 9 4 [mM 0 6 4, mM 1 7 0, nO 2 8 7, bT 3 9 .lss 6 8])
 (.cond (.t 9) .skip
 (.exit 0)))
 (.seq (.block 1
 (.seq (.ops 13 7 [mM 0 12 0, mM 1 13 4, xO 2 14 2 12 13, fO 3 15 1 14, lO 4 16 false false 1 15, nO 5 17 16, mM 6 5 17])
 (.seq (.ops 20 2 [mM 0 18 5, bC 1 19 .gtr 18 0])
 (.cond (.t 19)
 (.ops 22 11 [mM 0 20 3, mM 1 21 0, mM 2 22 4, xO 3 23 2 21 22, fO 4 24 1 23, lO 5 25 false false 1 24, mM 6 26 5, bC 7 27 .sub 26 1, oO 8 28 (.slsl 2 (.t 25) none (some (.t 27)) none), oO 9 29 (.append ⟨2, 16, (.agg [(.int .i64 0), (.int .i64 0)])⟩ .sl (.t 20) (.t 28)), mM 10 3 29]) .skip))))
 (.ops 33 3 [mM 0 10 4, bC 1 11 .add 10 1, mM 2 4 11]))))))
 (.seq (.ops 36 2 [mM 0 30 3, mM 1 2 30]) .ret)))),
 [.t 2]⟩
def q7a : KFn := ⟨
 (.seq (.ops 0 1 [oO 0 2 (.mov (.c (.bool false)))])
 (.seq (.ops 1 5 [mM 0 3 0, oO 1 4 (.build [(.int .i64 0), (.bool false), .nilsl, .nilsl, (.str ⟨#[]⟩), .nilsl] [(0, 1, (.c (.int .i64 2))), (4, 1, (.t 3))]), oO 2 5 (.callF qcg [(.t 4)]), bC 3 6 .eql 5 0, mM 4 2 6]) .ret)),
 [.t 2]⟩
def q7b : KFn := ⟨
 (.seq (.ops 6 1 [mI 0 2 0])
 (.seq (.seq
 (.ops 7 3 [mM 0 4 0, nO 1 5 4, bC 2 6 .gtr 5 40])
 (.cond (.t 6)
 (.seq (.ops 10 1 [mI 0 2 5]) .ret) .skip))
 (.seq (.seq
 (.ops 11 3 [mM 0 7 0, nO 1 8 7, bC 2 9 .lss 8 2])
 (.cond (.t 9)
 (.seq (.ops 14 1 [mI 0 2 11]) .ret) .skip))
 (.seq (.seq
 (.ops 15 2 [mM 0 10 0, oO 1 11 (.callF q2k [(.t 10), (.c (.fn q6f [] []))])])
 (.cond (.t 11)
 (.seq (.ops 17 1 [mI 0 2 3]) .ret) .skip))
 (.seq (.seq
 (.ops 18 4 [mM 0 12 0, nO 1 13 12, bC 2 14 .sub 13 1, mI 3 15 0])
 (.block 0
 (.loop [(0, 0), (14, 0), (15, 0)]
 (.seq (.ops 22 1 [bT 0 16 .lss 15 14])
 (.seq (.cond (.t 16) .skip
 (.exit 0))
 (.seq (.block 1
 (.seq (.ops 23 2 [mM 0 17 15, mM 1 3 17])
 (.seq (.ops 25 10 [mM 0 18 0, mM 1 19 3, xB 2 20 3 10 2 18 19, lB 3 21 7 10 false true 2 20, mM 4 22 0, mM 5 23 3, bC 6 24 .add 23 1, xB 7 25 112 10 2 22 24, lB 8 26 240 10 false true 2 25, oO 9 27 (.bin .eql (.flat [.int, .int]) (.t 21) (.t 26))])
 (.cond (.t 27)
 (.seq (.ops 35 1 [mI 0 2 11]) .ret) .skip))))
 (.ops 36 2 [bC 0 28 .add 15 1, mM 1 15 28])))))))
 (.seq (.ops 38 1 [mI 0 2 0]) .ret)))))),
 [.t 2]⟩
def qff : KFn := ⟨
 (.seq (.ops 4 1 [oO 0 2 (.mov (.c (.bool false)))])
 (.seq (.seq
 (.ops 5 25 [mM 0 4 0, oO 1 5 (.bin .eql .no (.t 4) (.c (.str ⟨#[]⟩))), mM 2 6 5, gM 3 7 6 false 0, gG 4 8 6 false (.len .str (.t 7)), gG 5 9 6 false (.bin .gtr .no (.t 8) (.c (.int .i64 24))), oO 6 10 (.pick (.t 6) (.c (.bool true)) (.t 9)), mM 7 11 10, gM 8 12 11 false 0, gG 9 13 11 false (.bin .eql .no (.t 12) (.c (.str ⟨#[109, 105, 110]⟩))), oO 10 14 (.pick (.t 11) (.c (.bool true)) (.t 13)), mM 11 15 14, gM 12 16 15 false 0, gG 13 17 15 false (.bin .eql .no (.t 16) (.c (.str ⟨#[109, 97, 120]⟩))), oO 14 18 (.pick (.t 15) (.c (.bool true)) (.t 17)), mM 15 19 18, gM 16 20 19 false 0, gG 17 21 19 false (.istr (.t 20) (.c (.int .i64 0))), gG 18 22 19 false (.bin .lss .no (.t 21) (.c (.int .u8 97))), oO 19 23 (.pick (.t 19) (.c (.bool true)) (.t 22)), mM 20 24 23, gM 21 25 24 false 0, gG 22 26 24 false (.istr (.t 25) (.c (.int .i64 0))), gG 23 27 24 false (.bin .gtr .no (.t 26) (.c (.int .u8 122))), oO 24 28 (.pick (.t 24) (.c (.bool true)) (.t 27))])
 (.cond (.t 28)
 (.seq (.ops 30 1 [oO 0 2 (.mov (.c (.bool false)))]) .ret) .skip))
 (.seq (.seq
 (.ops 31 1 [mI 0 3 0])
 (.block 0
 (.loop [(0, 0), (3, 0)]
 (.seq (.seq
 (.ops 32 4 [mM 0 29 3, mM 1 30 0, oO 2 31 (.len .str (.t 30)), bT 3 32 .lss 29 31])
 (.cond (.t 32) .skip
 (.exit 0)))
 (.seq (.block 1
 (.seq (.ops 36 23 [mM 0 35 0, mM 1 36 3, oO 2 37 (.istr (.t 35) (.t 36)), oO 3 38 (.callF qdJ [(.t 37)]), oO 4 39 (.un .not (.t 38)), mM 5 40 39, gM 6 41 40 true 0, gM 7 42 40 true 3, gG 8 43 40 true (.istr (.t 41) (.t 42)), gG 9 44 40 true (.bin .neq .no (.t 43) (.c (.int .u8 95))), oO 10 45 (.pick (.t 40) (.t 44) (.c (.bool false))), mM 11 46 45, gM 12 47 46 true 0, gM 13 48 46 true 3, gG 14 49 46 true (.istr (.t 47) (.t 48)), gG 15 50 46 true (.bin .lss .no (.t 49) (.c (.int .u8 97))), gM 16 51 46 true 50, gM 17 52 51 false 0, gM 18 53 51 false 3, gG 19 54 51 false (.istr (.t 52) (.t 53)), gG 20 55 51 false (.bin .gtr .no (.t 54) (.c (.int .u8 122))), gG 21 56 46 true (.pick (.t 51) (.c (.bool true)) (.t 55)), oO 22 57 (.pick (.t 46) (.t 56) (.c (.bool false)))])
 (.cond (.t 57)
 (.seq (.ops 59 1 [oO 0 2 (.mov (.c (.bool false)))]) .ret) .skip)))
 (.ops 60 3 [mM 0 33 3, bC 1 34 .add 33 1, mM 2 3 34]))))))
 (.seq (.ops 63 1 [oO 0 2 (.mov (.c (.bool true)))]) .ret)))),
 [.t 2]⟩
def qcQ : KFn := ⟨
 (.seq (.ops 8 1 [oO 0 6 (.mov (.c (.bool false)))])
 (.seq (.seq
 (.ops 9 1 [mI 0 7 0])
 (.block 0
 (.loop [(0, 0), (1, 0), (2, 0), (7, 0)]
 (.seq (.seq
 (.ops 10 3 [mM 0 8 7, mM 1 9 1, bT 2 10 .lss 8 9])
 (.cond (.t 10) .skip
 (.exit 0)))
 (.seq (.block 1
 (.seq (.ops 13 7 [mM 0 13 0, mM 1 14 7, xO 2 15 2 13 14, fO 3 16 0 15, lO 4 17 false false 1 16, mM 5 18 2, bT 6 19 .eql 17 18])
 (.cond (.t 19)
 (.seq (.ops 20 1 [oO 0 6 (.mov (.c (.bool true)))]) .ret) .skip)))
 (.ops 21 3 [mM 0 11 7, bC 1 12 .add 11 1, mM 2 7 12]))))))
 (.seq (.ops 24 1 [oO 0 6 (.mov (.c (.bool false)))]) .ret))),
 [.t 6]⟩
def qcR : KFn := ⟨
 (.seq (.ops 4 1 [mI 0 2 0])
 (.seq (.seq
 (.ops 5 3 [mM 0 4 0, nO 1 5 4, bC 2 6 .gtr 5 40])
 (.cond (.t 6)
 (.seq (.ops 8 1 [mI 0 2 5]) .ret) .skip))
 (.seq (.seq
 (.ops 9 3 [mM 0 7 0, nO 1 8 7, bC 2 9 .lss 8 2])
 (.cond (.t 9)
 (.seq (.ops 12 1 [mI 0 2 11]) .ret) .skip))
 (.seq (.seq
 (.ops 13 2 [mM 0 10 0, oO 1 11 (.callF qmg [(.t 10)])])
 (.cond (.t 11)
 (.seq (.ops 15 1 [mI 0 2 3]) .ret) .skip))
 (.seq (.seq
 (.ops 16 1 [mI 0 3 1])
 (.block 0
 (.loop [(0, 0), (3, 0)]
 (.seq (.seq
 (.ops 17 4 [mM 0 12 3, mM 1 13 0, nO 2 14 13, bT 3 15 .lss 12 14])
 (.cond (.t 15) .skip
 (.exit 0)))
 (.seq (.block 1
 (.seq (.ops 21 10 [mM 0 18 0, mM 1 19 3, xB 2 20 3 10 2 18 19, lB 3 21 7 10 false true 2 20, mM 4 22 0, mM 5 23 3, bC 6 24 .sub 23 1, xB 7 25 112 10 2 22 24, lB 8 26 240 10 false true 2 25, oO 9 27 (.bin .eql (.flat [.int, .int]) (.t 21) (.t 26))])
 (.cond (.t 27)
 (.seq (.ops 31 1 [mI 0 2 11]) .ret) .skip)))
 (.ops 32 3 [mM 0 16 3, bC 1 17 .add 16 1, mM 2 3 17]))))))
 (.seq (.ops 35 1 [mI 0 2 0]) .ret)))))),
 [.t 2]⟩
def qcS : KFn := ⟨
 (.seq (.ops 0 2 [oO 0 2 (.box 6 (.t 0)), oO 1 4 (.mov (.c (.bool false)))])
 (.seq (.ops 2 11 [fO 0 5 0 2, lO 1 6 true true 3 5, mM 2 7 1, oO 3 8 (.callF qhN [(.t 6), (.t 7)]), mM 4 9 8, gG 5 10 9 true (.off 3 (.t 2)), gG 6 11 9 true (.load true true 3 (.t 10)), gM 7 12 9 true 1, gG 8 13 9 true (.callF qhN [(.t 11), (.t 12)]), oO 9 14 (.pick (.t 9) (.t 13) (.c (.bool false))), mM 10 4 14]) .ret)),
 [.t 4]⟩
def q88 : KFn := ⟨
 (.seq (.ops 12 3 [oO 0 3 (.box 3 (.t 1)), oO 1 4 (.mov (.c .nilsl)), mI 2 5 0])
 (.seq (.ops 15 1 [oO 0 6 (.mov (.c .nilsl))])
 (.seq (.seq
 (.ops 16 4 [fO 0 18 1 3, lO 1 19 true false 1 18, nO 2 20 19, mI 3 21 0])
 (.block 0
 (.loop [(0, 0), (3, 0), (6, 6), (19, 0), (20, 0), (21, 0)]
 (.seq (.ops 20 1 [bT 0 22 .lss 21 20])
 (.seq (.cond (.t 22) .skip
 (.exit 0))
 (.seq (.block 1
 (.seq (.ops 21 3 [xO 0 23 1 19 21, lO 1 24 false false 1 23, mM 2 8 24])
 (.seq (.ops 24 9 [mM 0 26 0, mM 1 27 8, oO 2 28 (.lookup (.agg [(.bool false), .nilsl, .nilsl, (.bool false), .nilsl, .nilsl]) (.t 26) (.t 27) true), mM 3 25 28, eO 4 29 25 0, eO 5 30 25 1, oO 6 9 (.new 6 (.agg [(.bool false), .nilsl, .nilsl, (.bool false), .nilsl, .nilsl])), sT 7 true 6 9 29, mM 8 10 30])
 (.seq (.seq
 (.ops 33 2 [mM 0 31 10, oO 1 32 (.un .not (.t 31))])
 (.cond (.t 32)
 (.seq (.ops 35 2 [oO 0 4 (.mov (.c .nilsl)), mI 1 5 6]) .ret) .skip))
 (.ops 37 5 [mM 0 33 6, lO 1 34 true true 6 9, oO 2 35 (.buildSlice 6 1 [(.agg [(.bool false), .nilsl, .nilsl, (.bool false), .nilsl, .nilsl])] [(0, (.t 34))]), oO 3 36 (.append ⟨6, 112, (.agg [(.bool false), .nilsl, .nilsl, (.bool false), .nilsl, .nilsl])⟩ .sl (.t 33) (.t 35)), mM 4 6 36])))))
 (.ops 42 2 [bC 0 37 .add 21 1, mM 1 21 37])))))))
 (.seq (.ops 44 9 [mM 0 39 6, fO 1 40 2 3, lO 2 41 true false 1 40, oO 3 42 (.callF qch [(.t 39), (.t 41)]), mM 4 38 42, eO 5 43 38 0, eO 6 44 38 1, mM 7 11 43, mM 8 12 44])
 (.seq (.seq
 (.ops 53 2 [mM 0 45 12, bC 1 46 .neq 45 0])
 (.cond (.t 46)
 (.seq (.ops 55 3 [mM 0 47 12, oO 1 4 (.mov (.c .nilsl)), mM 2 5 47]) .ret) .skip))
 (.seq (.ops 58 1 [oO 0 13 (.mov (.c .nilsl))])
 (.seq (.seq
 (.ops 59 3 [mM 0 48 11, nO 1 49 48, mI 2 50 0])
 (.block 2
 (.loop [(13, 2), (48, 0), (49, 0), (50, 0)]
 (.seq (.ops 62 1 [bT 0 51 .lss 50 49])
 (.seq (.cond (.t 51) .skip
 (.exit 2))
 (.seq (.block 3
 (.seq (.ops 63 4 [xO 0 52 6 48 50, lO 1 53 false true 6 52, oO 2 15 (.new 6 (.agg [(.bool false), .nilsl, .nilsl, (.bool false), .nilsl, .nilsl])), sT 3 true 6 15 53])
 (.seq (.ops 67 8 [lO 0 55 true true 6 15, oO 1 56 (.callF q6N [(.t 55)]), mM 2 54 56, eO 3 57 54 0, eO 4 58 54 1, oO 5 16 (.new 2 (.agg [(.int .i64 0), (.int .i64 0)])), sT 6 true 2 16 57, mM 7 17 58])
 (.seq (.seq
 (.ops 75 2 [mM 0 59 17, bC 1 60 .neq 59 0])
 (.cond (.t 60)
 (.seq (.ops 77 3 [mM 0 61 17, oO 1 4 (.mov (.c .nilsl)), mM 2 5 61]) .ret) .skip))
 (.ops 80 5 [mM 0 62 13, lO 1 63 true true 2 16, oO 2 64 (.buildSlice 2 1 [(.agg [(.int .i64 0), (.int .i64 0)])] [(0, (.t 63))]), oO 3 65 (.append ⟨2, 16, (.agg [(.int .i64 0), (.int .i64 0)])⟩ .sl (.t 62) (.t 64)), mM 4 13 65])))))
 (.ops 85 2 [bC 0 66 .add 50 1, mM 1 50 66])))))))
 (.seq (.ops 87 4 [mM 0 67 13, oO 1 68 (.callF q9f [(.t 67)]), mM 2 4 68, mI 3 5 0]) .ret)))))))),
 [.t 4, .t 5]⟩
def qfg : KFn := ⟨
 (.seq (.ops 8 3 [oO 0 3 (.box 3 (.t 1)), oO 1 4 (.mov (.c .nilsl)), mI 2 5 0])
 (.seq (.ops 11 1 [oO 0 6 (.mov (.c .nilsl))])
 (.seq (.seq
 (.ops 12 1 [mI 0 7 0])
 (.block 0
 (.loop [(0, 0), (3, 0), (6, 6), (7, 0)]
 (.seq (.seq
 (.ops 13 5 [mM 0 16 7, fO 1 17 1 3, lO 2 18 true false 1 17, nO 3 19 18, bT 4 20 .lss 16 19])
 (.cond (.t 20) .skip
 (.exit 0)))
 (.seq (.block 1
 (.seq (.ops 18 13 [mM 0 24 0, fO 1 25 1 3, lO 2 26 true false 1 25, mM 3 27 7, xO 4 28 1 26 27, lO 5 29 false false 1 28, oO 6 30 (.callF qk2 [(.t 24), (.t 29)]), mM 7 23 30, eO 8 31 23 0, eO 9 32 23 1, oO 10 8 (.new 6 (.agg [(.bool false), .nilsl, .nilsl, (.bool false), .nilsl, .nilsl])), sT 11 true 6 8 31, mM 12 9 32])
 (.seq (.seq
 (.ops 31 2 [mM 0 33 9, oO 1 34 (.un .not (.t 33))])
 (.cond (.t 34)
 (.seq (.ops 33 2 [oO 0 4 (.mov (.c .nilsl)), mI 1 5 6]) .ret) .skip))
 (.ops 35 5 [mM 0 35 6, lO 1 36 true true 6 8, oO 2 37 (.buildSlice 6 1 [(.agg [(.bool false), .nilsl, .nilsl, (.bool false), .nilsl, .nilsl])] [(0, (.t 36))]), oO 3 38 (.append ⟨6, 112, (.agg [(.bool false), .nilsl, .nilsl, (.bool false), .nilsl, .nilsl])⟩ .sl (.t 35) (.t 37)), mM 4 6 38]))))
 (.ops 40 3 [mM 0 21 7, bC 1 22 .add 21 1, mM 2 7 22]))))))
 (.seq (.ops 43 9 [mM 0 40 6, fO 1 41 2 3, lO 2 42 true false 1 41, oO 3 43 (.callF qeV [(.t 40), (.t 42)]), mM 4 39 43, eO 5 44 39 0, eO 6 45 39 1, mM 7 10 44, mM 8 11 45])
 (.seq (.seq
 (.ops 52 2 [mM 0 46 11, bC 1 47 .neq 46 0])
 (.cond (.t 47)
 (.seq (.ops 54 3 [mM 0 48 11, oO 1 4 (.mov (.c .nilsl)), mM 2 5 48]) .ret) .skip))
 (.seq (.ops 57 1 [oO 0 12 (.mov (.c .nilsl))])
 (.seq (.seq
 (.ops 58 1 [mI 0 13 0])
 (.block 2
 (.loop [(10, 0), (12, 2), (13, 0)]
 (.seq (.seq
 (.ops 59 4 [mM 0 49 13, mM 1 50 10, nO 2 51 50, bT 3 52 .lss 49 51])
 (.cond (.t 52) .skip
 (.exit 2)))
 (.seq (.block 3
 (.seq (.ops 63 11 [mM 0 56 10, mM 1 57 13, xO 2 58 6 56 57, lO 3 59 false true 6 58, oO 4 60 (.callF qk3 [(.t 59)]), mM 5 55 60, eO 6 61 55 0, eO 7 62 55 1, oO 8 14 (.new 2 (.agg [(.int .i64 0), (.int .i64 0)])), sT 9 true 2 14 61, mM 10 15 62])
 (.seq (.seq
 (.ops 74 2 [mM 0 63 15, bC 1 64 .neq 63 0])
 (.cond (.t 64)
 (.seq (.ops 76 3 [mM 0 65 15, oO 1 4 (.mov (.c .nilsl)), mM 2 5 65]) .ret) .skip))
 (.seq (.ops 79 13 [mM 0 66 12, oB 1 67 1 13 (.len .sl (.t 66)), bC 2 68 .eql 67 0, mM 3 69 68, gM 4 70 69 false 12, gM 5 71 69 false 12, ⟨6, some 72, some (69, false), (.bef 47 13), .len .sl (.t 71)⟩, gG 7 73 69 false (.bin .sub .no (.t 72) (.c (.int .i64 1))), ⟨8, some 74, some (69, false), (.bef 255 13), .ixs 2 (.t 70) (.t 73)⟩, ⟨9, some 75, some (69, false), (.bef 511 13), .load false true 2 (.t 74)⟩, ⟨10, some 76, some (69, false), (.bef 15 13), .load true true 2 (.t 14)⟩, gG 11 77 69 false (.bin .neq (.flat [.int, .int]) (.t 75) (.t 76)), oO 12 78 (.pick (.t 69) (.c (.bool true)) (.t 77))])
 (.cond (.t 78)
 (.ops 92 5 [mM 0 79 12, lO 1 80 true true 2 14, oO 2 81 (.buildSlice 2 1 [(.agg [(.int .i64 0), (.int .i64 0)])] [(0, (.t 80))]), oO 3 82 (.append ⟨2, 16, (.agg [(.int .i64 0), (.int .i64 0)])⟩ .sl (.t 79) (.t 81)), mM 4 12 82]) .skip)))))
 (.ops 97 3 [mM 0 53 13, bC 1 54 .add 53 1, mM 2 13 54]))))))
 (.seq (.ops 100 3 [mM 0 83 12, mM 1 4 83, mI 2 5 0]) .ret)))))))),
 [.t 4, .t 5]⟩
def q7c : KFn := ⟨
 (.seq (.ops 0 2 [oO 0 4 (.new 2 (.agg [(.int .i64 0), (.int .i64 0)])), mI 1 5 0])
 (.seq (.ops 2 11 [mM 0 10 0, mM 1 11 1, oO 2 12 (.callF q9H [(.t 10), (.t 11)]), mM 3 9 12, eO 4 13 9 0, eO 5 14 9 1, eO 6 15 9 2, oO 7 7 (.new 2 (.agg [(.int .i64 0), (.int .i64 0)])), mM 8 6 13, sT 9 true 2 7 14, mM 10 8 15])
 (.seq (.ops 13 4 [lO 0 16 true true 2 7, mM 1 17 8, sT 2 true 2 4 16, mM 3 5 17]) .ret))),
 [.cell 4 true 2, .t 5]⟩
def qbl : KFn := ⟨
 (.seq (.ops 8 3 [oO 0 2 (.box 2 (.t 0)), oO 1 3 (.box 2 (.t 1)), oO 2 4 (.new 2 (.agg [(.int .i64 0), (.int .i64 0)]))])
 (.seq (.seq
 (.ops 11 2 [fO 0 5 0 2, lO 1 6 true false 1 5])
 (.cond (.t 6)
 (.ops 13 5 [fO 0 7 0 3, lO 1 8 true false 1 7, oO 2 9 (.un .neg (.t 8)), fO 3 10 0 3, sT 4 true 1 10 9]) .skip))
 (.seq (.seq
 (.ops 18 4 [fO 0 11 1 2, lO 1 12 true false 1 11, bC 2 13 .and 12 3, mI 3 14 0])
 (.block 0
 (.loop [(3, 0), (4, 0), (13, 0), (14, 0)]
 (.seq (.ops 22 1 [bT 0 15 .lss 14 13])
 (.seq (.cond (.t 15) .skip
 (.exit 0))
 (.seq (.block 1
 (.ops 23 7 [fO 0 16 1 3, lO 1 17 true false 1 16, oO 2 18 (.un .neg (.t 17)), fO 3 19 0 3, lO 4 20 true false 1 19, oO 5 21 (.build [(.int .i64 0), (.int .i64 0)] [(0, 1, (.t 18)), (1, 1, (.t 20))]), sT 6 true 2 3 21]))
 (.ops 30 2 [bC 0 22 .add 14 1, mM 1 14 22])))))))
 (.seq (.ops 32 2 [lO 0 23 true true 2 3, sT 1 true 2 4 23]) .ret)))),
 [.cell 4 true 2]⟩
def k_slices_Reverse_Spot_Spot : KFn := ⟨
 (.seq (.ops 6 5 [mM 0 4 0, nO 1 5 4, bC 2 6 .sub 5 1, mI 3 2 0, mM 4 3 6])
 (.block 0
 (.loop [(0, 0), (2, 0), (3, 0)]
 (.seq (.seq
 (.ops 11 3 [mM 0 7 2, mM 1 8 3, bT 2 9 .lss 7 8])
 (.cond (.t 9) .skip
 (.exit 0)))
 (.seq (.block 1
 (.ops 14 16 [mM 0 14 0, mM 1 15 2, mM 2 16 0, mM 3 17 3, mM 4 18 0, mM 5 19 3, xB 6 20 48 16 2 18 19, lB 7 21 112 16 false true 2 20, mM 8 22 0, mM 9 23 2, xB 10 24 768 16 2 22 23, lB 11 25 1792 16 false true 2 24, xB 12 26 4083 16 2 14 15, ⟨13, none, none, (.bef 8179 16), .store false 2 (.t 26) (.t 21)⟩, xB 14 27 16383 16 2 16 17, ⟨15, none, none, (.bef 32767 16), .store false 2 (.t 27) (.t 25)⟩]))
 (.ops 30 6 [mM 0 10 2, bC 1 11 .add 10 1, mM 2 12 3, bC 3 13 .sub 12 1, mM 4 2 11, mM 5 3 13])))))),
 []⟩
def q2i : KFn := ⟨
 (.seq (.ops 0 1 [oO 0 4 (.mov (.c (.bool false)))])
 (.seq (.ops 1 5 [mM 0 5 0, mM 1 6 1, oO 2 7 (.callF q2F [(.t 5), (.t 6)]), bC 3 8 .geq 7 0, mM 4 4 8]) .ret)),
 [.t 4]⟩
def q6D : KFn := ⟨
 (.seq (.ops 0 2 [oO 0 1 (.box 2 (.t 0)), oO 1 2 (.mov (.c (.bool false)))])
 (.seq (.ops 2 19 [fO 0 3 0 1, lO 1 4 true false 1 3, bC 2 5 .lss 4 (-1048576), mM 3 6 5, gG 4 7 6 false (.off 0 (.t 1)), gG 5 8 6 false (.load true false 1 (.t 7)), gG 6 9 6 false (.bin .gtr .no (.t 8) (.c (.int .i64 1048576))), oO 7 10 (.pick (.t 6) (.c (.bool true)) (.t 9)), mM 8 11 10, gG 9 12 11 false (.off 1 (.t 1)), gG 10 13 11 false (.load true false 1 (.t 12)), gG 11 14 11 false (.bin .lss .no (.t 13) (.c (.int .i64 (-1048576)))), oO 12 15 (.pick (.t 11) (.c (.bool true)) (.t 14)), mM 13 16 15, gG 14 17 16 false (.off 1 (.t 1)), gG 15 18 16 false (.load true false 1 (.t 17)), gG 16 19 16 false (.bin .gtr .no (.t 18) (.c (.int .i64 1048576))), oO 17 20 (.pick (.t 16) (.c (.bool true)) (.t 19)), mM 18 2 20]) .ret)),
 [.t 2]⟩
def q7d : KFn := ⟨
 (.seq (.ops 18 1 [oO 0 2 (.mov (.c (.bool false)))])
 (.seq (.ops 19 3 [mM 0 10 0, nO 1 11 10, mM 2 3 11])
 (.seq (.seq
 (.ops 22 3 [mM 0 12 0, nO 1 13 12, mI 2 14 0])
 (.block 0
 (.loop [(0, 0), (3, 0), (12, 0), (13, 0), (14, 0)]
 (.seq (.ops 25 1 [bT 0 15 .lss 14 13])
 (.seq (.cond (.t 15) .skip
 (.exit 0))
 (.seq (.block 1
 (.seq (.ops 26 6 [mM 0 16 14, xO 1 17 2 12 14, lO 2 18 false true 2 17, oO 3 5 (.new 2 (.agg [(.int .i64 0), (.int .i64 0)])), mM 4 4 16, sT 5 true 2 5 18])
 (.seq (.ops 32 5 [mM 0 19 0, mM 1 20 4, oB 2 21 3 5 (.slsl 2 (.t 19) none (some (.t 20)) none), lB 3 22 0 5 true true 2 5, oB 4 23 15 5 (.callF q4F [(.t 21), (.t 22)])])
 (.cond (.t 23)
 (.seq (.ops 37 1 [oO 0 2 (.mov (.c (.bool false)))]) .ret) .skip))))
 (.ops 38 2 [bC 0 24 .add 14 1, mM 1 14 24])))))))
 (.seq (.seq
 (.ops 40 3 [mM 0 25 0, nO 1 26 25, mI 2 27 0])
 (.block 2
 (.loop [(0, 0), (3, 0), (25, 0), (26, 0), (27, 0)]
 (.seq (.ops 43 1 [bT 0 28 .lss 27 26])
 (.seq (.cond (.t 28) .skip
 (.exit 2))
 (.seq (.block 3
 (.seq (.ops 44 6 [mM 0 29 27, xO 1 30 2 25 27, lO 2 31 false true 2 30, oO 3 7 (.new 2 (.agg [(.int .i64 0), (.int .i64 0)])), mM 4 6 29, sT 5 true 2 7 31])
 (.seq (.ops 50 9 [mM 0 32 0, mM 1 33 6, bC 2 34 .add 33 1, mM 3 35 3, bT 4 36 .rem 34 35, xO 5 37 2 32 36, lO 6 38 false true 2 37, oO 7 8 (.new 2 (.agg [(.int .i64 0), (.int .i64 0)])), sT 8 true 2 8 38])
 (.seq (.seq
 (.ops 59 10 [lB 0 39 0 10 true true 2 7, lB 1 40 0 10 true true 2 8, mM 2 41 0, mM 3 42 6, bC 4 43 .add 42 2, mM 5 44 3, bT 6 45 .rem 43 44, xB 7 46 124 10 2 41 45, lB 8 47 252 10 false true 2 46, oB 9 48 511 10 (.callF qaO [(.t 39), (.t 40), (.t 47)])])
 (.cond (.t 48)
 (.seq (.ops 69 1 [oO 0 2 (.mov (.c (.bool false)))]) .ret) .skip))
 (.seq (.ops 70 3 [mM 0 49 6, bC 1 50 .add 49 2, mM 2 9 50])
 (.block 4
 (.loop [(0, 0), (3, 0), (6, 0), (7, 0), (8, 0), (9, 0), (25, 0), (26, 0), (27, 0)]
 (.seq (.seq
 (.ops 73 11 [mM 0 51 9, mM 1 52 3, bT 2 53 .lss 51 52, mM 3 54 53, gM 4 55 54 true 9, gG 5 56 54 true (.bin .add .no (.t 55) (.c (.int .i64 1))), gM 6 57 54 true 3, gG 7 58 54 true (.bin .rem .no (.t 56) (.t 57)), gM 8 59 54 true 6, gG 9 60 54 true (.bin .neq .no (.t 58) (.t 59)), oO 10 61 (.pick (.t 54) (.t 60) (.c (.bool false)))])
 (.cond (.t 61) .skip
 (.exit 4)))
 (.seq (.block 5
 (.seq (.ops 84 14 [lB 0 64 0 14 true true 2 7, lB 1 65 0 14 true true 2 8, mM 2 66 0, mM 3 67 9, xB 4 68 12 14 2 66 67, lB 5 69 28 14 false true 2 68, mM 6 70 0, mM 7 71 9, bC 8 72 .add 71 1, mM 9 73 3, bT 10 74 .rem 72 73, xB 11 75 1984 14 2 70 74, lB 12 76 4032 14 false true 2 75, oB 13 77 8191 14 (.callF qdL [(.t 64), (.t 65), (.t 69), (.t 76)])])
 (.cond (.t 77)
 (.seq (.ops 98 1 [oO 0 2 (.mov (.c (.bool false)))]) .ret) .skip)))
 (.ops 99 3 [mM 0 62 9, bC 1 63 .add 62 1, mM 2 9 63]))))))))))
 (.ops 102 2 [bC 0 78 .add 27 1, mM 1 27 78])))))))
 (.seq (.ops 104 1 [oO 0 2 (.mov (.c (.bool true)))]) .ret))))),
 [.t 2]⟩
def q63 : KFn := ⟨
 (.seq (.ops 0 3 [oO 0 1 (.box 3 (.t 0)), mI 1 2 0, oO 2 3 (.mov (.c (.bool false)))])
 (.seq (.ops 3 8 [lO 0 7 true true 3 1, oO 1 8 (.callF qeW [(.t 7)]), oO 2 9 (.callF q8j [(.t 8)]), mM 3 6 9, eO 4 10 6 0, eO 5 11 6 1, mM 6 4 10, mM 7 5 11])
 (.seq (.ops 11 12 [mM 0 12 4, mM 1 13 5, mM 2 14 13, gM 3 15 14 true 4, gG 4 16 14 true (.bin .geq .no (.t 15) (.c (.int .i64 (-1048576)))), oO 5 17 (.pick (.t 14) (.t 16) (.c (.bool false))), mM 6 18 17, gM 7 19 18 true 4, gG 8 20 18 true (.bin .leq .no (.t 19) (.c (.int .i64 1048576))), oO 9 21 (.pick (.t 18) (.t 20) (.c (.bool false))), mM 10 2 12, mM 11 3 21]) .ret))),
 [.t 2, .t 3]⟩
def q64 : KFn := ⟨
 (.seq (.ops 0 3 [oO 0 2 (.box 2 (.t 0)), oO 1 3 (.box 2 (.t 1)), mI 2 4 0])
 (.seq (.ops 3 12 [fO 0 7 0 3, lB 1 8 1 12 true false 1 7, fO 2 9 0 2, lB 3 10 4 12 true false 1 9, bT 4 11 .sub 8 10, fO 5 12 1 3, lB 6 13 32 12 true false 1 12, fO 7 14 1 2, lB 8 15 128 12 true false 1 14, bT 9 16 .sub 13 15, mM 10 5 11, mM 11 6 16])
 (.seq (.ops 15 10 [mM 0 17 5, mM 1 18 5, bT 2 19 .mul 17 18, mM 3 20 6, mM 4 21 6, bT 5 22 .mul 20 21, bT 6 23 .add 19 22, oO 7 24 (.bin .mul .no (.c (.int .i64 1000000)) (.t 23)), oO 8 25 (.callF qci [(.t 24)]), mM 9 4 25]) .ret))),
 [.t 4]⟩
def q6F : KFn := ⟨
 (.seq (.ops 0 1 [mI 0 4 0])
 (.seq (.ops 1 3 [mM 0 7 0, oO 1 8 (.callF q5R [(.t 7)]), mM 2 5 8])
 (.seq (.ops 4 3 [mM 0 9 1, oO 1 10 (.callF q5R [(.t 9)]), mM 2 6 10])
 (.seq (.seq
 (.ops 7 1 [mM 0 11 5])
 (.cond (.t 11)
 (.seq (.seq
 (.ops 8 1 [mM 0 12 6])
 (.cond (.t 12)
 (.seq (.ops 9 1 [mI 0 4 0]) .ret) .skip))
 (.seq (.ops 10 1 [mI 0 4 (-1)]) .ret)) .skip))
 (.seq (.seq
 (.ops 11 1 [mM 0 13 6])
 (.cond (.t 13)
 (.seq (.ops 12 1 [mI 0 4 1]) .ret) .skip))
 (.seq (.seq
 (.ops 13 3 [mM 0 14 0, mM 1 15 1, bT 2 16 .lss 14 15])
 (.cond (.t 16)
 (.seq (.ops 16 1 [mI 0 4 (-1)]) .ret) .skip))
 (.seq (.seq
 (.ops 17 3 [mM 0 17 0, mM 1 18 1, bT 2 19 .gtr 17 18])
 (.cond (.t 19)
 (.seq (.ops 20 1 [mI 0 4 1]) .ret) .skip))
 (.seq (.ops 21 1 [mI 0 4 0]) .ret)))))))),
 [.t 4]⟩
def qcY : KFn := ⟨
 (.seq (.ops 0 3 [oO 0 2 (.box 6 (.t 0)), oO 1 3 (.box 6 (.t 1)), oO 2 4 (.new 6 (.agg [(.bool false), .nilsl, .nilsl, (.bool false), .nilsl, .nilsl]))])
 (.seq (.ops 3 12 [fO 0 5 0 2, lB 1 6 1 12 true true 3 5, fO 2 7 0 3, lB 3 8 4 12 true true 3 7, oB 4 9 15 12 (.callF q9J [(.t 6), (.t 8)]), fO 5 10 3 2, lB 6 11 32 12 true true 3 10, fO 7 12 3 3, lB 8 13 128 12 true true 3 12, oB 9 14 511 12 (.callF q9J [(.t 11), (.t 13)]), oO 10 15 (.build [(.bool false), .nilsl, .nilsl, (.bool false), .nilsl, .nilsl] [(0, 3, (.t 9)), (3, 3, (.t 14))]), ⟨11, none, none, (.bef 2047 12), .store true 6 (.t 4) (.t 15)⟩]) .ret)),
 [.cell 4 true 6]⟩
def qbn : KFn := ⟨
 (.seq (.ops 12 1 [oO 0 2 (.mov (.c (.bool false)))])
 (.seq (.ops 13 3 [mM 0 9 0, nO 1 10 9, mM 2 3 10])
 (.seq (.seq
 (.ops 16 1 [mI 0 4 0])
 (.block 0
 (.loop [(0, 0), (3, 0), (4, 0)]
 (.seq (.seq
 (.ops 17 3 [mM 0 11 4, mM 1 12 3, bT 2 13 .lss 11 12])
 (.cond (.t 13) .skip
 (.exit 0)))
 (.seq (.block 1
 (.seq (.ops 20 15 [mM 0 16 0, mM 1 17 4, xB 2 18 3 15 2 16 17, lB 3 19 7 15 false true 2 18, mM 4 20 0, mM 5 21 4, bC 6 22 .add 21 1, mM 7 23 3, bT 8 24 .rem 22 23, xB 9 25 496 15 2 20 24, lB 10 26 1008 15 false true 2 25, oB 11 5 0 15 (.new 2 (.agg [(.int .i64 0), (.int .i64 0)])), oB 12 6 0 15 (.new 2 (.agg [(.int .i64 0), (.int .i64 0)])), ⟨13, none, none, (.init 11), .store true 2 (.t 5) (.t 19)⟩, ⟨14, none, none, (.init 12), .store true 2 (.t 6) (.t 26)⟩])
 (.seq (.ops 35 9 [mM 0 27 0, mM 1 28 4, bC 2 29 .add 28 2, mM 3 30 3, bT 4 31 .rem 29 30, xO 5 32 2 27 31, lO 6 33 false true 2 32, oO 7 7 (.new 2 (.agg [(.int .i64 0), (.int .i64 0)])), sT 8 true 2 7 33])
 (.seq (.seq
 (.ops 44 15 [lO 0 34 true true 2 5, lO 1 35 true true 2 6, oO 2 36 (.bin .eql (.flat [.int, .int]) (.t 34) (.t 35)), mM 3 37 36, gG 4 38 37 false (.load true true 2 (.t 5)), gG 5 39 37 false (.load true true 2 (.t 6)), gG 6 40 37 false (.load true true 2 (.t 7)), gG 7 41 37 false (.callF q2T [(.t 38), (.t 39), (.t 40)]), oO 8 42 (.pick (.t 37) (.c (.bool true)) (.t 41)), mM 9 43 42, gG 10 44 43 false (.load true true 2 (.t 6)), gG 11 45 43 false (.load true true 2 (.t 7)), gG 12 46 43 false (.load true true 2 (.t 5)), gG 13 47 43 false (.callF q2T [(.t 44), (.t 45), (.t 46)]), oO 14 48 (.pick (.t 43) (.c (.bool true)) (.t 47))])
 (.cond (.t 48)
 (.seq (.ops 59 1 [oO 0 2 (.mov (.c (.bool false)))]) .ret) .skip))
 (.seq (.ops 60 3 [mM 0 49 4, bC 1 50 .add 49 2, mM 2 8 50])
 (.block 2
 (.loop [(0, 0), (3, 0), (4, 0), (5, 0), (6, 0), (8, 0)]
 (.seq (.seq
 (.ops 63 3 [mM 0 51 8, mM 1 52 3, bT 2 53 .lss 51 52])
 (.cond (.t 53) .skip
 (.exit 2)))
 (.seq (.block 3
 (.seq (.ops 66 22 [mM 0 56 8, bC 1 57 .add 56 1, mM 2 58 3, bT 3 59 .rem 57 58, mM 4 60 4, bT 5 61 .neq 59 60, mM 6 62 61, ⟨7, some 63, some (62, true), (.bef 127 22), .load true true 2 (.t 5)⟩, ⟨8, some 64, some (62, true), (.bef 127 22), .load true true 2 (.t 6)⟩, gM 9 65 62 true 0, gM 10 66 62 true 8, ⟨11, some 67, some (62, true), (.bef 1663 22), .ixs 2 (.t 65) (.t 66)⟩, ⟨12, some 68, some (62, true), (.bef 3711 22), .load false true 2 (.t 67)⟩, gM 13 69 62 true 0, gM 14 70 62 true 8, gG 15 71 62 true (.bin .add .no (.t 70) (.c (.int .i64 1))), gM 16 72 62 true 3, gG 17 73 62 true (.bin .rem .no (.t 71) (.t 72)), ⟨18, some 74, some (62, true), (.bef 254079 22), .ixs 2 (.t 69) (.t 73)⟩, ⟨19, some 75, some (62, true), (.bef 516223 22), .load false true 2 (.t 74)⟩, ⟨20, some 76, some (62, true), (.bef 1048575 22), .callF qk7 [(.t 63), (.t 64), (.t 68), (.t 75)]⟩, oO 21 77 (.pick (.t 62) (.t 76) (.c (.bool false)))])
 (.cond (.t 77)
 (.seq (.ops 88 1 [oO 0 2 (.mov (.c (.bool false)))]) .ret) .skip)))
 (.ops 89 3 [mM 0 54 8, bC 1 55 .add 54 1, mM 2 8 55]))))))))))
 (.ops 92 3 [mM 0 14 4, bC 1 15 .add 14 1, mM 2 4 15]))))))
 (.seq (.ops 95 1 [oO 0 2 (.mov (.c (.bool true)))]) .ret)))),
 [.t 2]⟩
def qd0 : KFn := ⟨
 (.seq (.ops 0 1 [oO 0 2 (.new 3 (.agg [(.bool false), .nilsl, .nilsl]))])
 (.seq (.ops 1 8 [mM 0 6 0, oO 1 7 (.callF qk8 [(.t 6), (.c (.int .i64 1))]), mM 2 5 7, eO 3 8 5 0, eO 4 9 5 1, oO 5 3 (.new 3 (.agg [(.bool false), .nilsl, .nilsl])), sT 6 true 3 3 8, mM 7 4 9])
 (.seq (.ops 9 2 [lO 0 10 true true 3 3, sT 1 true 3 2 10]) .ret))),
 [.cell 2 true 3]⟩
def q89 : KFn := ⟨
 (.seq (.ops 0 2 [oO 0 1 (.box 6 (.t 0)), mI 1 2 0])
 (.seq (.ops 2 3 [lO 0 3 true true 6 1, oO 1 4 (.callF q8k [(.t 3), (.c (.int .i64 1))]), mM 2 2 4]) .ret)),
 [.t 2]⟩
def q65 : KFn := ⟨
 (.seq (.ops 0 2 [oO 0 1 (.box 2 (.t 0)), oO 1 2 (.mov (.c (.bool false)))])
 (.seq (.ops 2 19 [fO 0 3 0 1, lO 1 4 true false 1 3, bC 2 5 .lss 4 (-1048576), mM 3 6 5, gG 4 7 6 false (.off 0 (.t 1)), gG 5 8 6 false (.load true false 1 (.t 7)), gG 6 9 6 false (.bin .gtr .no (.t 8) (.c (.int .i64 1048576))), oO 7 10 (.pick (.t 6) (.c (.bool true)) (.t 9)), mM 8 11 10, gG 9 12 11 false (.off 1 (.t 1)), gG 10 13 11 false (.load true false 1 (.t 12)), gG 11 14 11 false (.bin .lss .no (.t 13) (.c (.int .i64 (-1048576)))), oO 12 15 (.pick (.t 11) (.c (.bool true)) (.t 14)), mM 13 16 15, gG 14 17 16 false (.off 1 (.t 1)), gG 15 18 16 false (.load true false 1 (.t 17)), gG 16 19 16 false (.bin .gtr .no (.t 18) (.c (.int .i64 1048576))), oO 17 20 (.pick (.t 16) (.c (.bool true)) (.t 19)), mM 18 2 20]) .ret)),
 [.t 2]⟩
def qd1 : KFn := ⟨
 (.seq (.ops 0 1 [oO 0 2 (.mov (.c (.bool false)))])
 (.seq (.ops 1 7 [mM 0 3 0, oO 1 4 (.bin .geq .no (.t 3) (.c (.int .u8 48))), mM 2 5 4, gM 3 6 5 true 0, gG 4 7 5 true (.bin .leq .no (.t 6) (.c (.int .u8 57))), oO 5 8 (.pick (.t 5) (.t 7) (.c (.bool false))), mM 6 2 8]) .ret)),
 [.t 2]⟩
def qhj : KFn := ⟨
 (.seq (.ops 4 1 [oO 0 2 (.mov (.c (.bool false)))])
 (.seq (.seq
 (.ops 5 1 [mI 0 3 0])
 (.block 0
 (.loop [(0, 0), (3, 0)]
 (.seq (.seq
 (.ops 6 4 [mM 0 4 3, mM 1 5 0, nO 2 6 5, bT 3 7 .lss 4 6])
 (.cond (.t 7) .skip
 (.exit 0)))
 (.seq (.block 1
 (.seq (.ops 10 14 [mM 0 10 0, mM 1 11 3, xO 2 12 2 10 11, fO 3 13 0 12, lO 4 14 false false 1 13, oO 5 15 (.callF qez [(.t 14)]), mM 6 16 15, gM 7 17 16 false 0, gM 8 18 16 false 3, gG 9 19 16 false (.ixs 2 (.t 17) (.t 18)), gG 10 20 16 false (.off 1 (.t 19)), gG 11 21 16 false (.load false false 1 (.t 20)), gG 12 22 16 false (.callF qez [(.t 21)]), oO 13 23 (.pick (.t 16) (.c (.bool true)) (.t 22))])
 (.cond (.t 23)
 (.seq (.ops 24 1 [oO 0 2 (.mov (.c (.bool true)))]) .ret) .skip)))
 (.ops 25 3 [mM 0 8 3, bC 1 9 .add 8 1, mM 2 3 9]))))))
 (.seq (.ops 28 1 [oO 0 2 (.mov (.c (.bool false)))]) .ret))),
 [.t 2]⟩
def qhk : KFn := ⟨
 (.seq (.ops 0 2 [oO 0 2 (.box 3 (.t 0)), oO 1 4 (.mov (.c (.bool false)))])
 (.seq (.ops 2 14 [fO 0 5 0 2, fO 1 6 1 5, lO 2 7 true false 1 6, nO 3 8 7, mM 4 9 1, bT 5 10 .leq 8 9, mM 6 11 10, gG 7 12 11 true (.off 2 (.t 2)), gG 8 13 11 true (.load true false 1 (.t 12)), gG 9 14 11 true (.len .sl (.t 13)), gM 10 15 11 true 1, gG 11 16 11 true (.bin .leq .no (.t 14) (.t 15)), oO 12 17 (.pick (.t 11) (.t 16) (.c (.bool false))), mM 13 4 17]) .ret)),
 [.t 4]⟩
def q4k : KFn := ⟨
 (.seq (.ops 10 2 [oO 0 4 (.mov (.c .nilsl)), mI 1 5 0])
 (.seq (.seq
 (.ops 12 3 [mM 0 10 0, oO 1 11 (.callF qan [(.t 10)]), oO 2 12 (.un .not (.t 11))])
 (.cond (.t 12)
 (.seq (.ops 15 2 [oO 0 4 (.mov (.c .nilsl)), mI 1 5 1]) .ret) .skip))
 (.seq (.seq
 (.ops 17 6 [mM 0 13 1, bC 1 14 .lss 13 1, mM 2 15 14, gM 3 16 15 false 1, gG 4 17 15 false (.bin .gtr .no (.t 16) (.c (.int .i64 39))), oO 5 18 (.pick (.t 15) (.c (.bool true)) (.t 17))])
 (.cond (.t 18)
 (.seq (.ops 23 2 [oO 0 4 (.mov (.c .nilsl)), mI 1 5 3]) .ret) .skip))
 (.seq (.ops 25 4 [mM 0 19 1, bC 1 20 .add 19 1, oO 2 21 (.mkslice ⟨6, 112, (.agg [(.bool false), .nilsl, .nilsl, (.bool false), .nilsl, .nilsl])⟩ (.t 20) (.t 20)), mM 3 6 21])
 (.seq (.seq
 (.ops 29 3 [mM 0 22 6, nO 1 23 22, mI 2 24 0])
 (.block 0
 (.loop [(0, 0), (1, 0), (6, 0), (23, 0), (24, 0)]
 (.seq (.ops 32 1 [bT 0 25 .lss 24 23])
 (.seq (.cond (.t 25) .skip
 (.exit 0))
 (.seq (.block 1
 (.seq (.ops 33 2 [mM 0 26 24, mM 1 7 26])
 (.seq (.ops 35 9 [mM 0 28 7, mM 1 29 1, oO 2 30 (.callF q9g [(.t 28), (.t 29)]), mM 3 27 30, eO 4 31 27 0, eO 5 32 27 1, oO 6 8 (.new 3 (.agg [(.bool false), .nilsl, .nilsl])), sT 7 true 3 8 31, mM 8 9 32])
 (.ops 44 10 [mM 0 34 6, mM 1 35 7, mM 2 36 0, lO 3 37 true true 3 8, oO 4 38 (.callF qk9 [(.t 36), (.t 37)]), mM 5 33 38, eO 6 39 33 0, eO 7 40 33 1, xO 8 41 6 34 35, sT 9 false 6 41 39]))))
 (.ops 54 2 [bC 0 42 .add 24 1, mM 1 24 42])))))))
 (.seq (.ops 56 3 [mM 0 43 6, mM 1 4 43, mI 2 5 0]) .ret)))))),
 [.t 4, .t 5]⟩
end Go.F
