/- Parts of the proof, part 31: Code1. -/
import Derived.Test.YtjjkgfikkihokaaZ30
set_option linter.all false
/- The code of the functions, its types resolved (printed by program), part 1. -/
namespace Go.F

def k_l24_AllowanceZero : KFn := ⟨
 (.seq
 (.ops 0 1 (oO 0 2 (.mov (.c (.bool false))) ::
 []))
 (.seq
 (.seq
 (.ops 1 3 (mM 0 7 0 ::
 oO 1 8 (.callF f_l24_small [(.t 7), (.c .nilsl)]) ::
 oO 2 9 (.un .not (.t 8)) ::
 []))
 (.cond (.t 9)
 (.seq
 (.ops 4 2 (oO 0 10 (.callF f_l24_exampleHolds []) ::
 mM 1 2 10 ::
 []))
 .ret)
 .skip))
 (.seq
 (.ops 6 7 (mM 0 12 0 ::
 oO 1 13 (.callF f_outline_Polygon [(.t 12)]) ::
 mM 2 11 13 ::
 oO 3 14 (.extract (.t 11) 0) ::
 oO 4 15 (.extract (.t 11) 1) ::
 mM 5 3 14 ::
 mM 6 4 15 ::
 []))
 (.seq
 (.ops 13 10 (mM 0 17 0 ::
 mM 1 18 0 ::
 oO 2 19 (.len .sl (.t 18)) ::
 oO 3 20 (.mkslice ⟨1, 8, (.int .i64 0)⟩ (.t 19) (.t 19)) ::
 oO 4 21 (.callF f_allowance_Allow [(.t 17), (.t 20)]) ::
 mM 5 16 21 ::
 oO 6 22 (.extract (.t 16) 0) ::
 oO 7 23 (.extract (.t 16) 1) ::
 mM 8 5 22 ::
 mM 9 6 23 ::
 []))
 (.seq
 (.ops 23 12 (mM 0 24 4 ::
 mM 1 25 6 ::
 oO 2 26 (.bin .eql .no (.t 24) (.t 25)) ::
 mM 3 27 26 ::
 gG 4 28 27 true (.mov (.t 3)) ::
 gG 5 29 27 true (.mov (.t 5)) ::
 gG 6 30 27 true (.callF f_r11_Same [(.t 28), (.t 29)]) ::
 oO 7 31 (.pick (.t 27) (.t 30) (.c (.bool false))) ::
 mM 8 32 31 ::
 gG 9 33 32 true (.callF f_l24_exampleHolds []) ::
 oO 10 34 (.pick (.t 32) (.t 33) (.c (.bool false))) ::
 mM 11 2 34 ::
 []))
 .ret))))),
 [.t 2]⟩

def k_l24_AllowanceOutwards : KFn := ⟨
 (.seq
 (.ops 20 1 (oO 0 4 (.mov (.c (.bool false))) ::
 []))
 (.seq
 (.seq
 (.ops 21 4 (mM 0 17 0 ::
 mM 1 18 1 ::
 oO 2 19 (.callF f_l24_small [(.t 17), (.t 18)]) ::
 oO 3 20 (.un .not (.t 19)) ::
 []))
 (.cond (.t 20)
 (.seq
 (.ops 25 2 (oO 0 21 (.callF f_l24_exampleHolds []) ::
 mM 1 4 21 ::
 []))
 .ret)
 .skip))
 (.seq
 (.ops 27 8 (mM 0 23 0 ::
 mM 1 24 1 ::
 oO 2 25 (.callF f_allowance_Shifts [(.t 23), (.t 24)]) ::
 mM 3 22 25 ::
 oO 4 26 (.extract (.t 22) 0) ::
 oO 5 27 (.extract (.t 22) 1) ::
 mM 6 5 26 ::
 mM 7 6 27 ::
 []))
 (.seq
 (.seq
 (.ops 35 2 (mM 0 28 6 ::
 oO 1 29 (.bin .neq .no (.t 28) (.c (.int .i64 0))) ::
 []))
 (.cond (.t 29)
 (.seq
 (.ops 37 2 (oO 0 30 (.callF f_l24_exampleHolds []) ::
 mM 1 4 30 ::
 []))
 .ret)
 .skip))
 (.seq
 (.ops 39 7 (mM 0 32 0 ::
 oO 1 33 (.callF f_outline_Polygon [(.t 32)]) ::
 mM 2 31 33 ::
 oO 3 34 (.extract (.t 31) 0) ::
 oO 4 35 (.extract (.t 31) 1) ::
 mM 5 7 34 ::
 mM 6 8 35 ::
 []))
 (.seq
 (.seq
 (.ops 46 16 (mM 0 36 8 ::
 oO 1 37 (.bin .neq .no (.t 36) (.c (.int .i64 0))) ::
 mM 2 38 37 ::
 gG 3 39 38 false (.mov (.t 7)) ::
 gG 4 40 38 false (.len .sl (.t 39)) ::
 gG 5 41 38 false (.mov (.t 5)) ::
 gG 6 42 38 false (.len .sl (.t 41)) ::
 gG 7 43 38 false (.bin .neq .no (.t 40) (.t 42)) ::
 oO 8 44 (.pick (.t 38) (.c (.bool true)) (.t 43)) ::
 mM 9 45 44 ::
 gG 10 46 45 false (.mov (.t 1)) ::
 gG 11 47 45 false (.len .sl (.t 46)) ::
 gG 12 48 45 false (.mov (.t 0)) ::
 gG 13 49 45 false (.len .sl (.t 48)) ::
 gG 14 50 45 false (.bin .neq .no (.t 47) (.t 49)) ::
 oO 15 51 (.pick (.t 45) (.c (.bool true)) (.t 50)) ::
 []))
 (.cond (.t 51)
 (.seq
 (.ops 62 1 (oO 0 4 (.mov (.c (.bool false))) ::
 []))
 .ret)
 .skip))
 (.seq
 (.ops 63 3 (mM 0 52 7 ::
 oO 1 53 (.callF f_polygon_Area2 [(.t 52)]) ::
 mM 2 9 53 ::
 []))
 (.seq
 (.ops 66 1 (oO 0 10 (.mov (.c (.int .i64 0))) ::
 []))
 (.seq
 (.seq
 (.ops 67 3 (mM 0 54 0 ::
 oO 1 55 (.len .sl (.t 54)) ::
 oO 2 56 (.mov (.c (.int .i64 0))) ::
 []))
 (.block 0
 (.loop [(1, 0), (5, 0), (9, 0), (10, 0), (54, 0), (55, 0), (56, 0)]
 (.seq
 (.ops 70 1 (oO 0 57 (.bin .lss .no (.t 56) (.t 55)) ::
 []))
 (.seq
 (.cond (.t 57)
 .skip
 (.exit 0))
 (.seq
 (.block 1
 (.seq
 (.ops 71 6 (mM 0 58 56 ::
 oO 1 59 (.ixs 2 (.t 54) (.t 56)) ::
 oO 2 60 (.load false true 2 (.t 59)) ::
 oO 3 12 (.new 2 (.agg [(.str ⟨#[]⟩), .nilsl])) ::
 mM 4 11 58 ::
 ⟨5, none, none, .all, .store true 2 (.t 12) (.t 60)⟩ ::
 []))
 (.seq
 (.ops 77 1 (oO 0 13 (.mov (.c (.int .i64 0))) ::
 []))
 (.block 2
 (.loop [(1, 0), (5, 0), (9, 0), (10, 0), (11, 0), (12, 0), (13, 0), (54, 0), (55, 0), (56, 0)]
 (.seq
 (.seq
 (.ops 78 6 (mM 0 61 13 ::
 oO 1 62 (.bin .add .no (.t 61) (.c (.int .i64 1))) ::
 oO 2 63 (.off 1 (.t 12)) ::
 oO 3 64 (.load true false 1 (.t 63)) ::
 oO 4 65 (.len .sl (.t 64)) ::
 oO 5 66 (.bin .lss .no (.t 62) (.t 65)) ::
 []))
 (.cond (.t 66)
 .skip
 (.exit 2)))
 (.seq
 (.block 3
 (.seq
 (.seq
 (.ops 84 4 (mM 0 69 10 ::
 mM 1 70 5 ::
 oO 2 71 (.len .sl (.t 70)) ::
 oO 3 72 (.bin .geq .no (.t 69) (.t 71)) ::
 []))
 (.cond (.t 72)
 (.seq
 (.ops 88 1 (oO 0 4 (.mov (.c (.bool false))) ::
 []))
 .ret)
 .skip))
 (.seq
 (.ops 89 30 (oO 0 73 (.off 1 (.t 12)) ::
 ⟨1, some 74, none, (.bef 1 30), .load true false 1 (.t 73)⟩ ::
 mM 2 75 13 ::
 oO 3 76 (.bin .add .no (.t 75) (.c (.int .i64 1))) ::
 ⟨4, some 77, none, (.bef 15 30), .ixs 2 (.t 74) (.t 76)⟩ ::
 oO 5 78 (.off 0 (.t 77)) ::
 ⟨6, some 79, none, (.bef 63 30), .load false false 1 (.t 78)⟩ ::
 oO 7 80 (.off 1 (.t 12)) ::
 ⟨8, some 81, none, (.bef 128 30), .load true false 1 (.t 80)⟩ ::
 mM 9 82 13 ::
 ⟨10, some 83, none, (.bef 896 30), .ixs 2 (.t 81) (.t 82)⟩ ::
 oO 11 84 (.off 0 (.t 83)) ::
 ⟨12, some 85, none, (.bef 3968 30), .load false false 1 (.t 84)⟩ ::
 oO 13 86 (.bin .sub .no (.t 79) (.t 85)) ::
 oO 14 87 (.off 1 (.t 12)) ::
 ⟨15, some 88, none, (.bef 16384 30), .load true false 1 (.t 87)⟩ ::
 mM 16 89 13 ::
 oO 17 90 (.bin .add .no (.t 89) (.c (.int .i64 1))) ::
 ⟨18, some 91, none, (.bef 245760 30), .ixs 2 (.t 88) (.t 90)⟩ ::
 oO 19 92 (.off 1 (.t 91)) ::
 ⟨20, some 93, none, (.bef 1032192 30), .load false false 1 (.t 92)⟩ ::
 oO 21 94 (.off 1 (.t 12)) ::
 ⟨22, some 95, none, (.bef 2097152 30), .load true false 1 (.t 94)⟩ ::
 mM 23 96 13 ::
 ⟨24, some 97, none, (.bef 14680064 30), .ixs 2 (.t 95) (.t 96)⟩ ::
 oO 25 98 (.off 1 (.t 97)) ::
 ⟨26, some 99, none, (.bef 65011712 30), .load false false 1 (.t 98)⟩ ::
 oO 27 100 (.bin .sub .no (.t 93) (.t 99)) ::
 mM 28 14 86 ::
 mM 29 15 100 ::
 []))
 (.seq
 (.ops 119 16 (mM 0 101 15 ::
 mM 1 102 5 ::
 mM 2 103 10 ::
 ⟨3, some 104, none, (.bef 6 16), .ixs 2 (.t 102) (.t 103)⟩ ::
 oO 4 105 (.off 0 (.t 104)) ::
 ⟨5, some 106, none, (.bef 30 16), .load false false 1 (.t 105)⟩ ::
 oO 6 107 (.bin .mul .no (.t 101) (.t 106)) ::
 mM 7 108 14 ::
 mM 8 109 5 ::
 mM 9 110 10 ::
 ⟨10, some 111, none, (.bef 768 16), .ixs 2 (.t 109) (.t 110)⟩ ::
 oO 11 112 (.off 1 (.t 111)) ::
 ⟨12, some 113, none, (.bef 3840 16), .load false false 1 (.t 112)⟩ ::
 oO 13 114 (.bin .mul .no (.t 108) (.t 113)) ::
 oO 14 115 (.bin .sub .no (.t 107) (.t 114)) ::
 mM 15 16 115 ::
 []))
 (.seq
 (.seq
 (.ops 135 2 (mM 0 116 9 ::
 oO 1 117 (.bin .lss .no (.t 116) (.c (.int .i64 0))) ::
 []))
 (.cond (.t 117)
 (.ops 137 3 (mM 0 118 16 ::
 oO 1 119 (.un .neg (.t 118)) ::
 mM 2 16 119 ::
 []))
 .skip))
 (.seq
 (.seq
 (.ops 140 24 (mM 0 120 1 ::
 mM 1 121 11 ::
 oO 2 122 (.ixs 1 (.t 120) (.t 121)) ::
 oO 3 123 (.load false false 1 (.t 122)) ::
 oO 4 124 (.bin .gtr .no (.t 123) (.c (.int .i64 0))) ::
 mM 5 125 124 ::
 gG 6 126 125 true (.mov (.t 16)) ::
 gG 7 127 125 true (.bin .leq .no (.t 126) (.c (.int .i64 0))) ::
 oO 8 128 (.pick (.t 125) (.t 127) (.c (.bool false))) ::
 mM 9 129 128 ::
 gG 10 130 129 false (.mov (.t 1)) ::
 gG 11 131 129 false (.mov (.t 11)) ::
 gG 12 132 129 false (.ixs 1 (.t 130) (.t 131)) ::
 gG 13 133 129 false (.load false false 1 (.t 132)) ::
 gG 14 134 129 false (.bin .eql .no (.t 133) (.c (.int .i64 0))) ::
 gG 15 135 129 false (.mov (.t 134)) ::
 gG 16 136 135 true (.mov (.t 5)) ::
 gG 17 137 135 true (.mov (.t 10)) ::
 gG 18 138 135 true (.ixs 2 (.t 136) (.t 137)) ::
 gG 19 139 135 true (.load false true 2 (.t 138)) ::
 gG 20 140 135 true (.build [(.int .i64 0), (.int .i64 0)] []) ::
 gG 21 141 135 true (.bin .neq (.flat [.int, .int]) (.t 139) (.t 140)) ::
 gG 22 142 129 false (.pick (.t 135) (.t 141) (.c (.bool false))) ::
 oO 23 143 (.pick (.t 129) (.c (.bool true)) (.t 142)) ::
 []))
 (.cond (.t 143)
 (.seq
 (.ops 164 1 (oO 0 4 (.mov (.c (.bool false))) ::
 []))
 .ret)
 .skip))
 (.ops 165 3 (mM 0 144 10 ::
 oO 1 145 (.bin .add .no (.t 144) (.c (.int .i64 1))) ::
 mM 2 10 145 ::
 []))))))))
 (.ops 168 3 (mM 0 67 13 ::
 oO 1 68 (.bin .add .no (.t 67) (.c (.int .i64 1))) ::
 mM 2 13 68 ::
 [])))))))))
 (.ops 171 2 (oO 0 146 (.bin .add .no (.t 56) (.c (.int .i64 1))) ::
 mM 1 56 146 ::
 []))))))))
 (.seq
 (.ops 173 2 (oO 0 147 (.callF f_l24_exampleHolds []) ::
 mM 1 4 147 ::
 []))
 .ret)))))))))),
 [.t 4]⟩

def k_l24_AllowanceRects : KFn := ⟨
 (.seq
 (.ops 8 3 (oO 0 2 (.box 4 (.t 0)) ::
 oO 1 3 (.box 4 (.t 1)) ::
 oO 2 4 (.mov (.c (.bool false))) ::
 []))
 (.seq
 (.seq
 (.ops 11 44 (oO 0 9 (.off 0 (.t 2)) ::
 oO 1 10 (.load true false 1 (.t 9)) ::
 oO 2 11 (.bin .lss .no (.t 10) (.c (.int .i64 (-1048076)))) ::
 mM 3 12 11 ::
 gG 4 13 12 false (.off 0 (.t 2)) ::
 gG 5 14 12 false (.load true false 1 (.t 13)) ::
 gG 6 15 12 false (.bin .gtr .no (.t 14) (.c (.int .i64 1048076))) ::
 oO 7 16 (.pick (.t 12) (.c (.bool true)) (.t 15)) ::
 mM 8 17 16 ::
 gG 9 18 17 false (.off 1 (.t 2)) ::
 gG 10 19 17 false (.load true false 1 (.t 18)) ::
 gG 11 20 17 false (.bin .lss .no (.t 19) (.c (.int .i64 (-1048076)))) ::
 oO 12 21 (.pick (.t 17) (.c (.bool true)) (.t 20)) ::
 mM 13 22 21 ::
 gG 14 23 22 false (.off 1 (.t 2)) ::
 gG 15 24 22 false (.load true false 1 (.t 23)) ::
 gG 16 25 22 false (.bin .gtr .no (.t 24) (.c (.int .i64 1048076))) ::
 oO 17 26 (.pick (.t 22) (.c (.bool true)) (.t 25)) ::
 mM 18 27 26 ::
 gG 19 28 27 false (.off 2 (.t 2)) ::
 gG 20 29 27 false (.load true false 1 (.t 28)) ::
 gG 21 30 27 false (.bin .lss .no (.t 29) (.c (.int .i64 1))) ::
 oO 22 31 (.pick (.t 27) (.c (.bool true)) (.t 30)) ::
 mM 23 32 31 ::
 gG 24 33 32 false (.off 2 (.t 2)) ::
 gG 25 34 32 false (.load true false 1 (.t 33)) ::
 gG 26 35 32 false (.off 0 (.t 2)) ::
 gG 27 36 32 false (.load true false 1 (.t 35)) ::
 gG 28 37 32 false (.bin .sub .no (.c (.int .i64 1048076)) (.t 36)) ::
 gG 29 38 32 false (.bin .gtr .no (.t 34) (.t 37)) ::
 oO 30 39 (.pick (.t 32) (.c (.bool true)) (.t 38)) ::
 mM 31 40 39 ::
 gG 32 41 40 false (.off 3 (.t 2)) ::
 gG 33 42 40 false (.load true false 1 (.t 41)) ::
 gG 34 43 40 false (.bin .lss .no (.t 42) (.c (.int .i64 1))) ::
 oO 35 44 (.pick (.t 40) (.c (.bool true)) (.t 43)) ::
 mM 36 45 44 ::
 gG 37 46 45 false (.off 3 (.t 2)) ::
 gG 38 47 45 false (.load true false 1 (.t 46)) ::
 gG 39 48 45 false (.off 1 (.t 2)) ::
 gG 40 49 45 false (.load true false 1 (.t 48)) ::
 gG 41 50 45 false (.bin .sub .no (.c (.int .i64 1048076)) (.t 49)) ::
 gG 42 51 45 false (.bin .gtr .no (.t 47) (.t 50)) ::
 oO 43 52 (.pick (.t 45) (.c (.bool true)) (.t 51)) ::
 []))
 (.cond (.t 52)
 (.seq
 (.ops 55 2 (oO 0 53 (.callF f_l24_exampleHolds []) ::
 mM 1 4 53 ::
 []))
 .ret)
 .skip))
 (.seq
 (.seq
 (.ops 57 2 (oO 0 54 (.load true true 4 (.t 3)) ::
 oO 1 55 (.mov (.c (.int .i64 0))) ::
 []))
 (.block 0
 (.loop [(2, 0), (3, 0), (54, 0), (55, 0)]
 (.seq
 (.ops 59 1 (oO 0 56 (.bin .lss .no (.t 55) (.c (.int .i64 4))) ::
 []))
 (.seq
 (.cond (.t 56)
 .skip
 (.exit 0))
 (.seq
 (.block 1
 (.seq
 (.ops 60 2 (oO 0 57 (.ia 4 false 1 (.t 54) (.t 55)) ::
 mM 1 6 57 ::
 []))
 (.seq
 (.ops 62 6 (mM 0 58 6 ::
 oO 1 59 (.bin .lss .no (.t 58) (.c (.int .i64 0))) ::
 mM 2 60 59 ::
 gG 3 61 60 false (.mov (.t 6)) ::
 gG 4 62 60 false (.bin .gtr .no (.t 61) (.c (.int .i64 500))) ::
 oO 5 63 (.pick (.t 60) (.c (.bool true)) (.t 62)) ::
 []))
 (.cond (.t 63)
 (.seq
 (.ops 68 2 (oO 0 64 (.callF f_l24_exampleHolds []) ::
 mM 1 4 64 ::
 []))
 .ret)
 .skip))))
 (.ops 70 2 (oO 0 65 (.bin .add .no (.t 55) (.c (.int .i64 1))) ::
 mM 1 55 65 ::
 []))))))))
 (.seq
 (.ops 72 23 (oO 0 67 (.off 0 (.t 2)) ::
 ⟨1, some 68, none, (.bef 1 23), .load true false 1 (.t 67)⟩ ::
 oO 2 69 (.off 1 (.t 2)) ::
 ⟨3, some 70, none, (.bef 4 23), .load true false 1 (.t 69)⟩ ::
 oO 4 71 (.off 0 (.t 2)) ::
 ⟨5, some 72, none, (.bef 16 23), .load true false 1 (.t 71)⟩ ::
 oO 6 73 (.off 2 (.t 2)) ::
 ⟨7, some 74, none, (.bef 64 23), .load true false 1 (.t 73)⟩ ::
 oO 8 75 (.bin .add .no (.t 72) (.t 74)) ::
 oO 9 76 (.off 1 (.t 2)) ::
 ⟨10, some 77, none, (.bef 512 23), .load true false 1 (.t 76)⟩ ::
 oO 11 78 (.off 3 (.t 2)) ::
 ⟨12, some 79, none, (.bef 2048 23), .load true false 1 (.t 78)⟩ ::
 oO 13 80 (.bin .add .no (.t 77) (.t 79)) ::
 ⟨14, some 81, none, (.bef 16383 23), .callF f_l24_rect [(.t 68), (.t 70), (.t 75), (.t 80)]⟩ ::
 ⟨15, some 82, none, (.bef 32767 23), .callF f_l24_edges [(.t 81)]⟩ ::
 ⟨16, some 83, none, (.bef 0 23), .slarr 4 false 1 (.t 3)⟩ ::
 ⟨17, some 84, none, (.bef 131071 23), .callF f_allowance_Allow [(.t 82), (.t 83)]⟩ ::
 mM 18 66 84 ::
 oO 19 85 (.extract (.t 66) 0) ::
 oO 20 86 (.extract (.t 66) 1) ::
 mM 21 7 85 ::
 mM 22 8 86 ::
 []))
 (.seq
 (.ops 95 37 (mM 0 87 8 ::
 oO 1 88 (.bin .eql .no (.t 87) (.c (.int .i64 0))) ::
 mM 2 89 88 ::
 gG 3 90 89 true (.mov (.t 7)) ::
 gG 4 91 89 true (.off 0 (.t 2)) ::
 gG 5 92 89 true (.load true false 1 (.t 91)) ::
 gG 6 93 89 true (.ixa 4 1 (.t 3) (.c (.int .i64 3))) ::
 gG 7 94 89 true (.load false false 1 (.t 93)) ::
 gG 8 95 89 true (.bin .sub .no (.t 92) (.t 94)) ::
 gG 9 96 89 true (.off 1 (.t 2)) ::
 gG 10 97 89 true (.load true false 1 (.t 96)) ::
 gG 11 98 89 true (.ixa 4 1 (.t 3) (.c (.int .i64 0))) ::
 gG 12 99 89 true (.load false false 1 (.t 98)) ::
 gG 13 100 89 true (.bin .sub .no (.t 97) (.t 99)) ::
 gG 14 101 89 true (.off 0 (.t 2)) ::
 gG 15 102 89 true (.load true false 1 (.t 101)) ::
 gG 16 103 89 true (.off 2 (.t 2)) ::
 gG 17 104 89 true (.load true false 1 (.t 103)) ::
 gG 18 105 89 true (.bin .add .no (.t 102) (.t 104)) ::
 gG 19 106 89 true (.ixa 4 1 (.t 3) (.c (.int .i64 1))) ::
 gG 20 107 89 true (.load false false 1 (.t 106)) ::
 gG 21 108 89 true (.bin .add .no (.t 105) (.t 107)) ::
 gG 22 109 89 true (.off 1 (.t 2)) ::
 gG 23 110 89 true (.load true false 1 (.t 109)) ::
 gG 24 111 89 true (.off 3 (.t 2)) ::
 gG 25 112 89 true (.load true false 1 (.t 111)) ::
 gG 26 113 89 true (.bin .add .no (.t 110) (.t 112)) ::
 gG 27 114 89 true (.ixa 4 1 (.t 3) (.c (.int .i64 2))) ::
 gG 28 115 89 true (.load false false 1 (.t 114)) ::
 gG 29 116 89 true (.bin .add .no (.t 113) (.t 115)) ::
 gG 30 117 89 true (.callF f_l24_rect [(.t 95), (.t 100), (.t 108), (.t 116)]) ::
 gG 31 118 89 true (.callF f_r11_Same [(.t 90), (.t 117)]) ::
 oO 32 119 (.pick (.t 89) (.t 118) (.c (.bool false))) ::
 mM 33 120 119 ::
 gG 34 121 120 true (.callF f_l24_exampleHolds []) ::
 oO 35 122 (.pick (.t 120) (.t 121) (.c (.bool false))) ::
 mM 36 4 122 ::
 []))
 .ret))))),
 [.t 4]⟩

def k_l24_AllowanceAreas : KFn := ⟨
 (.seq
 (.ops 24 1 (oO 0 4 (.mov (.c (.bool false))) ::
 []))
 (.seq
 (.seq
 (.ops 25 4 (mM 0 24 0 ::
 mM 1 25 1 ::
 oO 2 26 (.callF f_l24_small [(.t 24), (.t 25)]) ::
 oO 3 27 (.un .not (.t 26)) ::
 []))
 (.cond (.t 27)
 (.seq
 (.ops 29 2 (oO 0 28 (.callF f_l24_exampleHolds []) ::
 mM 1 4 28 ::
 []))
 .ret)
 .skip))
 (.seq
 (.ops 31 8 (mM 0 30 0 ::
 mM 1 31 1 ::
 oO 2 32 (.callF f_allowance_Allow [(.t 30), (.t 31)]) ::
 mM 3 29 32 ::
 oO 4 33 (.extract (.t 29) 0) ::
 oO 5 34 (.extract (.t 29) 1) ::
 mM 6 5 33 ::
 mM 7 6 34 ::
 []))
 (.seq
 (.seq
 (.ops 39 2 (mM 0 35 6 ::
 oO 1 36 (.bin .neq .no (.t 35) (.c (.int .i64 0))) ::
 []))
 (.cond (.t 36)
 (.seq
 (.ops 41 2 (oO 0 37 (.callF f_l24_exampleHolds []) ::
 mM 1 4 37 ::
 []))
 .ret)
 .skip))
 (.seq
 (.ops 43 7 (mM 0 39 0 ::
 oO 1 40 (.callF f_outline_Polygon [(.t 39)]) ::
 mM 2 38 40 ::
 oO 3 41 (.extract (.t 38) 0) ::
 oO 4 42 (.extract (.t 38) 1) ::
 mM 5 7 41 ::
 mM 6 8 42 ::
 []))
 (.seq
 (.seq
 (.ops 50 9 (mM 0 43 8 ::
 oO 1 44 (.bin .neq .no (.t 43) (.c (.int .i64 0))) ::
 mM 2 45 44 ::
 gG 3 46 45 false (.mov (.t 1)) ::
 gG 4 47 45 false (.len .sl (.t 46)) ::
 gG 5 48 45 false (.mov (.t 0)) ::
 gG 6 49 45 false (.len .sl (.t 48)) ::
 gG 7 50 45 false (.bin .neq .no (.t 47) (.t 49)) ::
 oO 8 51 (.pick (.t 45) (.c (.bool true)) (.t 50)) ::
 []))
 (.cond (.t 51)
 (.seq
 (.ops 59 1 (oO 0 4 (.mov (.c (.bool false))) ::
 []))
 .ret)
 .skip))
 (.seq
 (.ops 60 3 (mM 0 52 7 ::
 oO 1 53 (.callF f_polygon_Area2 [(.t 52)]) ::
 mM 2 9 53 ::
 []))
 (.seq
 (.ops 63 1 (oO 0 10 (.mov (.c (.int .i64 1))) ::
 []))
 (.seq
 (.seq
 (.ops 64 2 (mM 0 54 9 ::
 oO 1 55 (.bin .lss .no (.t 54) (.c (.int .i64 0))) ::
 []))
 (.cond (.t 55)
 (.ops 66 1 (oO 0 10 (.mov (.c (.int .i64 (-1)))) ::
 []))
 .skip))
 (.seq
 (.ops 67 1 (oO 0 11 (.mov (.c .nilsl)) ::
 []))
 (.seq
 (.seq
 (.ops 68 3 (mM 0 56 0 ::
 oO 1 57 (.len .sl (.t 56)) ::
 oO 2 58 (.mov (.c (.int .i64 0))) ::
 []))
 (.block 0
 (.loop [(1, 0), (5, 0), (7, 0), (9, 0), (10, 0), (11, 1), (56, 0), (57, 0), (58, 0)]
 (.seq
 (.ops 71 1 (oO 0 59 (.bin .lss .no (.t 58) (.t 57)) ::
 []))
 (.seq
 (.cond (.t 59)
 .skip
 (.exit 0))
 (.seq
 (.block 1
 (.seq
 (.ops 72 6 (mM 0 60 58 ::
 oO 1 61 (.ixs 2 (.t 56) (.t 58)) ::
 oO 2 62 (.load false true 2 (.t 61)) ::
 oO 3 13 (.new 2 (.agg [(.str ⟨#[]⟩), .nilsl])) ::
 mM 4 12 60 ::
 ⟨5, none, none, .all, .store true 2 (.t 13) (.t 62)⟩ ::
 []))
 (.seq
 (.ops 78 1 (oO 0 14 (.mov (.c (.int .i64 1))) ::
 []))
 (.block 2
 (.loop [(1, 0), (5, 0), (7, 0), (9, 0), (10, 0), (11, 1), (12, 0), (13, 0), (14, 0), (56, 0), (57, 0), (58, 0)]
 (.seq
 (.seq
 (.ops 79 5 (mM 0 63 14 ::
 oO 1 64 (.off 1 (.t 13)) ::
 oO 2 65 (.load true false 1 (.t 64)) ::
 oO 3 66 (.len .sl (.t 65)) ::
 oO 4 67 (.bin .lss .no (.t 63) (.t 66)) ::
 []))
 (.cond (.t 67)
 .skip
 (.exit 2)))
 (.seq
 (.block 3
 (.ops 84 8 (mM 0 70 11 ::
 mM 1 71 1 ::
 mM 2 72 12 ::
 oO 3 73 (.ixs 1 (.t 71) (.t 72)) ::
 oO 4 74 (.load false false 1 (.t 73)) ::
 oO 5 75 (.buildSlice 1 1 [(.int .i64 0)] [(0, (.t 74))]) ::
 oO 6 76 (.append ⟨1, 8, (.int .i64 0)⟩ .sl (.t 70) (.t 75)) ::
 mM 7 11 76 ::
 [])))
 (.ops 92 3 (mM 0 68 14 ::
 oO 1 69 (.bin .add .no (.t 68) (.c (.int .i64 1))) ::
 mM 2 14 69 ::
 [])))))))))
 (.ops 95 2 (oO 0 77 (.bin .add .no (.t 58) (.c (.int .i64 1))) ::
 mM 1 58 77 ::
 []))))))))
 (.seq
 (.ops 97 4 (mM 0 78 10 ::
 mM 1 79 9 ::
 oO 2 80 (.bin .mul .no (.t 78) (.t 79)) ::
 mM 3 15 80 ::
 []))
 (.seq
 (.ops 101 3 (mM 0 81 7 ::
 oO 1 82 (.len .sl (.t 81)) ::
 mM 2 16 82 ::
 []))
 (.seq
 (.seq
 (.ops 104 4 (mM 0 83 11 ::
 oO 1 84 (.len .sl (.t 83)) ::
 mM 2 85 16 ::
 oO 3 86 (.bin .neq .no (.t 84) (.t 85)) ::
 []))
 (.cond (.t 86)
 (.seq
 (.ops 108 1 (oO 0 4 (.mov (.c (.bool false))) ::
 []))
 .ret)
 .skip))
 (.seq
 (.seq
 (.ops 109 3 (mM 0 87 7 ::
 oO 1 88 (.len .sl (.t 87)) ::
 oO 2 89 (.mov (.c (.int .i64 0))) ::
 []))
 (.block 4
 (.loop [(5, 0), (7, 0), (10, 0), (11, 0), (15, 0), (16, 0), (88, 0), (89, 0)]
 (.seq
 (.ops 112 1 (oO 0 90 (.bin .lss .no (.t 89) (.t 88)) ::
 []))
 (.seq
 (.cond (.t 90)
 .skip
 (.exit 4))
 (.seq
 (.block 5
 (.seq
 (.ops 113 2 (mM 0 91 89 ::
 mM 1 17 91 ::
 []))
 (.seq
 (.ops 115 26 (mM 0 92 7 ::
 mM 1 93 17 ::
 mM 2 94 16 ::
 oO 3 95 (.bin .add .no (.t 93) (.t 94)) ::
 oO 4 96 (.bin .sub .no (.t 95) (.c (.int .i64 1))) ::
 mM 5 97 16 ::
 oO 6 98 (.bin .rem .no (.t 96) (.t 97)) ::
 ⟨7, some 99, none, (.bef 127 26), .ixs 2 (.t 92) (.t 98)⟩ ::
 ⟨8, some 100, none, (.bef 255 26), .load false true 2 (.t 99)⟩ ::
 mM 9 101 7 ::
 mM 10 102 17 ::
 ⟨11, some 103, none, (.bef 1536 26), .ixs 2 (.t 101) (.t 102)⟩ ::
 ⟨12, some 104, none, (.bef 3584 26), .load false true 2 (.t 103)⟩ ::
 mM 13 105 7 ::
 mM 14 106 17 ::
 oO 15 107 (.bin .add .no (.t 106) (.c (.int .i64 1))) ::
 mM 16 108 16 ::
 oO 17 109 (.bin .rem .no (.t 107) (.t 108)) ::
 ⟨18, some 110, none, (.bef 253952 26), .ixs 2 (.t 105) (.t 109)⟩ ::
 ⟨19, some 111, none, (.bef 516096 26), .load false true 2 (.t 110)⟩ ::
 ⟨20, some 18, none, (.bef 0 26), .new 2 (.agg [(.int .i64 0), (.int .i64 0)])⟩ ::
 ⟨21, some 19, none, (.bef 0 26), .new 2 (.agg [(.int .i64 0), (.int .i64 0)])⟩ ::
 ⟨22, some 20, none, (.bef 0 26), .new 2 (.agg [(.int .i64 0), (.int .i64 0)])⟩ ::
 ⟨23, none, none, (.init 20), .store true 2 (.t 18) (.t 100)⟩ ::
 ⟨24, none, none, (.init 21), .store true 2 (.t 19) (.t 104)⟩ ::
 ⟨25, none, none, (.init 22), .store true 2 (.t 20) (.t 111)⟩ ::
 []))
 (.seq
 (.ops 141 12 (oO 0 112 (.off 0 (.t 20)) ::
 ⟨1, some 113, none, (.bef 1 12), .load true false 1 (.t 112)⟩ ::
 oO 2 114 (.off 0 (.t 19)) ::
 ⟨3, some 115, none, (.bef 4 12), .load true false 1 (.t 114)⟩ ::
 oO 4 116 (.bin .sub .no (.t 113) (.t 115)) ::
 oO 5 117 (.off 1 (.t 20)) ::
 ⟨6, some 118, none, (.bef 32 12), .load true false 1 (.t 117)⟩ ::
 oO 7 119 (.off 1 (.t 19)) ::
 ⟨8, some 120, none, (.bef 128 12), .load true false 1 (.t 119)⟩ ::
 oO 9 121 (.bin .sub .no (.t 118) (.t 120)) ::
 mM 10 21 116 ::
 mM 11 22 121 ::
 []))
 (.seq
 (.seq
 (.ops 153 6 (mM 0 122 21 ::
 oO 1 123 (.bin .neq .no (.t 122) (.c (.int .i64 0))) ::
 mM 2 124 123 ::
 gG 3 125 124 true (.mov (.t 22)) ::
 gG 4 126 124 true (.bin .neq .no (.t 125) (.c (.int .i64 0))) ::
 oO 5 127 (.pick (.t 124) (.t 126) (.c (.bool false))) ::
 []))
 (.cond (.t 127)
 (.seq
 (.ops 159 2 (oO 0 128 (.callF f_l24_exampleHolds []) ::
 mM 1 4 128 ::
 []))
 .ret)
 .skip))
 (.seq
 (.ops 161 16 (mM 0 129 15 ::
 mM 1 130 11 ::
 mM 2 131 17 ::
 oO 3 132 (.ixs 1 (.t 130) (.t 131)) ::
 oO 4 133 (.load false false 1 (.t 132)) ::
 oO 5 134 (.bin .mul .no (.c (.int .i64 2)) (.t 133)) ::
 mM 6 135 21 ::
 mM 7 136 21 ::
 oO 8 137 (.un .neg (.t 136)) ::
 mM 9 138 22 ::
 mM 10 139 22 ::
 oO 11 140 (.un .neg (.t 139)) ::
 oO 12 141 (.mm true [(.t 135), (.t 137), (.t 138), (.t 140)]) ::
 oO 13 142 (.bin .mul .no (.t 134) (.t 141)) ::
 oO 14 143 (.bin .add .no (.t 129) (.t 142)) ::
 mM 15 15 143 ::
 []))
 (.seq
 (.ops 177 18 (mM 0 144 10 ::
 oO 1 145 (.off 0 (.t 19)) ::
 oO 2 146 (.load true false 1 (.t 145)) ::
 oO 3 147 (.off 0 (.t 18)) ::
 oO 4 148 (.load true false 1 (.t 147)) ::
 oO 5 149 (.bin .sub .no (.t 146) (.t 148)) ::
 mM 6 150 22 ::
 oO 7 151 (.bin .mul .no (.t 149) (.t 150)) ::
 oO 8 152 (.off 1 (.t 19)) ::
 oO 9 153 (.load true false 1 (.t 152)) ::
 oO 10 154 (.off 1 (.t 18)) ::
 oO 11 155 (.load true false 1 (.t 154)) ::
 oO 12 156 (.bin .sub .no (.t 153) (.t 155)) ::
 mM 13 157 21 ::
 oO 14 158 (.bin .mul .no (.t 156) (.t 157)) ::
 oO 15 159 (.bin .sub .no (.t 151) (.t 158)) ::
 oO 16 160 (.bin .mul .no (.t 144) (.t 159)) ::
 mM 17 23 160 ::
 []))
 (.seq
 (.seq
 (.ops 195 2 (mM 0 161 23 ::
 oO 1 162 (.bin .gtr .no (.t 161) (.c (.int .i64 0))) ::
 []))
 (.cond (.t 162)
 (.ops 197 18 (mM 0 163 15 ::
 mM 1 164 11 ::
 mM 2 165 17 ::
 ⟨3, some 166, none, (.bef 6 18), .ixs 1 (.t 164) (.t 165)⟩ ::
 ⟨4, some 167, none, (.bef 14 18), .load false false 1 (.t 166)⟩ ::
 oO 5 168 (.bin .mul .no (.c (.int .i64 2)) (.t 167)) ::
 mM 6 169 11 ::
 mM 7 170 17 ::
 mM 8 171 16 ::
 oO 9 172 (.bin .add .no (.t 170) (.t 171)) ::
 oO 10 173 (.bin .sub .no (.t 172) (.c (.int .i64 1))) ::
 mM 11 174 16 ::
 oO 12 175 (.bin .rem .no (.t 173) (.t 174)) ::
 ⟨13, some 176, none, (.bef 8128 18), .ixs 1 (.t 169) (.t 175)⟩ ::
 ⟨14, some 177, none, (.bef 16320 18), .load false false 1 (.t 176)⟩ ::
 oO 15 178 (.bin .mul .no (.t 168) (.t 177)) ::
 oO 16 179 (.bin .add .no (.t 163) (.t 178)) ::
 mM 17 15 179 ::
 []))
 .skip))
 (.seq
 (.ops 215 2 (mM 0 180 23 ::
 oO 1 181 (.bin .lss .no (.t 180) (.c (.int .i64 0))) ::
 []))
 (.cond (.t 181)
 (.ops 217 18 (mM 0 182 15 ::
 mM 1 183 11 ::
 mM 2 184 17 ::
 ⟨3, some 185, none, (.bef 6 18), .ixs 1 (.t 183) (.t 184)⟩ ::
 ⟨4, some 186, none, (.bef 14 18), .load false false 1 (.t 185)⟩ ::
 oO 5 187 (.bin .mul .no (.c (.int .i64 2)) (.t 186)) ::
 mM 6 188 11 ::
 mM 7 189 17 ::
 mM 8 190 16 ::
 oO 9 191 (.bin .add .no (.t 189) (.t 190)) ::
 oO 10 192 (.bin .sub .no (.t 191) (.c (.int .i64 1))) ::
 mM 11 193 16 ::
 oO 12 194 (.bin .rem .no (.t 192) (.t 193)) ::
 ⟨13, some 195, none, (.bef 8128 18), .ixs 1 (.t 188) (.t 194)⟩ ::
 ⟨14, some 196, none, (.bef 16320 18), .load false false 1 (.t 195)⟩ ::
 oO 15 197 (.bin .mul .no (.t 187) (.t 196)) ::
 oO 16 198 (.bin .sub .no (.t 182) (.t 197)) ::
 mM 17 15 198 ::
 []))
 .skip))))))))))
 (.ops 235 2 (oO 0 199 (.bin .add .no (.t 89) (.c (.int .i64 1))) ::
 mM 1 89 199 ::
 []))))))))
 (.seq
 (.ops 237 10 (mM 0 200 10 ::
 mM 1 201 5 ::
 oO 2 202 (.callF f_polygon_Area2 [(.t 201)]) ::
 oO 3 203 (.bin .mul .no (.t 200) (.t 202)) ::
 mM 4 204 15 ::
 oO 5 205 (.bin .eql .no (.t 203) (.t 204)) ::
 mM 6 206 205 ::
 gG 7 207 206 true (.callF f_l24_exampleHolds []) ::
 oO 8 208 (.pick (.t 206) (.t 207) (.c (.bool false))) ::
 mM 9 4 208 ::
 []))
 .ret)))))))))))))))),
 [.t 4]⟩

def k_l24_AllowanceMoves : KFn := ⟨
 (.seq
 (.ops 14 2 (oO 0 5 (.box 2 (.t 2)) ::
 oO 1 6 (.mov (.c (.bool false))) ::
 []))
 (.seq
 (.seq
 (.ops 16 24 (mM 0 15 0 ::
 mM 1 16 1 ::
 oO 2 17 (.callF f_l24_small [(.t 15), (.t 16)]) ::
 oO 3 18 (.un .not (.t 17)) ::
 mM 4 19 18 ::
 gG 5 20 19 false (.off 0 (.t 5)) ::
 gG 6 21 19 false (.load true false 1 (.t 20)) ::
 gG 7 22 19 false (.bin .lss .no (.t 21) (.c (.int .i64 (-1048576)))) ::
 oO 8 23 (.pick (.t 19) (.c (.bool true)) (.t 22)) ::
 mM 9 24 23 ::
 gG 10 25 24 false (.off 0 (.t 5)) ::
 gG 11 26 24 false (.load true false 1 (.t 25)) ::
 gG 12 27 24 false (.bin .gtr .no (.t 26) (.c (.int .i64 1048576))) ::
 oO 13 28 (.pick (.t 24) (.c (.bool true)) (.t 27)) ::
 mM 14 29 28 ::
 gG 15 30 29 false (.off 1 (.t 5)) ::
 gG 16 31 29 false (.load true false 1 (.t 30)) ::
 gG 17 32 29 false (.bin .lss .no (.t 31) (.c (.int .i64 (-1048576)))) ::
 oO 18 33 (.pick (.t 29) (.c (.bool true)) (.t 32)) ::
 mM 19 34 33 ::
 gG 20 35 34 false (.off 1 (.t 5)) ::
 gG 21 36 34 false (.load true false 1 (.t 35)) ::
 gG 22 37 34 false (.bin .gtr .no (.t 36) (.c (.int .i64 1048576))) ::
 oO 23 38 (.pick (.t 34) (.c (.bool true)) (.t 37)) ::
 []))
 (.cond (.t 38)
 (.seq
 (.ops 40 2 (oO 0 39 (.callF f_l24_exampleHolds []) ::
 mM 1 6 39 ::
 []))
 .ret)
 .skip))
 (.seq
 (.ops 42 8 (mM 0 41 0 ::
 mM 1 42 1 ::
 oO 2 43 (.callF f_allowance_Allow [(.t 41), (.t 42)]) ::
 mM 3 40 43 ::
 oO 4 44 (.extract (.t 40) 0) ::
 oO 5 45 (.extract (.t 40) 1) ::
 mM 6 7 44 ::
 mM 7 8 45 ::
 []))
 (.seq
 (.seq
 (.ops 50 2 (mM 0 46 8 ::
 oO 1 47 (.bin .neq .no (.t 46) (.c (.int .i64 0))) ::
 []))
 (.cond (.t 47)
 (.seq
 (.ops 52 2 (oO 0 48 (.callF f_l24_exampleHolds []) ::
 mM 1 6 48 ::
 []))
 .ret)
 .skip))
 (.seq
 (.ops 54 1 (oO 0 9 (.mov (.c .nilsl)) ::
 []))
 (.seq
 (.seq
 (.ops 55 3 (mM 0 49 0 ::
 oO 1 50 (.len .sl (.t 49)) ::
 oO 2 51 (.mov (.c (.int .i64 0))) ::
 []))
 (.block 0
 (.loop [(1, 0), (5, 0), (7, 0), (9, 2), (49, 0), (50, 0), (51, 0)]
 (.seq
 (.ops 58 1 (oO 0 52 (.bin .lss .no (.t 51) (.t 50)) ::
 []))
 (.seq
 (.cond (.t 52)
 .skip
 (.exit 0))
 (.seq
 (.block 1
 (.seq
 (.ops 59 4 (oO 0 53 (.ixs 2 (.t 49) (.t 51)) ::
 oO 1 54 (.load false true 2 (.t 53)) ::
 oO 2 11 (.new 2 (.agg [(.str ⟨#[]⟩), .nilsl])) ::
 ⟨3, none, none, .all, .store true 2 (.t 11) (.t 54)⟩ ::
 []))
 (.ops 63 11 (mM 0 55 9 ::
 oO 1 56 (.off 0 (.t 11)) ::
 ⟨2, some 57, none, (.bef 2 11), .load true false 1 (.t 56)⟩ ::
 oO 3 58 (.off 1 (.t 11)) ::
 ⟨4, some 59, none, (.bef 8 11), .load true false 1 (.t 58)⟩ ::
 ⟨5, some 60, none, (.bef 0 11), .load true true 2 (.t 5)⟩ ::
 ⟨6, some 61, none, (.bef 56 11), .callF f_polygon_Move [(.t 59), (.t 60)]⟩ ::
 oO 7 62 (.build [(.str ⟨#[]⟩), .nilsl] [(0, 1, (.t 57)), (1, 1, (.t 61))]) ::
 ⟨8, some 63, none, (.bef 254 11), .buildSlice 2 1 [(.agg [(.str ⟨#[]⟩), .nilsl])] [(0, (.t 62))]⟩ ::
 ⟨9, some 64, none, (.bef 511 11), .append ⟨2, 40, (.agg [(.str ⟨#[]⟩), .nilsl])⟩ .sl (.t 55) (.t 63)⟩ ::
 mM 10 9 64 ::
 []))))
 (.ops 74 2 (oO 0 65 (.bin .add .no (.t 51) (.c (.int .i64 1))) ::
 mM 1 51 65 ::
 []))))))))
 (.seq
 (.ops 76 4 (mM 0 66 7 ::
 oO 1 67 (.load true true 2 (.t 5)) ::
 oO 2 68 (.callF f_polygon_Move [(.t 66), (.t 67)]) ::
 mM 3 12 68 ::
 []))
 (.seq
 (.seq
 (.ops 80 8 (mM 0 69 9 ::
 oO 1 70 (.callF f_outline_Check [(.t 69)]) ::
 oO 2 71 (.bin .neq .no (.t 70) (.c (.int .i64 0))) ::
 mM 3 72 71 ::
 gG 4 73 72 false (.mov (.t 12)) ::
 gG 5 74 72 false (.callF f_polygon_Check [(.t 73)]) ::
 gG 6 75 72 false (.bin .neq .no (.t 74) (.c (.int .i64 0))) ::
 oO 7 76 (.pick (.t 72) (.c (.bool true)) (.t 75)) ::
 []))
 (.cond (.t 76)
 (.seq
 (.ops 88 2 (oO 0 77 (.callF f_l24_exampleHolds []) ::
 mM 1 6 77 ::
 []))
 .ret)
 .skip))
 (.seq
 (.ops 90 8 (mM 0 79 9 ::
 mM 1 80 1 ::
 oO 2 81 (.callF f_allowance_Allow [(.t 79), (.t 80)]) ::
 mM 3 78 81 ::
 oO 4 82 (.extract (.t 78) 0) ::
 oO 5 83 (.extract (.t 78) 1) ::
 mM 6 13 82 ::
 mM 7 14 83 ::
 []))
 (.seq
 (.ops 98 11 (mM 0 84 14 ::
 oO 1 85 (.bin .eql .no (.t 84) (.c (.int .i64 0))) ::
 mM 2 86 85 ::
 gG 3 87 86 true (.mov (.t 13)) ::
 gG 4 88 86 true (.mov (.t 12)) ::
 gG 5 89 86 true (.callF f_r11_Same [(.t 87), (.t 88)]) ::
 oO 6 90 (.pick (.t 86) (.t 89) (.c (.bool false))) ::
 mM 7 91 90 ::
 gG 8 92 91 true (.callF f_l24_exampleHolds []) ::
 oO 9 93 (.pick (.t 91) (.t 92) (.c (.bool false))) ::
 mM 10 6 93 ::
 []))
 .ret)))))))))),
 [.t 6]⟩

def k_l24_small : KFn := ⟨
 (.seq
 (.ops 6 1 (oO 0 4 (.mov (.c (.bool false))) ::
 []))
 (.seq
 (.seq
 (.ops 7 13 (mM 0 7 0 ::
 oO 1 8 (.len .sl (.t 7)) ::
 oO 2 9 (.bin .gtr .no (.t 8) (.c (.int .i64 30))) ::
 mM 3 10 9 ::
 gG 4 11 10 false (.mov (.t 1)) ::
 gG 5 12 10 false (.len .sl (.t 11)) ::
 gG 6 13 10 false (.bin .gtr .no (.t 12) (.c (.int .i64 20))) ::
 oO 7 14 (.pick (.t 10) (.c (.bool true)) (.t 13)) ::
 mM 8 15 14 ::
 gG 9 16 15 false (.mov (.t 0)) ::
 gG 10 17 15 false (.callF f_r24_Vertices [(.t 16), (.c (.int .i64 60))]) ::
 gG 11 18 15 false (.bin .gtr .no (.t 17) (.c (.int .i64 60))) ::
 oO 12 19 (.pick (.t 15) (.c (.bool true)) (.t 18)) ::
 []))
 (.cond (.t 19)
 (.seq
 (.ops 20 1 (oO 0 4 (.mov (.c (.bool false))) ::
 []))
 .ret)
 .skip))
 (.seq
 (.seq
 (.ops 21 3 (mM 0 20 0 ::
 oO 1 21 (.len .sl (.t 20)) ::
 oO 2 22 (.mov (.c (.int .i64 0))) ::
 []))
 (.block 0
 (.loop [(20, 0), (21, 0), (22, 0)]
 (.seq
 (.ops 24 1 (oO 0 23 (.bin .lss .no (.t 22) (.t 21)) ::
 []))
 (.seq
 (.cond (.t 23)
 .skip
 (.exit 0))
 (.seq
 (.block 1
 (.seq
 (.ops 25 4 (oO 0 24 (.ixs 2 (.t 20) (.t 22)) ::
 oO 1 25 (.load false true 2 (.t 24)) ::
 oO 2 6 (.new 2 (.agg [(.str ⟨#[]⟩), .nilsl])) ::
 ⟨3, none, none, .all, .store true 2 (.t 6) (.t 25)⟩ ::
 []))
 (.seq
 (.ops 29 4 (oO 0 26 (.off 0 (.t 6)) ::
 oO 1 27 (.load true false 1 (.t 26)) ::
 oO 2 28 (.len .str (.t 27)) ::
 oO 3 29 (.bin .gtr .no (.t 28) (.c (.int .i64 100))) ::
 []))
 (.cond (.t 29)
 (.seq
 (.ops 33 1 (oO 0 4 (.mov (.c (.bool false))) ::
 []))
 .ret)
 .skip))))
 (.ops 34 2 (oO 0 30 (.bin .add .no (.t 22) (.c (.int .i64 1))) ::
 mM 1 22 30 ::
 []))))))))
 (.seq
 (.ops 36 1 (oO 0 4 (.mov (.c (.bool true))) ::
 []))
 .ret)))),
 [.t 4]⟩

def k_l24_exampleHolds : KFn := ⟨
 (.seq
 (.ops 0 1 (oO 0 0 (.mov (.c (.bool false))) ::
 []))
 (.seq
 (.ops 1 3 (oO 0 13 (.callF f_l24_rect [(.c (.int .i64 0)), (.c (.int .i64 0)), (.c (.int .i64 10)), (.c (.int .i64 10))]) ::
 oO 1 14 (.callF f_l24_edges [(.t 13)]) ::
 mM 2 1 14 ::
 []))
 (.seq
 (.ops 4 2 (oO 0 15 (.buildSlice 1 4 [(.int .i64 0), (.int .i64 0), (.int .i64 0), (.int .i64 0)] [(0, (.c (.int .i64 1))), (1, (.c (.int .i64 2))), (2, (.c (.int .i64 3))), (3, (.c (.int .i64 4)))]) ::
 mM 1 2 15 ::
 []))
 (.seq
 (.ops 6 8 (mM 0 17 1 ::
 mM 1 18 2 ::
 oO 2 19 (.callF f_allowance_Shifts [(.t 17), (.t 18)]) ::
 mM 3 16 19 ::
 oO 4 20 (.extract (.t 16) 0) ::
 oO 5 21 (.extract (.t 16) 1) ::
 mM 6 3 20 ::
 mM 7 4 21 ::
 []))
 (.seq
 (.ops 14 8 (mM 0 23 1 ::
 mM 1 24 2 ::
 oO 2 25 (.callF f_allowance_Allow [(.t 23), (.t 24)]) ::
 mM 3 22 25 ::
 oO 4 26 (.extract (.t 22) 0) ::
 oO 5 27 (.extract (.t 22) 1) ::
 mM 6 5 26 ::
 mM 7 6 27 ::
 []))
 (.seq
 (.ops 22 12 (oO 0 29 (.build [(.int .i64 0), (.int .i64 0)] [(0, 1, (.c (.int .i64 0))), (1, 1, (.c (.int .i64 0)))]) ::
 oO 1 30 (.build [(.int .i64 0), (.int .i64 0)] [(0, 1, (.c (.int .i64 30))), (1, 1, (.c (.int .i64 0)))]) ::
 oO 2 31 (.build [(.int .i64 0), (.int .i64 0)] [(0, 1, (.c (.int .i64 0))), (1, 1, (.c (.int .i64 40)))]) ::
 oO 3 32 (.buildSlice 2 3 [(.agg [(.int .i64 0), (.int .i64 0)]), (.agg [(.int .i64 0), (.int .i64 0)]), (.agg [(.int .i64 0), (.int .i64 0)])] [(0, (.t 29)), (1, (.t 30)), (2, (.t 31))]) ::
 oO 4 33 (.callF f_l24_edges [(.t 32)]) ::
 oO 5 34 (.buildSlice 1 3 [(.int .i64 0), (.int .i64 0), (.int .i64 0)] [(0, (.c (.int .i64 0))), (1, (.c (.int .i64 5))), (2, (.c (.int .i64 0)))]) ::
 oO 6 35 (.callF f_allowance_Allow [(.t 33), (.t 34)]) ::
 mM 7 28 35 ::
 oO 8 36 (.extract (.t 28) 0) ::
 oO 9 37 (.extract (.t 28) 1) ::
 mM 10 7 36 ::
 mM 11 8 37 ::
 []))
 (.seq
 (.ops 34 9 (mM 0 39 1 ::
 mM 1 40 2 ::
 oO 2 41 (.slsl 1 (.t 40) none (some (.c (.int .i64 3))) none) ::
 oO 3 42 (.callF f_allowance_Allow [(.t 39), (.t 41)]) ::
 mM 4 38 42 ::
 oO 5 43 (.extract (.t 38) 0) ::
 oO 6 44 (.extract (.t 38) 1) ::
 mM 7 9 43 ::
 mM 8 10 44 ::
 []))
 (.seq
 (.ops 43 8 (mM 0 46 1 ::
 oO 1 47 (.buildSlice 1 4 [(.int .i64 0), (.int .i64 0), (.int .i64 0), (.int .i64 0)] [(0, (.c (.int .i64 0))), (1, (.c (.int .i64 0))), (2, (.c (.int .i64 0))), (3, (.c (.int .i64 501)))]) ::
 oO 2 48 (.callF f_allowance_Shifts [(.t 46), (.t 47)]) ::
 mM 3 45 48 ::
 oO 4 49 (.extract (.t 45) 0) ::
 oO 5 50 (.extract (.t 45) 1) ::
 mM 6 11 49 ::
 mM 7 12 50 ::
 []))
 (.seq
 (.seq
 (.ops 51 18 (mM 0 51 4 ::
 oO 1 52 (.bin .neq .no (.t 51) (.c (.int .i64 0))) ::
 mM 2 53 52 ::
 gG 3 54 53 false (.mov (.t 6)) ::
 gG 4 55 53 false (.bin .neq .no (.t 54) (.c (.int .i64 0))) ::
 oO 5 56 (.pick (.t 53) (.c (.bool true)) (.t 55)) ::
 mM 6 57 56 ::
 gG 7 58 57 false (.mov (.t 8)) ::
 gG 8 59 57 false (.bin .neq .no (.t 58) (.c (.int .i64 0))) ::
 oO 9 60 (.pick (.t 57) (.c (.bool true)) (.t 59)) ::
 mM 10 61 60 ::
 gG 11 62 61 false (.mov (.t 10)) ::
 gG 12 63 61 false (.bin .neq .no (.t 62) (.c (.int .i64 1))) ::
 oO 13 64 (.pick (.t 61) (.c (.bool true)) (.t 63)) ::
 mM 14 65 64 ::
 gG 15 66 65 false (.mov (.t 12)) ::
 gG 16 67 65 false (.bin .neq .no (.t 66) (.c (.int .i64 3))) ::
 oO 17 68 (.pick (.t 65) (.c (.bool true)) (.t 67)) ::
 []))
 (.cond (.t 68)
 (.seq
 (.ops 69 1 (oO 0 0 (.mov (.c (.bool false))) ::
 []))
 .ret)
 .skip))
 (.seq
 (.ops 70 21 (mM 0 69 3 ::
 oO 1 70 (.build [(.int .i64 0), (.int .i64 0)] [(0, 1, (.c (.int .i64 0))), (1, 1, (.c (.int .i64 (-1))))]) ::
 oO 2 71 (.build [(.int .i64 0), (.int .i64 0)] [(0, 1, (.c (.int .i64 2))), (1, 1, (.c (.int .i64 0)))]) ::
 oO 3 72 (.build [(.int .i64 0), (.int .i64 0)] [(0, 1, (.c (.int .i64 0))), (1, 1, (.c (.int .i64 3)))]) ::
 oO 4 73 (.build [(.int .i64 0), (.int .i64 0)] [(0, 1, (.c (.int .i64 (-4)))), (1, 1, (.c (.int .i64 0)))]) ::
 oO 5 74 (.buildSlice 2 4 [(.agg [(.int .i64 0), (.int .i64 0)]), (.agg [(.int .i64 0), (.int .i64 0)]), (.agg [(.int .i64 0), (.int .i64 0)]), (.agg [(.int .i64 0), (.int .i64 0)])] [(0, (.t 70)), (1, (.t 71)), (2, (.t 72)), (3, (.t 73))]) ::
 oO 6 75 (.callF f_r11_Same [(.t 69), (.t 74)]) ::
 mM 7 76 75 ::
 gG 8 77 76 true (.mov (.t 5)) ::
 gG 9 78 76 true (.callF f_l24_rect [(.c (.int .i64 (-4))), (.c (.int .i64 (-1))), (.c (.int .i64 12)), (.c (.int .i64 13))]) ::
 gG 10 79 76 true (.callF f_r11_Same [(.t 77), (.t 78)]) ::
 oO 11 80 (.pick (.t 76) (.t 79) (.c (.bool false))) ::
 mM 12 81 80 ::
 gG 13 82 81 true (.mov (.t 7)) ::
 gG 14 83 81 true (.build [(.int .i64 0), (.int .i64 0)] [(0, 1, (.c (.int .i64 0))), (1, 1, (.c (.int .i64 0)))]) ::
 gG 15 84 81 true (.build [(.int .i64 0), (.int .i64 0)] [(0, 1, (.c (.int .i64 36))), (1, 1, (.c (.int .i64 0)))]) ::
 gG 16 85 81 true (.build [(.int .i64 0), (.int .i64 0)] [(0, 1, (.c (.int .i64 0))), (1, 1, (.c (.int .i64 48)))]) ::
 gG 17 86 81 true (.buildSlice 2 3 [(.agg [(.int .i64 0), (.int .i64 0)]), (.agg [(.int .i64 0), (.int .i64 0)]), (.agg [(.int .i64 0), (.int .i64 0)])] [(0, (.t 83)), (1, (.t 84)), (2, (.t 85))]) ::
 gG 18 87 81 true (.callF f_r11_Same [(.t 82), (.t 86)]) ::
 oO 19 88 (.pick (.t 81) (.t 87) (.c (.bool false))) ::
 mM 20 0 88 ::
 []))
 .ret)))))))))),
 [.t 0]⟩

def k_outline_Polygon : KFn := ⟨
 (.seq
 (.ops 0 2 (oO 0 2 (.mov (.c .nilsl)) ::
 oO 1 3 (.mov (.c (.int .i64 0))) ::
 []))
 (.seq
 (.seq
 (.ops 2 3 (mM 0 5 0 ::
 oO 1 6 (.callF f_outline_Check [(.t 5)]) ::
 mM 2 4 6 ::
 []))
 (.seq
 (.ops 5 2 (mM 0 7 4 ::
 oO 1 8 (.bin .neq .no (.t 7) (.c (.int .i64 0))) ::
 []))
 (.cond (.t 8)
 (.seq
 (.ops 7 3 (mM 0 9 4 ::
 oO 1 2 (.mov (.c .nilsl)) ::
 mM 2 3 9 ::
 []))
 .ret)
 .skip)))
 (.seq
 (.ops 10 4 (mM 0 10 0 ::
 oO 1 11 (.callF f_outline_vertices [(.t 10)]) ::
 mM 2 2 11 ::
 oO 3 3 (.mov (.c (.int .i64 0))) ::
 []))
 .ret))),
 [.t 2, .t 3]⟩

def k_allowance_Allow : KFn := ⟨
 (.seq
 (.ops 20 2 (oO 0 4 (.mov (.c .nilsl)) ::
 oO 1 5 (.mov (.c (.int .i64 0))) ::
 []))
 (.seq
 (.ops 22 8 (mM 0 23 0 ::
 mM 1 24 1 ::
 oO 2 25 (.callF f_allowance_Shifts [(.t 23), (.t 24)]) ::
 mM 3 22 25 ::
 oO 4 26 (.extract (.t 22) 0) ::
 oO 5 27 (.extract (.t 22) 1) ::
 mM 6 6 26 ::
 mM 7 7 27 ::
 []))
 (.seq
 (.seq
 (.ops 30 2 (mM 0 28 7 ::
 oO 1 29 (.bin .neq .no (.t 28) (.c (.int .i64 0))) ::
 []))
 (.cond (.t 29)
 (.seq
 (.ops 32 3 (mM 0 30 7 ::
 oO 1 4 (.mov (.c .nilsl)) ::
 mM 2 5 30 ::
 []))
 .ret)
 .skip))
 (.seq
 (.ops 35 7 (mM 0 32 0 ::
 oO 1 33 (.callF f_outline_Polygon [(.t 32)]) ::
 mM 2 31 33 ::
 oO 3 34 (.extract (.t 31) 0) ::
 oO 4 35 (.extract (.t 31) 1) ::
 mM 5 8 34 ::
 mM 6 7 35 ::
 []))
 (.seq
 (.seq
 (.ops 42 2 (mM 0 36 7 ::
 oO 1 37 (.bin .neq .no (.t 36) (.c (.int .i64 0))) ::
 []))
 (.cond (.t 37)
 (.seq
 (.ops 44 3 (mM 0 38 7 ::
 oO 1 4 (.mov (.c .nilsl)) ::
 mM 2 5 38 ::
 []))
 .ret)
 .skip))
 (.seq
 (.ops 47 4 (mM 0 39 0 ::
 mM 1 40 1 ::
 oO 2 41 (.callF f_allowance_segmentWidths [(.t 39), (.t 40)]) ::
 mM 3 9 41 ::
 []))
 (.seq
 (.ops 51 3 (mM 0 42 8 ::
 oO 1 43 (.len .sl (.t 42)) ::
 mM 2 10 43 ::
 []))
 (.seq
 (.ops 54 3 (mM 0 44 10 ::
 oO 1 45 (.mkslice ⟨5, 40, (.agg [(.int .i64 0), (.int .i64 0), (.int .i64 0), (.int .i64 0), (.int .i64 0)])⟩ (.t 44) (.t 44)) ::
 mM 2 11 45 ::
 []))
 (.seq
 (.seq
 (.ops 57 3 (mM 0 46 6 ::
 oO 1 47 (.len .sl (.t 46)) ::
 oO 2 48 (.mov (.c (.int .i64 0))) ::
 []))
 (.block 0
 (.loop [(8, 0), (9, 0), (10, 0), (11, 0), (46, 0), (47, 0), (48, 0)]
 (.seq
 (.ops 60 1 (oO 0 49 (.bin .lss .no (.t 48) (.t 47)) ::
 []))
 (.seq
 (.cond (.t 49)
 .skip
 (.exit 0))
 (.seq
 (.block 1
 (.seq
 (.ops 61 6 (mM 0 50 48 ::
 oO 1 51 (.ixs 2 (.t 46) (.t 48)) ::
 oO 2 52 (.load false true 2 (.t 51)) ::
 oO 3 13 (.new 2 (.agg [(.int .i64 0), (.int .i64 0)])) ::
 mM 4 12 50 ::
 ⟨5, none, none, .all, .store true 2 (.t 13) (.t 52)⟩ ::
 []))
 (.ops 67 24 (mM 0 53 11 ::
 mM 1 54 12 ::
 mM 2 55 8 ::
 mM 3 56 12 ::
 ⟨4, some 57, none, (.bef 12 24), .ixs 2 (.t 55) (.t 56)⟩ ::
 ⟨5, some 58, none, (.bef 28 24), .load false true 2 (.t 57)⟩ ::
 ⟨6, some 59, none, (.bef 0 24), .load true true 2 (.t 13)⟩ ::
 ⟨7, some 60, none, (.bef 124 24), .callF f_allowance_sum [(.t 58), (.t 59)]⟩ ::
 mM 8 61 8 ::
 mM 9 62 12 ::
 oO 10 63 (.bin .add .no (.t 62) (.c (.int .i64 1))) ::
 mM 11 64 10 ::
 oO 12 65 (.bin .rem .no (.t 63) (.t 64)) ::
 ⟨13, some 66, none, (.bef 7936 24), .ixs 2 (.t 61) (.t 65)⟩ ::
 ⟨14, some 67, none, (.bef 16128 24), .load false true 2 (.t 66)⟩ ::
 ⟨15, some 68, none, (.bef 0 24), .load true true 2 (.t 13)⟩ ::
 ⟨16, some 69, none, (.bef 65532 24), .callF f_allowance_sum [(.t 67), (.t 68)]⟩ ::
 mM 17 70 9 ::
 mM 18 71 12 ::
 ⟨19, some 72, none, (.bef 393216 24), .ixs 1 (.t 70) (.t 71)⟩ ::
 ⟨20, some 73, none, (.bef 917504 24), .load false false 1 (.t 72)⟩ ::
 oO 21 74 (.build [(.int .i64 0), (.int .i64 0), (.int .i64 0), (.int .i64 0), (.int .i64 0)] [(0, 2, (.t 60)), (2, 2, (.t 69)), (4, 1, (.t 73))]) ::
 ⟨22, some 75, none, (.bef 4194303 24), .ixs 5 (.t 53) (.t 54)⟩ ::
 ⟨23, none, none, (.bef 8388607 24), .store false 5 (.t 75) (.t 74)⟩ ::
 []))))
 (.ops 91 2 (oO 0 76 (.bin .add .no (.t 48) (.c (.int .i64 1))) ::
 mM 1 48 76 ::
 []))))))))
 (.seq
 (.ops 93 1 (oO 0 14 (.mov (.c .nilsl)) ::
 []))
 (.seq
 (.seq
 (.ops 94 3 (mM 0 77 8 ::
 oO 1 78 (.len .sl (.t 77)) ::
 oO 2 79 (.mov (.c (.int .i64 0))) ::
 []))
 (.block 2
 (.loop [(8, 0), (10, 0), (11, 0), (14, 2), (77, 0), (78, 0), (79, 0)]
 (.seq
 (.ops 97 1 (oO 0 80 (.bin .lss .no (.t 79) (.t 78)) ::
 []))
 (.seq
 (.cond (.t 80)
 .skip
 (.exit 2))
 (.seq
 (.block 3
 (.seq
 (.ops 98 6 (mM 0 81 79 ::
 oO 1 82 (.ixs 2 (.t 77) (.t 79)) ::
 oO 2 83 (.load false true 2 (.t 82)) ::
 oO 3 16 (.new 2 (.agg [(.int .i64 0), (.int .i64 0)])) ::
 mM 4 15 81 ::
 ⟨5, none, none, .all, .store true 2 (.t 16) (.t 83)⟩ ::
 []))
 (.seq
 (.ops 104 17 (⟨0, some 84, none, (.bef 0 17), .load true true 2 (.t 16)⟩ ::
 mM 1 85 11 ::
 mM 2 86 15 ::
 mM 3 87 10 ::
 oO 4 88 (.bin .add .no (.t 86) (.t 87)) ::
 oO 5 89 (.bin .sub .no (.t 88) (.c (.int .i64 1))) ::
 mM 6 90 10 ::
 oO 7 91 (.bin .rem .no (.t 89) (.t 90)) ::
 ⟨8, some 92, none, (.bef 254 17), .ixs 5 (.t 85) (.t 91)⟩ ::
 ⟨9, some 93, none, (.bef 510 17), .load false true 5 (.t 92)⟩ ::
 mM 10 94 11 ::
 mM 11 95 15 ::
 ⟨12, some 96, none, (.bef 3072 17), .ixs 5 (.t 94) (.t 95)⟩ ::
 ⟨13, some 97, none, (.bef 7168 17), .load false true 5 (.t 96)⟩ ::
 ⟨14, some 98, none, (.bef 16383 17), .callF f_allowance_corner [(.t 84), (.t 93), (.t 97)]⟩ ::
 ⟨15, some 99, none, (.bef 32767 17), .len .sl (.t 98)⟩ ::
 oO 16 100 (.mov (.c (.int .i64 0))) ::
 []))
 (.block 4
 (.loop [(8, 0), (10, 0), (11, 0), (14, 2), (77, 0), (78, 0), (79, 0), (98, 0), (99, 0), (100, 0)]
 (.seq
 (.ops 121 1 (oO 0 101 (.bin .lss .no (.t 100) (.t 99)) ::
 []))
 (.seq
 (.cond (.t 101)
 .skip
 (.exit 4))
 (.seq
 (.block 5
 (.seq
 (.ops 122 4 (oO 0 102 (.ixs 2 (.t 98) (.t 100)) ::
 oO 1 103 (.load false true 2 (.t 102)) ::
 oO 2 18 (.new 2 (.agg [(.int .i64 0), (.int .i64 0)])) ::
 ⟨3, none, none, .all, .store true 2 (.t 18) (.t 103)⟩ ::
 []))
 (.seq
 (.ops 126 13 (mM 0 104 14 ::
 ⟨1, some 105, none, (.bef 1 13), .len .sl (.t 104)⟩ ::
 oO 2 106 (.bin .eql .no (.t 105) (.c (.int .i64 0))) ::
 mM 3 107 106 ::
 gG 4 108 107 false (.mov (.t 14)) ::
 gG 5 109 107 false (.mov (.t 14)) ::
 ⟨6, some 110, some (107, false), (.bef 47 13), .len .sl (.t 109)⟩ ::
 gG 7 111 107 false (.bin .sub .no (.t 110) (.c (.int .i64 1))) ::
 ⟨8, some 112, some (107, false), (.bef 255 13), .ixs 2 (.t 108) (.t 111)⟩ ::
 ⟨9, some 113, some (107, false), (.bef 511 13), .load false true 2 (.t 112)⟩ ::
 ⟨10, some 114, some (107, false), (.bef 15 13), .load true true 2 (.t 18)⟩ ::
 gG 11 115 107 false (.bin .neq (.flat [.int, .int]) (.t 113) (.t 114)) ::
 oO 12 116 (.pick (.t 107) (.c (.bool true)) (.t 115)) ::
 []))
 (.cond (.t 116)
 (.ops 139 5 (mM 0 117 14 ::
 oO 1 118 (.load true true 2 (.t 18)) ::
 oO 2 119 (.buildSlice 2 1 [(.agg [(.int .i64 0), (.int .i64 0)])] [(0, (.t 118))]) ::
 oO 3 120 (.append ⟨2, 16, (.agg [(.int .i64 0), (.int .i64 0)])⟩ .sl (.t 117) (.t 119)) ::
 mM 4 14 120 ::
 []))
 .skip))))
 (.ops 144 2 (oO 0 121 (.bin .add .no (.t 100) (.c (.int .i64 1))) ::
 mM 1 100 121 ::
 []))))))))))
 (.ops 146 2 (oO 0 122 (.bin .add .no (.t 79) (.c (.int .i64 1))) ::
 mM 1 79 122 ::
 []))))))))
 (.seq
 (.block 6
 (.loop [(8, 0), (14, 0)]
 (.seq
 (.seq
 (.ops 148 15 (mM 0 123 14 ::
 ⟨1, some 124, none, (.bef 1 15), .len .sl (.t 123)⟩ ::
 oO 2 125 (.bin .geq .no (.t 124) (.c (.int .i64 2))) ::
 mM 3 126 125 ::
 gG 4 127 126 true (.mov (.t 14)) ::
 gG 5 128 126 true (.mov (.t 14)) ::
 ⟨6, some 129, some (126, true), (.bef 47 15), .len .sl (.t 128)⟩ ::
 gG 7 130 126 true (.bin .sub .no (.t 129) (.c (.int .i64 1))) ::
 ⟨8, some 131, some (126, true), (.bef 255 15), .ixs 2 (.t 127) (.t 130)⟩ ::
 ⟨9, some 132, some (126, true), (.bef 511 15), .load false true 2 (.t 131)⟩ ::
 gG 10 133 126 true (.mov (.t 14)) ::
 ⟨11, some 134, some (126, true), (.bef 1039 15), .ixs 2 (.t 133) (.c (.int .i64 0))⟩ ::
 ⟨12, some 135, some (126, true), (.bef 3087 15), .load false true 2 (.t 134)⟩ ::
 gG 13 136 126 true (.bin .eql (.flat [.int, .int]) (.t 132) (.t 135)) ::
 oO 14 137 (.pick (.t 126) (.t 136) (.c (.bool false))) ::
 []))
 (.cond (.t 137)
 .skip
 (.exit 6)))
 (.block 7
 (.ops 163 6 (mM 0 138 14 ::
 mM 1 139 14 ::
 oO 2 140 (.len .sl (.t 139)) ::
 oO 3 141 (.bin .sub .no (.t 140) (.c (.int .i64 1))) ::
 oO 4 142 (.slsl 2 (.t 138) none (some (.t 141)) none) ::
 mM 5 14 142 ::
 []))))))
 (.seq
 (.seq
 (.ops 169 3 (mM 0 143 14 ::
 oO 1 144 (.len .sl (.t 143)) ::
 oO 2 145 (.mov (.c (.int .i64 0))) ::
 []))
 (.block 8
 (.loop [(8, 0), (14, 0), (143, 0), (144, 0), (145, 0)]
 (.seq
 (.ops 172 1 (oO 0 146 (.bin .lss .no (.t 145) (.t 144)) ::
 []))
 (.seq
 (.cond (.t 146)
 .skip
 (.exit 8))
 (.seq
 (.block 9
 (.seq
 (.ops 173 4 (oO 0 147 (.ixs 2 (.t 143) (.t 145)) ::
 oO 1 148 (.load false true 2 (.t 147)) ::
 oO 2 20 (.new 2 (.agg [(.int .i64 0), (.int .i64 0)])) ::
 ⟨3, none, none, .all, .store true 2 (.t 20) (.t 148)⟩ ::
 []))
 (.seq
 (.ops 177 3 (oO 0 149 (.load true true 2 (.t 20)) ::
 oO 1 150 (.callF f_allowance_within [(.t 149), (.c (.int .i64 1048576))]) ::
 oO 2 151 (.un .not (.t 150)) ::
 []))
 (.cond (.t 151)
 (.seq
 (.ops 180 2 (oO 0 4 (.mov (.c .nilsl)) ::
 oO 1 5 (.mov (.c (.int .i64 3))) ::
 []))
 .ret)
 .skip))))
 (.ops 182 2 (oO 0 152 (.bin .add .no (.t 145) (.c (.int .i64 1))) ::
 mM 1 145 152 ::
 []))))))))
 (.seq
 (.seq
 (.ops 184 3 (mM 0 153 14 ::
 oO 1 154 (.callF f_polygon_Check [(.t 153)]) ::
 mM 2 21 154 ::
 []))
 (.seq
 (.ops 187 2 (mM 0 155 21 ::
 oO 1 156 (.bin .neq .no (.t 155) (.c (.int .i64 0))) ::
 []))
 (.cond (.t 156)
 (.seq
 (.ops 189 3 (mM 0 157 21 ::
 oO 1 4 (.mov (.c .nilsl)) ::
 mM 2 5 157 ::
 []))
 .ret)
 .skip)))
 (.seq
 (.seq
 (.ops 192 5 (mM 0 158 14 ::
 oO 1 159 (.callF f_allowance_orientation [(.t 158)]) ::
 mM 2 160 8 ::
 oO 3 161 (.callF f_allowance_orientation [(.t 160)]) ::
 oO 4 162 (.bin .neq .no (.t 159) (.t 161)) ::
 []))
 (.cond (.t 162)
 (.seq
 (.ops 197 2 (oO 0 4 (.mov (.c .nilsl)) ::
 oO 1 5 (.mov (.c (.int .i64 11))) ::
 []))
 .ret)
 .skip))
 (.seq
 (.ops 199 3 (mM 0 163 14 ::
 mM 1 4 163 ::
 oO 2 5 (.mov (.c (.int .i64 0))) ::
 []))
 .ret)))))))))))))))),
 [.t 4, .t 5]⟩

def k_r11_Same : KFn := ⟨
 (.seq
 (.ops 6 1 (oO 0 4 (.mov (.c (.bool false))) ::
 []))
 (.seq
 (.seq
 (.ops 7 5 (mM 0 6 0 ::
 oO 1 7 (.len .sl (.t 6)) ::
 mM 2 8 1 ::
 oO 3 9 (.len .sl (.t 8)) ::
 oO 4 10 (.bin .neq .no (.t 7) (.t 9)) ::
 []))
 (.cond (.t 10)
 (.seq
 (.ops 12 1 (oO 0 4 (.mov (.c (.bool false))) ::
 []))
 .ret)
 .skip))
 (.seq
 (.seq
 (.ops 13 1 (oO 0 5 (.mov (.c (.int .i64 0))) ::
 []))
 (.block 0
 (.loop [(0, 0), (1, 0), (5, 0)]
 (.seq
 (.seq
 (.ops 14 4 (mM 0 11 5 ::
 mM 1 12 0 ::
 oO 2 13 (.len .sl (.t 12)) ::
 oO 3 14 (.bin .lss .no (.t 11) (.t 13)) ::
 []))
 (.cond (.t 14)
 .skip
 (.exit 0)))
 (.seq
 (.block 1
 (.seq
 (.ops 18 9 (mM 0 17 0 ::
 mM 1 18 5 ::
 ⟨2, some 19, none, (.bef 3 9), .ixs 2 (.t 17) (.t 18)⟩ ::
 ⟨3, some 20, none, (.bef 7 9), .load false true 2 (.t 19)⟩ ::
 mM 4 21 1 ::
 mM 5 22 5 ::
 ⟨6, some 23, none, (.bef 48 9), .ixs 2 (.t 21) (.t 22)⟩ ::
 ⟨7, some 24, none, (.bef 112 9), .load false true 2 (.t 23)⟩ ::
 oO 8 25 (.bin .neq (.flat [.int, .int]) (.t 20) (.t 24)) ::
 []))
 (.cond (.t 25)
 (.seq
 (.ops 27 1 (oO 0 4 (.mov (.c (.bool false))) ::
 []))
 .ret)
 .skip)))
 (.ops 28 3 (mM 0 15 5 ::
 oO 1 16 (.bin .add .no (.t 15) (.c (.int .i64 1))) ::
 mM 2 5 16 ::
 [])))))))
 (.seq
 (.ops 31 1 (oO 0 4 (.mov (.c (.bool true))) ::
 []))
 .ret)))),
 [.t 4]⟩

def k_allowance_Shifts : KFn := ⟨
 (.seq
 (.ops 14 2 (oO 0 4 (.mov (.c .nilsl)) ::
 oO 1 5 (.mov (.c (.int .i64 0))) ::
 []))
 (.seq
 (.ops 16 7 (mM 0 21 0 ::
 oO 1 22 (.callF f_outline_Polygon [(.t 21)]) ::
 mM 2 20 22 ::
 oO 3 23 (.extract (.t 20) 0) ::
 oO 4 24 (.extract (.t 20) 1) ::
 mM 5 6 23 ::
 mM 6 7 24 ::
 []))
 (.seq
 (.seq
 (.ops 23 2 (mM 0 25 7 ::
 oO 1 26 (.bin .neq .no (.t 25) (.c (.int .i64 0))) ::
 []))
 (.cond (.t 26)
 (.seq
 (.ops 25 3 (mM 0 27 7 ::
 oO 1 4 (.mov (.c .nilsl)) ::
 mM 2 5 27 ::
 []))
 .ret)
 .skip))
 (.seq
 (.seq
 (.ops 28 5 (mM 0 28 1 ::
 oO 1 29 (.len .sl (.t 28)) ::
 mM 2 30 0 ::
 oO 3 31 (.len .sl (.t 30)) ::
 oO 4 32 (.bin .neq .no (.t 29) (.t 31)) ::
 []))
 (.cond (.t 32)
 (.seq
 (.ops 33 2 (oO 0 4 (.mov (.c .nilsl)) ::
 oO 1 5 (.mov (.c (.int .i64 1))) ::
 []))
 .ret)
 .skip))
 (.seq
 (.seq
 (.ops 35 3 (mM 0 33 1 ::
 oO 1 34 (.len .sl (.t 33)) ::
 oO 2 35 (.mov (.c (.int .i64 0))) ::
 []))
 (.block 0
 (.loop [(0, 0), (1, 0), (6, 0), (33, 0), (34, 0), (35, 0)]
 (.seq
 (.ops 38 1 (oO 0 36 (.bin .lss .no (.t 35) (.t 34)) ::
 []))
 (.seq
 (.cond (.t 36)
 .skip
 (.exit 0))
 (.seq
 (.block 1
 (.seq
 (.ops 39 3 (oO 0 37 (.ixs 1 (.t 33) (.t 35)) ::
 oO 1 38 (.load false false 1 (.t 37)) ::
 mM 2 9 38 ::
 []))
 (.seq
 (.ops 42 6 (mM 0 39 9 ::
 oO 1 40 (.bin .lss .no (.t 39) (.c (.int .i64 0))) ::
 mM 2 41 40 ::
 gG 3 42 41 false (.mov (.t 9)) ::
 gG 4 43 41 false (.bin .gtr .no (.t 42) (.c (.int .i64 500))) ::
 oO 5 44 (.pick (.t 41) (.c (.bool true)) (.t 43)) ::
 []))
 (.cond (.t 44)
 (.seq
 (.ops 48 2 (oO 0 4 (.mov (.c .nilsl)) ::
 oO 1 5 (.mov (.c (.int .i64 3))) ::
 []))
 .ret)
 .skip))))
 (.ops 50 2 (oO 0 45 (.bin .add .no (.t 35) (.c (.int .i64 1))) ::
 mM 1 35 45 ::
 []))))))))
 (.seq
 (.ops 52 3 (mM 0 46 6 ::
 oO 1 47 (.callF f_allowance_orientation [(.t 46)]) ::
 mM 2 10 47 ::
 []))
 (.seq
 (.ops 55 4 (mM 0 48 0 ::
 mM 1 49 1 ::
 oO 2 50 (.callF f_allowance_segmentWidths [(.t 48), (.t 49)]) ::
 mM 3 11 50 ::
 []))
 (.seq
 (.ops 59 4 (mM 0 51 6 ::
 oO 1 52 (.len .sl (.t 51)) ::
 oO 2 53 (.mkslice ⟨2, 16, (.agg [(.int .i64 0), (.int .i64 0)])⟩ (.t 52) (.t 52)) ::
 mM 3 12 53 ::
 []))
 (.seq
 (.seq
 (.ops 63 3 (mM 0 54 6 ::
 oO 1 55 (.len .sl (.t 54)) ::
 oO 2 56 (.mov (.c (.int .i64 0))) ::
 []))
 (.block 2
 (.loop [(6, 0), (10, 0), (11, 0), (12, 0), (54, 0), (55, 0), (56, 0)]
 (.seq
 (.ops 66 1 (oO 0 57 (.bin .lss .no (.t 56) (.t 55)) ::
 []))
 (.seq
 (.cond (.t 57)
 .skip
 (.exit 2))
 (.seq
 (.block 3
 (.seq
 (.ops 67 6 (mM 0 58 56 ::
 oO 1 59 (.ixs 2 (.t 54) (.t 56)) ::
 oO 2 60 (.load false true 2 (.t 59)) ::
 oO 3 14 (.new 2 (.agg [(.int .i64 0), (.int .i64 0)])) ::
 mM 4 13 58 ::
 ⟨5, none, none, .all, .store true 2 (.t 14) (.t 60)⟩ ::
 []))
 (.seq
 (.ops 73 10 (mM 0 61 6 ::
 mM 1 62 13 ::
 oO 2 63 (.bin .add .no (.t 62) (.c (.int .i64 1))) ::
 mM 3 64 6 ::
 oO 4 65 (.len .sl (.t 64)) ::
 oO 5 66 (.bin .rem .no (.t 63) (.t 65)) ::
 oO 6 67 (.ixs 2 (.t 61) (.t 66)) ::
 oO 7 68 (.load false true 2 (.t 67)) ::
 oO 8 15 (.new 2 (.agg [(.int .i64 0), (.int .i64 0)])) ::
 ⟨9, none, none, .all, .store true 2 (.t 15) (.t 68)⟩ ::
 []))
 (.seq
 (.ops 83 19 (oO 0 69 (.off 0 (.t 15)) ::
 ⟨1, some 70, none, (.bef 1 19), .load true false 1 (.t 69)⟩ ::
 oO 2 71 (.off 0 (.t 14)) ::
 ⟨3, some 72, none, (.bef 4 19), .load true false 1 (.t 71)⟩ ::
 oO 4 73 (.bin .sub .no (.t 70) (.t 72)) ::
 oO 5 74 (.off 1 (.t 15)) ::
 ⟨6, some 75, none, (.bef 32 19), .load true false 1 (.t 74)⟩ ::
 oO 7 76 (.off 1 (.t 14)) ::
 ⟨8, some 77, none, (.bef 128 19), .load true false 1 (.t 76)⟩ ::
 oO 9 78 (.bin .sub .no (.t 75) (.t 77)) ::
 mM 10 79 10 ::
 mM 11 80 11 ::
 mM 12 81 13 ::
 ⟨13, some 82, none, (.bef 6144 19), .ixs 1 (.t 80) (.t 81)⟩ ::
 ⟨14, some 83, none, (.bef 14336 19), .load false false 1 (.t 82)⟩ ::
 oO 15 84 (.bin .mul .no (.t 79) (.t 83)) ::
 mM 16 16 73 ::
 mM 17 17 78 ::
 mM 18 18 84 ::
 []))
 (.seq
 (.ops 102 9 (mM 0 85 16 ::
 mM 1 86 16 ::
 oO 2 87 (.bin .mul .no (.t 85) (.t 86)) ::
 mM 3 88 17 ::
 mM 4 89 17 ::
 oO 5 90 (.bin .mul .no (.t 88) (.t 89)) ::
 oO 6 91 (.bin .add .no (.t 87) (.t 90)) ::
 oO 7 92 (.callF f_allowance_root [(.t 91)]) ::
 mM 8 19 92 ::
 []))
 (.ops 111 16 (mM 0 93 12 ::
 mM 1 94 13 ::
 mM 2 95 18 ::
 mM 3 96 17 ::
 oO 4 97 (.bin .mul .no (.t 95) (.t 96)) ::
 mM 5 98 19 ::
 oO 6 99 (.callF f_allowance_rounded [(.t 97), (.t 98)]) ::
 mM 7 100 18 ::
 oO 8 101 (.un .neg (.t 100)) ::
 mM 9 102 16 ::
 oO 10 103 (.bin .mul .no (.t 101) (.t 102)) ::
 mM 11 104 19 ::
 oO 12 105 (.callF f_allowance_rounded [(.t 103), (.t 104)]) ::
 oO 13 106 (.build [(.int .i64 0), (.int .i64 0)] [(0, 1, (.t 99)), (1, 1, (.t 105))]) ::
 oO 14 107 (.ixs 2 (.t 93) (.t 94)) ::
 ⟨15, none, none, .all, .store false 2 (.t 107) (.t 106)⟩ ::
 [])))))))
 (.ops 127 2 (oO 0 108 (.bin .add .no (.t 56) (.c (.int .i64 1))) ::
 mM 1 56 108 ::
 []))))))))
 (.seq
 (.ops 129 3 (mM 0 109 12 ::
 mM 1 4 109 ::
 oO 2 5 (.mov (.c (.int .i64 0))) ::
 []))
 .ret)))))))))),
 [.t 4, .t 5]⟩

def k_polygon_Area2 : KFn := ⟨
 (.seq
 (.ops 0 1 (oO 0 2 (.mov (.c (.int .i64 0))) ::
 []))
 (.seq
 (.seq
 (.ops 1 3 (mM 0 3 0 ::
 oO 1 4 (.callF f_polygon_Check [(.t 3)]) ::
 oO 2 5 (.bin .neq .no (.t 4) (.c (.int .i64 0))) ::
 []))
 (.cond (.t 5)
 (.seq
 (.ops 4 1 (oO 0 2 (.mov (.c (.int .i64 0))) ::
 []))
 .ret)
 .skip))
 (.seq
 (.ops 5 3 (mM 0 6 0 ::
 oO 1 7 (.callF f_polygon_area [(.t 6)]) ::
 mM 2 2 7 ::
 []))
 .ret))),
 [.t 2]⟩

def k_l24_edges : KFn := ⟨
 (.seq
 (.ops 8 1 (oO 0 2 (.mov (.c .nilsl)) ::
 []))
 (.seq
 (.ops 9 1 (oO 0 3 (.mov (.c .nilsl)) ::
 []))
 (.seq
 (.seq
 (.ops 10 3 (mM 0 5 0 ::
 oO 1 6 (.len .sl (.t 5)) ::
 oO 2 7 (.mov (.c (.int .i64 0))) ::
 []))
 (.block 0
 (.loop [(0, 0), (3, 2), (6, 0), (7, 0)]
 (.seq
 (.ops 13 1 (oO 0 8 (.bin .lss .no (.t 7) (.t 6)) ::
 []))
 (.seq
 (.cond (.t 8)
 .skip
 (.exit 0))
 (.seq
 (.block 1
 (.seq
 (.ops 14 2 (mM 0 9 7 ::
 mM 1 4 9 ::
 []))
 (.ops 16 24 (mM 0 10 3 ::
 mM 1 11 4 ::
 oO 2 12 (.bin .rem .no (.t 11) (.c (.int .i64 26))) ::
 ⟨3, some 13, none, (.bef 6 24), .conv (.int .u8) (.t 12)⟩ ::
 oO 4 14 (.bin .add .no (.c (.int .u8 97)) (.t 13)) ::
 ⟨5, some 15, none, (.bef 30 24), .buildSlice 1 1 [(.int .u8 0)] [(0, (.t 14))]⟩ ::
 ⟨6, some 16, none, (.bef 62 24), .conv .bytes (.t 15)⟩ ::
 mM 7 17 0 ::
 mM 8 18 4 ::
 ⟨9, some 19, none, (.bef 384 24), .ixs 2 (.t 17) (.t 18)⟩ ::
 ⟨10, some 20, none, (.bef 896 24), .load false true 2 (.t 19)⟩ ::
 mM 11 21 0 ::
 mM 12 22 4 ::
 oO 13 23 (.bin .add .no (.t 22) (.c (.int .i64 1))) ::
 mM 14 24 0 ::
 ⟨15, some 25, none, (.bef 16384 24), .len .sl (.t 24)⟩ ::
 oO 16 26 (.bin .rem .no (.t 23) (.t 25)) ::
 ⟨17, some 27, none, (.bef 129024 24), .ixs 2 (.t 21) (.t 26)⟩ ::
 ⟨18, some 28, none, (.bef 260096 24), .load false true 2 (.t 27)⟩ ::
 ⟨19, some 29, none, (.bef 524160 24), .buildSlice 2 2 [(.agg [(.int .i64 0), (.int .i64 0)]), (.agg [(.int .i64 0), (.int .i64 0)])] [(0, (.t 20)), (1, (.t 28))]⟩ ::
 oO 20 30 (.build [(.str ⟨#[]⟩), .nilsl] [(0, 1, (.t 16)), (1, 1, (.t 29))]) ::
 ⟨21, some 31, none, (.bef 2097150 24), .buildSlice 2 1 [(.agg [(.str ⟨#[]⟩), .nilsl])] [(0, (.t 30))]⟩ ::
 ⟨22, some 32, none, (.bef 4194303 24), .append ⟨2, 40, (.agg [(.str ⟨#[]⟩), .nilsl])⟩ .sl (.t 10) (.t 31)⟩ ::
 mM 23 3 32 ::
 []))))
 (.ops 40 2 (oO 0 33 (.bin .add .no (.t 7) (.c (.int .i64 1))) ::
 mM 1 7 33 ::
 []))))))))
 (.seq
 (.ops 42 2 (mM 0 34 3 ::
 mM 1 2 34 ::
 []))
 .ret)))),
 [.t 2]⟩

def k_l24_rect : KFn := ⟨
 (.seq
 (.ops 0 1 (oO 0 8 (.mov (.c .nilsl)) ::
 []))
 (.seq
 (.ops 1 14 (mM 0 9 0 ::
 mM 1 10 1 ::
 oO 2 11 (.build [(.int .i64 0), (.int .i64 0)] [(0, 1, (.t 9)), (1, 1, (.t 10))]) ::
 mM 3 12 2 ::
 mM 4 13 1 ::
 oO 5 14 (.build [(.int .i64 0), (.int .i64 0)] [(0, 1, (.t 12)), (1, 1, (.t 13))]) ::
 mM 6 15 2 ::
 mM 7 16 3 ::
 oO 8 17 (.build [(.int .i64 0), (.int .i64 0)] [(0, 1, (.t 15)), (1, 1, (.t 16))]) ::
 mM 9 18 0 ::
 mM 10 19 3 ::
 oO 11 20 (.build [(.int .i64 0), (.int .i64 0)] [(0, 1, (.t 18)), (1, 1, (.t 19))]) ::
 oO 12 21 (.buildSlice 2 4 [(.agg [(.int .i64 0), (.int .i64 0)]), (.agg [(.int .i64 0), (.int .i64 0)]), (.agg [(.int .i64 0), (.int .i64 0)]), (.agg [(.int .i64 0), (.int .i64 0)])] [(0, (.t 11)), (1, (.t 14)), (2, (.t 17)), (3, (.t 20))]) ::
 mM 13 8 21 ::
 []))
 .ret)),
 [.t 8]⟩

def k_polygon_Move : KFn := ⟨
 (.seq
 (.ops 0 2 (oO 0 3 (.box 2 (.t 1)) ::
 oO 1 4 (.mov (.c .nilsl)) ::
 []))
 (.seq
 (.ops 2 4 (mM 0 5 0 ::
 oO 1 6 (.load true true 2 (.t 3)) ::
 oO 2 7 (.callF f_polyline_Move [(.t 5), (.t 6)]) ::
 mM 3 4 7 ::
 []))
 .ret)),
 [.t 4]⟩

def k_outline_Check : KFn := ⟨
 (.seq
 (.ops 16 1 (oO 0 2 (.mov (.c (.int .i64 0))) ::
 []))
 (.seq
 (.seq
 (.ops 17 3 (mM 0 11 0 ::
 oO 1 12 (.len .sl (.t 11)) ::
 oO 2 13 (.bin .gtr .no (.t 12) (.c (.int .i64 16))) ::
 []))
 (.cond (.t 13)
 (.seq
 (.ops 20 1 (oO 0 2 (.mov (.c (.int .i64 5))) ::
 []))
 .ret)
 .skip))
 (.seq
 (.seq
 (.ops 21 3 (mM 0 14 0 ::
 oO 1 15 (.len .sl (.t 14)) ::
 oO 2 16 (.bin .lss .no (.t 15) (.c (.int .i64 2))) ::
 []))
 (.cond (.t 16)
 (.seq
 (.ops 24 1 (oO 0 2 (.mov (.c (.int .i64 11))) ::
 []))
 .ret)
 .skip))
 (.seq
 (.seq
 (.ops 25 3 (mM 0 17 0 ::
 oO 1 18 (.len .sl (.t 17)) ::
 oO 2 19 (.mov (.c (.int .i64 0))) ::
 []))
 (.block 0
 (.loop [(0, 0), (17, 0), (18, 0), (19, 0)]
 (.seq
 (.ops 28 1 (oO 0 20 (.bin .lss .no (.t 19) (.t 18)) ::
 []))
 (.seq
 (.cond (.t 20)
 .skip
 (.exit 0))
 (.seq
 (.block 1
 (.seq
 (.ops 29 6 (mM 0 21 19 ::
 oO 1 22 (.ixs 2 (.t 17) (.t 19)) ::
 oO 2 23 (.load false true 2 (.t 22)) ::
 oO 3 4 (.new 2 (.agg [(.str ⟨#[]⟩), .nilsl])) ::
 mM 4 3 21 ::
 ⟨5, none, none, .all, .store true 2 (.t 4) (.t 23)⟩ ::
 []))
 (.seq
 (.seq
 (.ops 35 4 (oO 0 24 (.off 0 (.t 4)) ::
 oO 1 25 (.load true false 1 (.t 24)) ::
 oO 2 26 (.callF f_outline_isName [(.t 25)]) ::
 oO 3 27 (.un .not (.t 26)) ::
 []))
 (.cond (.t 27)
 (.seq
 (.ops 39 1 (oO 0 2 (.mov (.c (.int .i64 1))) ::
 []))
 .ret)
 .skip))
 (.seq
 (.seq
 (.ops 40 5 (mM 0 28 0 ::
 mM 1 29 3 ::
 oO 2 30 (.slsl 2 (.t 28) none (some (.t 29)) none) ::
 oO 3 31 (.len .sl (.t 30)) ::
 oO 4 32 (.mov (.c (.int .i64 0))) ::
 []))
 (.block 2
 (.loop [(0, 0), (4, 0), (17, 0), (18, 0), (19, 0), (30, 0), (31, 0), (32, 0)]
 (.seq
 (.ops 45 1 (oO 0 33 (.bin .lss .no (.t 32) (.t 31)) ::
 []))
 (.seq
 (.cond (.t 33)
 .skip
 (.exit 2))
 (.seq
 (.block 3
 (.seq
 (.ops 46 4 (oO 0 34 (.ixs 2 (.t 30) (.t 32)) ::
 oO 1 35 (.load false true 2 (.t 34)) ::
 oO 2 6 (.new 2 (.agg [(.str ⟨#[]⟩), .nilsl])) ::
 ⟨3, none, none, .all, .store true 2 (.t 6) (.t 35)⟩ ::
 []))
 (.seq
 (.ops 50 5 (oO 0 36 (.off 0 (.t 6)) ::
 oO 1 37 (.load true false 1 (.t 36)) ::
 oO 2 38 (.off 0 (.t 4)) ::
 oO 3 39 (.load true false 1 (.t 38)) ::
 oO 4 40 (.bin .eql .no (.t 37) (.t 39)) ::
 []))
 (.cond (.t 40)
 (.seq
 (.ops 55 1 (oO 0 2 (.mov (.c (.int .i64 7))) ::
 []))
 .ret)
 .skip))))
 (.ops 56 2 (oO 0 41 (.bin .add .no (.t 32) (.c (.int .i64 1))) ::
 mM 1 32 41 ::
 []))))))))
 (.seq
 (.ops 58 4 (oO 0 42 (.off 1 (.t 4)) ::
 oO 1 43 (.load true false 1 (.t 42)) ::
 oO 2 44 (.callF f_polyline_Check [(.t 43)]) ::
 mM 3 7 44 ::
 []))
 (.seq
 (.ops 62 2 (mM 0 45 7 ::
 oO 1 46 (.bin .neq .no (.t 45) (.c (.int .i64 0))) ::
 []))
 (.cond (.t 46)
 (.seq
 (.ops 64 2 (mM 0 47 7 ::
 mM 1 2 47 ::
 []))
 .ret)
 .skip)))))))
 (.ops 66 2 (oO 0 48 (.bin .add .no (.t 19) (.c (.int .i64 1))) ::
 mM 1 19 48 ::
 []))))))))
 (.seq
 (.seq
 (.ops 68 3 (mM 0 49 0 ::
 oO 1 50 (.len .sl (.t 49)) ::
 oO 2 51 (.mov (.c (.int .i64 0))) ::
 []))
 (.block 4
 (.loop [(0, 0), (49, 0), (50, 0), (51, 0)]
 (.seq
 (.ops 71 1 (oO 0 52 (.bin .lss .no (.t 51) (.t 50)) ::
 []))
 (.seq
 (.cond (.t 52)
 .skip
 (.exit 4))
 (.seq
 (.block 5
 (.seq
 (.ops 72 6 (mM 0 53 51 ::
 oO 1 54 (.ixs 2 (.t 49) (.t 51)) ::
 oO 2 55 (.load false true 2 (.t 54)) ::
 oO 3 9 (.new 2 (.agg [(.str ⟨#[]⟩), .nilsl])) ::
 mM 4 8 53 ::
 ⟨5, none, none, .all, .store true 2 (.t 9) (.t 55)⟩ ::
 []))
 (.seq
 (.ops 78 10 (mM 0 56 0 ::
 mM 1 57 8 ::
 oO 2 58 (.bin .add .no (.t 57) (.c (.int .i64 1))) ::
 mM 3 59 0 ::
 oO 4 60 (.len .sl (.t 59)) ::
 oO 5 61 (.bin .rem .no (.t 58) (.t 60)) ::
 oO 6 62 (.ixs 2 (.t 56) (.t 61)) ::
 oO 7 63 (.load false true 2 (.t 62)) ::
 oO 8 10 (.new 2 (.agg [(.str ⟨#[]⟩), .nilsl])) ::
 ⟨9, none, none, .all, .store true 2 (.t 10) (.t 63)⟩ ::
 []))
 (.seq
 (.ops 88 13 (oO 0 64 (.off 1 (.t 9)) ::
 ⟨1, some 65, none, (.bef 1 13), .load true false 1 (.t 64)⟩ ::
 oO 2 66 (.off 1 (.t 9)) ::
 ⟨3, some 67, none, (.bef 4 13), .load true false 1 (.t 66)⟩ ::
 ⟨4, some 68, none, (.bef 12 13), .len .sl (.t 67)⟩ ::
 oO 5 69 (.bin .sub .no (.t 68) (.c (.int .i64 1))) ::
 ⟨6, some 70, none, (.bef 63 13), .ixs 2 (.t 65) (.t 69)⟩ ::
 ⟨7, some 71, none, (.bef 127 13), .load false true 2 (.t 70)⟩ ::
 oO 8 72 (.off 1 (.t 10)) ::
 ⟨9, some 73, none, (.bef 256 13), .load true false 1 (.t 72)⟩ ::
 ⟨10, some 74, none, (.bef 768 13), .ixs 2 (.t 73) (.c (.int .i64 0))⟩ ::
 ⟨11, some 75, none, (.bef 1792 13), .load false true 2 (.t 74)⟩ ::
 oO 12 76 (.bin .neq (.flat [.int, .int]) (.t 71) (.t 75)) ::
 []))
 (.cond (.t 76)
 (.seq
 (.ops 101 1 (oO 0 2 (.mov (.c (.int .i64 11))) ::
 []))
 .ret)
 .skip)))))
 (.ops 102 2 (oO 0 77 (.bin .add .no (.t 51) (.c (.int .i64 1))) ::
 mM 1 51 77 ::
 []))))))))
 (.seq
 (.ops 104 4 (mM 0 78 0 ::
 oO 1 79 (.callF f_outline_vertices [(.t 78)]) ::
 oO 2 80 (.callF f_polygon_Check [(.t 79)]) ::
 mM 3 2 80 ::
 []))
 .ret)))))),
 [.t 2]⟩

def k_polygon_Check : KFn := ⟨
 (.seq
 (.ops 0 1 (oO 0 2 (.mov (.c (.int .i64 0))) ::
 []))
 (.seq
 (.seq
 (.ops 1 3 (mM 0 3 0 ::
 oO 1 4 (.len .sl (.t 3)) ::
 oO 2 5 (.bin .gtr .no (.t 4) (.c (.int .i64 40))) ::
 []))
 (.cond (.t 5)
 (.seq
 (.ops 4 1 (oO 0 2 (.mov (.c (.int .i64 5))) ::
 []))
 .ret)
 .skip))
 (.seq
 (.seq
 (.ops 5 3 (mM 0 6 0 ::
 oO 1 7 (.len .sl (.t 6)) ::
 oO 2 8 (.bin .lss .no (.t 7) (.c (.int .i64 3))) ::
 []))
 (.cond (.t 8)
 (.seq
 (.ops 8 1 (oO 0 2 (.mov (.c (.int .i64 11))) ::
 []))
 .ret)
 .skip))
 (.seq
 (.seq
 (.ops 9 2 (mM 0 9 0 ::
 oO 1 10 (.callF f_slices_ContainsFunc_Spot_Spot [(.t 9), (.c (.fn f_polygon_outside [] []))]) ::
 []))
 (.cond (.t 10)
 (.seq
 (.ops 11 1 (oO 0 2 (.mov (.c (.int .i64 3))) ::
 []))
 .ret)
 .skip))
 (.seq
 (.seq
 (.ops 12 3 (mM 0 11 0 ::
 oO 1 12 (.callF f_polygon_simple [(.t 11)]) ::
 oO 2 13 (.un .not (.t 12)) ::
 []))
 (.cond (.t 13)
 (.seq
 (.ops 15 1 (oO 0 2 (.mov (.c (.int .i64 11))) ::
 []))
 .ret)
 .skip))
 (.seq
 (.ops 16 1 (oO 0 2 (.mov (.c (.int .i64 0))) ::
 []))
 .ret)))))),
 [.t 2]⟩

def k_r24_Vertices : KFn := ⟨
 (.seq
 (.ops 8 1 (oO 0 4 (.mov (.c (.int .i64 0))) ::
 []))
 (.seq
 (.ops 9 1 (oO 0 5 (.mov (.c (.int .i64 0))) ::
 []))
 (.seq
 (.seq
 (.ops 10 1 (oO 0 6 (.mov (.c (.int .i64 0))) ::
 []))
 (.block 0
 (.loop [(0, 0), (1, 0), (5, 0), (6, 0)]
 (.seq
 (.seq
 (.ops 11 9 (mM 0 7 6 ::
 mM 1 8 0 ::
 oO 2 9 (.len .sl (.t 8)) ::
 oO 3 10 (.bin .lss .no (.t 7) (.t 9)) ::
 mM 4 11 10 ::
 gG 5 12 11 true (.mov (.t 5)) ::
 gG 6 13 11 true (.mov (.t 1)) ::
 gG 7 14 11 true (.bin .leq .no (.t 12) (.t 13)) ::
 oO 8 15 (.pick (.t 11) (.t 14) (.c (.bool false))) ::
 []))
 (.cond (.t 15)
 .skip
 (.exit 0)))
 (.seq
 (.block 1
 (.ops 20 13 (mM 0 18 5 ::
 mM 1 19 0 ::
 mM 2 20 6 ::
 oO 3 21 (.ixs 2 (.t 19) (.t 20)) ::
 oO 4 22 (.off 1 (.t 21)) ::
 oO 5 23 (.load false false 1 (.t 22)) ::
 oO 6 24 (.len .sl (.t 23)) ::
 oO 7 25 (.bin .add .no (.t 18) (.t 24)) ::
 oO 8 26 (.bin .add .no (.t 25) (.c (.int .i64 1))) ::
 mM 9 27 1 ::
 oO 10 28 (.bin .add .no (.t 27) (.c (.int .i64 1))) ::
 oO 11 29 (.mm false [(.t 26), (.t 28)]) ::
 mM 12 5 29 ::
 [])))
 (.ops 33 3 (mM 0 16 6 ::
 oO 1 17 (.bin .add .no (.t 16) (.c (.int .i64 1))) ::
 mM 2 6 17 ::
 [])))))))
 (.seq
 (.ops 36 2 (mM 0 30 5 ::
 mM 1 4 30 ::
 []))
 .ret)))),
 [.t 4]⟩

def k_outline_vertices : KFn := ⟨
 (.seq
 (.ops 8 1 (oO 0 2 (.mov (.c .nilsl)) ::
 []))
 (.seq
 (.ops 9 1 (oO 0 3 (.mov (.c .nilsl)) ::
 []))
 (.seq
 (.seq
 (.ops 10 3 (mM 0 6 0 ::
 oO 1 7 (.len .sl (.t 6)) ::
 oO 2 8 (.mov (.c (.int .i64 0))) ::
 []))
 (.block 0
 (.loop [(3, 2), (6, 0), (7, 0), (8, 0)]
 (.seq
 (.ops 13 1 (oO 0 9 (.bin .lss .no (.t 8) (.t 7)) ::
 []))
 (.seq
 (.cond (.t 9)
 .skip
 (.exit 0))
 (.seq
 (.block 1
 (.seq
 (.ops 14 4 (oO 0 10 (.ixs 2 (.t 6) (.t 8)) ::
 oO 1 11 (.load false true 2 (.t 10)) ::
 oO 2 5 (.new 2 (.agg [(.str ⟨#[]⟩), .nilsl])) ::
 ⟨3, none, none, .all, .store true 2 (.t 5) (.t 11)⟩ ::
 []))
 (.ops 18 10 (mM 0 12 3 ::
 oO 1 13 (.off 1 (.t 5)) ::
 oO 2 14 (.load true false 1 (.t 13)) ::
 oO 3 15 (.off 1 (.t 5)) ::
 oO 4 16 (.load true false 1 (.t 15)) ::
 oO 5 17 (.len .sl (.t 16)) ::
 oO 6 18 (.bin .sub .no (.t 17) (.c (.int .i64 1))) ::
 oO 7 19 (.slsl 2 (.t 14) none (some (.t 18)) none) ::
 oO 8 20 (.append ⟨2, 16, (.agg [(.int .i64 0), (.int .i64 0)])⟩ .sl (.t 12) (.t 19)) ::
 mM 9 3 20 ::
 []))))
 (.ops 28 2 (oO 0 21 (.bin .add .no (.t 8) (.c (.int .i64 1))) ::
 mM 1 8 21 ::
 []))))))))
 (.seq
 (.ops 30 2 (mM 0 22 3 ::
 mM 1 2 22 ::
 []))
 .ret)))),
 [.t 2]⟩

def k_allowance_segmentWidths : KFn := ⟨
 (.seq
 (.ops 16 1 (oO 0 4 (.mov (.c .nilsl)) ::
 []))
 (.seq
 (.ops 17 1 (oO 0 5 (.mov (.c .nilsl)) ::
 []))
 (.seq
 (.seq
 (.ops 18 3 (mM 0 8 0 ::
 oO 1 9 (.len .sl (.t 8)) ::
 oO 2 10 (.mov (.c (.int .i64 0))) ::
 []))
 (.block 0
 (.loop [(1, 0), (5, 1), (8, 0), (9, 0), (10, 0)]
 (.seq
 (.ops 21 1 (oO 0 11 (.bin .lss .no (.t 10) (.t 9)) ::
 []))
 (.seq
 (.cond (.t 11)
 .skip
 (.exit 0))
 (.seq
 (.block 1
 (.seq
 (.ops 22 6 (mM 0 12 10 ::
 oO 1 13 (.ixs 2 (.t 8) (.t 10)) ::
 oO 2 14 (.load false true 2 (.t 13)) ::
 oO 3 7 (.new 2 (.agg [(.str ⟨#[]⟩), .nilsl])) ::
 mM 4 6 12 ::
 ⟨5, none, none, .all, .store true 2 (.t 7) (.t 14)⟩ ::
 []))
 (.seq
 (.ops 28 5 (oO 0 15 (.off 1 (.t 7)) ::
 oO 1 16 (.load true false 1 (.t 15)) ::
 oO 2 17 (.len .sl (.t 16)) ::
 oO 3 18 (.bin .sub .no (.t 17) (.c (.int .i64 1))) ::
 oO 4 19 (.mov (.c (.int .i64 0))) ::
 []))
 (.block 2
 (.loop [(1, 0), (5, 1), (6, 0), (8, 0), (9, 0), (10, 0), (18, 0), (19, 0)]
 (.seq
 (.ops 33 1 (oO 0 20 (.bin .lss .no (.t 19) (.t 18)) ::
 []))
 (.seq
 (.cond (.t 20)
 .skip
 (.exit 2))
 (.seq
 (.block 3
 (.ops 34 8 (mM 0 21 5 ::
 mM 1 22 1 ::
 mM 2 23 6 ::
 oO 3 24 (.ixs 1 (.t 22) (.t 23)) ::
 oO 4 25 (.load false false 1 (.t 24)) ::
 oO 5 26 (.buildSlice 1 1 [(.int .i64 0)] [(0, (.t 25))]) ::
 oO 6 27 (.append ⟨1, 8, (.int .i64 0)⟩ .sl (.t 21) (.t 26)) ::
 mM 7 5 27 ::
 [])))
 (.ops 42 2 (oO 0 28 (.bin .add .no (.t 19) (.c (.int .i64 1))) ::
 mM 1 19 28 ::
 []))))))))))
 (.ops 44 2 (oO 0 29 (.bin .add .no (.t 10) (.c (.int .i64 1))) ::
 mM 1 10 29 ::
 []))))))))
 (.seq
 (.ops 46 2 (mM 0 30 5 ::
 mM 1 4 30 ::
 []))
 .ret)))),
 [.t 4]⟩

def k_allowance_sum : KFn := ⟨
 (.seq
 (.ops 0 3 (oO 0 2 (.box 2 (.t 0)) ::
 oO 1 3 (.box 2 (.t 1)) ::
 oO 2 4 (.new 2 (.agg [(.int .i64 0), (.int .i64 0)])) ::
 []))
 (.seq
 (.ops 3 12 (oO 0 5 (.off 0 (.t 2)) ::
 oO 1 6 (.load true false 1 (.t 5)) ::
 oO 2 7 (.off 0 (.t 3)) ::
 oO 3 8 (.load true false 1 (.t 7)) ::
 oO 4 9 (.bin .add .no (.t 6) (.t 8)) ::
 oO 5 10 (.off 1 (.t 2)) ::
 oO 6 11 (.load true false 1 (.t 10)) ::
 oO 7 12 (.off 1 (.t 3)) ::
 oO 8 13 (.load true false 1 (.t 12)) ::
 oO 9 14 (.bin .add .no (.t 11) (.t 13)) ::
 oO 10 15 (.build [(.int .i64 0), (.int .i64 0)] [(0, 1, (.t 9)), (1, 1, (.t 14))]) ::
 ⟨11, none, none, .all, .store true 2 (.t 4) (.t 15)⟩ ::
 []))
 .ret)),
 [.cell 4 true 2]⟩

def k_allowance_corner : KFn := ⟨
 (.seq
 (.ops 0 4 (oO 0 3 (.box 2 (.t 0)) ::
 oO 1 4 (.box 5 (.t 1)) ::
 oO 2 5 (.box 5 (.t 2)) ::
 oO 3 6 (.mov (.c .nilsl)) ::
 []))
 (.seq
 (.ops 4 19 (oO 0 12 (.off 0 (.t 4)) ::
 ⟨1, some 13, none, (.bef 1 19), .load true true 2 (.t 12)⟩ ::
 ⟨2, some 14, none, (.bef 3 19), .callF f_allowance_exact [(.t 13)]⟩ ::
 oO 3 15 (.off 2 (.t 4)) ::
 ⟨4, some 16, none, (.bef 8 19), .load true true 2 (.t 15)⟩ ::
 ⟨5, some 17, none, (.bef 31 19), .callF f_allowance_exact [(.t 16)]⟩ ::
 oO 6 18 (.off 0 (.t 5)) ::
 ⟨7, some 19, none, (.bef 64 19), .load true true 2 (.t 18)⟩ ::
 ⟨8, some 20, none, (.bef 255 19), .callF f_allowance_exact [(.t 19)]⟩ ::
 oO 9 21 (.off 2 (.t 5)) ::
 ⟨10, some 22, none, (.bef 512 19), .load true true 2 (.t 21)⟩ ::
 ⟨11, some 23, none, (.bef 2047 19), .callF f_allowance_exact [(.t 22)]⟩ ::
 ⟨12, some 24, none, (.bef 4095 19), .callF f_point_Meet [(.t 14), (.t 17), (.t 20), (.t 23)]⟩ ::
 mM 13 11 24 ::
 oO 14 25 (.extract (.t 11) 0) ::
 oO 15 26 (.extract (.t 11) 1) ::
 ⟨16, some 7, none, (.bef 0 19), .new 6 (.agg [(.bool false), .nilsl, .nilsl, (.bool false), .nilsl, .nilsl])⟩ ::
 ⟨17, none, none, (.init 16), .store true 6 (.t 7) (.t 25)⟩ ::
 mM 18 8 26 ::
 []))
 (.seq
 (.seq
 (.ops 23 2 (mM 0 27 8 ::
 oO 1 28 (.bin .eql .no (.t 27) (.c (.int .i64 0))) ::
 []))
 (.cond (.t 28)
 (.seq
 (.ops 25 11 (⟨0, some 30, none, (.bef 0 11), .load true true 6 (.t 7)⟩ ::
 ⟨1, some 31, none, (.bef 0 11), .load true true 2 (.t 3)⟩ ::
 ⟨2, some 32, none, (.bef 2 11), .callF f_allowance_exact [(.t 31)]⟩ ::
 ⟨3, some 33, none, (.bef 7 11), .callF f_point_Sub [(.t 30), (.t 32)]⟩ ::
 ⟨4, some 34, none, (.bef 15 11), .callF f_point_Grid [(.t 33)]⟩ ::
 mM 5 29 34 ::
 oO 6 35 (.extract (.t 29) 0) ::
 oO 7 36 (.extract (.t 29) 1) ::
 ⟨8, some 9, none, (.bef 0 11), .new 2 (.agg [(.int .i64 0), (.int .i64 0)])⟩ ::
 ⟨9, none, none, (.init 8), .store true 2 (.t 9) (.t 35)⟩ ::
 mM 10 10 36 ::
 []))
 (.seq
 (.ops 36 13 (mM 0 37 10 ::
 oO 1 38 (.bin .eql .no (.t 37) (.c (.int .i64 0))) ::
 mM 2 39 38 ::
 gG 3 40 39 true (.load true true 2 (.t 9)) ::
 gG 4 41 39 true (.off 4 (.t 4)) ::
 gG 5 42 39 true (.load true false 1 (.t 41)) ::
 gG 6 43 39 true (.off 4 (.t 5)) ::
 gG 7 44 39 true (.load true false 1 (.t 43)) ::
 gG 8 45 39 true (.mm true [(.t 42), (.t 44)]) ::
 gG 9 46 39 true (.bin .mul .no (.c (.int .i64 4)) (.t 45)) ::
 gG 10 47 39 true (.bin .add .no (.t 46) (.c (.int .i64 4))) ::
 gG 11 48 39 true (.callF f_allowance_within [(.t 40), (.t 47)]) ::
 oO 12 49 (.pick (.t 39) (.t 48) (.c (.bool false))) ::
 []))
 (.cond (.t 49)
 (.seq
 (.ops 49 5 (oO 0 50 (.load true true 2 (.t 3)) ::
 oO 1 51 (.load true true 2 (.t 9)) ::
 oO 2 52 (.callF f_allowance_sum [(.t 50), (.t 51)]) ::
 oO 3 53 (.buildSlice 2 1 [(.agg [(.int .i64 0), (.int .i64 0)])] [(0, (.t 52))]) ::
 mM 4 6 53 ::
 []))
 .ret)
 .skip)))
 .skip))
 (.seq
 (.ops 54 6 (oO 0 54 (.off 2 (.t 4)) ::
 oO 1 55 (.load true true 2 (.t 54)) ::
 oO 2 56 (.off 0 (.t 5)) ::
 oO 3 57 (.load true true 2 (.t 56)) ::
 oO 4 58 (.buildSlice 2 2 [(.agg [(.int .i64 0), (.int .i64 0)]), (.agg [(.int .i64 0), (.int .i64 0)])] [(0, (.t 55)), (1, (.t 57))]) ::
 mM 5 6 58 ::
 []))
 .ret)))),
 [.t 6]⟩

def k_allowance_within : KFn := ⟨
 (.seq
 (.ops 0 2 (oO 0 2 (.box 2 (.t 0)) ::
 oO 1 4 (.mov (.c (.bool false))) ::
 []))
 (.seq
 (.ops 2 25 (mM 0 5 1 ::
 oO 1 6 (.un .neg (.t 5)) ::
 oO 2 7 (.off 0 (.t 2)) ::
 oO 3 8 (.load true false 1 (.t 7)) ::
 oO 4 9 (.bin .leq .no (.t 6) (.t 8)) ::
 mM 5 10 9 ::
 gG 6 11 10 true (.off 0 (.t 2)) ::
 gG 7 12 10 true (.load true false 1 (.t 11)) ::
 gG 8 13 10 true (.mov (.t 1)) ::
 gG 9 14 10 true (.bin .leq .no (.t 12) (.t 13)) ::
 oO 10 15 (.pick (.t 10) (.t 14) (.c (.bool false))) ::
 mM 11 16 15 ::
 gG 12 17 16 true (.mov (.t 1)) ::
 gG 13 18 16 true (.un .neg (.t 17)) ::
 gG 14 19 16 true (.off 1 (.t 2)) ::
 gG 15 20 16 true (.load true false 1 (.t 19)) ::
 gG 16 21 16 true (.bin .leq .no (.t 18) (.t 20)) ::
 oO 17 22 (.pick (.t 16) (.t 21) (.c (.bool false))) ::
 mM 18 23 22 ::
 gG 19 24 23 true (.off 1 (.t 2)) ::
 gG 20 25 23 true (.load true false 1 (.t 24)) ::
 gG 21 26 23 true (.mov (.t 1)) ::
 gG 22 27 23 true (.bin .leq .no (.t 25) (.t 26)) ::
 oO 23 28 (.pick (.t 23) (.t 27) (.c (.bool false))) ::
 mM 24 4 28 ::
 []))
 .ret)),
 [.t 4]⟩

def k_allowance_orientation : KFn := ⟨
 (.seq
 (.ops 0 1 (oO 0 2 (.mov (.c (.int .i64 0))) ::
 []))
 (.seq
 (.ops 1 4 (mM 0 3 0 ::
 oO 1 4 (.callF f_polygon_Area2 [(.t 3)]) ::
 oO 2 5 (.callF f_cmp_Compare_int [(.t 4), (.c (.int .i64 0))]) ::
 mM 3 2 5 ::
 []))
 .ret)),
 [.t 2]⟩

def k_allowance_root : KFn := ⟨
 (.seq
 (.ops 4 1 (oO 0 2 (.mov (.c (.int .i64 0))) ::
 []))
 (.seq
 (.ops 5 5 (mM 0 4 0 ::
 oO 1 5 (.conv (.float .f64) (.t 4)) ::
 oO 2 6 (.callF f_math_Sqrt [(.t 5)]) ::
 oO 3 7 (.conv (.int .i64) (.t 6)) ::
 mM 4 3 7 ::
 []))
 (.seq
 (.block 0
 (.loop [(0, 0), (3, 0)]
 (.seq
 (.seq
 (.ops 10 5 (mM 0 8 3 ::
 mM 1 9 3 ::
 oO 2 10 (.bin .mul .no (.t 8) (.t 9)) ::
 mM 3 11 0 ::
 oO 4 12 (.bin .gtr .no (.t 10) (.t 11)) ::
 []))
 (.cond (.t 12)
 .skip
 (.exit 0)))
 (.block 1
 (.ops 15 3 (mM 0 13 3 ::
 oO 1 14 (.bin .sub .no (.t 13) (.c (.int .i64 1))) ::
 mM 2 3 14 ::
 []))))))
 (.seq
 (.block 2
 (.loop [(0, 0), (3, 0)]
 (.seq
 (.seq
 (.ops 18 7 (mM 0 15 3 ::
 oO 1 16 (.bin .add .no (.t 15) (.c (.int .i64 1))) ::
 mM 2 17 3 ::
 oO 3 18 (.bin .add .no (.t 17) (.c (.int .i64 1))) ::
 oO 4 19 (.bin .mul .no (.t 16) (.t 18)) ::
 mM 5 20 0 ::
 oO 6 21 (.bin .leq .no (.t 19) (.t 20)) ::
 []))
 (.cond (.t 21)
 .skip
 (.exit 2)))
 (.block 3
 (.ops 25 3 (mM 0 22 3 ::
 oO 1 23 (.bin .add .no (.t 22) (.c (.int .i64 1))) ::
 mM 2 3 23 ::
 []))))))
 (.seq
 (.ops 28 2 (mM 0 24 3 ::
 mM 1 2 24 ::
 []))
 .ret))))),
 [.t 2]⟩

def k_allowance_rounded : KFn := ⟨
 (.seq
 (.ops 0 1 (oO 0 4 (.mov (.c (.int .i64 0))) ::
 []))
 (.seq
 (.seq
 (.ops 1 2 (mM 0 5 0 ::
 oO 1 6 (.bin .lss .no (.t 5) (.c (.int .i64 0))) ::
 []))
 (.cond (.t 6)
 (.seq
 (.ops 3 6 (mM 0 7 0 ::
 oO 1 8 (.un .neg (.t 7)) ::
 mM 2 9 1 ::
 oO 3 10 (.callF f_allowance_rounded [(.t 8), (.t 9)]) ::
 oO 4 11 (.un .neg (.t 10)) ::
 mM 5 4 11 ::
 []))
 .ret)
 .skip))
 (.seq
 (.ops 9 8 (mM 0 12 0 ::
 oO 1 13 (.bin .mul .no (.c (.int .i64 2)) (.t 12)) ::
 mM 2 14 1 ::
 oO 3 15 (.bin .add .no (.t 13) (.t 14)) ::
 mM 4 16 1 ::
 oO 5 17 (.bin .mul .no (.c (.int .i64 2)) (.t 16)) ::
 oO 6 18 (.bin .quo .no (.t 15) (.t 17)) ::
 mM 7 4 18 ::
 []))
 .ret))),
 [.t 4]⟩

def k_polygon_area : KFn := ⟨
 (.seq
 (.ops 10 1 (oO 0 2 (.mov (.c (.int .i64 0))) ::
 []))
 (.seq
 (.ops 11 1 (oO 0 3 (.mov (.c (.int .i64 0))) ::
 []))
 (.seq
 (.seq
 (.ops 12 3 (mM 0 7 0 ::
 oO 1 8 (.len .sl (.t 7)) ::
 oO 2 9 (.mov (.c (.int .i64 0))) ::
 []))
 (.block 0
 (.loop [(0, 0), (3, 0), (7, 0), (8, 0), (9, 0)]
 (.seq
 (.ops 15 1 (oO 0 10 (.bin .lss .no (.t 9) (.t 8)) ::
 []))
 (.seq
 (.cond (.t 10)
 .skip
 (.exit 0))
 (.seq
 (.block 1
 (.seq
 (.ops 16 6 (mM 0 11 9 ::
 oO 1 12 (.ixs 2 (.t 7) (.t 9)) ::
 oO 2 13 (.load false true 2 (.t 12)) ::
 oO 3 5 (.new 2 (.agg [(.int .i64 0), (.int .i64 0)])) ::
 mM 4 4 11 ::
 ⟨5, none, none, .all, .store true 2 (.t 5) (.t 13)⟩ ::
 []))
 (.seq
 (.ops 22 10 (mM 0 14 0 ::
 mM 1 15 4 ::
 oO 2 16 (.bin .add .no (.t 15) (.c (.int .i64 1))) ::
 mM 3 17 0 ::
 oO 4 18 (.len .sl (.t 17)) ::
 oO 5 19 (.bin .rem .no (.t 16) (.t 18)) ::
 oO 6 20 (.ixs 2 (.t 14) (.t 19)) ::
 oO 7 21 (.load false true 2 (.t 20)) ::
 oO 8 6 (.new 2 (.agg [(.int .i64 0), (.int .i64 0)])) ::
 ⟨9, none, none, .all, .store true 2 (.t 6) (.t 21)⟩ ::
 []))
 (.ops 32 14 (mM 0 22 3 ::
 oO 1 23 (.off 0 (.t 5)) ::
 oO 2 24 (.load true false 1 (.t 23)) ::
 oO 3 25 (.off 1 (.t 6)) ::
 oO 4 26 (.load true false 1 (.t 25)) ::
 oO 5 27 (.bin .mul .no (.t 24) (.t 26)) ::
 oO 6 28 (.off 1 (.t 5)) ::
 oO 7 29 (.load true false 1 (.t 28)) ::
 oO 8 30 (.off 0 (.t 6)) ::
 oO 9 31 (.load true false 1 (.t 30)) ::
 oO 10 32 (.bin .mul .no (.t 29) (.t 31)) ::
 oO 11 33 (.bin .sub .no (.t 27) (.t 32)) ::
 oO 12 34 (.bin .add .no (.t 22) (.t 33)) ::
 mM 13 3 34 ::
 [])))))
 (.ops 46 2 (oO 0 35 (.bin .add .no (.t 9) (.c (.int .i64 1))) ::
 mM 1 9 35 ::
 []))))))))
 (.seq
 (.ops 48 2 (mM 0 36 3 ::
 mM 1 2 36 ::
 []))
 .ret)))),
 [.t 2]⟩

def k_polyline_Move : KFn := ⟨
 (.seq
 (.ops 10 2 (oO 0 3 (.box 2 (.t 1)) ::
 oO 1 4 (.mov (.c .nilsl)) ::
 []))
 (.seq
 (.ops 12 4 (mM 0 8 0 ::
 oO 1 9 (.len .sl (.t 8)) ::
 oO 2 10 (.mkslice ⟨2, 16, (.agg [(.int .i64 0), (.int .i64 0)])⟩ (.t 9) (.t 9)) ::
 mM 3 5 10 ::
 []))
 (.seq
 (.seq
 (.ops 16 3 (mM 0 11 0 ::
 oO 1 12 (.len .sl (.t 11)) ::
 oO 2 13 (.mov (.c (.int .i64 0))) ::
 []))
 (.block 0
 (.loop [(3, 0), (5, 0), (11, 0), (12, 0), (13, 0)]
 (.seq
 (.ops 19 1 (oO 0 14 (.bin .lss .no (.t 13) (.t 12)) ::
 []))
 (.seq
 (.cond (.t 14)
 .skip
 (.exit 0))
 (.seq
 (.block 1
 (.seq
 (.ops 20 6 (mM 0 15 13 ::
 oO 1 16 (.ixs 2 (.t 11) (.t 13)) ::
 oO 2 17 (.load false true 2 (.t 16)) ::
 oO 3 7 (.new 2 (.agg [(.int .i64 0), (.int .i64 0)])) ::
 mM 4 6 15 ::
 ⟨5, none, none, .all, .store true 2 (.t 7) (.t 17)⟩ ::
 []))
 (.ops 26 15 (mM 0 18 5 ::
 mM 1 19 6 ::
 oO 2 20 (.off 0 (.t 7)) ::
 oO 3 21 (.load true false 1 (.t 20)) ::
 oO 4 22 (.off 0 (.t 3)) ::
 oO 5 23 (.load true false 1 (.t 22)) ::
 oO 6 24 (.bin .add .no (.t 21) (.t 23)) ::
 oO 7 25 (.off 1 (.t 7)) ::
 oO 8 26 (.load true false 1 (.t 25)) ::
 oO 9 27 (.off 1 (.t 3)) ::
 oO 10 28 (.load true false 1 (.t 27)) ::
 oO 11 29 (.bin .add .no (.t 26) (.t 28)) ::
 oO 12 30 (.build [(.int .i64 0), (.int .i64 0)] [(0, 1, (.t 24)), (1, 1, (.t 29))]) ::
 oO 13 31 (.ixs 2 (.t 18) (.t 19)) ::
 ⟨14, none, none, .all, .store false 2 (.t 31) (.t 30)⟩ ::
 []))))
 (.ops 41 2 (oO 0 32 (.bin .add .no (.t 13) (.c (.int .i64 1))) ::
 mM 1 13 32 ::
 []))))))))
 (.seq
 (.ops 43 2 (mM 0 33 5 ::
 mM 1 4 33 ::
 []))
 .ret)))),
 [.t 4]⟩

def k_outline_isName : KFn := ⟨
 (.seq
 (.ops 0 1 (oO 0 2 (.mov (.c (.bool false))) ::
 []))
 (.seq
 (.ops 1 5 (mM 0 3 0 ::
 oO 1 4 (.build [(.int .i64 0), (.bool false), .nilsl, .nilsl, (.str ⟨#[]⟩), .nilsl] [(0, 1, (.c (.int .i64 2))), (4, 1, (.t 3))]) ::
 oO 2 5 (.callF f_formula_Check [(.t 4)]) ::
 oO 3 6 (.bin .eql .no (.t 5) (.c (.int .i64 0))) ::
 mM 4 2 6 ::
 []))
 .ret)),
 [.t 2]⟩

def k_polyline_Check : KFn := ⟨
 (.seq
 (.ops 6 1 (oO 0 2 (.mov (.c (.int .i64 0))) ::
 []))
 (.seq
 (.seq
 (.ops 7 3 (mM 0 4 0 ::
 oO 1 5 (.len .sl (.t 4)) ::
 oO 2 6 (.bin .gtr .no (.t 5) (.c (.int .i64 40))) ::
 []))
 (.cond (.t 6)
 (.seq
 (.ops 10 1 (oO 0 2 (.mov (.c (.int .i64 5))) ::
 []))
 .ret)
 .skip))
 (.seq
 (.seq
 (.ops 11 3 (mM 0 7 0 ::
 oO 1 8 (.len .sl (.t 7)) ::
 oO 2 9 (.bin .lss .no (.t 8) (.c (.int .i64 2))) ::
 []))
 (.cond (.t 9)
 (.seq
 (.ops 14 1 (oO 0 2 (.mov (.c (.int .i64 11))) ::
 []))
 .ret)
 .skip))
 (.seq
 (.seq
 (.ops 15 2 (mM 0 10 0 ::
 oO 1 11 (.callF f_slices_ContainsFunc_Spot_Spot [(.t 10), (.c (.fn f_polyline_outside [] []))]) ::
 []))
 (.cond (.t 11)
 (.seq
 (.ops 17 1 (oO 0 2 (.mov (.c (.int .i64 3))) ::
 []))
 .ret)
 .skip))
 (.seq
 (.seq
 (.ops 18 4 (mM 0 12 0 ::
 oO 1 13 (.len .sl (.t 12)) ::
 oO 2 14 (.bin .sub .no (.t 13) (.c (.int .i64 1))) ::
 oO 3 15 (.mov (.c (.int .i64 0))) ::
 []))
 (.block 0
 (.loop [(0, 0), (14, 0), (15, 0)]
 (.seq
 (.ops 22 1 (oO 0 16 (.bin .lss .no (.t 15) (.t 14)) ::
 []))
 (.seq
 (.cond (.t 16)
 .skip
 (.exit 0))
 (.seq
 (.block 1
 (.seq
 (.ops 23 2 (mM 0 17 15 ::
 mM 1 3 17 ::
 []))
 (.seq
 (.ops 25 10 (mM 0 18 0 ::
 mM 1 19 3 ::
 ⟨2, some 20, none, (.bef 3 10), .ixs 2 (.t 18) (.t 19)⟩ ::
 ⟨3, some 21, none, (.bef 7 10), .load false true 2 (.t 20)⟩ ::
 mM 4 22 0 ::
 mM 5 23 3 ::
 oO 6 24 (.bin .add .no (.t 23) (.c (.int .i64 1))) ::
 ⟨7, some 25, none, (.bef 112 10), .ixs 2 (.t 22) (.t 24)⟩ ::
 ⟨8, some 26, none, (.bef 240 10), .load false true 2 (.t 25)⟩ ::
 oO 9 27 (.bin .eql (.flat [.int, .int]) (.t 21) (.t 26)) ::
 []))
 (.cond (.t 27)
 (.seq
 (.ops 35 1 (oO 0 2 (.mov (.c (.int .i64 11))) ::
 []))
 .ret)
 .skip))))
 (.ops 36 2 (oO 0 28 (.bin .add .no (.t 15) (.c (.int .i64 1))) ::
 mM 1 15 28 ::
 []))))))))
 (.seq
 (.ops 38 1 (oO 0 2 (.mov (.c (.int .i64 0))) ::
 []))
 .ret)))))),
 [.t 2]⟩

def k_slices_ContainsFunc_Spot_Spot : KFn := ⟨
 (.seq
 (.ops 0 1 (oO 0 4 (.mov (.c (.bool false))) ::
 []))
 (.seq
 (.ops 1 5 (mM 0 5 0 ::
 mM 1 6 1 ::
 oO 2 7 (.callF f_slices_IndexFunc_Spot_Spot [(.t 5), (.t 6)]) ::
 oO 3 8 (.bin .geq .no (.t 7) (.c (.int .i64 0))) ::
 mM 4 4 8 ::
 []))
 .ret)),
 [.t 4]⟩

def k_polygon_outside : KFn := ⟨
 (.seq
 (.ops 0 2 (oO 0 1 (.box 2 (.t 0)) ::
 oO 1 2 (.mov (.c (.bool false))) ::
 []))
 (.seq
 (.ops 2 19 (oO 0 3 (.off 0 (.t 1)) ::
 oO 1 4 (.load true false 1 (.t 3)) ::
 oO 2 5 (.bin .lss .no (.t 4) (.c (.int .i64 (-1048576)))) ::
 mM 3 6 5 ::
 gG 4 7 6 false (.off 0 (.t 1)) ::
 gG 5 8 6 false (.load true false 1 (.t 7)) ::
 gG 6 9 6 false (.bin .gtr .no (.t 8) (.c (.int .i64 1048576))) ::
 oO 7 10 (.pick (.t 6) (.c (.bool true)) (.t 9)) ::
 mM 8 11 10 ::
 gG 9 12 11 false (.off 1 (.t 1)) ::
 gG 10 13 11 false (.load true false 1 (.t 12)) ::
 gG 11 14 11 false (.bin .lss .no (.t 13) (.c (.int .i64 (-1048576)))) ::
 oO 12 15 (.pick (.t 11) (.c (.bool true)) (.t 14)) ::
 mM 13 16 15 ::
 gG 14 17 16 false (.off 1 (.t 1)) ::
 gG 15 18 16 false (.load true false 1 (.t 17)) ::
 gG 16 19 16 false (.bin .gtr .no (.t 18) (.c (.int .i64 1048576))) ::
 oO 17 20 (.pick (.t 16) (.c (.bool true)) (.t 19)) ::
 mM 18 2 20 ::
 []))
 .ret)),
 [.t 2]⟩

def k_polygon_simple : KFn := ⟨
 (.seq
 (.ops 18 1 (oO 0 2 (.mov (.c (.bool false))) ::
 []))
 (.seq
 (.ops 19 3 (mM 0 10 0 ::
 oO 1 11 (.len .sl (.t 10)) ::
 mM 2 3 11 ::
 []))
 (.seq
 (.seq
 (.ops 22 3 (mM 0 12 0 ::
 oO 1 13 (.len .sl (.t 12)) ::
 oO 2 14 (.mov (.c (.int .i64 0))) ::
 []))
 (.block 0
 (.loop [(0, 0), (3, 0), (12, 0), (13, 0), (14, 0)]
 (.seq
 (.ops 25 1 (oO 0 15 (.bin .lss .no (.t 14) (.t 13)) ::
 []))
 (.seq
 (.cond (.t 15)
 .skip
 (.exit 0))
 (.seq
 (.block 1
 (.seq
 (.ops 26 6 (mM 0 16 14 ::
 oO 1 17 (.ixs 2 (.t 12) (.t 14)) ::
 oO 2 18 (.load false true 2 (.t 17)) ::
 oO 3 5 (.new 2 (.agg [(.int .i64 0), (.int .i64 0)])) ::
 mM 4 4 16 ::
 ⟨5, none, none, .all, .store true 2 (.t 5) (.t 18)⟩ ::
 []))
 (.seq
 (.ops 32 5 (mM 0 19 0 ::
 mM 1 20 4 ::
 ⟨2, some 21, none, (.bef 3 5), .slsl 2 (.t 19) none (some (.t 20)) none⟩ ::
 ⟨3, some 22, none, (.bef 0 5), .load true true 2 (.t 5)⟩ ::
 ⟨4, some 23, none, (.bef 15 5), .callF f_slices_Contains_Spot_Spot [(.t 21), (.t 22)]⟩ ::
 []))
 (.cond (.t 23)
 (.seq
 (.ops 37 1 (oO 0 2 (.mov (.c (.bool false))) ::
 []))
 .ret)
 .skip))))
 (.ops 38 2 (oO 0 24 (.bin .add .no (.t 14) (.c (.int .i64 1))) ::
 mM 1 14 24 ::
 []))))))))
 (.seq
 (.seq
 (.ops 40 3 (mM 0 25 0 ::
 oO 1 26 (.len .sl (.t 25)) ::
 oO 2 27 (.mov (.c (.int .i64 0))) ::
 []))
 (.block 2
 (.loop [(0, 0), (3, 0), (25, 0), (26, 0), (27, 0)]
 (.seq
 (.ops 43 1 (oO 0 28 (.bin .lss .no (.t 27) (.t 26)) ::
 []))
 (.seq
 (.cond (.t 28)
 .skip
 (.exit 2))
 (.seq
 (.block 3
 (.seq
 (.ops 44 6 (mM 0 29 27 ::
 oO 1 30 (.ixs 2 (.t 25) (.t 27)) ::
 oO 2 31 (.load false true 2 (.t 30)) ::
 oO 3 7 (.new 2 (.agg [(.int .i64 0), (.int .i64 0)])) ::
 mM 4 6 29 ::
 ⟨5, none, none, .all, .store true 2 (.t 7) (.t 31)⟩ ::
 []))
 (.seq
 (.ops 50 9 (mM 0 32 0 ::
 mM 1 33 6 ::
 oO 2 34 (.bin .add .no (.t 33) (.c (.int .i64 1))) ::
 mM 3 35 3 ::
 oO 4 36 (.bin .rem .no (.t 34) (.t 35)) ::
 oO 5 37 (.ixs 2 (.t 32) (.t 36)) ::
 oO 6 38 (.load false true 2 (.t 37)) ::
 oO 7 8 (.new 2 (.agg [(.int .i64 0), (.int .i64 0)])) ::
 ⟨8, none, none, .all, .store true 2 (.t 8) (.t 38)⟩ ::
 []))
 (.seq
 (.seq
 (.ops 59 10 (⟨0, some 39, none, (.bef 0 10), .load true true 2 (.t 7)⟩ ::
 ⟨1, some 40, none, (.bef 0 10), .load true true 2 (.t 8)⟩ ::
 mM 2 41 0 ::
 mM 3 42 6 ::
 oO 4 43 (.bin .add .no (.t 42) (.c (.int .i64 2))) ::
 mM 5 44 3 ::
 oO 6 45 (.bin .rem .no (.t 43) (.t 44)) ::
 ⟨7, some 46, none, (.bef 124 10), .ixs 2 (.t 41) (.t 45)⟩ ::
 ⟨8, some 47, none, (.bef 252 10), .load false true 2 (.t 46)⟩ ::
 ⟨9, some 48, none, (.bef 511 10), .callF f_polygon_folded [(.t 39), (.t 40), (.t 47)]⟩ ::
 []))
 (.cond (.t 48)
 (.seq
 (.ops 69 1 (oO 0 2 (.mov (.c (.bool false))) ::
 []))
 .ret)
 .skip))
 (.seq
 (.ops 70 3 (mM 0 49 6 ::
 oO 1 50 (.bin .add .no (.t 49) (.c (.int .i64 2))) ::
 mM 2 9 50 ::
 []))
 (.block 4
 (.loop [(0, 0), (3, 0), (6, 0), (7, 0), (8, 0), (9, 0), (25, 0), (26, 0), (27, 0)]
 (.seq
 (.seq
 (.ops 73 11 (mM 0 51 9 ::
 mM 1 52 3 ::
 oO 2 53 (.bin .lss .no (.t 51) (.t 52)) ::
 mM 3 54 53 ::
 gG 4 55 54 true (.mov (.t 9)) ::
 gG 5 56 54 true (.bin .add .no (.t 55) (.c (.int .i64 1))) ::
 gG 6 57 54 true (.mov (.t 3)) ::
 gG 7 58 54 true (.bin .rem .no (.t 56) (.t 57)) ::
 gG 8 59 54 true (.mov (.t 6)) ::
 gG 9 60 54 true (.bin .neq .no (.t 58) (.t 59)) ::
 oO 10 61 (.pick (.t 54) (.t 60) (.c (.bool false))) ::
 []))
 (.cond (.t 61)
 .skip
 (.exit 4)))
 (.seq
 (.block 5
 (.seq
 (.ops 84 14 (⟨0, some 64, none, (.bef 0 14), .load true true 2 (.t 7)⟩ ::
 ⟨1, some 65, none, (.bef 0 14), .load true true 2 (.t 8)⟩ ::
 mM 2 66 0 ::
 mM 3 67 9 ::
 ⟨4, some 68, none, (.bef 12 14), .ixs 2 (.t 66) (.t 67)⟩ ::
 ⟨5, some 69, none, (.bef 28 14), .load false true 2 (.t 68)⟩ ::
 mM 6 70 0 ::
 mM 7 71 9 ::
 oO 8 72 (.bin .add .no (.t 71) (.c (.int .i64 1))) ::
 mM 9 73 3 ::
 oO 10 74 (.bin .rem .no (.t 72) (.t 73)) ::
 ⟨11, some 75, none, (.bef 1984 14), .ixs 2 (.t 70) (.t 74)⟩ ::
 ⟨12, some 76, none, (.bef 4032 14), .load false true 2 (.t 75)⟩ ::
 ⟨13, some 77, none, (.bef 8191 14), .callF f_polygon_meet [(.t 64), (.t 65), (.t 69), (.t 76)]⟩ ::
 []))
 (.cond (.t 77)
 (.seq
 (.ops 98 1 (oO 0 2 (.mov (.c (.bool false))) ::
 []))
 .ret)
 .skip)))
 (.ops 99 3 (mM 0 62 9 ::
 oO 1 63 (.bin .add .no (.t 62) (.c (.int .i64 1))) ::
 mM 2 9 63 ::
 [])))))))))))
 (.ops 102 2 (oO 0 78 (.bin .add .no (.t 27) (.c (.int .i64 1))) ::
 mM 1 27 78 ::
 []))))))))
 (.seq
 (.ops 104 1 (oO 0 2 (.mov (.c (.bool true))) ::
 []))
 .ret))))),
 [.t 2]⟩

def k_point_Meet : KFn := ⟨
 (.seq
 (.ops 0 6 (oO 0 4 (.box 6 (.t 0)) ::
 oO 1 5 (.box 6 (.t 1)) ::
 oO 2 6 (.box 6 (.t 2)) ::
 oO 3 7 (.box 6 (.t 3)) ::
 oO 4 8 (.new 6 (.agg [(.bool false), .nilsl, .nilsl, (.bool false), .nilsl, .nilsl])) ::
 oO 5 9 (.mov (.c (.int .i64 0))) ::
 []))
 (.seq
 (.ops 6 5 (oO 0 13 (.load true true 6 (.t 7)) ::
 oO 1 14 (.load true true 6 (.t 6)) ::
 oO 2 15 (.callF f_point_Sub [(.t 13), (.t 14)]) ::
 oO 3 10 (.new 6 (.agg [(.bool false), .nilsl, .nilsl, (.bool false), .nilsl, .nilsl])) ::
 ⟨4, none, none, .all, .store true 6 (.t 10) (.t 15)⟩ ::
 []))
 (.seq
 (.ops 11 17 (⟨0, some 17, none, (.bef 0 17), .load true true 6 (.t 6)⟩ ::
 ⟨1, some 18, none, (.bef 0 17), .load true true 6 (.t 4)⟩ ::
 ⟨2, some 19, none, (.bef 3 17), .callF f_point_Sub [(.t 17), (.t 18)]⟩ ::
 ⟨3, some 20, none, (.bef 0 17), .load true true 6 (.t 10)⟩ ::
 ⟨4, some 21, none, (.bef 15 17), .callF f_point_Cross [(.t 19), (.t 20)]⟩ ::
 ⟨5, some 22, none, (.bef 0 17), .load true true 6 (.t 5)⟩ ::
 ⟨6, some 23, none, (.bef 0 17), .load true true 6 (.t 4)⟩ ::
 ⟨7, some 24, none, (.bef 127 17), .callF f_point_Sub [(.t 22), (.t 23)]⟩ ::
 ⟨8, some 25, none, (.bef 0 17), .load true true 6 (.t 10)⟩ ::
 ⟨9, some 26, none, (.bef 511 17), .callF f_point_Cross [(.t 24), (.t 25)]⟩ ::
 ⟨10, some 27, none, (.bef 1023 17), .callF f_ratio_Div [(.t 21), (.t 26)]⟩ ::
 mM 11 16 27 ::
 oO 12 28 (.extract (.t 16) 0) ::
 oO 13 29 (.extract (.t 16) 1) ::
 ⟨14, some 11, none, (.bef 0 17), .new 3 (.agg [(.bool false), .nilsl, .nilsl])⟩ ::
 ⟨15, none, none, (.init 14), .store true 3 (.t 11) (.t 28)⟩ ::
 mM 16 12 29 ::
 []))
 (.seq
 (.seq
 (.ops 28 2 (mM 0 30 12 ::
 oO 1 31 (.un .not (.t 30)) ::
 []))
 (.cond (.t 31)
 (.seq
 (.ops 30 3 (oO 0 32 (.build [(.bool false), .nilsl, .nilsl, (.bool false), .nilsl, .nilsl] []) ::
 ⟨1, none, none, .all, .store true 6 (.t 8) (.t 32)⟩ ::
 oO 2 9 (.mov (.c (.int .i64 10))) ::
 []))
 .ret)
 .skip))
 (.seq
 (.ops 33 6 (oO 0 33 (.load true true 6 (.t 4)) ::
 oO 1 34 (.load true true 6 (.t 5)) ::
 oO 2 35 (.load true true 3 (.t 11)) ::
 oO 3 36 (.callF f_point_On [(.t 33), (.t 34), (.t 35)]) ::
 ⟨4, none, none, .all, .store true 6 (.t 8) (.t 36)⟩ ::
 oO 5 9 (.mov (.c (.int .i64 0))) ::
 []))
 .ret))))),
 [.cell 8 true 6, .t 9]⟩

def k_allowance_exact : KFn := ⟨
 (.seq
 (.ops 0 2 (oO 0 1 (.box 2 (.t 0)) ::
 oO 1 2 (.new 6 (.agg [(.bool false), .nilsl, .nilsl, (.bool false), .nilsl, .nilsl])) ::
 []))
 (.seq
 (.ops 2 6 (oO 0 3 (.off 0 (.t 1)) ::
 oO 1 4 (.load true false 1 (.t 3)) ::
 oO 2 5 (.off 1 (.t 1)) ::
 oO 3 6 (.load true false 1 (.t 5)) ::
 oO 4 7 (.callF f_point_Of [(.t 4), (.t 6)]) ::
 ⟨5, none, none, .all, .store true 6 (.t 2) (.t 7)⟩ ::
 []))
 .ret)),
 [.cell 2 true 6]⟩

def k_point_Grid : KFn := ⟨
 (.seq
 (.ops 0 3 (oO 0 1 (.box 6 (.t 0)) ::
 oO 1 2 (.new 2 (.agg [(.int .i64 0), (.int .i64 0)])) ::
 oO 2 3 (.mov (.c (.int .i64 0))) ::
 []))
 (.seq
 (.ops 3 8 (oO 0 9 (.off 0 (.t 1)) ::
 oO 1 10 (.load true true 3 (.t 9)) ::
 oO 2 11 (.callF f_point_coordinate [(.t 10)]) ::
 mM 3 8 11 ::
 oO 4 12 (.extract (.t 8) 0) ::
 oO 5 13 (.extract (.t 8) 1) ::
 mM 6 4 12 ::
 mM 7 5 13 ::
 []))
 (.seq
 (.ops 11 8 (oO 0 15 (.off 3 (.t 1)) ::
 oO 1 16 (.load true true 3 (.t 15)) ::
 oO 2 17 (.callF f_point_coordinate [(.t 16)]) ::
 mM 3 14 17 ::
 oO 4 18 (.extract (.t 14) 0) ::
 oO 5 19 (.extract (.t 14) 1) ::
 mM 6 6 18 ::
 mM 7 7 19 ::
 []))
 (.seq
 (.seq
 (.ops 19 6 (mM 0 20 5 ::
 oO 1 21 (.un .not (.t 20)) ::
 mM 2 22 21 ::
 gG 3 23 22 false (.mov (.t 7)) ::
 gG 4 24 22 false (.un .not (.t 23)) ::
 oO 5 25 (.pick (.t 22) (.c (.bool true)) (.t 24)) ::
 []))
 (.cond (.t 25)
 (.seq
 (.ops 25 3 (oO 0 26 (.build [(.int .i64 0), (.int .i64 0)] []) ::
 ⟨1, none, none, .all, .store true 2 (.t 2) (.t 26)⟩ ::
 oO 2 3 (.mov (.c (.int .i64 3))) ::
 []))
 .ret)
 .skip))
 (.seq
 (.ops 28 5 (mM 0 27 4 ::
 mM 1 28 6 ::
 oO 2 29 (.build [(.int .i64 0), (.int .i64 0)] [(0, 1, (.t 27)), (1, 1, (.t 28))]) ::
 ⟨3, none, none, .all, .store true 2 (.t 2) (.t 29)⟩ ::
 oO 4 3 (.mov (.c (.int .i64 0))) ::
 []))
 .ret))))),
 [.cell 2 true 2, .t 3]⟩

def k_point_Sub : KFn := ⟨
 (.seq
 (.ops 0 3 (oO 0 2 (.box 6 (.t 0)) ::
 oO 1 3 (.box 6 (.t 1)) ::
 oO 2 4 (.new 6 (.agg [(.bool false), .nilsl, .nilsl, (.bool false), .nilsl, .nilsl])) ::
 []))
 (.seq
 (.ops 3 12 (oO 0 5 (.off 0 (.t 2)) ::
 ⟨1, some 6, none, (.bef 1 12), .load true true 3 (.t 5)⟩ ::
 oO 2 7 (.off 0 (.t 3)) ::
 ⟨3, some 8, none, (.bef 4 12), .load true true 3 (.t 7)⟩ ::
 ⟨4, some 9, none, (.bef 15 12), .callF f_ratio_Sub [(.t 6), (.t 8)]⟩ ::
 oO 5 10 (.off 3 (.t 2)) ::
 ⟨6, some 11, none, (.bef 32 12), .load true true 3 (.t 10)⟩ ::
 oO 7 12 (.off 3 (.t 3)) ::
 ⟨8, some 13, none, (.bef 128 12), .load true true 3 (.t 12)⟩ ::
 ⟨9, some 14, none, (.bef 511 12), .callF f_ratio_Sub [(.t 11), (.t 13)]⟩ ::
 oO 10 15 (.build [(.bool false), .nilsl, .nilsl, (.bool false), .nilsl, .nilsl] [(0, 3, (.t 9)), (3, 3, (.t 14))]) ::
 ⟨11, none, none, (.bef 2047 12), .store true 6 (.t 4) (.t 15)⟩ ::
 []))
 .ret)),
 [.cell 4 true 6]⟩

def k_cmp_Compare_int : KFn := ⟨
 (.seq
 (.ops 0 1 (oO 0 4 (.mov (.c (.int .i64 0))) ::
 []))
 (.seq
 (.ops 1 3 (mM 0 7 0 ::
 oO 1 8 (.callF f_cmp_isNaN_int [(.t 7)]) ::
 mM 2 5 8 ::
 []))
 (.seq
 (.ops 4 3 (mM 0 9 1 ::
 oO 1 10 (.callF f_cmp_isNaN_int [(.t 9)]) ::
 mM 2 6 10 ::
 []))
 (.seq
 (.seq
 (.ops 7 1 (mM 0 11 5 ::
 []))
 (.cond (.t 11)
 (.seq
 (.seq
 (.ops 8 1 (mM 0 12 6 ::
 []))
 (.cond (.t 12)
 (.seq
 (.ops 9 1 (oO 0 4 (.mov (.c (.int .i64 0))) ::
 []))
 .ret)
 .skip))
 (.seq
 (.ops 10 1 (oO 0 4 (.mov (.c (.int .i64 (-1)))) ::
 []))
 .ret))
 .skip))
 (.seq
 (.seq
 (.ops 11 1 (mM 0 13 6 ::
 []))
 (.cond (.t 13)
 (.seq
 (.ops 12 1 (oO 0 4 (.mov (.c (.int .i64 1))) ::
 []))
 .ret)
 .skip))
 (.seq
 (.seq
 (.ops 13 3 (mM 0 14 0 ::
 mM 1 15 1 ::
 oO 2 16 (.bin .lss .no (.t 14) (.t 15)) ::
 []))
 (.cond (.t 16)
 (.seq
 (.ops 16 1 (oO 0 4 (.mov (.c (.int .i64 (-1)))) ::
 []))
 .ret)
 .skip))
 (.seq
 (.seq
 (.ops 17 3 (mM 0 17 0 ::
 mM 1 18 1 ::
 oO 2 19 (.bin .gtr .no (.t 17) (.t 18)) ::
 []))
 (.cond (.t 19)
 (.seq
 (.ops 20 1 (oO 0 4 (.mov (.c (.int .i64 1))) ::
 []))
 .ret)
 .skip))
 (.seq
 (.ops 21 1 (oO 0 4 (.mov (.c (.int .i64 0))) ::
 []))
 .ret)))))))),
 [.t 4]⟩

def k_math_Sqrt : KFn := ⟨
 (.seq
 (.ops 0 1 (oO 0 2 (.mov (.c (.float .f64 0))) ::
 []))
 (.seq
 (.ops 1 3 (mM 0 3 0 ::
 oO 1 4 (.callF f_math_sqrt [(.t 3)]) ::
 mM 2 2 4 ::
 []))
 .ret)),
 [.t 2]⟩

def k_formula_Check : KFn := ⟨
 (.seq
 (.ops 0 2 (oO 0 1 (.box 6 (.t 0)) ::
 oO 1 2 (.mov (.c (.int .i64 0))) ::
 []))
 (.seq
 (.ops 2 3 (oO 0 3 (.load true true 6 (.t 1)) ::
 oO 1 4 (.callF f_formula_check [(.t 3), (.c (.int .i64 1))]) ::
 mM 2 2 4 ::
 []))
 .ret)),
 [.t 2]⟩

def k_polyline_outside : KFn := ⟨
 (.seq
 (.ops 0 2 (oO 0 1 (.box 2 (.t 0)) ::
 oO 1 2 (.mov (.c (.bool false))) ::
 []))
 (.seq
 (.ops 2 19 (oO 0 3 (.off 0 (.t 1)) ::
 oO 1 4 (.load true false 1 (.t 3)) ::
 oO 2 5 (.bin .lss .no (.t 4) (.c (.int .i64 (-1048576)))) ::
 mM 3 6 5 ::
 gG 4 7 6 false (.off 0 (.t 1)) ::
 gG 5 8 6 false (.load true false 1 (.t 7)) ::
 gG 6 9 6 false (.bin .gtr .no (.t 8) (.c (.int .i64 1048576))) ::
 oO 7 10 (.pick (.t 6) (.c (.bool true)) (.t 9)) ::
 mM 8 11 10 ::
 gG 9 12 11 false (.off 1 (.t 1)) ::
 gG 10 13 11 false (.load true false 1 (.t 12)) ::
 gG 11 14 11 false (.bin .lss .no (.t 13) (.c (.int .i64 (-1048576)))) ::
 oO 12 15 (.pick (.t 11) (.c (.bool true)) (.t 14)) ::
 mM 13 16 15 ::
 gG 14 17 16 false (.off 1 (.t 1)) ::
 gG 15 18 16 false (.load true false 1 (.t 17)) ::
 gG 16 19 16 false (.bin .gtr .no (.t 18) (.c (.int .i64 1048576))) ::
 oO 17 20 (.pick (.t 16) (.c (.bool true)) (.t 19)) ::
 mM 18 2 20 ::
 []))
 .ret)),
 [.t 2]⟩

def k_slices_IndexFunc_Spot_Spot : KFn := ⟨
 (.seq
 (.ops 8 1 (oO 0 4 (.mov (.c (.int .i64 0))) ::
 []))
 (.seq
 (.seq
 (.ops 9 3 (mM 0 6 0 ::
 oO 1 7 (.len .sl (.t 6)) ::
 oO 2 8 (.mov (.c (.int .i64 0))) ::
 []))
 (.block 0
 (.loop [(0, 0), (1, 0), (7, 0), (8, 0)]
 (.seq
 (.ops 12 1 (oO 0 9 (.bin .lss .no (.t 8) (.t 7)) ::
 []))
 (.seq
 (.cond (.t 9)
 .skip
 (.exit 0))
 (.seq
 (.block 1
 (.seq
 (.ops 13 2 (mM 0 10 8 ::
 mM 1 5 10 ::
 []))
 (.seq
 (.ops 15 6 (mM 0 11 1 ::
 mM 1 12 0 ::
 mM 2 13 5 ::
 oO 3 14 (.ixs 2 (.t 12) (.t 13)) ::
 oO 4 15 (.load false true 2 (.t 14)) ::
 oO 5 16 (.callV (.t 11) [(.t 15)]) ::
 []))
 (.cond (.t 16)
 (.seq
 (.ops 21 2 (mM 0 17 5 ::
 mM 1 4 17 ::
 []))
 .ret)
 .skip))))
 (.ops 23 2 (oO 0 18 (.bin .add .no (.t 8) (.c (.int .i64 1))) ::
 mM 1 8 18 ::
 []))))))))
 (.seq
 (.ops 25 1 (oO 0 4 (.mov (.c (.int .i64 (-1)))) ::
 []))
 .ret))),
 [.t 4]⟩

def k_slices_Contains_Spot_Spot : KFn := ⟨
 (.seq
 (.ops 0 2 (oO 0 3 (.box 2 (.t 1)) ::
 oO 1 4 (.mov (.c (.bool false))) ::
 []))
 (.seq
 (.ops 2 5 (mM 0 5 0 ::
 oO 1 6 (.load true true 2 (.t 3)) ::
 oO 2 7 (.callF f_slices_Index_Spot_Spot [(.t 5), (.t 6)]) ::
 oO 3 8 (.bin .geq .no (.t 7) (.c (.int .i64 0))) ::
 mM 4 4 8 ::
 []))
 .ret)),
 [.t 4]⟩

def k_polygon_folded : KFn := ⟨
 (.seq
 (.ops 0 4 (oO 0 3 (.box 2 (.t 0)) ::
 oO 1 4 (.box 2 (.t 1)) ::
 oO 2 5 (.box 2 (.t 2)) ::
 oO 3 6 (.mov (.c (.bool false))) ::
 []))
 (.seq
 (.ops 4 32 (oO 0 7 (.load true true 2 (.t 3)) ::
 oO 1 8 (.load true true 2 (.t 4)) ::
 oO 2 9 (.load true true 2 (.t 5)) ::
 oO 3 10 (.callF f_polygon_cross [(.t 7), (.t 8), (.t 9)]) ::
 oO 4 11 (.bin .eql .no (.t 10) (.c (.int .i64 0))) ::
 mM 5 12 11 ::
 gG 6 13 12 true (.off 0 (.t 3)) ::
 gG 7 14 12 true (.load true false 1 (.t 13)) ::
 gG 8 15 12 true (.off 0 (.t 4)) ::
 gG 9 16 12 true (.load true false 1 (.t 15)) ::
 gG 10 17 12 true (.bin .sub .no (.t 14) (.t 16)) ::
 gG 11 18 12 true (.off 0 (.t 5)) ::
 gG 12 19 12 true (.load true false 1 (.t 18)) ::
 gG 13 20 12 true (.off 0 (.t 4)) ::
 gG 14 21 12 true (.load true false 1 (.t 20)) ::
 gG 15 22 12 true (.bin .sub .no (.t 19) (.t 21)) ::
 gG 16 23 12 true (.bin .mul .no (.t 17) (.t 22)) ::
 gG 17 24 12 true (.off 1 (.t 3)) ::
 gG 18 25 12 true (.load true false 1 (.t 24)) ::
 gG 19 26 12 true (.off 1 (.t 4)) ::
 gG 20 27 12 true (.load true false 1 (.t 26)) ::
 gG 21 28 12 true (.bin .sub .no (.t 25) (.t 27)) ::
 gG 22 29 12 true (.off 1 (.t 5)) ::
 gG 23 30 12 true (.load true false 1 (.t 29)) ::
 gG 24 31 12 true (.off 1 (.t 4)) ::
 gG 25 32 12 true (.load true false 1 (.t 31)) ::
 gG 26 33 12 true (.bin .sub .no (.t 30) (.t 32)) ::
 gG 27 34 12 true (.bin .mul .no (.t 28) (.t 33)) ::
 gG 28 35 12 true (.bin .add .no (.t 23) (.t 34)) ::
 gG 29 36 12 true (.bin .gtr .no (.t 35) (.c (.int .i64 0))) ::
 oO 30 37 (.pick (.t 12) (.t 36) (.c (.bool false))) ::
 mM 31 6 37 ::
 []))
 .ret)),
 [.t 6]⟩

def k_polygon_meet : KFn := ⟨
 (.seq
 (.ops 0 5 (oO 0 4 (.box 2 (.t 0)) ::
 oO 1 5 (.box 2 (.t 1)) ::
 oO 2 6 (.box 2 (.t 2)) ::
 oO 3 7 (.box 2 (.t 3)) ::
 oO 4 8 (.mov (.c (.bool false))) ::
 []))
 (.seq
 (.ops 5 37 (oO 0 9 (.load true true 2 (.t 4)) ::
 oO 1 10 (.load true true 2 (.t 5)) ::
 oO 2 11 (.load true true 2 (.t 6)) ::
 oO 3 12 (.callF f_polygon_on [(.t 9), (.t 10), (.t 11)]) ::
 mM 4 13 12 ::
 gG 5 14 13 false (.load true true 2 (.t 4)) ::
 gG 6 15 13 false (.load true true 2 (.t 5)) ::
 gG 7 16 13 false (.load true true 2 (.t 7)) ::
 gG 8 17 13 false (.callF f_polygon_on [(.t 14), (.t 15), (.t 16)]) ::
 oO 9 18 (.pick (.t 13) (.c (.bool true)) (.t 17)) ::
 mM 10 19 18 ::
 gG 11 20 19 false (.load true true 2 (.t 6)) ::
 gG 12 21 19 false (.load true true 2 (.t 7)) ::
 gG 13 22 19 false (.load true true 2 (.t 4)) ::
 gG 14 23 19 false (.callF f_polygon_on [(.t 20), (.t 21), (.t 22)]) ::
 oO 15 24 (.pick (.t 19) (.c (.bool true)) (.t 23)) ::
 mM 16 25 24 ::
 gG 17 26 25 false (.load true true 2 (.t 6)) ::
 gG 18 27 25 false (.load true true 2 (.t 7)) ::
 gG 19 28 25 false (.load true true 2 (.t 5)) ::
 gG 20 29 25 false (.callF f_polygon_on [(.t 26), (.t 27), (.t 28)]) ::
 oO 21 30 (.pick (.t 25) (.c (.bool true)) (.t 29)) ::
 mM 22 31 30 ::
 gG 23 32 31 false (.load true true 2 (.t 4)) ::
 gG 24 33 31 false (.load true true 2 (.t 5)) ::
 gG 25 34 31 false (.load true true 2 (.t 6)) ::
 gG 26 35 31 false (.load true true 2 (.t 7)) ::
 gG 27 36 31 false (.callF f_polygon_parted [(.t 32), (.t 33), (.t 34), (.t 35)]) ::
 gG 28 37 31 false (.mov (.t 36)) ::
 gG 29 38 37 true (.load true true 2 (.t 6)) ::
 gG 30 39 37 true (.load true true 2 (.t 7)) ::
 gG 31 40 37 true (.load true true 2 (.t 4)) ::
 gG 32 41 37 true (.load true true 2 (.t 5)) ::
 gG 33 42 37 true (.callF f_polygon_parted [(.t 38), (.t 39), (.t 40), (.t 41)]) ::
 gG 34 43 31 false (.pick (.t 37) (.t 42) (.c (.bool false))) ::
 oO 35 44 (.pick (.t 31) (.c (.bool true)) (.t 43)) ::
 mM 36 8 44 ::
 []))
 .ret)),
 [.t 8]⟩

def k_ratio_Div : KFn := ⟨
 (.seq
 (.ops 0 4 (oO 0 2 (.box 3 (.t 0)) ::
 oO 1 3 (.box 3 (.t 1)) ::
 oO 2 4 (.new 3 (.agg [(.bool false), .nilsl, .nilsl])) ::
 oO 3 5 (.mov (.c (.bool false))) ::
 []))
 (.seq
 (.ops 4 6 (⟨0, some 7, none, (.bef 0 6), .load true true 3 (.t 2)⟩ ::
 ⟨1, some 8, none, (.bef 1 6), .callF f_ratio_value [(.t 7)]⟩ ::
 ⟨2, some 9, none, (.bef 0 6), .load true true 3 (.t 3)⟩ ::
 ⟨3, some 10, none, (.bef 7 6), .callF f_ratio_value [(.t 9)]⟩ ::
 ⟨4, none, none, (.bef 15 6), .store true 3 (.t 2) (.t 8)⟩ ::
 ⟨5, none, none, (.bef 31 6), .store true 3 (.t 3) (.t 10)⟩ ::
 []))
 (.seq
 (.seq
 (.ops 10 4 (oO 0 11 (.off 0 (.t 3)) ::
 oO 1 12 (.off 1 (.t 11)) ::
 oO 2 13 (.load true false 1 (.t 12)) ::
 oO 3 14 (.callF f_ratio_zero [(.t 13)]) ::
 []))
 (.cond (.t 14)
 (.seq
 (.ops 14 3 (oO 0 15 (.build [(.bool false), .nilsl, .nilsl] []) ::
 ⟨1, none, none, .all, .store true 3 (.t 4) (.t 15)⟩ ::
 oO 2 5 (.mov (.c (.bool false))) ::
 []))
 .ret)
 .skip))
 (.seq
 (.ops 17 16 (oO 0 16 (.off 0 (.t 2)) ::
 oO 1 17 (.off 0 (.t 16)) ::
 ⟨2, some 18, none, (.bef 3 16), .load true false 1 (.t 17)⟩ ::
 oO 3 19 (.off 0 (.t 3)) ::
 oO 4 20 (.off 0 (.t 19)) ::
 ⟨5, some 21, none, (.bef 24 16), .load true false 1 (.t 20)⟩ ::
 oO 6 22 (.bin .neq .bool (.t 18) (.t 21)) ::
 oO 7 23 (.off 0 (.t 2)) ::
 oO 8 24 (.off 1 (.t 23)) ::
 ⟨9, some 25, none, (.bef 384 16), .load true false 1 (.t 24)⟩ ::
 oO 10 26 (.off 2 (.t 3)) ::
 ⟨11, some 27, none, (.bef 1024 16), .load true false 1 (.t 26)⟩ ::
 ⟨12, some 28, none, (.bef 3968 16), .callF f_natural_Mul [(.t 25), (.t 27)]⟩ ::
 oO 13 29 (.build [(.bool false), .nilsl] [(0, 1, (.t 22)), (1, 1, (.t 28))]) ::
 ⟨14, some 6, none, (.bef 0 16), .new 2 (.agg [(.bool false), .nilsl])⟩ ::
 ⟨15, none, none, (.init 14), .store true 2 (.t 6) (.t 29)⟩ ::
 []))
 (.seq
 (.ops 33 10 (⟨0, some 30, none, (.bef 0 10), .load true true 2 (.t 6)⟩ ::
 oO 1 31 (.off 2 (.t 2)) ::
 ⟨2, some 32, none, (.bef 2 10), .load true false 1 (.t 31)⟩ ::
 oO 3 33 (.off 0 (.t 3)) ::
 oO 4 34 (.off 1 (.t 33)) ::
 ⟨5, some 35, none, (.bef 24 10), .load true false 1 (.t 34)⟩ ::
 ⟨6, some 36, none, (.bef 62 10), .callF f_natural_Mul [(.t 32), (.t 35)]⟩ ::
 ⟨7, some 37, none, (.bef 127 10), .callF f_ratio_reduce [(.t 30), (.t 36)]⟩ ::
 ⟨8, none, none, (.bef 255 10), .store true 3 (.t 4) (.t 37)⟩ ::
 oO 9 5 (.mov (.c (.bool true))) ::
 []))
 .ret))))),
 [.cell 4 true 3, .t 5]⟩

def k_point_Cross : KFn := ⟨
 (.seq
 (.ops 0 3 (oO 0 2 (.box 6 (.t 0)) ::
 oO 1 3 (.box 6 (.t 1)) ::
 oO 2 4 (.new 3 (.agg [(.bool false), .nilsl, .nilsl])) ::
 []))
 (.seq
 (.ops 3 12 (oO 0 5 (.off 0 (.t 2)) ::
 ⟨1, some 6, none, (.bef 1 12), .load true true 3 (.t 5)⟩ ::
 oO 2 7 (.off 3 (.t 3)) ::
 ⟨3, some 8, none, (.bef 4 12), .load true true 3 (.t 7)⟩ ::
 ⟨4, some 9, none, (.bef 15 12), .callF f_ratio_Mul [(.t 6), (.t 8)]⟩ ::
 oO 5 10 (.off 3 (.t 2)) ::
 ⟨6, some 11, none, (.bef 32 12), .load true true 3 (.t 10)⟩ ::
 oO 7 12 (.off 0 (.t 3)) ::
 ⟨8, some 13, none, (.bef 128 12), .load true true 3 (.t 12)⟩ ::
 ⟨9, some 14, none, (.bef 511 12), .callF f_ratio_Mul [(.t 11), (.t 13)]⟩ ::
 ⟨10, some 15, none, (.bef 1023 12), .callF f_ratio_Sub [(.t 9), (.t 14)]⟩ ::
 ⟨11, none, none, (.bef 2047 12), .store true 3 (.t 4) (.t 15)⟩ ::
 []))
 .ret)),
 [.cell 4 true 3]⟩

def k_point_On : KFn := ⟨
 (.seq
 (.ops 0 4 (oO 0 3 (.box 6 (.t 0)) ::
 oO 1 4 (.box 6 (.t 1)) ::
 oO 2 5 (.box 3 (.t 2)) ::
 oO 3 6 (.new 6 (.agg [(.bool false), .nilsl, .nilsl, (.bool false), .nilsl, .nilsl])) ::
 []))
 (.seq
 (.ops 4 8 (⟨0, some 7, none, (.bef 0 8), .load true true 6 (.t 3)⟩ ::
 ⟨1, some 8, none, (.bef 0 8), .load true true 6 (.t 4)⟩ ::
 ⟨2, some 9, none, (.bef 0 8), .load true true 6 (.t 3)⟩ ::
 ⟨3, some 10, none, (.bef 6 8), .callF f_point_Sub [(.t 8), (.t 9)]⟩ ::
 ⟨4, some 11, none, (.bef 0 8), .load true true 3 (.t 5)⟩ ::
 ⟨5, some 12, none, (.bef 30 8), .callF f_point_Scale [(.t 10), (.t 11)]⟩ ::
 ⟨6, some 13, none, (.bef 63 8), .callF f_point_Add [(.t 7), (.t 12)]⟩ ::
 ⟨7, none, none, (.bef 127 8), .store true 6 (.t 6) (.t 13)⟩ ::
 []))
 .ret)),
 [.cell 6 true 6]⟩

def k_point_Of : KFn := ⟨
 (.seq
 (.ops 0 1 (oO 0 4 (.new 6 (.agg [(.bool false), .nilsl, .nilsl, (.bool false), .nilsl, .nilsl])) ::
 []))
 (.seq
 (.ops 1 8 (mM 0 10 0 ::
 oO 1 11 (.callF f_ratio_Of [(.t 10), (.c (.int .i64 1))]) ::
 mM 2 9 11 ::
 oO 3 12 (.extract (.t 9) 0) ::
 oO 4 13 (.extract (.t 9) 1) ::
 oO 5 5 (.new 3 (.agg [(.bool false), .nilsl, .nilsl])) ::
 ⟨6, none, none, .all, .store true 3 (.t 5) (.t 12)⟩ ::
 mM 7 6 13 ::
 []))
 (.seq
 (.ops 9 8 (mM 0 15 1 ::
 oO 1 16 (.callF f_ratio_Of [(.t 15), (.c (.int .i64 1))]) ::
 mM 2 14 16 ::
 oO 3 17 (.extract (.t 14) 0) ::
 oO 4 18 (.extract (.t 14) 1) ::
 oO 5 7 (.new 3 (.agg [(.bool false), .nilsl, .nilsl])) ::
 ⟨6, none, none, .all, .store true 3 (.t 7) (.t 17)⟩ ::
 mM 7 8 18 ::
 []))
 (.seq
 (.ops 17 4 (oO 0 19 (.load true true 3 (.t 5)) ::
 oO 1 20 (.load true true 3 (.t 7)) ::
 oO 2 21 (.build [(.bool false), .nilsl, .nilsl, (.bool false), .nilsl, .nilsl] [(0, 3, (.t 19)), (3, 3, (.t 20))]) ::
 ⟨3, none, none, .all, .store true 6 (.t 4) (.t 21)⟩ ::
 []))
 .ret)))),
 [.cell 4 true 6]⟩

def k_point_coordinate : KFn := ⟨
 (.seq
 (.ops 0 3 (oO 0 1 (.box 3 (.t 0)) ::
 oO 1 2 (.mov (.c (.int .i64 0))) ::
 oO 2 3 (.mov (.c (.bool false))) ::
 []))
 (.seq
 (.ops 3 8 (oO 0 7 (.load true true 3 (.t 1)) ::
 oO 1 8 (.callF f_ratio_Round [(.t 7)]) ::
 oO 2 9 (.callF f_integer_Small [(.t 8)]) ::
 mM 3 6 9 ::
 oO 4 10 (.extract (.t 6) 0) ::
 oO 5 11 (.extract (.t 6) 1) ::
 mM 6 4 10 ::
 mM 7 5 11 ::
 []))
 (.seq
 (.ops 11 12 (mM 0 12 4 ::
 mM 1 13 5 ::
 mM 2 14 13 ::
 gG 3 15 14 true (.mov (.t 4)) ::
 gG 4 16 14 true (.bin .geq .no (.t 15) (.c (.int .i64 (-1048576)))) ::
 oO 5 17 (.pick (.t 14) (.t 16) (.c (.bool false))) ::
 mM 6 18 17 ::
 gG 7 19 18 true (.mov (.t 4)) ::
 gG 8 20 18 true (.bin .leq .no (.t 19) (.c (.int .i64 1048576))) ::
 oO 9 21 (.pick (.t 18) (.t 20) (.c (.bool false))) ::
 mM 10 2 12 ::
 mM 11 3 21 ::
 []))
 .ret))),
 [.t 2, .t 3]⟩

def k_ratio_Sub : KFn := ⟨
 (.seq
 (.ops 0 3 (oO 0 2 (.box 3 (.t 0)) ::
 oO 1 3 (.box 3 (.t 1)) ::
 oO 2 4 (.new 3 (.agg [(.bool false), .nilsl, .nilsl])) ::
 []))
 (.seq
 (.ops 3 5 (⟨0, some 5, none, (.bef 0 5), .load true true 3 (.t 2)⟩ ::
 ⟨1, some 6, none, (.bef 0 5), .load true true 3 (.t 3)⟩ ::
 ⟨2, some 7, none, (.bef 2 5), .callF f_ratio_Neg [(.t 6)]⟩ ::
 ⟨3, some 8, none, (.bef 7 5), .callF f_ratio_Add [(.t 5), (.t 7)]⟩ ::
 ⟨4, none, none, (.bef 15 5), .store true 3 (.t 4) (.t 8)⟩ ::
 []))
 .ret)),
 [.cell 4 true 3]⟩

def k_cmp_isNaN_int : KFn := ⟨
 (.seq
 (.ops 0 1 (oO 0 2 (.mov (.c (.bool false))) ::
 []))
 (.seq
 (.ops 1 4 (mM 0 3 0 ::
 mM 1 4 0 ::
 oO 2 5 (.bin .neq .no (.t 3) (.t 4)) ::
 mM 3 2 5 ::
 []))
 .ret)),
 [.t 2]⟩

def k_formula_check : KFn := ⟨
 (.seq
 (.ops 8 2 (oO 0 2 (.box 6 (.t 0)) ::
 oO 1 4 (.mov (.c (.int .i64 0))) ::
 []))
 (.seq
 (.seq
 (.ops 10 2 (mM 0 8 1 ::
 oO 1 9 (.bin .gtr .no (.t 8) (.c (.int .i64 12))) ::
 []))
 (.cond (.t 9)
 (.seq
 (.ops 12 1 (oO 0 4 (.mov (.c (.int .i64 5))) ::
 []))
 .ret)
 .skip))
 (.seq
 (.seq
 (.ops 13 3 (oO 0 10 (.load true true 6 (.t 2)) ::
 oO 1 11 (.callF f_formula_right [(.t 10)]) ::
 oO 2 12 (.un .not (.t 11)) ::
 []))
 (.cond (.t 12)
 (.seq
 (.ops 16 1 (oO 0 4 (.mov (.c (.int .i64 1))) ::
 []))
 .ret)
 .skip))
 (.seq
 (.seq
 (.ops 17 4 (oO 0 13 (.off 5 (.t 2)) ::
 oO 1 14 (.load true false 1 (.t 13)) ::
 oO 2 15 (.len .sl (.t 14)) ::
 oO 3 16 (.mov (.c (.int .i64 0))) ::
 []))
 (.block 0
 (.loop [(1, 0), (14, 0), (15, 0), (16, 0)]
 (.seq
 (.ops 21 1 (oO 0 17 (.bin .lss .no (.t 16) (.t 15)) ::
 []))
 (.seq
 (.cond (.t 17)
 .skip
 (.exit 0))
 (.seq
 (.block 1
 (.seq
 (.ops 22 4 (oO 0 18 (.ixs 6 (.t 14) (.t 16)) ::
 oO 1 19 (.load false true 6 (.t 18)) ::
 oO 2 6 (.new 6 (.agg [(.int .i64 0), (.bool false), .nilsl, .nilsl, (.str ⟨#[]⟩), .nilsl])) ::
 ⟨3, none, none, .all, .store true 6 (.t 6) (.t 19)⟩ ::
 []))
 (.seq
 (.ops 26 5 (oO 0 20 (.load true true 6 (.t 6)) ::
 mM 1 21 1 ::
 oO 2 22 (.bin .add .no (.t 21) (.c (.int .i64 1))) ::
 oO 3 23 (.callF f_formula_check [(.t 20), (.t 22)]) ::
 mM 4 7 23 ::
 []))
 (.seq
 (.ops 31 2 (mM 0 24 7 ::
 oO 1 25 (.bin .neq .no (.t 24) (.c (.int .i64 0))) ::
 []))
 (.cond (.t 25)
 (.seq
 (.ops 33 2 (mM 0 26 7 ::
 mM 1 4 26 ::
 []))
 .ret)
 .skip)))))
 (.ops 35 2 (oO 0 27 (.bin .add .no (.t 16) (.c (.int .i64 1))) ::
 mM 1 16 27 ::
 []))))))))
 (.seq
 (.ops 37 1 (oO 0 4 (.mov (.c (.int .i64 0))) ::
 []))
 .ret))))),
 [.t 4]⟩

def k_slices_Index_Spot_Spot : KFn := ⟨
 (.seq
 (.ops 8 2 (oO 0 3 (.box 2 (.t 1)) ::
 oO 1 4 (.mov (.c (.int .i64 0))) ::
 []))
 (.seq
 (.seq
 (.ops 10 3 (mM 0 6 0 ::
 oO 1 7 (.len .sl (.t 6)) ::
 oO 2 8 (.mov (.c (.int .i64 0))) ::
 []))
 (.block 0
 (.loop [(0, 0), (3, 0), (7, 0), (8, 0)]
 (.seq
 (.ops 13 1 (oO 0 9 (.bin .lss .no (.t 8) (.t 7)) ::
 []))
 (.seq
 (.cond (.t 9)
 .skip
 (.exit 0))
 (.seq
 (.block 1
 (.seq
 (.ops 14 2 (mM 0 10 8 ::
 mM 1 5 10 ::
 []))
 (.seq
 (.ops 16 6 (⟨0, some 11, none, (.bef 0 6), .load true true 2 (.t 3)⟩ ::
 mM 1 12 0 ::
 mM 2 13 5 ::
 ⟨3, some 14, none, (.bef 6 6), .ixs 2 (.t 12) (.t 13)⟩ ::
 ⟨4, some 15, none, (.bef 14 6), .load false true 2 (.t 14)⟩ ::
 oO 5 16 (.bin .eql (.flat [.int, .int]) (.t 11) (.t 15)) ::
 []))
 (.cond (.t 16)
 (.seq
 (.ops 22 2 (mM 0 17 5 ::
 mM 1 4 17 ::
 []))
 .ret)
 .skip))))
 (.ops 24 2 (oO 0 18 (.bin .add .no (.t 8) (.c (.int .i64 1))) ::
 mM 1 8 18 ::
 []))))))))
 (.seq
 (.ops 26 1 (oO 0 4 (.mov (.c (.int .i64 (-1)))) ::
 []))
 .ret))),
 [.t 4]⟩

def k_polygon_cross : KFn := ⟨
 (.seq
 (.ops 0 4 (oO 0 3 (.box 2 (.t 0)) ::
 oO 1 4 (.box 2 (.t 1)) ::
 oO 2 5 (.box 2 (.t 2)) ::
 oO 3 6 (.mov (.c (.int .i64 0))) ::
 []))
 (.seq
 (.ops 4 24 (oO 0 7 (.off 0 (.t 4)) ::
 oO 1 8 (.load true false 1 (.t 7)) ::
 oO 2 9 (.off 0 (.t 3)) ::
 oO 3 10 (.load true false 1 (.t 9)) ::
 oO 4 11 (.bin .sub .no (.t 8) (.t 10)) ::
 oO 5 12 (.off 1 (.t 5)) ::
 oO 6 13 (.load true false 1 (.t 12)) ::
 oO 7 14 (.off 1 (.t 3)) ::
 oO 8 15 (.load true false 1 (.t 14)) ::
 oO 9 16 (.bin .sub .no (.t 13) (.t 15)) ::
 oO 10 17 (.bin .mul .no (.t 11) (.t 16)) ::
 oO 11 18 (.off 1 (.t 4)) ::
 oO 12 19 (.load true false 1 (.t 18)) ::
 oO 13 20 (.off 1 (.t 3)) ::
 oO 14 21 (.load true false 1 (.t 20)) ::
 oO 15 22 (.bin .sub .no (.t 19) (.t 21)) ::
 oO 16 23 (.off 0 (.t 5)) ::
 oO 17 24 (.load true false 1 (.t 23)) ::
 oO 18 25 (.off 0 (.t 3)) ::
 oO 19 26 (.load true false 1 (.t 25)) ::
 oO 20 27 (.bin .sub .no (.t 24) (.t 26)) ::
 oO 21 28 (.bin .mul .no (.t 22) (.t 27)) ::
 oO 22 29 (.bin .sub .no (.t 17) (.t 28)) ::
 mM 23 6 29 ::
 []))
 .ret)),
 [.t 6]⟩

def k_polygon_on : KFn := ⟨
 (.seq
 (.ops 0 4 (oO 0 3 (.box 2 (.t 0)) ::
 oO 1 4 (.box 2 (.t 1)) ::
 oO 2 5 (.box 2 (.t 2)) ::
 oO 3 6 (.mov (.c (.bool false))) ::
 []))
 (.seq
 (.ops 4 46 (oO 0 7 (.load true true 2 (.t 3)) ::
 oO 1 8 (.load true true 2 (.t 4)) ::
 oO 2 9 (.load true true 2 (.t 5)) ::
 oO 3 10 (.callF f_polygon_cross [(.t 7), (.t 8), (.t 9)]) ::
 oO 4 11 (.bin .eql .no (.t 10) (.c (.int .i64 0))) ::
 mM 5 12 11 ::
 gG 6 13 12 true (.off 0 (.t 3)) ::
 gG 7 14 12 true (.load true false 1 (.t 13)) ::
 gG 8 15 12 true (.off 0 (.t 4)) ::
 gG 9 16 12 true (.load true false 1 (.t 15)) ::
 gG 10 17 12 true (.mm false [(.t 14), (.t 16)]) ::
 gG 11 18 12 true (.off 0 (.t 5)) ::
 gG 12 19 12 true (.load true false 1 (.t 18)) ::
 gG 13 20 12 true (.bin .leq .no (.t 17) (.t 19)) ::
 oO 14 21 (.pick (.t 12) (.t 20) (.c (.bool false))) ::
 mM 15 22 21 ::
 gG 16 23 22 true (.off 0 (.t 5)) ::
 gG 17 24 22 true (.load true false 1 (.t 23)) ::
 gG 18 25 22 true (.off 0 (.t 3)) ::
 gG 19 26 22 true (.load true false 1 (.t 25)) ::
 gG 20 27 22 true (.off 0 (.t 4)) ::
 gG 21 28 22 true (.load true false 1 (.t 27)) ::
 gG 22 29 22 true (.mm true [(.t 26), (.t 28)]) ::
 gG 23 30 22 true (.bin .leq .no (.t 24) (.t 29)) ::
 oO 24 31 (.pick (.t 22) (.t 30) (.c (.bool false))) ::
 mM 25 32 31 ::
 gG 26 33 32 true (.off 1 (.t 3)) ::
 gG 27 34 32 true (.load true false 1 (.t 33)) ::
 gG 28 35 32 true (.off 1 (.t 4)) ::
 gG 29 36 32 true (.load true false 1 (.t 35)) ::
 gG 30 37 32 true (.mm false [(.t 34), (.t 36)]) ::
 gG 31 38 32 true (.off 1 (.t 5)) ::
 gG 32 39 32 true (.load true false 1 (.t 38)) ::
 gG 33 40 32 true (.bin .leq .no (.t 37) (.t 39)) ::
 oO 34 41 (.pick (.t 32) (.t 40) (.c (.bool false))) ::
 mM 35 42 41 ::
 gG 36 43 42 true (.off 1 (.t 5)) ::
 gG 37 44 42 true (.load true false 1 (.t 43)) ::
 gG 38 45 42 true (.off 1 (.t 3)) ::
 gG 39 46 42 true (.load true false 1 (.t 45)) ::
 gG 40 47 42 true (.off 1 (.t 4)) ::
 gG 41 48 42 true (.load true false 1 (.t 47)) ::
 gG 42 49 42 true (.mm true [(.t 46), (.t 48)]) ::
 gG 43 50 42 true (.bin .leq .no (.t 44) (.t 49)) ::
 oO 44 51 (.pick (.t 42) (.t 50) (.c (.bool false))) ::
 mM 45 6 51 ::
 []))
 .ret)),
 [.t 6]⟩

def k_polygon_parted : KFn := ⟨
 (.seq
 (.ops 0 5 (oO 0 4 (.box 2 (.t 0)) ::
 oO 1 5 (.box 2 (.t 1)) ::
 oO 2 6 (.box 2 (.t 2)) ::
 oO 3 7 (.box 2 (.t 3)) ::
 oO 4 8 (.mov (.c (.bool false))) ::
 []))
 (.seq
 (.ops 5 13 (⟨0, some 9, none, (.bef 0 13), .load true true 2 (.t 4)⟩ ::
 ⟨1, some 10, none, (.bef 0 13), .load true true 2 (.t 5)⟩ ::
 ⟨2, some 11, none, (.bef 0 13), .load true true 2 (.t 6)⟩ ::
 ⟨3, some 12, none, (.bef 7 13), .callF f_polygon_cross [(.t 9), (.t 10), (.t 11)]⟩ ::
 ⟨4, some 13, none, (.bef 15 13), .callF f_cmp_Compare_int [(.t 12), (.c (.int .i64 0))]⟩ ::
 ⟨5, some 14, none, (.bef 0 13), .load true true 2 (.t 4)⟩ ::
 ⟨6, some 15, none, (.bef 0 13), .load true true 2 (.t 5)⟩ ::
 ⟨7, some 16, none, (.bef 0 13), .load true true 2 (.t 7)⟩ ::
 ⟨8, some 17, none, (.bef 255 13), .callF f_polygon_cross [(.t 14), (.t 15), (.t 16)]⟩ ::
 ⟨9, some 18, none, (.bef 511 13), .callF f_cmp_Compare_int [(.t 17), (.c (.int .i64 0))]⟩ ::
 oO 10 19 (.bin .mul .no (.t 13) (.t 18)) ::
 oO 11 20 (.bin .lss .no (.t 19) (.c (.int .i64 0))) ::
 mM 12 8 20 ::
 []))
 .ret)),
 [.t 8]⟩

def k_ratio_value : KFn := ⟨
 (.seq
 (.ops 0 2 (oO 0 1 (.box 3 (.t 0)) ::
 oO 1 2 (.new 3 (.agg [(.bool false), .nilsl, .nilsl])) ::
 []))
 (.seq
 (.seq
 (.ops 2 3 (oO 0 3 (.off 2 (.t 1)) ::
 oO 1 4 (.load true false 1 (.t 3)) ::
 oO 2 5 (.callF f_ratio_zero [(.t 4)]) ::
 []))
 (.cond (.t 5)
 (.seq
 (.ops 5 3 (oO 0 6 (.callF f_natural_Of [(.c (.int .u64 1))]) ::
 oO 1 7 (.build [(.bool false), .nilsl, .nilsl] [(2, 1, (.t 6))]) ::
 ⟨2, none, none, .all, .store true 3 (.t 2) (.t 7)⟩ ::
 []))
 .ret)
 .skip))
 (.seq
 (.ops 8 2 (oO 0 8 (.load true true 3 (.t 1)) ::
 ⟨1, none, none, .all, .store true 3 (.t 2) (.t 8)⟩ ::
 []))
 .ret))),
 [.cell 2 true 3]⟩

def k_ratio_zero : KFn := ⟨
 (.seq
 (.ops 0 1 (oO 0 2 (.mov (.c (.bool false))) ::
 []))
 (.seq
 (.ops 1 4 (mM 0 3 0 ::
 oO 1 4 (.callF f_natural_Cmp [(.t 3), (.c .nilsl)]) ::
 oO 2 5 (.bin .eql .no (.t 4) (.c (.int .i64 0))) ::
 mM 3 2 5 ::
 []))
 .ret)),
 [.t 2]⟩

def k_natural_Mul : KFn := ⟨
 (.seq
 (.ops 22 1 (oO 0 4 (.mov (.c .nilsl)) ::
 []))
 (.seq
 (.ops 23 6 (mM 0 11 0 ::
 oO 1 12 (.callF f_natural_trim [(.t 11)]) ::
 mM 2 13 1 ::
 oO 3 14 (.callF f_natural_trim [(.t 13)]) ::
 mM 4 0 12 ::
 mM 5 1 14 ::
 []))
 (.seq
 (.ops 29 7 (mM 0 15 0 ::
 oO 1 16 (.len .sl (.t 15)) ::
 mM 2 17 1 ::
 oO 3 18 (.len .sl (.t 17)) ::
 oO 4 19 (.bin .add .no (.t 16) (.t 18)) ::
 oO 5 20 (.mkslice ⟨1, 4, (.int .u32 0)⟩ (.t 19) (.t 19)) ::
 mM 6 5 20 ::
 []))
 (.seq
 (.seq
 (.ops 36 3 (mM 0 21 0 ::
 oO 1 22 (.len .sl (.t 21)) ::
 oO 2 23 (.mov (.c (.int .i64 0))) ::
 []))
 (.block 0
 (.loop [(1, 0), (5, 0), (21, 0), (22, 0), (23, 0)]
 (.seq
 (.ops 39 1 (oO 0 24 (.bin .lss .no (.t 23) (.t 22)) ::
 []))
 (.seq
 (.cond (.t 24)
 .skip
 (.exit 0))
 (.seq
 (.block 1
 (.seq
 (.ops 40 5 (mM 0 25 23 ::
 oO 1 26 (.ixs 1 (.t 21) (.t 23)) ::
 oO 2 27 (.load false false 1 (.t 26)) ::
 mM 3 6 25 ::
 mM 4 7 27 ::
 []))
 (.seq
 (.ops 45 1 (oO 0 8 (.mov (.c (.int .u64 0))) ::
 []))
 (.seq
 (.seq
 (.ops 46 3 (mM 0 28 1 ::
 oO 1 29 (.len .sl (.t 28)) ::
 oO 2 30 (.mov (.c (.int .i64 0))) ::
 []))
 (.block 2
 (.loop [(1, 0), (5, 0), (6, 0), (7, 0), (8, 0), (21, 0), (22, 0), (23, 0), (28, 0), (29, 0), (30, 0)]
 (.seq
 (.ops 49 1 (oO 0 31 (.bin .lss .no (.t 30) (.t 29)) ::
 []))
 (.seq
 (.cond (.t 31)
 .skip
 (.exit 2))
 (.seq
 (.block 3
 (.seq
 (.ops 50 5 (mM 0 32 30 ::
 oO 1 33 (.ixs 1 (.t 28) (.t 30)) ::
 oO 2 34 (.load false false 1 (.t 33)) ::
 mM 3 9 32 ::
 mM 4 10 34 ::
 []))
 (.seq
 (.ops 55 16 (mM 0 35 8 ::
 mM 1 36 7 ::
 oO 2 37 (.conv (.int .u64) (.t 36)) ::
 mM 3 38 10 ::
 oO 4 39 (.conv (.int .u64) (.t 38)) ::
 oO 5 40 (.bin .mul .no (.t 37) (.t 39)) ::
 mM 6 41 5 ::
 mM 7 42 6 ::
 mM 8 43 9 ::
 oO 9 44 (.bin .add .no (.t 42) (.t 43)) ::
 oO 10 45 (.ixs 1 (.t 41) (.t 44)) ::
 oO 11 46 (.load false false 1 (.t 45)) ::
 oO 12 47 (.conv (.int .u64) (.t 46)) ::
 oO 13 48 (.bin .add .no (.t 40) (.t 47)) ::
 oO 14 49 (.bin .add .no (.t 35) (.t 48)) ::
 mM 15 8 49 ::
 []))
 (.seq
 (.ops 71 8 (mM 0 50 5 ::
 mM 1 51 6 ::
 mM 2 52 9 ::
 oO 3 53 (.bin .add .no (.t 51) (.t 52)) ::
 mM 4 54 8 ::
 oO 5 55 (.conv (.int .u32) (.t 54)) ::
 oO 6 56 (.ixs 1 (.t 50) (.t 53)) ::
 ⟨7, none, none, .all, .store false 1 (.t 56) (.t 55)⟩ ::
 []))
 (.ops 79 3 (mM 0 57 8 ::
 oO 1 58 (.bin .shr .no (.t 57) (.c (.int .u64 32))) ::
 mM 2 8 58 ::
 []))))))
 (.ops 82 2 (oO 0 59 (.bin .add .no (.t 30) (.c (.int .i64 1))) ::
 mM 1 30 59 ::
 []))))))))
 (.ops 84 9 (mM 0 60 5 ::
 mM 1 61 6 ::
 mM 2 62 1 ::
 oO 3 63 (.len .sl (.t 62)) ::
 oO 4 64 (.bin .add .no (.t 61) (.t 63)) ::
 mM 5 65 8 ::
 oO 6 66 (.conv (.int .u32) (.t 65)) ::
 oO 7 67 (.ixs 1 (.t 60) (.t 64)) ::
 ⟨8, none, none, .all, .store false 1 (.t 67) (.t 66)⟩ ::
 []))))))
 (.ops 93 2 (oO 0 68 (.bin .add .no (.t 23) (.c (.int .i64 1))) ::
 mM 1 23 68 ::
 []))))))))
 (.seq
 (.ops 95 3 (mM 0 69 5 ::
 oO 1 70 (.callF f_natural_trim [(.t 69)]) ::
 mM 2 4 70 ::
 []))
 .ret))))),
 [.t 4]⟩

def k_ratio_reduce : KFn := ⟨
 (.seq
 (.ops 0 2 (oO 0 2 (.box 2 (.t 0)) ::
 oO 1 4 (.new 3 (.agg [(.bool false), .nilsl, .nilsl])) ::
 []))
 (.seq
 (.ops 2 5 (oO 0 12 (.off 1 (.t 2)) ::
 oO 1 13 (.load true false 1 (.t 12)) ::
 mM 2 14 1 ::
 oO 3 15 (.callF f_natural_Gcd [(.t 13), (.t 14)]) ::
 mM 4 5 15 ::
 []))
 (.seq
 (.ops 7 11 (oO 0 17 (.off 1 (.t 2)) ::
 oO 1 18 (.load true false 1 (.t 17)) ::
 mM 2 19 5 ::
 oO 3 20 (.callF f_natural_DivMod [(.t 18), (.t 19)]) ::
 mM 4 16 20 ::
 oO 5 21 (.extract (.t 16) 0) ::
 oO 6 22 (.extract (.t 16) 1) ::
 oO 7 23 (.extract (.t 16) 2) ::
 mM 8 6 21 ::
 mM 9 7 22 ::
 mM 10 8 23 ::
 []))
 (.seq
 (.ops 18 10 (mM 0 25 1 ::
 mM 1 26 5 ::
 oO 2 27 (.callF f_natural_DivMod [(.t 25), (.t 26)]) ::
 mM 3 24 27 ::
 oO 4 28 (.extract (.t 24) 0) ::
 oO 5 29 (.extract (.t 24) 1) ::
 oO 6 30 (.extract (.t 24) 2) ::
 mM 7 9 28 ::
 mM 8 10 29 ::
 mM 9 11 30 ::
 []))
 (.seq
 (.ops 28 8 (oO 0 31 (.off 0 (.t 2)) ::
 oO 1 32 (.load true false 1 (.t 31)) ::
 mM 2 33 6 ::
 oO 3 34 (.build [(.bool false), .nilsl] [(0, 1, (.t 32)), (1, 1, (.t 33))]) ::
 oO 4 35 (.callF f_integer_Norm [(.t 34)]) ::
 mM 5 36 9 ::
 oO 6 37 (.build [(.bool false), .nilsl, .nilsl] [(0, 2, (.t 35)), (2, 1, (.t 36))]) ::
 ⟨7, none, none, .all, .store true 3 (.t 4) (.t 37)⟩ ::
 []))
 .ret))))),
 [.cell 4 true 3]⟩

def k_ratio_Mul : KFn := ⟨
 (.seq
 (.ops 0 3 (oO 0 2 (.box 3 (.t 0)) ::
 oO 1 3 (.box 3 (.t 1)) ::
 oO 2 4 (.new 3 (.agg [(.bool false), .nilsl, .nilsl])) ::
 []))
 (.seq
 (.ops 3 6 (⟨0, some 5, none, (.bef 0 6), .load true true 3 (.t 2)⟩ ::
 ⟨1, some 6, none, (.bef 1 6), .callF f_ratio_value [(.t 5)]⟩ ::
 ⟨2, some 7, none, (.bef 0 6), .load true true 3 (.t 3)⟩ ::
 ⟨3, some 8, none, (.bef 7 6), .callF f_ratio_value [(.t 7)]⟩ ::
 ⟨4, none, none, (.bef 15 6), .store true 3 (.t 2) (.t 6)⟩ ::
 ⟨5, none, none, (.bef 31 6), .store true 3 (.t 3) (.t 8)⟩ ::
 []))
 (.seq
 (.ops 9 12 (oO 0 9 (.off 0 (.t 2)) ::
 ⟨1, some 10, none, (.bef 1 12), .load true true 2 (.t 9)⟩ ::
 oO 2 11 (.off 0 (.t 3)) ::
 ⟨3, some 12, none, (.bef 4 12), .load true true 2 (.t 11)⟩ ::
 ⟨4, some 13, none, (.bef 15 12), .callF f_integer_Mul [(.t 10), (.t 12)]⟩ ::
 oO 5 14 (.off 2 (.t 2)) ::
 ⟨6, some 15, none, (.bef 32 12), .load true false 1 (.t 14)⟩ ::
 oO 7 16 (.off 2 (.t 3)) ::
 ⟨8, some 17, none, (.bef 128 12), .load true false 1 (.t 16)⟩ ::
 ⟨9, some 18, none, (.bef 511 12), .callF f_natural_Mul [(.t 15), (.t 17)]⟩ ::
 ⟨10, some 19, none, (.bef 1023 12), .callF f_ratio_reduce [(.t 13), (.t 18)]⟩ ::
 ⟨11, none, none, (.bef 2047 12), .store true 3 (.t 4) (.t 19)⟩ ::
 []))
 .ret))),
 [.cell 4 true 3]⟩

def k_point_Add : KFn := ⟨
 (.seq
 (.ops 0 3 (oO 0 2 (.box 6 (.t 0)) ::
 oO 1 3 (.box 6 (.t 1)) ::
 oO 2 4 (.new 6 (.agg [(.bool false), .nilsl, .nilsl, (.bool false), .nilsl, .nilsl])) ::
 []))
 (.seq
 (.ops 3 12 (oO 0 5 (.off 0 (.t 2)) ::
 ⟨1, some 6, none, (.bef 1 12), .load true true 3 (.t 5)⟩ ::
 oO 2 7 (.off 0 (.t 3)) ::
 ⟨3, some 8, none, (.bef 4 12), .load true true 3 (.t 7)⟩ ::
 ⟨4, some 9, none, (.bef 15 12), .callF f_ratio_Add [(.t 6), (.t 8)]⟩ ::
 oO 5 10 (.off 3 (.t 2)) ::
 ⟨6, some 11, none, (.bef 32 12), .load true true 3 (.t 10)⟩ ::
 oO 7 12 (.off 3 (.t 3)) ::
 ⟨8, some 13, none, (.bef 128 12), .load true true 3 (.t 12)⟩ ::
 ⟨9, some 14, none, (.bef 511 12), .callF f_ratio_Add [(.t 11), (.t 13)]⟩ ::
 oO 10 15 (.build [(.bool false), .nilsl, .nilsl, (.bool false), .nilsl, .nilsl] [(0, 3, (.t 9)), (3, 3, (.t 14))]) ::
 ⟨11, none, none, (.bef 2047 12), .store true 6 (.t 4) (.t 15)⟩ ::
 []))
 .ret)),
 [.cell 4 true 6]⟩

def k_point_Scale : KFn := ⟨
 (.seq
 (.ops 0 3 (oO 0 2 (.box 6 (.t 0)) ::
 oO 1 3 (.box 3 (.t 1)) ::
 oO 2 4 (.new 6 (.agg [(.bool false), .nilsl, .nilsl, (.bool false), .nilsl, .nilsl])) ::
 []))
 (.seq
 (.ops 3 10 (oO 0 5 (.off 0 (.t 2)) ::
 ⟨1, some 6, none, (.bef 1 10), .load true true 3 (.t 5)⟩ ::
 ⟨2, some 7, none, (.bef 0 10), .load true true 3 (.t 3)⟩ ::
 ⟨3, some 8, none, (.bef 7 10), .callF f_ratio_Mul [(.t 6), (.t 7)]⟩ ::
 oO 4 9 (.off 3 (.t 2)) ::
 ⟨5, some 10, none, (.bef 16 10), .load true true 3 (.t 9)⟩ ::
 ⟨6, some 11, none, (.bef 0 10), .load true true 3 (.t 3)⟩ ::
 ⟨7, some 12, none, (.bef 127 10), .callF f_ratio_Mul [(.t 10), (.t 11)]⟩ ::
 oO 8 13 (.build [(.bool false), .nilsl, .nilsl, (.bool false), .nilsl, .nilsl] [(0, 3, (.t 8)), (3, 3, (.t 12))]) ::
 ⟨9, none, none, (.bef 511 10), .store true 6 (.t 4) (.t 13)⟩ ::
 []))
 .ret)),
 [.cell 4 true 6]⟩

def k_ratio_Of : KFn := ⟨
 (.seq
 (.ops 0 2 (oO 0 4 (.new 3 (.agg [(.bool false), .nilsl, .nilsl])) ::
 oO 1 5 (.mov (.c (.bool false))) ::
 []))
 (.seq
 (.seq
 (.ops 2 2 (mM 0 8 1 ::
 oO 1 9 (.bin .eql .no (.t 8) (.c (.int .i64 0))) ::
 []))
 (.cond (.t 9)
 (.seq
 (.ops 4 3 (oO 0 10 (.build [(.bool false), .nilsl, .nilsl] []) ::
 ⟨1, none, none, .all, .store true 3 (.t 4) (.t 10)⟩ ::
 oO 2 5 (.mov (.c (.bool false))) ::
 []))
 .ret)
 .skip))
 (.seq
 (.ops 7 8 (mM 0 11 0 ::
 oO 1 12 (.callF f_integer_Of [(.t 11)]) ::
 mM 2 13 1 ::
 oO 3 14 (.callF f_integer_Of [(.t 13)]) ::
 oO 4 6 (.new 2 (.agg [(.bool false), .nilsl])) ::
 oO 5 7 (.new 2 (.agg [(.bool false), .nilsl])) ::
 ⟨6, none, none, .all, .store true 2 (.t 6) (.t 12)⟩ ::
 ⟨7, none, none, .all, .store true 2 (.t 7) (.t 14)⟩ ::
 []))
 (.seq
 (.ops 15 7 (oO 0 15 (.off 0 (.t 6)) ::
 oO 1 16 (.load true false 1 (.t 15)) ::
 oO 2 17 (.off 0 (.t 7)) ::
 oO 3 18 (.load true false 1 (.t 17)) ::
 oO 4 19 (.bin .neq .bool (.t 16) (.t 18)) ::
 oO 5 20 (.off 0 (.t 6)) ::
 ⟨6, none, none, .all, .store true 1 (.t 20) (.t 19)⟩ ::
 []))
 (.seq
 (.ops 22 6 (oO 0 21 (.load true true 2 (.t 6)) ::
 oO 1 22 (.off 1 (.t 7)) ::
 oO 2 23 (.load true false 1 (.t 22)) ::
 oO 3 24 (.callF f_ratio_reduce [(.t 21), (.t 23)]) ::
 ⟨4, none, none, .all, .store true 3 (.t 4) (.t 24)⟩ ::
 oO 5 5 (.mov (.c (.bool true))) ::
 []))
 .ret))))),
 [.cell 4 true 3, .t 5]⟩

def k_integer_Small : KFn := ⟨
 (.seq
 (.ops 10 3 (oO 0 1 (.box 2 (.t 0)) ::
 oO 1 2 (.mov (.c (.int .i64 0))) ::
 oO 2 3 (.mov (.c (.bool false))) ::
 []))
 (.seq
 (.ops 13 3 (oO 0 7 (.load true true 2 (.t 1)) ::
 oO 1 8 (.callF f_integer_Norm [(.t 7)]) ::
 ⟨2, none, none, .all, .store true 2 (.t 1) (.t 8)⟩ ::
 []))
 (.seq
 (.seq
 (.ops 16 4 (oO 0 9 (.off 1 (.t 1)) ::
 oO 1 10 (.load true false 1 (.t 9)) ::
 oO 2 11 (.len .sl (.t 10)) ::
 oO 3 12 (.bin .gtr .no (.t 11) (.c (.int .i64 2))) ::
 []))
 (.cond (.t 12)
 (.seq
 (.ops 20 2 (oO 0 2 (.mov (.c (.int .i64 0))) ::
 oO 1 3 (.mov (.c (.bool false))) ::
 []))
 .ret)
 .skip))
 (.seq
 (.ops 22 1 (oO 0 4 (.mov (.c (.int .u64 0))) ::
 []))
 (.seq
 (.seq
 (.ops 23 4 (oO 0 13 (.off 1 (.t 1)) ::
 oO 1 14 (.load true false 1 (.t 13)) ::
 oO 2 15 (.len .sl (.t 14)) ::
 oO 3 16 (.mov (.c (.int .i64 0))) ::
 []))
 (.block 0
 (.loop [(1, 0), (4, 0), (14, 0), (15, 0), (16, 0)]
 (.seq
 (.ops 27 1 (oO 0 17 (.bin .lss .no (.t 16) (.t 15)) ::
 []))
 (.seq
 (.cond (.t 17)
 .skip
 (.exit 0))
 (.seq
 (.block 1
 (.seq
 (.ops 28 5 (mM 0 18 16 ::
 oO 1 19 (.ixs 1 (.t 14) (.t 16)) ::
 oO 2 20 (.load false false 1 (.t 19)) ::
 mM 3 5 18 ::
 mM 4 6 20 ::
 []))
 (.ops 33 8 (mM 0 21 4 ::
 mM 1 22 6 ::
 oO 2 23 (.conv (.int .u64) (.t 22)) ::
 mM 3 24 5 ::
 oO 4 25 (.bin .mul .no (.c (.int .i64 32)) (.t 24)) ::
 oO 5 26 (.bin .shl .no (.t 23) (.t 25)) ::
 oO 6 27 (.bin .or .no (.t 21) (.t 26)) ::
 mM 7 4 27 ::
 []))))
 (.ops 41 2 (oO 0 28 (.bin .add .no (.t 16) (.c (.int .i64 1))) ::
 mM 1 16 28 ::
 []))))))))
 (.seq
 (.block 2
 (.seq
 (.ops 43 7 (oO 0 30 (.off 0 (.t 1)) ::
 oO 1 31 (.load true false 1 (.t 30)) ::
 mM 2 32 31 ::
 gG 3 33 32 true (.mov (.t 4)) ::
 gG 4 34 32 true (.bin .leq .no (.t 33) (.c (.int .u64 9223372036854775808))) ::
 oO 5 35 (.pick (.t 32) (.t 34) (.c (.bool false))) ::
 mM 6 29 35 ::
 []))
 (.cond (.t 29)
 (.seq
 (.ops 50 5 (mM 0 36 4 ::
 oO 1 37 (.un .neg (.t 36)) ::
 oO 2 38 (.conv (.int .i64) (.t 37)) ::
 mM 3 2 38 ::
 oO 4 3 (.mov (.c (.bool true))) ::
 []))
 .ret)
 (.seq
 (.ops 55 8 (oO 0 40 (.off 0 (.t 1)) ::
 oO 1 41 (.load true false 1 (.t 40)) ::
 oO 2 42 (.un .not (.t 41)) ::
 mM 3 43 42 ::
 gG 4 44 43 true (.mov (.t 4)) ::
 gG 5 45 43 true (.bin .lss .no (.t 44) (.c (.int .u64 9223372036854775808))) ::
 oO 6 46 (.pick (.t 43) (.t 45) (.c (.bool false))) ::
 mM 7 39 46 ::
 []))
 (.cond (.t 39)
 (.seq
 (.ops 63 4 (mM 0 47 4 ::
 oO 1 48 (.conv (.int .i64) (.t 47)) ::
 mM 2 2 48 ::
 oO 3 3 (.mov (.c (.bool true))) ::
 []))
 .ret)
 .skip)))))
 (.seq
 (.ops 67 2 (oO 0 2 (.mov (.c (.int .i64 0))) ::
 oO 1 3 (.mov (.c (.bool false))) ::
 []))
 .ret))))))),
 [.t 2, .t 3]⟩

def k_ratio_Round : KFn := ⟨
 (.seq
 (.ops 0 2 (oO 0 1 (.box 3 (.t 0)) ::
 oO 1 2 (.new 2 (.agg [(.bool false), .nilsl])) ::
 []))
 (.seq
 (.ops 2 3 (oO 0 7 (.load true true 3 (.t 1)) ::
 oO 1 8 (.callF f_ratio_value [(.t 7)]) ::
 ⟨2, none, none, .all, .store true 3 (.t 1) (.t 8)⟩ ::
 []))
 (.seq
 (.ops 5 8 (oO 0 9 (.off 0 (.t 1)) ::
 oO 1 10 (.off 1 (.t 9)) ::
 oO 2 11 (.load true false 1 (.t 10)) ::
 oO 3 12 (.off 0 (.t 1)) ::
 oO 4 13 (.off 1 (.t 12)) ::
 oO 5 14 (.load true false 1 (.t 13)) ::
 oO 6 15 (.callF f_natural_Add [(.t 11), (.t 14)]) ::
 mM 7 3 15 ::
 []))
 (.seq
 (.ops 13 17 (mM 0 17 3 ::
 oO 1 18 (.off 2 (.t 1)) ::
 ⟨2, some 19, none, (.bef 2 17), .load true false 1 (.t 18)⟩ ::
 ⟨3, some 20, none, (.bef 7 17), .callF f_natural_Add [(.t 17), (.t 19)]⟩ ::
 oO 4 21 (.off 2 (.t 1)) ::
 ⟨5, some 22, none, (.bef 16 17), .load true false 1 (.t 21)⟩ ::
 oO 6 23 (.off 2 (.t 1)) ::
 ⟨7, some 24, none, (.bef 64 17), .load true false 1 (.t 23)⟩ ::
 ⟨8, some 25, none, (.bef 255 17), .callF f_natural_Add [(.t 22), (.t 24)]⟩ ::
 ⟨9, some 26, none, (.bef 511 17), .callF f_natural_DivMod [(.t 20), (.t 25)]⟩ ::
 mM 10 16 26 ::
 oO 11 27 (.extract (.t 16) 0) ::
 oO 12 28 (.extract (.t 16) 1) ::
 oO 13 29 (.extract (.t 16) 2) ::
 mM 14 4 27 ::
 mM 15 5 28 ::
 mM 16 6 29 ::
 []))
 (.seq
 (.ops 30 7 (oO 0 30 (.off 0 (.t 1)) ::
 oO 1 31 (.off 0 (.t 30)) ::
 oO 2 32 (.load true false 1 (.t 31)) ::
 mM 3 33 4 ::
 oO 4 34 (.build [(.bool false), .nilsl] [(0, 1, (.t 32)), (1, 1, (.t 33))]) ::
 oO 5 35 (.callF f_integer_Norm [(.t 34)]) ::
 ⟨6, none, none, .all, .store true 2 (.t 2) (.t 35)⟩ ::
 []))
 .ret))))),
 [.cell 2 true 2]⟩

def k_ratio_Add : KFn := ⟨
 (.seq
 (.ops 0 3 (oO 0 2 (.box 3 (.t 0)) ::
 oO 1 3 (.box 3 (.t 1)) ::
 oO 2 4 (.new 3 (.agg [(.bool false), .nilsl, .nilsl])) ::
 []))
 (.seq
 (.ops 3 6 (⟨0, some 6, none, (.bef 0 6), .load true true 3 (.t 2)⟩ ::
 ⟨1, some 7, none, (.bef 1 6), .callF f_ratio_value [(.t 6)]⟩ ::
 ⟨2, some 8, none, (.bef 0 6), .load true true 3 (.t 3)⟩ ::
 ⟨3, some 9, none, (.bef 7 6), .callF f_ratio_value [(.t 8)]⟩ ::
 ⟨4, none, none, (.bef 15 6), .store true 3 (.t 2) (.t 7)⟩ ::
 ⟨5, none, none, (.bef 31 6), .store true 3 (.t 3) (.t 9)⟩ ::
 []))
 (.seq
 (.ops 9 15 (oO 0 10 (.off 0 (.t 2)) ::
 ⟨1, some 11, none, (.bef 1 15), .load true true 2 (.t 10)⟩ ::
 oO 2 12 (.off 2 (.t 3)) ::
 ⟨3, some 13, none, (.bef 4 15), .load true false 1 (.t 12)⟩ ::
 ⟨4, some 14, none, (.bef 12 15), .callF f_ratio_positive [(.t 13)]⟩ ::
 ⟨5, some 15, none, (.bef 31 15), .callF f_integer_Mul [(.t 11), (.t 14)]⟩ ::
 oO 6 16 (.off 0 (.t 3)) ::
 ⟨7, some 17, none, (.bef 64 15), .load true true 2 (.t 16)⟩ ::
 oO 8 18 (.off 2 (.t 2)) ::
 ⟨9, some 19, none, (.bef 256 15), .load true false 1 (.t 18)⟩ ::
 ⟨10, some 20, none, (.bef 831 15), .callF f_ratio_positive [(.t 19)]⟩ ::
 ⟨11, some 21, none, (.bef 2047 15), .callF f_integer_Mul [(.t 17), (.t 20)]⟩ ::
 ⟨12, some 22, none, (.bef 4095 15), .callF f_integer_Add [(.t 15), (.t 21)]⟩ ::
 ⟨13, some 5, none, (.bef 0 15), .new 2 (.agg [(.bool false), .nilsl])⟩ ::
 ⟨14, none, none, (.init 13), .store true 2 (.t 5) (.t 22)⟩ ::
 []))
 (.seq
 (.ops 24 8 (⟨0, some 23, none, (.bef 0 8), .load true true 2 (.t 5)⟩ ::
 oO 1 24 (.off 2 (.t 2)) ::
 ⟨2, some 25, none, (.bef 2 8), .load true false 1 (.t 24)⟩ ::
 oO 3 26 (.off 2 (.t 3)) ::
 ⟨4, some 27, none, (.bef 8 8), .load true false 1 (.t 26)⟩ ::
 ⟨5, some 28, none, (.bef 30 8), .callF f_natural_Mul [(.t 25), (.t 27)]⟩ ::
 ⟨6, some 29, none, (.bef 63 8), .callF f_ratio_reduce [(.t 23), (.t 28)]⟩ ::
 ⟨7, none, none, (.bef 127 8), .store true 3 (.t 4) (.t 29)⟩ ::
 []))
 .ret)))),
 [.cell 4 true 3]⟩

def k_ratio_Neg : KFn := ⟨
 (.seq
 (.ops 0 2 (oO 0 1 (.box 3 (.t 0)) ::
 oO 1 2 (.new 3 (.agg [(.bool false), .nilsl, .nilsl])) ::
 []))
 (.seq
 (.ops 2 3 (oO 0 3 (.load true true 3 (.t 1)) ::
 oO 1 4 (.callF f_ratio_value [(.t 3)]) ::
 ⟨2, none, none, .all, .store true 3 (.t 1) (.t 4)⟩ ::
 []))
 (.seq
 (.ops 5 7 (oO 0 5 (.off 0 (.t 1)) ::
 ⟨1, some 6, none, (.bef 1 7), .load true true 2 (.t 5)⟩ ::
 ⟨2, some 7, none, (.bef 3 7), .callF f_integer_Neg [(.t 6)]⟩ ::
 oO 3 8 (.off 2 (.t 1)) ::
 ⟨4, some 9, none, (.bef 8 7), .load true false 1 (.t 8)⟩ ::
 ⟨5, some 10, none, (.bef 31 7), .callF f_ratio_reduce [(.t 7), (.t 9)]⟩ ::
 ⟨6, none, none, (.bef 63 7), .store true 3 (.t 2) (.t 10)⟩ ::
 []))
 .ret))),
 [.cell 2 true 3]⟩

def k_formula_right : KFn := ⟨
 (.seq
 (.ops 0 2 (oO 0 1 (.box 6 (.t 0)) ::
 oO 1 2 (.mov (.c (.bool false))) ::
 []))
 (.seq
 (.ops 2 8 (oO 0 8 (.off 0 (.t 1)) ::
 oO 1 9 (.load true false 1 (.t 8)) ::
 oO 2 10 (.callF f_formula_operands [(.t 9)]) ::
 mM 3 7 10 ::
 oO 4 11 (.extract (.t 7) 0) ::
 oO 5 12 (.extract (.t 7) 1) ::
 mM 6 3 11 ::
 mM 7 4 12 ::
 []))
 (.seq
 (.seq
 (.ops 10 12 (oO 0 13 (.off 5 (.t 1)) ::
 oO 1 14 (.load true false 1 (.t 13)) ::
 oO 2 15 (.len .sl (.t 14)) ::
 mM 3 16 3 ::
 oO 4 17 (.bin .lss .no (.t 15) (.t 16)) ::
 mM 5 18 17 ::
 gG 6 19 18 false (.off 5 (.t 1)) ::
 gG 7 20 18 false (.load true false 1 (.t 19)) ::
 gG 8 21 18 false (.len .sl (.t 20)) ::
 gG 9 22 18 false (.mov (.t 4)) ::
 gG 10 23 18 false (.bin .gtr .no (.t 21) (.t 22)) ::
 oO 11 24 (.pick (.t 18) (.c (.bool true)) (.t 23)) ::
 []))
 (.cond (.t 24)
 (.seq
 (.ops 22 1 (oO 0 2 (.mov (.c (.bool false))) ::
 []))
 .ret)
 .skip))
 (.seq
 (.seq
 (.ops 23 3 (oO 0 25 (.off 0 (.t 1)) ::
 oO 1 26 (.load true false 1 (.t 25)) ::
 oO 2 27 (.bin .eql .no (.t 26) (.c (.int .i64 2))) ::
 []))
 (.cond (.t 27)
 (.seq
 (.ops 26 4 (oO 0 28 (.off 4 (.t 1)) ::
 oO 1 29 (.load true false 1 (.t 28)) ::
 oO 2 30 (.callF f_formula_isName [(.t 29)]) ::
 oO 3 31 (.un .not (.t 30)) ::
 []))
 (.cond (.t 31)
 (.seq
 (.ops 30 1 (oO 0 2 (.mov (.c (.bool false))) ::
 []))
 .ret)
 .skip))
 (.seq
 (.ops 31 3 (oO 0 32 (.off 4 (.t 1)) ::
 oO 1 33 (.load true false 1 (.t 32)) ::
 oO 2 34 (.bin .neq .no (.t 33) (.c (.str ⟨#[]⟩))) ::
 []))
 (.cond (.t 34)
 (.seq
 (.ops 34 1 (oO 0 2 (.mov (.c (.bool false))) ::
 []))
 .ret)
 .skip))))
 (.seq
 (.seq
 (.ops 35 3 (oO 0 35 (.off 0 (.t 1)) ::
 oO 1 36 (.load true false 1 (.t 35)) ::
 oO 2 37 (.bin .eql .no (.t 36) (.c (.int .i64 1))) ::
 []))
 (.cond (.t 37)
 (.seq
 (.ops 38 8 (oO 0 39 (.off 1 (.t 1)) ::
 oO 1 40 (.load true true 3 (.t 39)) ::
 oO 2 41 (.callF f_formula_inShares [(.t 40)]) ::
 mM 3 38 41 ::
 oO 4 42 (.extract (.t 38) 0) ::
 oO 5 43 (.extract (.t 38) 1) ::
 mM 6 5 42 ::
 mM 7 6 43 ::
 []))
 (.seq
 (.ops 46 2 (mM 0 44 6 ::
 mM 1 2 44 ::
 []))
 .ret))
 .skip))
 (.seq
 (.ops 48 6 (oO 0 45 (.off 1 (.t 1)) ::
 oO 1 46 (.load true true 3 (.t 45)) ::
 oO 2 47 (.build [(.bool false), .nilsl, .nilsl] []) ::
 oO 3 48 (.callF f_ratio_Cmp [(.t 46), (.t 47)]) ::
 oO 4 49 (.bin .eql .no (.t 48) (.c (.int .i64 0))) ::
 mM 5 2 49 ::
 []))
 .ret)))))),
 [.t 2]⟩

def k_natural_Of : KFn := ⟨
 (.seq
 (.ops 0 1 (oO 0 2 (.mov (.c .nilsl)) ::
 []))
 (.seq
 (.ops 1 8 (mM 0 3 0 ::
 oO 1 4 (.conv (.int .u32) (.t 3)) ::
 mM 2 5 0 ::
 oO 3 6 (.bin .shr .no (.t 5) (.c (.int .u64 32))) ::
 oO 4 7 (.conv (.int .u32) (.t 6)) ::
 oO 5 8 (.buildSlice 1 2 [(.int .u32 0), (.int .u32 0)] [(0, (.t 4)), (1, (.t 7))]) ::
 oO 6 9 (.callF f_natural_trim [(.t 8)]) ::
 mM 7 2 9 ::
 []))
 .ret)),
 [.t 2]⟩

def k_natural_Cmp : KFn := ⟨
 (.seq
 (.ops 6 1 (oO 0 4 (.mov (.c (.int .i64 0))) ::
 []))
 (.seq
 (.ops 7 6 (mM 0 8 0 ::
 oO 1 9 (.callF f_natural_trim [(.t 8)]) ::
 mM 2 10 1 ::
 oO 3 11 (.callF f_natural_trim [(.t 10)]) ::
 mM 4 0 9 ::
 mM 5 1 11 ::
 []))
 (.seq
 (.seq
 (.ops 13 6 (mM 0 12 0 ::
 oO 1 13 (.len .sl (.t 12)) ::
 mM 2 14 1 ::
 oO 3 15 (.len .sl (.t 14)) ::
 oO 4 16 (.callF f_cmp_Compare_int [(.t 13), (.t 15)]) ::
 mM 5 5 16 ::
 []))
 (.seq
 (.ops 19 2 (mM 0 17 5 ::
 oO 1 18 (.bin .neq .no (.t 17) (.c (.int .i64 0))) ::
 []))
 (.cond (.t 18)
 (.seq
 (.ops 21 2 (mM 0 19 5 ::
 mM 1 4 19 ::
 []))
 .ret)
 .skip)))
 (.seq
 (.seq
 (.ops 23 4 (mM 0 20 0 ::
 oO 1 21 (.len .sl (.t 20)) ::
 oO 2 22 (.bin .sub .no (.t 21) (.c (.int .i64 1))) ::
 mM 3 6 22 ::
 []))
 (.block 0
 (.loop [(0, 0), (1, 0), (6, 0)]
 (.seq
 (.seq
 (.ops 27 2 (mM 0 23 6 ::
 oO 1 24 (.bin .geq .no (.t 23) (.c (.int .i64 0))) ::
 []))
 (.cond (.t 24)
 .skip
 (.exit 0)))
 (.seq
 (.block 1
 (.seq
 (.ops 29 10 (mM 0 27 0 ::
 mM 1 28 6 ::
 ⟨2, some 29, none, (.bef 3 10), .ixs 1 (.t 27) (.t 28)⟩ ::
 ⟨3, some 30, none, (.bef 7 10), .load false false 1 (.t 29)⟩ ::
 mM 4 31 1 ::
 mM 5 32 6 ::
 ⟨6, some 33, none, (.bef 48 10), .ixs 1 (.t 31) (.t 32)⟩ ::
 ⟨7, some 34, none, (.bef 112 10), .load false false 1 (.t 33)⟩ ::
 ⟨8, some 35, none, (.bef 255 10), .callF f_cmp_Compare_uint32 [(.t 30), (.t 34)]⟩ ::
 mM 9 7 35 ::
 []))
 (.seq
 (.ops 39 2 (mM 0 36 7 ::
 oO 1 37 (.bin .neq .no (.t 36) (.c (.int .i64 0))) ::
 []))
 (.cond (.t 37)
 (.seq
 (.ops 41 2 (mM 0 38 7 ::
 mM 1 4 38 ::
 []))
 .ret)
 .skip))))
 (.ops 43 3 (mM 0 25 6 ::
 oO 1 26 (.bin .sub .no (.t 25) (.c (.int .i64 1))) ::
 mM 2 6 26 ::
 [])))))))
 (.seq
 (.ops 46 1 (oO 0 4 (.mov (.c (.int .i64 0))) ::
 []))
 .ret))))),
 [.t 4]⟩

def k_natural_trim : KFn := ⟨
 (.seq
 (.ops 4 1 (oO 0 2 (.mov (.c .nilsl)) ::
 []))
 (.seq
 (.ops 5 3 (mM 0 4 0 ::
 oO 1 5 (.len .sl (.t 4)) ::
 mM 2 3 5 ::
 []))
 (.seq
 (.block 0
 (.loop [(0, 0), (3, 0)]
 (.seq
 (.seq
 (.ops 8 10 (mM 0 6 3 ::
 oO 1 7 (.bin .gtr .no (.t 6) (.c (.int .i64 0))) ::
 mM 2 8 7 ::
 gG 3 9 8 true (.mov (.t 0)) ::
 gG 4 10 8 true (.mov (.t 3)) ::
 gG 5 11 8 true (.bin .sub .no (.t 10) (.c (.int .i64 1))) ::
 gG 6 12 8 true (.ixs 1 (.t 9) (.t 11)) ::
 gG 7 13 8 true (.load false false 1 (.t 12)) ::
 gG 8 14 8 true (.bin .eql .no (.t 13) (.c (.int .u32 0))) ::
 oO 9 15 (.pick (.t 8) (.t 14) (.c (.bool false))) ::
 []))
 (.cond (.t 15)
 .skip
 (.exit 0)))
 (.block 1
 (.ops 18 3 (mM 0 16 3 ::
 oO 1 17 (.bin .sub .no (.t 16) (.c (.int .i64 1))) ::
 mM 2 3 17 ::
 []))))))
 (.seq
 (.ops 21 4 (mM 0 18 0 ::
 mM 1 19 3 ::
 oO 2 20 (.slsl 1 (.t 18) none (some (.t 19)) none) ::
 mM 3 2 20 ::
 []))
 .ret)))),
 [.t 2]⟩

def k_natural_Gcd : KFn := ⟨
 (.seq
 (.ops 4 1 (oO 0 4 (.mov (.c .nilsl)) ::
 []))
 (.seq
 (.ops 5 6 (mM 0 8 0 ::
 oO 1 9 (.callF f_natural_Norm [(.t 8)]) ::
 mM 2 10 1 ::
 oO 3 11 (.callF f_natural_Norm [(.t 10)]) ::
 mM 4 0 9 ::
 mM 5 1 11 ::
 []))
 (.seq
 (.block 0
 (.loop [(0, 0), (1, 0)]
 (.seq
 (.seq
 (.ops 11 3 (mM 0 12 1 ::
 oO 1 13 (.len .sl (.t 12)) ::
 oO 2 14 (.bin .gtr .no (.t 13) (.c (.int .i64 0))) ::
 []))
 (.cond (.t 14)
 .skip
 (.exit 0)))
 (.block 1
 (.seq
 (.ops 14 10 (mM 0 16 0 ::
 mM 1 17 1 ::
 oO 2 18 (.callF f_natural_DivMod [(.t 16), (.t 17)]) ::
 mM 3 15 18 ::
 oO 4 19 (.extract (.t 15) 0) ::
 oO 5 20 (.extract (.t 15) 1) ::
 oO 6 21 (.extract (.t 15) 2) ::
 mM 7 5 19 ::
 mM 8 6 20 ::
 mM 9 7 21 ::
 []))
 (.ops 24 4 (mM 0 22 1 ::
 mM 1 23 6 ::
 mM 2 0 22 ::
 mM 3 1 23 ::
 [])))))))
 (.seq
 (.ops 28 2 (mM 0 24 0 ::
 mM 1 4 24 ::
 []))
 .ret)))),
 [.t 4]⟩

def k_natural_DivMod : KFn := ⟨
 (.seq
 (.ops 12 3 (oO 0 4 (.mov (.c .nilsl)) ::
 oO 1 5 (.mov (.c .nilsl)) ::
 oO 2 6 (.mov (.c (.bool false))) ::
 []))
 (.seq
 (.ops 15 6 (mM 0 15 0 ::
 oO 1 16 (.callF f_natural_trim [(.t 15)]) ::
 mM 2 17 1 ::
 oO 3 18 (.callF f_natural_trim [(.t 17)]) ::
 mM 4 0 16 ::
 mM 5 1 18 ::
 []))
 (.seq
 (.block 0
 (.seq
 (.ops 21 4 (mM 0 20 1 ::
 oO 1 21 (.len .sl (.t 20)) ::
 oO 2 22 (.bin .eql .no (.t 21) (.c (.int .i64 0))) ::
 mM 3 19 22 ::
 []))
 (.cond (.t 19)
 (.seq
 (.ops 25 3 (oO 0 4 (.mov (.c .nilsl)) ::
 oO 1 5 (.mov (.c .nilsl)) ::
 oO 2 6 (.mov (.c (.bool false))) ::
 []))
 .ret)
 (.seq
 (.ops 28 5 (mM 0 24 0 ::
 mM 1 25 1 ::
 oO 2 26 (.callF f_natural_Cmp [(.t 24), (.t 25)]) ::
 oO 3 27 (.bin .lss .no (.t 26) (.c (.int .i64 0))) ::
 mM 4 23 27 ::
 []))
 (.cond (.t 23)
 (.seq
 (.ops 33 5 (mM 0 28 0 ::
 oO 1 29 (.callF f_natural_Norm [(.t 28)]) ::
 oO 2 4 (.mov (.c .nilsl)) ::
 mM 3 5 29 ::
 oO 4 6 (.mov (.c (.bool true))) ::
 []))
 .ret)
 (.seq
 (.ops 38 4 (mM 0 31 1 ::
 oO 1 32 (.len .sl (.t 31)) ::
 oO 2 33 (.bin .eql .no (.t 32) (.c (.int .i64 1))) ::
 mM 3 30 33 ::
 []))
 (.cond (.t 30)
 (.seq
 (.ops 42 10 (mM 0 35 0 ::
 mM 1 36 1 ::
 oO 2 37 (.ixs 1 (.t 36) (.c (.int .i64 0))) ::
 oO 3 38 (.load false false 1 (.t 37)) ::
 oO 4 39 (.callF f_natural_short [(.t 35), (.t 38)]) ::
 mM 5 34 39 ::
 oO 6 40 (.extract (.t 34) 0) ::
 oO 7 41 (.extract (.t 34) 1) ::
 mM 8 7 40 ::
 mM 9 8 41 ::
 []))
 (.seq
 (.ops 52 7 (mM 0 42 7 ::
 mM 1 43 8 ::
 oO 2 44 (.conv (.int .u64) (.t 43)) ::
 oO 3 45 (.callF f_natural_Of [(.t 44)]) ::
 mM 4 4 42 ::
 mM 5 5 45 ::
 oO 6 6 (.mov (.c (.bool true))) ::
 []))
 .ret))
 .skip)))))))
 (.seq
 (.ops 59 3 (mM 0 46 1 ::
 oO 1 47 (.len .sl (.t 46)) ::
 mM 2 9 47 ::
 []))
 (.seq
 (.ops 62 7 (mM 0 48 1 ::
 mM 1 49 9 ::
 oO 2 50 (.bin .sub .no (.t 49) (.c (.int .i64 1))) ::
 oO 3 51 (.ixs 1 (.t 48) (.t 50)) ::
 oO 4 52 (.load false false 1 (.t 51)) ::
 oO 5 53 (.callF f_bits_LeadingZeros32 [(.t 52)]) ::
 mM 6 10 53 ::
 []))
 (.seq
 (.ops 69 10 (mM 0 54 0 ::
 mM 1 55 10 ::
 ⟨2, some 56, none, (.bef 3 10), .callF f_natural_left [(.t 54), (.t 55)]⟩ ::
 mM 3 57 1 ::
 mM 4 58 10 ::
 ⟨5, some 59, none, (.bef 31 10), .callF f_natural_left [(.t 57), (.t 58)]⟩ ::
 mM 6 60 9 ::
 ⟨7, some 61, none, (.bef 127 10), .slsl 1 (.t 59) none (some (.t 60)) none⟩ ::
 mM 8 11 56 ::
 mM 9 12 61 ::
 []))
 (.seq
 (.ops 181 6 (mM 0 62 11 ::
 oO 1 63 (.len .sl (.t 62)) ::
 mM 2 64 9 ::
 oO 3 65 (.bin .sub .no (.t 63) (.t 64)) ::
 oO 4 66 (.mkslice ⟨1, 4, (.int .u32 0)⟩ (.t 65) (.t 65)) ::
 mM 5 13 66 ::
 []))
 (.seq
 (.seq
 (.ops 187 4 (mM 0 67 13 ::
 oO 1 68 (.len .sl (.t 67)) ::
 oO 2 69 (.bin .sub .no (.t 68) (.c (.int .i64 1))) ::
 mM 3 14 69 ::
 []))
 (.block 1
 (.loop [(9, 0), (10, 0), (11, 0), (12, 0), (13, 0), (14, 0)]
 (.seq
 (.seq
 (.ops 191 2 (mM 0 70 14 ::
 oO 1 71 (.bin .geq .no (.t 70) (.c (.int .i64 0))) ::
 []))
 (.cond (.t 71)
 .skip
 (.exit 1)))
 (.seq
 (.block 2
 (.ops 193 13 (mM 0 74 13 ::
 mM 1 75 14 ::
 mM 2 76 11 ::
 mM 3 77 14 ::
 mM 4 78 14 ::
 mM 5 79 9 ::
 oO 6 80 (.bin .add .no (.t 78) (.t 79)) ::
 oO 7 81 (.bin .add .no (.t 80) (.c (.int .i64 1))) ::
 oO 8 82 (.slsl 1 (.t 76) (some (.t 77)) (some (.t 81)) none) ::
 mM 9 83 12 ::
 oO 10 84 (.callF f_natural_digit [(.t 82), (.t 83)]) ::
 oO 11 85 (.ixs 1 (.t 74) (.t 75)) ::
 ⟨12, none, none, .all, .store false 1 (.t 85) (.t 84)⟩ ::
 [])))
 (.ops 401 3 (mM 0 72 14 ::
 oO 1 73 (.bin .sub .no (.t 72) (.c (.int .i64 1))) ::
 mM 2 14 73 ::
 [])))))))
 (.seq
 (.ops 404 10 (mM 0 86 13 ::
 ⟨1, some 87, none, (.bef 1 10), .callF f_natural_trim [(.t 86)]⟩ ::
 mM 2 88 11 ::
 mM 3 89 9 ::
 ⟨4, some 90, none, (.bef 12 10), .slsl 1 (.t 88) none (some (.t 89)) none⟩ ::
 mM 5 91 10 ::
 ⟨6, some 92, none, (.bef 63 10), .callF f_natural_right [(.t 90), (.t 91)]⟩ ::
 mM 7 4 87 ::
 mM 8 5 92 ::
 oO 9 6 (.mov (.c (.bool true))) ::
 []))
 .ret))))))))),
 [.t 4, .t 5, .t 6]⟩

def k_integer_Norm : KFn := ⟨
 (.seq
 (.ops 0 2 (oO 0 1 (.box 2 (.t 0)) ::
 oO 1 2 (.new 2 (.agg [(.bool false), .nilsl])) ::
 []))
 (.seq
 (.ops 2 6 (oO 0 3 (.off 0 (.t 1)) ::
 oO 1 4 (.load true false 1 (.t 3)) ::
 oO 2 5 (.off 1 (.t 1)) ::
 oO 3 6 (.load true false 1 (.t 5)) ::
 oO 4 7 (.callF f_integer_signed [(.t 4), (.t 6)]) ::
 ⟨5, none, none, .all, .store true 2 (.t 2) (.t 7)⟩ ::
 []))
 .ret)),
 [.cell 2 true 2]⟩

def k_integer_Mul : KFn := ⟨
 (.seq
 (.ops 0 3 (oO 0 2 (.box 2 (.t 0)) ::
 oO 1 3 (.box 2 (.t 1)) ::
 oO 2 4 (.new 2 (.agg [(.bool false), .nilsl])) ::
 []))
 (.seq
 (.ops 3 12 (oO 0 5 (.off 0 (.t 2)) ::
 ⟨1, some 6, none, (.bef 1 12), .load true false 1 (.t 5)⟩ ::
 oO 2 7 (.off 0 (.t 3)) ::
 ⟨3, some 8, none, (.bef 4 12), .load true false 1 (.t 7)⟩ ::
 oO 4 9 (.bin .neq .bool (.t 6) (.t 8)) ::
 oO 5 10 (.off 1 (.t 2)) ::
 ⟨6, some 11, none, (.bef 32 12), .load true false 1 (.t 10)⟩ ::
 oO 7 12 (.off 1 (.t 3)) ::
 ⟨8, some 13, none, (.bef 128 12), .load true false 1 (.t 12)⟩ ::
 ⟨9, some 14, none, (.bef 480 12), .callF f_natural_Mul [(.t 11), (.t 13)]⟩ ::
 ⟨10, some 15, none, (.bef 1023 12), .callF f_integer_signed [(.t 9), (.t 14)]⟩ ::
 ⟨11, none, none, (.bef 2047 12), .store true 2 (.t 4) (.t 15)⟩ ::
 []))
 .ret)),
 [.cell 4 true 2]⟩

def k_integer_Of : KFn := ⟨
 (.seq
 (.ops 0 1 (oO 0 2 (.new 2 (.agg [(.bool false), .nilsl])) ::
 []))
 (.seq
 (.seq
 (.ops 1 2 (mM 0 3 0 ::
 oO 1 4 (.bin .lss .no (.t 3) (.c (.int .i64 0))) ::
 []))
 (.cond (.t 4)
 (.seq
 (.ops 3 6 (mM 0 5 0 ::
 oO 1 6 (.conv (.int .u64) (.t 5)) ::
 oO 2 7 (.un .neg (.t 6)) ::
 oO 3 8 (.callF f_natural_Of [(.t 7)]) ::
 oO 4 9 (.callF f_integer_signed [(.c (.bool true)), (.t 8)]) ::
 ⟨5, none, none, .all, .store true 2 (.t 2) (.t 9)⟩ ::
 []))
 .ret)
 .skip))
 (.seq
 (.ops 9 5 (mM 0 10 0 ::
 oO 1 11 (.conv (.int .u64) (.t 10)) ::
 oO 2 12 (.callF f_natural_Of [(.t 11)]) ::
 oO 3 13 (.callF f_integer_signed [(.c (.bool false)), (.t 12)]) ::
 ⟨4, none, none, .all, .store true 2 (.t 2) (.t 13)⟩ ::
 []))
 .ret))),
 [.cell 2 true 2]⟩

def k_natural_Add : KFn := ⟨
 (.seq
 (.ops 12 1 (oO 0 4 (.mov (.c .nilsl)) ::
 []))
 (.seq
 (.ops 13 6 (mM 0 9 0 ::
 oO 1 10 (.callF f_natural_trim [(.t 9)]) ::
 mM 2 11 1 ::
 oO 3 12 (.callF f_natural_trim [(.t 11)]) ::
 mM 4 0 10 ::
 mM 5 1 12 ::
 []))
 (.seq
 (.seq
 (.ops 19 5 (mM 0 13 0 ::
 oO 1 14 (.len .sl (.t 13)) ::
 mM 2 15 1 ::
 oO 3 16 (.len .sl (.t 15)) ::
 oO 4 17 (.bin .lss .no (.t 14) (.t 16)) ::
 []))
 (.cond (.t 17)
 (.ops 24 4 (mM 0 18 1 ::
 mM 1 19 0 ::
 mM 2 0 18 ::
 mM 3 1 19 ::
 []))
 .skip))
 (.seq
 (.ops 28 5 (mM 0 20 0 ::
 oO 1 21 (.len .sl (.t 20)) ::
 oO 2 22 (.bin .add .no (.t 21) (.c (.int .i64 1))) ::
 oO 3 23 (.mkslice ⟨1, 4, (.int .u32 0)⟩ (.c (.int .i64 0)) (.t 22)) ::
 mM 4 5 23 ::
 []))
 (.seq
 (.ops 33 1 (oO 0 6 (.mov (.c (.int .u64 0))) ::
 []))
 (.seq
 (.seq
 (.ops 34 3 (mM 0 24 0 ::
 oO 1 25 (.len .sl (.t 24)) ::
 oO 2 26 (.mov (.c (.int .i64 0))) ::
 []))
 (.block 0
 (.loop [(1, 0), (5, 1), (6, 0), (24, 0), (25, 0), (26, 0)]
 (.seq
 (.ops 37 1 (oO 0 27 (.bin .lss .no (.t 26) (.t 25)) ::
 []))
 (.seq
 (.cond (.t 27)
 .skip
 (.exit 0))
 (.seq
 (.block 1
 (.seq
 (.ops 38 5 (mM 0 28 26 ::
 oO 1 29 (.ixs 1 (.t 24) (.t 26)) ::
 oO 2 30 (.load false false 1 (.t 29)) ::
 mM 3 7 28 ::
 mM 4 8 30 ::
 []))
 (.seq
 (.ops 43 5 (mM 0 31 6 ::
 mM 1 32 8 ::
 oO 2 33 (.conv (.int .u64) (.t 32)) ::
 oO 3 34 (.bin .add .no (.t 31) (.t 33)) ::
 mM 4 6 34 ::
 []))
 (.seq
 (.seq
 (.ops 48 4 (mM 0 35 7 ::
 mM 1 36 1 ::
 oO 2 37 (.len .sl (.t 36)) ::
 oO 3 38 (.bin .lss .no (.t 35) (.t 37)) ::
 []))
 (.cond (.t 38)
 (.ops 52 8 (mM 0 39 6 ::
 mM 1 40 1 ::
 mM 2 41 7 ::
 oO 3 42 (.ixs 1 (.t 40) (.t 41)) ::
 oO 4 43 (.load false false 1 (.t 42)) ::
 oO 5 44 (.conv (.int .u64) (.t 43)) ::
 oO 6 45 (.bin .add .no (.t 39) (.t 44)) ::
 mM 7 6 45 ::
 []))
 .skip))
 (.seq
 (.ops 60 6 (mM 0 46 5 ::
 mM 1 47 6 ::
 oO 2 48 (.conv (.int .u32) (.t 47)) ::
 oO 3 49 (.buildSlice 1 1 [(.int .u32 0)] [(0, (.t 48))]) ::
 oO 4 50 (.append ⟨1, 4, (.int .u32 0)⟩ .sl (.t 46) (.t 49)) ::
 mM 5 5 50 ::
 []))
 (.ops 66 3 (mM 0 51 6 ::
 oO 1 52 (.bin .shr .no (.t 51) (.c (.int .u64 32))) ::
 mM 2 6 52 ::
 [])))))))
 (.ops 69 2 (oO 0 53 (.bin .add .no (.t 26) (.c (.int .i64 1))) ::
 mM 1 26 53 ::
 []))))))))
 (.seq
 (.ops 71 7 (mM 0 54 5 ::
 mM 1 55 6 ::
 oO 2 56 (.conv (.int .u32) (.t 55)) ::
 oO 3 57 (.buildSlice 1 1 [(.int .u32 0)] [(0, (.t 56))]) ::
 oO 4 58 (.append ⟨1, 4, (.int .u32 0)⟩ .sl (.t 54) (.t 57)) ::
 oO 5 59 (.callF f_natural_trim [(.t 58)]) ::
 mM 6 4 59 ::
 []))
 .ret))))))),
 [.t 4]⟩

def k_integer_Add : KFn := ⟨
 (.seq
 (.ops 0 3 (oO 0 2 (.box 2 (.t 0)) ::
 oO 1 3 (.box 2 (.t 1)) ::
 oO 2 4 (.new 2 (.agg [(.bool false), .nilsl])) ::
 []))
 (.seq
 (.seq
 (.ops 3 5 (oO 0 9 (.off 0 (.t 2)) ::
 oO 1 10 (.load true false 1 (.t 9)) ::
 oO 2 11 (.off 0 (.t 3)) ::
 oO 3 12 (.load true false 1 (.t 11)) ::
 oO 4 13 (.bin .eql .bool (.t 10) (.t 12)) ::
 []))
 (.cond (.t 13)
 (.seq
 (.ops 8 9 (oO 0 14 (.off 0 (.t 2)) ::
 ⟨1, some 15, none, (.bef 1 9), .load true false 1 (.t 14)⟩ ::
 oO 2 16 (.off 1 (.t 2)) ::
 ⟨3, some 17, none, (.bef 4 9), .load true false 1 (.t 16)⟩ ::
 oO 4 18 (.off 1 (.t 3)) ::
 ⟨5, some 19, none, (.bef 16 9), .load true false 1 (.t 18)⟩ ::
 ⟨6, some 20, none, (.bef 60 9), .callF f_natural_Add [(.t 17), (.t 19)]⟩ ::
 ⟨7, some 21, none, (.bef 127 9), .callF f_integer_signed [(.t 15), (.t 20)]⟩ ::
 ⟨8, none, none, (.bef 255 9), .store true 2 (.t 4) (.t 21)⟩ ::
 []))
 .ret)
 .skip))
 (.seq
 (.seq
 (.ops 17 10 (oO 0 23 (.off 1 (.t 2)) ::
 oO 1 24 (.load true false 1 (.t 23)) ::
 oO 2 25 (.off 1 (.t 3)) ::
 oO 3 26 (.load true false 1 (.t 25)) ::
 oO 4 27 (.callF f_natural_Sub [(.t 24), (.t 26)]) ::
 mM 5 22 27 ::
 oO 6 28 (.extract (.t 22) 0) ::
 oO 7 29 (.extract (.t 22) 1) ::
 mM 8 5 28 ::
 mM 9 6 29 ::
 []))
 (.seq
 (.ops 27 1 (mM 0 30 6 ::
 []))
 (.cond (.t 30)
 (.seq
 (.ops 28 5 (oO 0 31 (.off 0 (.t 2)) ::
 oO 1 32 (.load true false 1 (.t 31)) ::
 mM 2 33 5 ::
 oO 3 34 (.callF f_integer_signed [(.t 32), (.t 33)]) ::
 ⟨4, none, none, .all, .store true 2 (.t 4) (.t 34)⟩ ::
 []))
 .ret)
 .skip)))
 (.seq
 (.ops 33 10 (oO 0 36 (.off 1 (.t 3)) ::
 oO 1 37 (.load true false 1 (.t 36)) ::
 oO 2 38 (.off 1 (.t 2)) ::
 oO 3 39 (.load true false 1 (.t 38)) ::
 oO 4 40 (.callF f_natural_Sub [(.t 37), (.t 39)]) ::
 mM 5 35 40 ::
 oO 6 41 (.extract (.t 35) 0) ::
 oO 7 42 (.extract (.t 35) 1) ::
 mM 8 7 41 ::
 mM 9 8 42 ::
 []))
 (.seq
 (.ops 43 5 (oO 0 43 (.off 0 (.t 3)) ::
 oO 1 44 (.load true false 1 (.t 43)) ::
 mM 2 45 7 ::
 oO 3 46 (.callF f_integer_signed [(.t 44), (.t 45)]) ::
 ⟨4, none, none, .all, .store true 2 (.t 4) (.t 46)⟩ ::
 []))
 .ret))))),
 [.cell 4 true 2]⟩

def k_ratio_positive : KFn := ⟨
 (.seq
 (.ops 0 1 (oO 0 2 (.new 2 (.agg [(.bool false), .nilsl])) ::
 []))
 (.seq
 (.ops 1 3 (mM 0 3 0 ::
 oO 1 4 (.build [(.bool false), .nilsl] [(1, 1, (.t 3))]) ::
 ⟨2, none, none, .all, .store true 2 (.t 2) (.t 4)⟩ ::
 []))
 .ret)),
 [.cell 2 true 2]⟩

def k_integer_Neg : KFn := ⟨
 (.seq
 (.ops 0 2 (oO 0 1 (.box 2 (.t 0)) ::
 oO 1 2 (.new 2 (.agg [(.bool false), .nilsl])) ::
 []))
 (.seq
 (.ops 2 7 (oO 0 3 (.off 0 (.t 1)) ::
 oO 1 4 (.load true false 1 (.t 3)) ::
 oO 2 5 (.un .not (.t 4)) ::
 oO 3 6 (.off 1 (.t 1)) ::
 oO 4 7 (.load true false 1 (.t 6)) ::
 oO 5 8 (.callF f_integer_signed [(.t 5), (.t 7)]) ::
 ⟨6, none, none, .all, .store true 2 (.t 2) (.t 8)⟩ ::
 []))
 .ret)),
 [.cell 2 true 2]⟩

def k_formula_operands : KFn := ⟨
 (.seq
 (.ops 0 2 (oO 0 2 (.mov (.c (.int .i64 0))) ::
 oO 1 3 (.mov (.c (.int .i64 0))) ::
 []))
 (.seq
 (.seq
 (.ops 2 1 (mM 0 4 0 ::
 []))
 (.block 0
 (.seq
 (.seq
 (.ops 3 2 (oO 0 6 (.bin .eql .no (.t 4) (.c (.int .i64 1))) ::
 mM 1 5 6 ::
 []))
 (.cond (.t 5)
 .skip
 (.ops 5 2 (oO 0 7 (.bin .eql .no (.t 4) (.c (.int .i64 2))) ::
 mM 1 5 7 ::
 []))))
 (.cond (.t 5)
 (.seq
 (.ops 7 2 (oO 0 2 (.mov (.c (.int .i64 0))) ::
 oO 1 3 (.mov (.c (.int .i64 0))) ::
 []))
 .ret)
 (.seq
 (.seq
 (.ops 9 2 (oO 0 9 (.bin .eql .no (.t 4) (.c (.int .i64 3))) ::
 mM 1 8 9 ::
 []))
 (.cond (.t 8)
 .skip
 (.seq
 (.ops 11 2 (oO 0 10 (.bin .eql .no (.t 4) (.c (.int .i64 4))) ::
 mM 1 8 10 ::
 []))
 (.cond (.t 8)
 .skip
 (.seq
 (.ops 13 2 (oO 0 11 (.bin .eql .no (.t 4) (.c (.int .i64 5))) ::
 mM 1 8 11 ::
 []))
 (.cond (.t 8)
 .skip
 (.ops 15 2 (oO 0 12 (.bin .eql .no (.t 4) (.c (.int .i64 6))) ::
 mM 1 8 12 ::
 []))))))))
 (.cond (.t 8)
 (.seq
 (.ops 17 2 (oO 0 2 (.mov (.c (.int .i64 2))) ::
 oO 1 3 (.mov (.c (.int .i64 2))) ::
 []))
 .ret)
 (.seq
 (.ops 19 2 (oO 0 14 (.bin .eql .no (.t 4) (.c (.int .i64 7))) ::
 mM 1 13 14 ::
 []))
 (.cond (.t 13)
 (.seq
 (.ops 21 2 (oO 0 2 (.mov (.c (.int .i64 1))) ::
 oO 1 3 (.mov (.c (.int .i64 1))) ::
 []))
 .ret)
 (.seq
 (.seq
 (.ops 23 2 (oO 0 16 (.bin .eql .no (.t 4) (.c (.int .i64 8))) ::
 mM 1 15 16 ::
 []))
 (.cond (.t 15)
 .skip
 (.ops 25 2 (oO 0 17 (.bin .eql .no (.t 4) (.c (.int .i64 9))) ::
 mM 1 15 17 ::
 []))))
 (.cond (.t 15)
 (.seq
 (.ops 27 2 (oO 0 2 (.mov (.c (.int .i64 1))) ::
 oO 1 3 (.mov (.c (.int .i64 8))) ::
 []))
 .ret)
 .skip))))))))))
 (.seq
 (.ops 29 2 (oO 0 2 (.mov (.c (.int .i64 0))) ::
 oO 1 3 (.mov (.c (.int .i64 (-1)))) ::
 []))
 .ret))),
 [.t 2, .t 3]⟩

def k_formula_isName : KFn := ⟨
 (.seq
 (.ops 6 1 (oO 0 2 (.mov (.c (.bool false))) ::
 []))
 (.seq
 (.seq
 (.ops 7 16 (mM 0 6 0 ::
 oO 1 7 (.len .str (.t 6)) ::
 oO 2 8 (.bin .eql .no (.t 7) (.c (.int .i64 0))) ::
 mM 3 9 8 ::
 gG 4 10 9 false (.mov (.t 0)) ::
 gG 5 11 9 false (.len .str (.t 10)) ::
 gG 6 12 9 false (.bin .gtr .no (.t 11) (.c (.int .i64 24))) ::
 oO 7 13 (.pick (.t 9) (.c (.bool true)) (.t 12)) ::
 mM 8 14 13 ::
 gG 9 15 14 false (.mov (.t 0)) ::
 gG 10 16 14 false (.bin .eql .no (.t 15) (.c (.str ⟨#[109, 105, 110]⟩))) ::
 oO 11 17 (.pick (.t 14) (.c (.bool true)) (.t 16)) ::
 mM 12 18 17 ::
 gG 13 19 18 false (.mov (.t 0)) ::
 gG 14 20 18 false (.bin .eql .no (.t 19) (.c (.str ⟨#[109, 97, 120]⟩))) ::
 oO 15 21 (.pick (.t 18) (.c (.bool true)) (.t 20)) ::
 []))
 (.cond (.t 21)
 (.seq
 (.ops 23 1 (oO 0 2 (.mov (.c (.bool false))) ::
 []))
 .ret)
 .skip))
 (.seq
 (.seq
 (.ops 24 3 (mM 0 22 0 ::
 oO 1 23 (.len .str (.t 22)) ::
 oO 2 24 (.mov (.c (.int .i64 0))) ::
 []))
 (.block 0
 (.loop [(0, 0), (23, 0), (24, 0)]
 (.seq
 (.ops 27 1 (oO 0 25 (.bin .lss .no (.t 24) (.t 23)) ::
 []))
 (.seq
 (.cond (.t 25)
 .skip
 (.exit 0))
 (.seq
 (.block 1
 (.seq
 (.ops 28 2 (mM 0 26 24 ::
 mM 1 3 26 ::
 []))
 (.seq
 (.ops 30 4 (mM 0 27 0 ::
 mM 1 28 3 ::
 oO 2 29 (.istr (.t 27) (.t 28)) ::
 mM 3 4 29 ::
 []))
 (.seq
 (.ops 34 7 (mM 0 30 4 ::
 oO 1 31 (.bin .leq .no (.c (.int .u8 97)) (.t 30)) ::
 mM 2 32 31 ::
 gG 3 33 32 true (.mov (.t 4)) ::
 gG 4 34 32 true (.bin .leq .no (.t 33) (.c (.int .u8 122))) ::
 oO 5 35 (.pick (.t 32) (.t 34) (.c (.bool false))) ::
 mM 6 5 35 ::
 []))
 (.seq
 (.ops 41 15 (mM 0 36 5 ::
 oO 1 37 (.un .not (.t 36)) ::
 mM 2 38 37 ::
 gG 3 39 38 true (.mov (.t 3)) ::
 gG 4 40 38 true (.bin .eql .no (.t 39) (.c (.int .i64 0))) ::
 gG 5 41 38 true (.mov (.t 40)) ::
 gG 6 42 41 false (.mov (.t 4)) ::
 gG 7 43 41 false (.bin .neq .no (.t 42) (.c (.int .u8 95))) ::
 gG 8 44 41 false (.mov (.t 43)) ::
 gG 9 45 44 true (.mov (.t 4)) ::
 gG 10 46 44 true (.callF f_formula_isDigit [(.t 45)]) ::
 gG 11 47 44 true (.un .not (.t 46)) ::
 gG 12 48 41 false (.pick (.t 44) (.t 47) (.c (.bool false))) ::
 gG 13 49 38 true (.pick (.t 41) (.c (.bool true)) (.t 48)) ::
 oO 14 50 (.pick (.t 38) (.t 49) (.c (.bool false))) ::
 []))
 (.cond (.t 50)
 (.seq
 (.ops 56 1 (oO 0 2 (.mov (.c (.bool false))) ::
 []))
 .ret)
 .skip))))))
 (.ops 57 2 (oO 0 51 (.bin .add .no (.t 24) (.c (.int .i64 1))) ::
 mM 1 24 51 ::
 []))))))))
 (.seq
 (.ops 59 1 (oO 0 2 (.mov (.c (.bool true))) ::
 []))
 .ret)))),
 [.t 2]⟩

def k_formula_inShares : KFn := ⟨
 (.seq
 (.ops 0 3 (oO 0 1 (.box 3 (.t 0)) ::
 oO 1 2 (.mov (.c (.int .i64 0))) ::
 oO 2 3 (.mov (.c (.bool false))) ::
 []))
 (.seq
 (.ops 3 7 (oO 0 10 (.callF f_ratio_Of [(.c (.int .i64 10000)), (.c (.int .i64 1))]) ::
 mM 1 9 10 ::
 oO 2 11 (.extract (.t 9) 0) ::
 oO 3 12 (.extract (.t 9) 1) ::
 oO 4 4 (.new 3 (.agg [(.bool false), .nilsl, .nilsl])) ::
 ⟨5, none, none, .all, .store true 3 (.t 4) (.t 11)⟩ ::
 mM 6 5 12 ::
 []))
 (.seq
 (.ops 10 5 (oO 0 13 (.load true true 3 (.t 1)) ::
 oO 1 14 (.load true true 3 (.t 4)) ::
 oO 2 15 (.callF f_ratio_Mul [(.t 13), (.t 14)]) ::
 oO 3 6 (.new 3 (.agg [(.bool false), .nilsl, .nilsl])) ::
 ⟨4, none, none, .all, .store true 3 (.t 6) (.t 15)⟩ ::
 []))
 (.seq
 (.seq
 (.ops 15 5 (oO 0 16 (.off 2 (.t 6)) ::
 ⟨1, some 17, none, (.bef 1 5), .load true false 1 (.t 16)⟩ ::
 ⟨2, some 18, none, (.bef 0 5), .callF f_natural_Of [(.c (.int .u64 1))]⟩ ::
 ⟨3, some 19, none, (.bef 7 5), .callF f_natural_Cmp [(.t 17), (.t 18)]⟩ ::
 oO 4 20 (.bin .neq .no (.t 19) (.c (.int .i64 0))) ::
 []))
 (.cond (.t 20)
 (.seq
 (.ops 20 2 (oO 0 2 (.mov (.c (.int .i64 0))) ::
 oO 1 3 (.mov (.c (.bool false))) ::
 []))
 .ret)
 .skip))
 (.seq
 (.ops 22 8 (oO 0 22 (.off 0 (.t 6)) ::
 oO 1 23 (.load true true 2 (.t 22)) ::
 oO 2 24 (.callF f_integer_Small [(.t 23)]) ::
 mM 3 21 24 ::
 oO 4 25 (.extract (.t 21) 0) ::
 oO 5 26 (.extract (.t 21) 1) ::
 mM 6 7 25 ::
 mM 7 8 26 ::
 []))
 (.seq
 (.seq
 (.ops 30 10 (mM 0 27 8 ::
 oO 1 28 (.un .not (.t 27)) ::
 mM 2 29 28 ::
 gG 3 30 29 false (.mov (.t 7)) ::
 gG 4 31 29 false (.bin .lss .no (.t 30) (.c (.int .i64 0))) ::
 oO 5 32 (.pick (.t 29) (.c (.bool true)) (.t 31)) ::
 mM 6 33 32 ::
 gG 7 34 33 false (.mov (.t 7)) ::
 gG 8 35 33 false (.bin .gtr .no (.t 34) (.c (.int .i64 9999999999999))) ::
 oO 9 36 (.pick (.t 33) (.c (.bool true)) (.t 35)) ::
 []))
 (.cond (.t 36)
 (.seq
 (.ops 40 2 (oO 0 2 (.mov (.c (.int .i64 0))) ::
 oO 1 3 (.mov (.c (.bool false))) ::
 []))
 .ret)
 .skip))
 (.seq
 (.ops 42 3 (mM 0 37 7 ::
 mM 1 2 37 ::
 oO 2 3 (.mov (.c (.bool true))) ::
 []))
 .ret))))))),
 [.t 2, .t 3]⟩

def k_ratio_Cmp : KFn := ⟨
 (.seq
 (.ops 0 3 (oO 0 2 (.box 3 (.t 0)) ::
 oO 1 3 (.box 3 (.t 1)) ::
 oO 2 4 (.mov (.c (.int .i64 0))) ::
 []))
 (.seq
 (.ops 3 6 (⟨0, some 5, none, (.bef 0 6), .load true true 3 (.t 2)⟩ ::
 ⟨1, some 6, none, (.bef 1 6), .callF f_ratio_value [(.t 5)]⟩ ::
 ⟨2, some 7, none, (.bef 0 6), .load true true 3 (.t 3)⟩ ::
 ⟨3, some 8, none, (.bef 7 6), .callF f_ratio_value [(.t 7)]⟩ ::
 ⟨4, none, none, (.bef 15 6), .store true 3 (.t 2) (.t 6)⟩ ::
 ⟨5, none, none, (.bef 31 6), .store true 3 (.t 3) (.t 8)⟩ ::
 []))
 (.seq
 (.ops 9 14 (oO 0 9 (.off 0 (.t 2)) ::
 ⟨1, some 10, none, (.bef 1 14), .load true true 2 (.t 9)⟩ ::
 oO 2 11 (.off 2 (.t 3)) ::
 ⟨3, some 12, none, (.bef 4 14), .load true false 1 (.t 11)⟩ ::
 ⟨4, some 13, none, (.bef 12 14), .callF f_ratio_positive [(.t 12)]⟩ ::
 ⟨5, some 14, none, (.bef 31 14), .callF f_integer_Mul [(.t 10), (.t 13)]⟩ ::
 oO 6 15 (.off 0 (.t 3)) ::
 ⟨7, some 16, none, (.bef 64 14), .load true true 2 (.t 15)⟩ ::
 oO 8 17 (.off 2 (.t 2)) ::
 ⟨9, some 18, none, (.bef 256 14), .load true false 1 (.t 17)⟩ ::
 ⟨10, some 19, none, (.bef 831 14), .callF f_ratio_positive [(.t 18)]⟩ ::
 ⟨11, some 20, none, (.bef 2047 14), .callF f_integer_Mul [(.t 16), (.t 19)]⟩ ::
 ⟨12, some 21, none, (.bef 4095 14), .callF f_integer_Cmp [(.t 14), (.t 20)]⟩ ::
 mM 13 4 21 ::
 []))
 .ret))),
 [.t 4]⟩

def k_cmp_Compare_uint32 : KFn := ⟨
 (.seq
 (.ops 0 1 (oO 0 4 (.mov (.c (.int .i64 0))) ::
 []))
 (.seq
 (.ops 1 3 (mM 0 7 0 ::
 oO 1 8 (.callF f_cmp_isNaN_uint32 [(.t 7)]) ::
 mM 2 5 8 ::
 []))
 (.seq
 (.ops 4 3 (mM 0 9 1 ::
 oO 1 10 (.callF f_cmp_isNaN_uint32 [(.t 9)]) ::
 mM 2 6 10 ::
 []))
 (.seq
 (.seq
 (.ops 7 1 (mM 0 11 5 ::
 []))
 (.cond (.t 11)
 (.seq
 (.seq
 (.ops 8 1 (mM 0 12 6 ::
 []))
 (.cond (.t 12)
 (.seq
 (.ops 9 1 (oO 0 4 (.mov (.c (.int .i64 0))) ::
 []))
 .ret)
 .skip))
 (.seq
 (.ops 10 1 (oO 0 4 (.mov (.c (.int .i64 (-1)))) ::
 []))
 .ret))
 .skip))
 (.seq
 (.seq
 (.ops 11 1 (mM 0 13 6 ::
 []))
 (.cond (.t 13)
 (.seq
 (.ops 12 1 (oO 0 4 (.mov (.c (.int .i64 1))) ::
 []))
 .ret)
 .skip))
 (.seq
 (.seq
 (.ops 13 3 (mM 0 14 0 ::
 mM 1 15 1 ::
 oO 2 16 (.bin .lss .no (.t 14) (.t 15)) ::
 []))
 (.cond (.t 16)
 (.seq
 (.ops 16 1 (oO 0 4 (.mov (.c (.int .i64 (-1)))) ::
 []))
 .ret)
 .skip))
 (.seq
 (.seq
 (.ops 17 3 (mM 0 17 0 ::
 mM 1 18 1 ::
 oO 2 19 (.bin .gtr .no (.t 17) (.t 18)) ::
 []))
 (.cond (.t 19)
 (.seq
 (.ops 20 1 (oO 0 4 (.mov (.c (.int .i64 1))) ::
 []))
 .ret)
 .skip))
 (.seq
 (.ops 21 1 (oO 0 4 (.mov (.c (.int .i64 0))) ::
 []))
 .ret)))))))),
 [.t 4]⟩

def k_natural_Norm : KFn := ⟨
 (.seq
 (.ops 0 1 (oO 0 2 (.mov (.c .nilsl)) ::
 []))
 (.seq
 (.ops 1 3 (mM 0 4 0 ::
 oO 1 5 (.callF f_natural_trim [(.t 4)]) ::
 mM 2 0 5 ::
 []))
 (.seq
 (.ops 4 4 (mM 0 6 0 ::
 oO 1 7 (.len .sl (.t 6)) ::
 oO 2 8 (.mkslice ⟨1, 4, (.int .u32 0)⟩ (.t 7) (.t 7)) ::
 mM 3 3 8 ::
 []))
 (.seq
 (.ops 8 3 (mM 0 9 3 ::
 mM 1 10 0 ::
 oO 2 11 (.copy 1 (.t 9) (.t 10)) ::
 []))
 (.seq
 (.ops 11 2 (mM 0 12 3 ::
 mM 1 2 12 ::
 []))
 .ret))))),
 [.t 2]⟩

def k_natural_short : KFn := ⟨
 (.seq
 (.ops 10 2 (oO 0 4 (.mov (.c .nilsl)) ::
 oO 1 5 (.mov (.c (.int .u32 0))) ::
 []))
 (.seq
 (.ops 12 4 (mM 0 9 0 ::
 oO 1 10 (.len .sl (.t 9)) ::
 oO 2 11 (.mkslice ⟨1, 4, (.int .u32 0)⟩ (.t 10) (.t 10)) ::
 mM 3 6 11 ::
 []))
 (.seq
 (.ops 16 1 (oO 0 7 (.mov (.c (.int .u64 0))) ::
 []))
 (.seq
 (.seq
 (.ops 17 4 (mM 0 12 0 ::
 oO 1 13 (.len .sl (.t 12)) ::
 oO 2 14 (.bin .sub .no (.t 13) (.c (.int .i64 1))) ::
 mM 3 8 14 ::
 []))
 (.block 0
 (.loop [(0, 0), (1, 0), (6, 0), (7, 0), (8, 0)]
 (.seq
 (.seq
 (.ops 21 2 (mM 0 15 8 ::
 oO 1 16 (.bin .geq .no (.t 15) (.c (.int .i64 0))) ::
 []))
 (.cond (.t 16)
 .skip
 (.exit 0)))
 (.seq
 (.block 1
 (.seq
 (.ops 23 9 (mM 0 19 7 ::
 oO 1 20 (.bin .shl .no (.t 19) (.c (.int .u64 32))) ::
 mM 2 21 0 ::
 mM 3 22 8 ::
 oO 4 23 (.ixs 1 (.t 21) (.t 22)) ::
 oO 5 24 (.load false false 1 (.t 23)) ::
 oO 6 25 (.conv (.int .u64) (.t 24)) ::
 oO 7 26 (.bin .or .no (.t 20) (.t 25)) ::
 mM 8 7 26 ::
 []))
 (.seq
 (.ops 32 9 (mM 0 27 6 ::
 mM 1 28 8 ::
 mM 2 29 7 ::
 mM 3 30 1 ::
 oO 4 31 (.conv (.int .u64) (.t 30)) ::
 oO 5 32 (.bin .quo .no (.t 29) (.t 31)) ::
 oO 6 33 (.conv (.int .u32) (.t 32)) ::
 oO 7 34 (.ixs 1 (.t 27) (.t 28)) ::
 ⟨8, none, none, .all, .store false 1 (.t 34) (.t 33)⟩ ::
 []))
 (.ops 41 5 (mM 0 35 7 ::
 mM 1 36 1 ::
 oO 2 37 (.conv (.int .u64) (.t 36)) ::
 oO 3 38 (.bin .rem .no (.t 35) (.t 37)) ::
 mM 4 7 38 ::
 [])))))
 (.ops 46 3 (mM 0 17 8 ::
 oO 1 18 (.bin .sub .no (.t 17) (.c (.int .i64 1))) ::
 mM 2 8 18 ::
 [])))))))
 (.seq
 (.ops 49 6 (mM 0 39 6 ::
 oO 1 40 (.callF f_natural_trim [(.t 39)]) ::
 mM 2 41 7 ::
 oO 3 42 (.conv (.int .u32) (.t 41)) ::
 mM 4 4 40 ::
 mM 5 5 42 ::
 []))
 .ret))))),
 [.t 4, .t 5]⟩

def k_bits_LeadingZeros32 : KFn := ⟨
 (.seq
 (.ops 0 1 (oO 0 2 (.mov (.c (.int .i64 0))) ::
 []))
 (.seq
 (.ops 1 4 (mM 0 3 0 ::
 oO 1 4 (.callF f_bits_Len32 [(.t 3)]) ::
 oO 2 5 (.bin .sub .no (.c (.int .i64 32)) (.t 4)) ::
 mM 3 2 5 ::
 []))
 .ret)),
 [.t 2]⟩

def k_natural_left : KFn := ⟨
 (.seq
 (.ops 10 1 (oO 0 4 (.mov (.c .nilsl)) ::
 []))
 (.seq
 (.ops 11 5 (mM 0 9 0 ::
 oO 1 10 (.len .sl (.t 9)) ::
 oO 2 11 (.bin .add .no (.t 10) (.c (.int .i64 1))) ::
 oO 3 12 (.mkslice ⟨1, 4, (.int .u32 0)⟩ (.t 11) (.t 11)) ::
 mM 4 5 12 ::
 []))
 (.seq
 (.seq
 (.ops 16 3 (mM 0 13 0 ::
 oO 1 14 (.len .sl (.t 13)) ::
 oO 2 15 (.mov (.c (.int .i64 0))) ::
 []))
 (.block 0
 (.loop [(1, 0), (5, 0), (13, 0), (14, 0), (15, 0)]
 (.seq
 (.ops 19 1 (oO 0 16 (.bin .lss .no (.t 15) (.t 14)) ::
 []))
 (.seq
 (.cond (.t 16)
 .skip
 (.exit 0))
 (.seq
 (.block 1
 (.seq
 (.ops 20 5 (mM 0 17 15 ::
 oO 1 18 (.ixs 1 (.t 13) (.t 15)) ::
 oO 2 19 (.load false false 1 (.t 18)) ::
 mM 3 6 17 ::
 mM 4 7 19 ::
 []))
 (.seq
 (.ops 25 5 (mM 0 20 7 ::
 oO 1 21 (.conv (.int .u64) (.t 20)) ::
 mM 2 22 1 ::
 oO 3 23 (.bin .shl .no (.t 21) (.t 22)) ::
 mM 4 8 23 ::
 []))
 (.seq
 (.ops 30 9 (mM 0 24 5 ::
 mM 1 25 6 ::
 oO 2 26 (.ixs 1 (.t 24) (.t 25)) ::
 oO 3 27 (.load false false 1 (.t 26)) ::
 mM 4 28 8 ::
 oO 5 29 (.conv (.int .u32) (.t 28)) ::
 oO 6 30 (.bin .or .no (.t 27) (.t 29)) ::
 oO 7 31 (.ixs 1 (.t 24) (.t 25)) ::
 ⟨8, none, none, .all, .store false 1 (.t 31) (.t 30)⟩ ::
 []))
 (.ops 39 8 (mM 0 32 5 ::
 mM 1 33 6 ::
 oO 2 34 (.bin .add .no (.t 33) (.c (.int .i64 1))) ::
 mM 3 35 8 ::
 oO 4 36 (.bin .shr .no (.t 35) (.c (.int .u64 32))) ::
 oO 5 37 (.conv (.int .u32) (.t 36)) ::
 oO 6 38 (.ixs 1 (.t 32) (.t 34)) ::
 ⟨7, none, none, .all, .store false 1 (.t 38) (.t 37)⟩ ::
 []))))))
 (.ops 47 2 (oO 0 39 (.bin .add .no (.t 15) (.c (.int .i64 1))) ::
 mM 1 15 39 ::
 []))))))))
 (.seq
 (.ops 49 2 (mM 0 40 5 ::
 mM 1 4 40 ::
 []))
 .ret)))),
 [.t 4]⟩

def k_natural_digit : KFn := ⟨
 (.seq
 (.ops 18 1 (oO 0 4 (.mov (.c (.int .u32 0))) ::
 []))
 (.seq
 (.ops 19 3 (mM 0 18 1 ::
 oO 1 19 (.len .sl (.t 18)) ::
 mM 2 5 19 ::
 []))
 (.seq
 (.ops 22 21 (mM 0 20 0 ::
 mM 1 21 5 ::
 ⟨2, some 22, none, (.bef 3 21), .ixs 1 (.t 20) (.t 21)⟩ ::
 ⟨3, some 23, none, (.bef 7 21), .load false false 1 (.t 22)⟩ ::
 ⟨4, some 24, none, (.bef 15 21), .conv (.int .u64) (.t 23)⟩ ::
 oO 5 25 (.bin .shl .no (.t 24) (.c (.int .u64 32))) ::
 mM 6 26 0 ::
 mM 7 27 5 ::
 oO 8 28 (.bin .sub .no (.t 27) (.c (.int .i64 1))) ::
 ⟨9, some 29, none, (.bef 448 21), .ixs 1 (.t 26) (.t 28)⟩ ::
 ⟨10, some 30, none, (.bef 960 21), .load false false 1 (.t 29)⟩ ::
 ⟨11, some 31, none, (.bef 1984 21), .conv (.int .u64) (.t 30)⟩ ::
 oO 12 32 (.bin .or .no (.t 25) (.t 31)) ::
 mM 13 33 1 ::
 mM 14 34 5 ::
 oO 15 35 (.bin .sub .no (.t 34) (.c (.int .i64 1))) ::
 ⟨16, some 36, none, (.bef 57344 21), .ixs 1 (.t 33) (.t 35)⟩ ::
 ⟨17, some 37, none, (.bef 122880 21), .load false false 1 (.t 36)⟩ ::
 ⟨18, some 38, none, (.bef 253952 21), .conv (.int .u64) (.t 37)⟩ ::
 mM 19 6 32 ::
 mM 20 7 38 ::
 []))
 (.seq
 (.ops 43 8 (mM 0 39 6 ::
 mM 1 40 7 ::
 oO 2 41 (.bin .quo .no (.t 39) (.t 40)) ::
 mM 3 42 6 ::
 mM 4 43 7 ::
 oO 5 44 (.bin .rem .no (.t 42) (.t 43)) ::
 mM 6 8 41 ::
 mM 7 9 44 ::
 []))
 (.seq
 (.block 0
 (.loop [(0, 0), (1, 0), (5, 0), (7, 0), (8, 0), (9, 0)]
 (.seq
 (.seq
 (.ops 51 26 (mM 0 45 9 ::
 oO 1 46 (.bin .lss .no (.t 45) (.c (.int .u64 4294967296))) ::
 mM 2 47 46 ::
 gG 3 48 47 true (.mov (.t 8)) ::
 gG 4 49 47 true (.bin .geq .no (.t 48) (.c (.int .u64 4294967296))) ::
 gG 5 50 47 true (.mov (.t 49)) ::
 gG 6 51 50 false (.mov (.t 8)) ::
 gG 7 52 50 false (.mov (.t 1)) ::
 gG 8 53 50 false (.mov (.t 5)) ::
 gG 9 54 50 false (.bin .sub .no (.t 53) (.c (.int .i64 2))) ::
 ⟨10, some 55, some (50, false), (.bef 959 26), .ixs 1 (.t 52) (.t 54)⟩ ::
 ⟨11, some 56, some (50, false), (.bef 1983 26), .load false false 1 (.t 55)⟩ ::
 ⟨12, some 57, some (50, false), (.bef 4031 26), .conv (.int .u64) (.t 56)⟩ ::
 gG 13 58 50 false (.bin .mul .no (.t 51) (.t 57)) ::
 gG 14 59 50 false (.mov (.t 9)) ::
 gG 15 60 50 false (.bin .shl .no (.t 59) (.c (.int .u64 32))) ::
 gG 16 61 50 false (.mov (.t 0)) ::
 gG 17 62 50 false (.mov (.t 5)) ::
 gG 18 63 50 false (.bin .sub .no (.t 62) (.c (.int .i64 2))) ::
 ⟨19, some 64, some (50, false), (.bef 458815 26), .ixs 1 (.t 61) (.t 63)⟩ ::
 ⟨20, some 65, some (50, false), (.bef 983103 26), .load false false 1 (.t 64)⟩ ::
 ⟨21, some 66, some (50, false), (.bef 2031679 26), .conv (.int .u64) (.t 65)⟩ ::
 gG 22 67 50 false (.bin .or .no (.t 60) (.t 66)) ::
 gG 23 68 50 false (.bin .gtr .no (.t 58) (.t 67)) ::
 gG 24 69 47 true (.pick (.t 50) (.c (.bool true)) (.t 68)) ::
 oO 25 70 (.pick (.t 47) (.t 69) (.c (.bool false))) ::
 []))
 (.cond (.t 70)
 .skip
 (.exit 0)))
 (.block 1
 (.seq
 (.ops 77 3 (mM 0 71 8 ::
 oO 1 72 (.bin .sub .no (.t 71) (.c (.int .u64 1))) ::
 mM 2 8 72 ::
 []))
 (.ops 80 4 (mM 0 73 9 ::
 mM 1 74 7 ::
 oO 2 75 (.bin .add .no (.t 73) (.t 74)) ::
 mM 3 9 75 ::
 [])))))))
 (.seq
 (.ops 84 2 (oO 0 10 (.mov (.c (.int .u64 0))) ::
 oO 1 11 (.mov (.c (.int .u64 0))) ::
 []))
 (.seq
 (.seq
 (.ops 86 3 (mM 0 76 1 ::
 oO 1 77 (.len .sl (.t 76)) ::
 oO 2 78 (.mov (.c (.int .i64 0))) ::
 []))
 (.block 2
 (.loop [(0, 0), (1, 0), (5, 0), (8, 0), (10, 0), (11, 0), (76, 0), (77, 0), (78, 0)]
 (.seq
 (.ops 89 1 (oO 0 79 (.bin .lss .no (.t 78) (.t 77)) ::
 []))
 (.seq
 (.cond (.t 79)
 .skip
 (.exit 2))
 (.seq
 (.block 3
 (.seq
 (.ops 90 5 (mM 0 80 78 ::
 oO 1 81 (.ixs 1 (.t 76) (.t 78)) ::
 oO 2 82 (.load false false 1 (.t 81)) ::
 mM 3 12 80 ::
 mM 4 13 82 ::
 []))
 (.seq
 (.ops 95 7 (mM 0 83 10 ::
 mM 1 84 8 ::
 mM 2 85 13 ::
 oO 3 86 (.conv (.int .u64) (.t 85)) ::
 oO 4 87 (.bin .mul .no (.t 84) (.t 86)) ::
 oO 5 88 (.bin .add .no (.t 83) (.t 87)) ::
 mM 6 10 88 ::
 []))
 (.seq
 (.ops 102 12 (mM 0 89 0 ::
 mM 1 90 12 ::
 oO 2 91 (.ixs 1 (.t 89) (.t 90)) ::
 oO 3 92 (.load false false 1 (.t 91)) ::
 oO 4 93 (.conv (.int .u64) (.t 92)) ::
 mM 5 94 10 ::
 oO 6 95 (.conv (.int .u32) (.t 94)) ::
 oO 7 96 (.conv (.int .u64) (.t 95)) ::
 oO 8 97 (.bin .sub .no (.t 93) (.t 96)) ::
 mM 9 98 11 ::
 oO 10 99 (.bin .sub .no (.t 97) (.t 98)) ::
 mM 11 14 99 ::
 []))
 (.seq
 (.ops 114 6 (mM 0 100 0 ::
 mM 1 101 12 ::
 mM 2 102 14 ::
 oO 3 103 (.conv (.int .u32) (.t 102)) ::
 oO 4 104 (.ixs 1 (.t 100) (.t 101)) ::
 ⟨5, none, none, .all, .store false 1 (.t 104) (.t 103)⟩ ::
 []))
 (.seq
 (.ops 120 3 (mM 0 105 14 ::
 oO 1 106 (.bin .shr .no (.t 105) (.c (.int .u64 63))) ::
 mM 2 11 106 ::
 []))
 (.ops 123 3 (mM 0 107 10 ::
 oO 1 108 (.bin .shr .no (.t 107) (.c (.int .u64 32))) ::
 mM 2 10 108 ::
 []))))))))
 (.ops 126 2 (oO 0 109 (.bin .add .no (.t 78) (.c (.int .i64 1))) ::
 mM 1 78 109 ::
 []))))))))
 (.seq
 (.ops 128 10 (mM 0 110 0 ::
 mM 1 111 5 ::
 oO 2 112 (.ixs 1 (.t 110) (.t 111)) ::
 oO 3 113 (.load false false 1 (.t 112)) ::
 oO 4 114 (.conv (.int .u64) (.t 113)) ::
 mM 5 115 10 ::
 oO 6 116 (.bin .sub .no (.t 114) (.t 115)) ::
 mM 7 117 11 ::
 oO 8 118 (.bin .sub .no (.t 116) (.t 117)) ::
 mM 9 15 118 ::
 []))
 (.seq
 (.ops 138 6 (mM 0 119 0 ::
 mM 1 120 5 ::
 mM 2 121 15 ::
 oO 3 122 (.conv (.int .u32) (.t 121)) ::
 oO 4 123 (.ixs 1 (.t 119) (.t 120)) ::
 ⟨5, none, none, .all, .store false 1 (.t 123) (.t 122)⟩ ::
 []))
 (.seq
 (.seq
 (.ops 144 3 (mM 0 124 15 ::
 oO 1 125 (.bin .shr .no (.t 124) (.c (.int .u64 63))) ::
 oO 2 126 (.bin .eql .no (.t 125) (.c (.int .u64 0))) ::
 []))
 (.cond (.t 126)
 (.seq
 (.ops 147 3 (mM 0 127 8 ::
 oO 1 128 (.conv (.int .u32) (.t 127)) ::
 mM 2 4 128 ::
 []))
 .ret)
 .skip))
 (.seq
 (.ops 150 1 (oO 0 10 (.mov (.c (.int .u64 0))) ::
 []))
 (.seq
 (.seq
 (.ops 151 3 (mM 0 129 1 ::
 oO 1 130 (.len .sl (.t 129)) ::
 oO 2 131 (.mov (.c (.int .i64 0))) ::
 []))
 (.block 4
 (.loop [(0, 0), (5, 0), (8, 0), (10, 0), (129, 0), (130, 0), (131, 0)]
 (.seq
 (.ops 154 1 (oO 0 132 (.bin .lss .no (.t 131) (.t 130)) ::
 []))
 (.seq
 (.cond (.t 132)
 .skip
 (.exit 4))
 (.seq
 (.block 5
 (.seq
 (.ops 155 5 (mM 0 133 131 ::
 oO 1 134 (.ixs 1 (.t 129) (.t 131)) ::
 oO 2 135 (.load false false 1 (.t 134)) ::
 mM 3 16 133 ::
 mM 4 17 135 ::
 []))
 (.seq
 (.ops 160 11 (mM 0 136 10 ::
 mM 1 137 0 ::
 mM 2 138 16 ::
 oO 3 139 (.ixs 1 (.t 137) (.t 138)) ::
 oO 4 140 (.load false false 1 (.t 139)) ::
 oO 5 141 (.conv (.int .u64) (.t 140)) ::
 mM 6 142 17 ::
 oO 7 143 (.conv (.int .u64) (.t 142)) ::
 oO 8 144 (.bin .add .no (.t 141) (.t 143)) ::
 oO 9 145 (.bin .add .no (.t 136) (.t 144)) ::
 mM 10 10 145 ::
 []))
 (.seq
 (.ops 171 6 (mM 0 146 0 ::
 mM 1 147 16 ::
 mM 2 148 10 ::
 oO 3 149 (.conv (.int .u32) (.t 148)) ::
 oO 4 150 (.ixs 1 (.t 146) (.t 147)) ::
 ⟨5, none, none, .all, .store false 1 (.t 150) (.t 149)⟩ ::
 []))
 (.ops 177 3 (mM 0 151 10 ::
 oO 1 152 (.bin .shr .no (.t 151) (.c (.int .u64 32))) ::
 mM 2 10 152 ::
 []))))))
 (.ops 180 2 (oO 0 153 (.bin .add .no (.t 131) (.c (.int .i64 1))) ::
 mM 1 131 153 ::
 []))))))))
 (.seq
 (.ops 182 9 (mM 0 154 0 ::
 mM 1 155 5 ::
 oO 2 156 (.ixs 1 (.t 154) (.t 155)) ::
 oO 3 157 (.load false false 1 (.t 156)) ::
 mM 4 158 10 ::
 oO 5 159 (.conv (.int .u32) (.t 158)) ::
 oO 6 160 (.bin .add .no (.t 157) (.t 159)) ::
 oO 7 161 (.ixs 1 (.t 154) (.t 155)) ::
 ⟨8, none, none, .all, .store false 1 (.t 161) (.t 160)⟩ ::
 []))
 (.seq
 (.ops 191 4 (mM 0 162 8 ::
 oO 1 163 (.bin .sub .no (.t 162) (.c (.int .u64 1))) ::
 oO 2 164 (.conv (.int .u32) (.t 163)) ::
 mM 3 4 164 ::
 []))
 .ret)))))))))))))),
 [.t 4]⟩

def k_natural_right : KFn := ⟨
 (.seq
 (.ops 12 1 (oO 0 4 (.mov (.c .nilsl)) ::
 []))
 (.seq
 (.ops 13 4 (mM 0 9 0 ::
 oO 1 10 (.len .sl (.t 9)) ::
 oO 2 11 (.mkslice ⟨1, 4, (.int .u32 0)⟩ (.t 10) (.t 10)) ::
 mM 3 5 11 ::
 []))
 (.seq
 (.seq
 (.ops 17 3 (mM 0 12 0 ::
 oO 1 13 (.len .sl (.t 12)) ::
 oO 2 14 (.mov (.c (.int .i64 0))) ::
 []))
 (.block 0
 (.loop [(0, 0), (1, 0), (5, 0), (12, 0), (13, 0), (14, 0)]
 (.seq
 (.ops 20 1 (oO 0 15 (.bin .lss .no (.t 14) (.t 13)) ::
 []))
 (.seq
 (.cond (.t 15)
 .skip
 (.exit 0))
 (.seq
 (.block 1
 (.seq
 (.ops 21 5 (mM 0 16 14 ::
 oO 1 17 (.ixs 1 (.t 12) (.t 14)) ::
 oO 2 18 (.load false false 1 (.t 17)) ::
 mM 3 6 16 ::
 mM 4 7 18 ::
 []))
 (.seq
 (.ops 26 3 (mM 0 19 7 ::
 oO 1 20 (.conv (.int .u64) (.t 19)) ::
 mM 2 8 20 ::
 []))
 (.seq
 (.seq
 (.ops 29 5 (mM 0 21 6 ::
 oO 1 22 (.bin .add .no (.t 21) (.c (.int .i64 1))) ::
 mM 2 23 0 ::
 oO 3 24 (.len .sl (.t 23)) ::
 oO 4 25 (.bin .lss .no (.t 22) (.t 24)) ::
 []))
 (.cond (.t 25)
 (.ops 34 10 (mM 0 26 8 ::
 mM 1 27 0 ::
 mM 2 28 6 ::
 oO 3 29 (.bin .add .no (.t 28) (.c (.int .i64 1))) ::
 oO 4 30 (.ixs 1 (.t 27) (.t 29)) ::
 oO 5 31 (.load false false 1 (.t 30)) ::
 oO 6 32 (.conv (.int .u64) (.t 31)) ::
 oO 7 33 (.bin .shl .no (.t 32) (.c (.int .u64 32))) ::
 oO 8 34 (.bin .or .no (.t 26) (.t 33)) ::
 mM 9 8 34 ::
 []))
 .skip))
 (.ops 44 8 (mM 0 35 5 ::
 mM 1 36 6 ::
 mM 2 37 8 ::
 mM 3 38 1 ::
 oO 4 39 (.bin .shr .no (.t 37) (.t 38)) ::
 oO 5 40 (.conv (.int .u32) (.t 39)) ::
 oO 6 41 (.ixs 1 (.t 35) (.t 36)) ::
 ⟨7, none, none, .all, .store false 1 (.t 41) (.t 40)⟩ ::
 []))))))
 (.ops 52 2 (oO 0 42 (.bin .add .no (.t 14) (.c (.int .i64 1))) ::
 mM 1 14 42 ::
 []))))))))
 (.seq
 (.ops 54 3 (mM 0 43 5 ::
 oO 1 44 (.callF f_natural_trim [(.t 43)]) ::
 mM 2 4 44 ::
 []))
 .ret)))),
 [.t 4]⟩

def k_integer_signed : KFn := ⟨
 (.seq
 (.ops 0 1 (oO 0 4 (.new 2 (.agg [(.bool false), .nilsl])) ::
 []))
 (.seq
 (.ops 1 3 (mM 0 5 1 ::
 oO 1 6 (.callF f_natural_Norm [(.t 5)]) ::
 mM 2 1 6 ::
 []))
 (.seq
 (.ops 4 9 (mM 0 7 0 ::
 mM 1 8 7 ::
 gG 2 9 8 true (.mov (.t 1)) ::
 gG 3 10 8 true (.len .sl (.t 9)) ::
 gG 4 11 8 true (.bin .gtr .no (.t 10) (.c (.int .i64 0))) ::
 oO 5 12 (.pick (.t 8) (.t 11) (.c (.bool false))) ::
 mM 6 13 1 ::
 oO 7 14 (.build [(.bool false), .nilsl] [(0, 1, (.t 12)), (1, 1, (.t 13))]) ::
 ⟨8, none, none, .all, .store true 2 (.t 4) (.t 14)⟩ ::
 []))
 .ret))),
 [.cell 4 true 2]⟩

def k_natural_Sub : KFn := ⟨
 (.seq
 (.ops 12 2 (oO 0 4 (.mov (.c .nilsl)) ::
 oO 1 5 (.mov (.c (.bool false))) ::
 []))
 (.seq
 (.ops 14 6 (mM 0 11 0 ::
 oO 1 12 (.callF f_natural_trim [(.t 11)]) ::
 mM 2 13 1 ::
 oO 3 14 (.callF f_natural_trim [(.t 13)]) ::
 mM 4 0 12 ::
 mM 5 1 14 ::
 []))
 (.seq
 (.seq
 (.ops 20 4 (mM 0 15 0 ::
 mM 1 16 1 ::
 oO 2 17 (.callF f_natural_Cmp [(.t 15), (.t 16)]) ::
 oO 3 18 (.bin .lss .no (.t 17) (.c (.int .i64 0))) ::
 []))
 (.cond (.t 18)
 (.seq
 (.ops 24 2 (oO 0 4 (.mov (.c .nilsl)) ::
 oO 1 5 (.mov (.c (.bool false))) ::
 []))
 .ret)
 .skip))
 (.seq
 (.ops 26 4 (mM 0 19 0 ::
 oO 1 20 (.len .sl (.t 19)) ::
 oO 2 21 (.mkslice ⟨1, 4, (.int .u32 0)⟩ (.t 20) (.t 20)) ::
 mM 3 6 21 ::
 []))
 (.seq
 (.ops 30 1 (oO 0 7 (.mov (.c (.int .u64 0))) ::
 []))
 (.seq
 (.seq
 (.ops 31 3 (mM 0 22 0 ::
 oO 1 23 (.len .sl (.t 22)) ::
 oO 2 24 (.mov (.c (.int .i64 0))) ::
 []))
 (.block 0
 (.loop [(1, 0), (6, 0), (7, 0), (22, 0), (23, 0), (24, 0)]
 (.seq
 (.ops 34 1 (oO 0 25 (.bin .lss .no (.t 24) (.t 23)) ::
 []))
 (.seq
 (.cond (.t 25)
 .skip
 (.exit 0))
 (.seq
 (.block 1
 (.seq
 (.ops 35 5 (mM 0 26 24 ::
 oO 1 27 (.ixs 1 (.t 22) (.t 24)) ::
 oO 2 28 (.load false false 1 (.t 27)) ::
 mM 3 8 26 ::
 mM 4 9 28 ::
 []))
 (.seq
 (.ops 40 5 (mM 0 29 9 ::
 oO 1 30 (.conv (.int .u64) (.t 29)) ::
 mM 2 31 7 ::
 oO 3 32 (.bin .sub .no (.t 30) (.t 31)) ::
 mM 4 10 32 ::
 []))
 (.seq
 (.seq
 (.ops 45 4 (mM 0 33 8 ::
 mM 1 34 1 ::
 oO 2 35 (.len .sl (.t 34)) ::
 oO 3 36 (.bin .lss .no (.t 33) (.t 35)) ::
 []))
 (.cond (.t 36)
 (.ops 49 8 (mM 0 37 10 ::
 mM 1 38 1 ::
 mM 2 39 8 ::
 oO 3 40 (.ixs 1 (.t 38) (.t 39)) ::
 oO 4 41 (.load false false 1 (.t 40)) ::
 oO 5 42 (.conv (.int .u64) (.t 41)) ::
 oO 6 43 (.bin .sub .no (.t 37) (.t 42)) ::
 mM 7 10 43 ::
 []))
 .skip))
 (.seq
 (.ops 57 6 (mM 0 44 6 ::
 mM 1 45 8 ::
 mM 2 46 10 ::
 oO 3 47 (.conv (.int .u32) (.t 46)) ::
 oO 4 48 (.ixs 1 (.t 44) (.t 45)) ::
 ⟨5, none, none, .all, .store false 1 (.t 48) (.t 47)⟩ ::
 []))
 (.ops 63 3 (mM 0 49 10 ::
 oO 1 50 (.bin .shr .no (.t 49) (.c (.int .u64 63))) ::
 mM 2 7 50 ::
 [])))))))
 (.ops 66 2 (oO 0 51 (.bin .add .no (.t 24) (.c (.int .i64 1))) ::
 mM 1 24 51 ::
 []))))))))
 (.seq
 (.ops 68 4 (mM 0 52 6 ::
 oO 1 53 (.callF f_natural_trim [(.t 52)]) ::
 mM 2 4 53 ::
 oO 3 5 (.mov (.c (.bool true))) ::
 []))
 .ret))))))),
 [.t 4, .t 5]⟩

def k_formula_isDigit : KFn := ⟨
 (.seq
 (.ops 0 1 (oO 0 2 (.mov (.c (.bool false))) ::
 []))
 (.seq
 (.ops 1 7 (mM 0 3 0 ::
 oO 1 4 (.bin .leq .no (.c (.int .u8 48)) (.t 3)) ::
 mM 2 5 4 ::
 gG 3 6 5 true (.mov (.t 0)) ::
 gG 4 7 5 true (.bin .leq .no (.t 6) (.c (.int .u8 57))) ::
 oO 5 8 (.pick (.t 5) (.t 7) (.c (.bool false))) ::
 mM 6 2 8 ::
 []))
 .ret)),
 [.t 2]⟩

def k_integer_Cmp : KFn := ⟨
 (.seq
 (.ops 0 3 (oO 0 2 (.box 2 (.t 0)) ::
 oO 1 3 (.box 2 (.t 1)) ::
 oO 2 4 (.mov (.c (.int .i64 0))) ::
 []))
 (.seq
 (.ops 3 6 (⟨0, some 5, none, (.bef 0 6), .load true true 2 (.t 2)⟩ ::
 ⟨1, some 6, none, (.bef 1 6), .callF f_integer_Norm [(.t 5)]⟩ ::
 ⟨2, some 7, none, (.bef 0 6), .load true true 2 (.t 3)⟩ ::
 ⟨3, some 8, none, (.bef 7 6), .callF f_integer_Norm [(.t 7)]⟩ ::
 ⟨4, none, none, (.bef 15 6), .store true 2 (.t 2) (.t 6)⟩ ::
 ⟨5, none, none, (.bef 31 6), .store true 2 (.t 3) (.t 8)⟩ ::
 []))
 (.seq
 (.block 0
 (.seq
 (.ops 9 8 (oO 0 10 (.off 0 (.t 2)) ::
 oO 1 11 (.load true false 1 (.t 10)) ::
 mM 2 12 11 ::
 gG 3 13 12 true (.off 0 (.t 3)) ::
 gG 4 14 12 true (.load true false 1 (.t 13)) ::
 gG 5 15 12 true (.un .not (.t 14)) ::
 oO 6 16 (.pick (.t 12) (.t 15) (.c (.bool false))) ::
 mM 7 9 16 ::
 []))
 (.cond (.t 9)
 (.seq
 (.ops 17 1 (oO 0 4 (.mov (.c (.int .i64 (-1)))) ::
 []))
 .ret)
 (.seq
 (.ops 18 8 (oO 0 18 (.off 0 (.t 2)) ::
 oO 1 19 (.load true false 1 (.t 18)) ::
 oO 2 20 (.un .not (.t 19)) ::
 mM 3 21 20 ::
 gG 4 22 21 true (.off 0 (.t 3)) ::
 gG 5 23 21 true (.load true false 1 (.t 22)) ::
 oO 6 24 (.pick (.t 21) (.t 23) (.c (.bool false))) ::
 mM 7 17 24 ::
 []))
 (.cond (.t 17)
 (.seq
 (.ops 26 1 (oO 0 4 (.mov (.c (.int .i64 1))) ::
 []))
 .ret)
 (.seq
 (.ops 27 3 (oO 0 26 (.off 0 (.t 2)) ::
 oO 1 27 (.load true false 1 (.t 26)) ::
 mM 2 25 27 ::
 []))
 (.cond (.t 25)
 (.seq
 (.ops 30 6 (oO 0 28 (.off 1 (.t 3)) ::
 oO 1 29 (.load true false 1 (.t 28)) ::
 oO 2 30 (.off 1 (.t 2)) ::
 oO 3 31 (.load true false 1 (.t 30)) ::
 oO 4 32 (.callF f_natural_Cmp [(.t 29), (.t 31)]) ::
 mM 5 4 32 ::
 []))
 .ret)
 .skip)))))))
 (.seq
 (.ops 36 6 (oO 0 33 (.off 1 (.t 2)) ::
 oO 1 34 (.load true false 1 (.t 33)) ::
 oO 2 35 (.off 1 (.t 3)) ::
 oO 3 36 (.load true false 1 (.t 35)) ::
 oO 4 37 (.callF f_natural_Cmp [(.t 34), (.t 36)]) ::
 mM 5 4 37 ::
 []))
 .ret)))),
 [.t 4]⟩

def k_cmp_isNaN_uint32 : KFn := ⟨
 (.seq
 (.ops 0 1 (oO 0 2 (.mov (.c (.bool false))) ::
 []))
 (.seq
 (.ops 1 4 (mM 0 3 0 ::
 mM 1 4 0 ::
 oO 2 5 (.bin .neq .no (.t 3) (.t 4)) ::
 mM 3 2 5 ::
 []))
 .ret)),
 [.t 2]⟩

def k_bits_Len32 : KFn := ⟨
 (.seq
 (.ops 0 1 (oO 0 2 (.mov (.c (.int .i64 0))) ::
 []))
 (.seq
 (.seq
 (.ops 1 2 (mM 0 3 0 ::
 oO 1 4 (.bin .geq .no (.t 3) (.c (.int .u32 65536))) ::
 []))
 (.cond (.t 4)
 (.seq
 (.ops 3 3 (mM 0 5 0 ::
 oO 1 6 (.bin .shr .no (.t 5) (.c (.int .u64 16))) ::
 mM 2 0 6 ::
 []))
 (.ops 6 1 (oO 0 2 (.mov (.c (.int .i64 16))) ::
 [])))
 .skip))
 (.seq
 (.seq
 (.ops 7 2 (mM 0 7 0 ::
 oO 1 8 (.bin .geq .no (.t 7) (.c (.int .u32 256))) ::
 []))
 (.cond (.t 8)
 (.seq
 (.ops 9 3 (mM 0 9 0 ::
 oO 1 10 (.bin .shr .no (.t 9) (.c (.int .u64 8))) ::
 mM 2 0 10 ::
 []))
 (.ops 12 3 (mM 0 11 2 ::
 oO 1 12 (.bin .add .no (.t 11) (.c (.int .i64 8))) ::
 mM 2 2 12 ::
 [])))
 .skip))
 (.seq
 (.ops 15 7 (mM 0 13 2 ::
 mM 1 14 0 ::
 oO 2 15 (.conv (.int .u8) (.t 14)) ::
 oO 3 16 (.istr (.c (.str ⟨#[0, 1, 2, 2, 3, 3, 3, 3, 4, 4, 4, 4, 4, 4, 4, 4, 5, 5, 5, 5, 5, 5, 5, 5, 5, 5, 5, 5, 5, 5, 5, 5, 6, 6, 6, 6, 6, 6, 6, 6, 6, 6, 6, 6, 6, 6, 6, 6, 6, 6, 6, 6, 6, 6, 6, 6, 6, 6, 6, 6, 6, 6, 6, 6, 7, 7, 7, 7, 7, 7, 7, 7, 7, 7, 7, 7, 7, 7, 7, 7, 7, 7, 7, 7, 7, 7, 7, 7, 7, 7, 7, 7, 7, 7, 7, 7, 7, 7, 7, 7, 7, 7, 7, 7, 7, 7, 7, 7, 7, 7, 7, 7, 7, 7, 7, 7, 7, 7, 7, 7, 7, 7, 7, 7, 7, 7, 7, 7, 8, 8, 8, 8, 8, 8, 8, 8, 8, 8, 8, 8, 8, 8, 8, 8, 8, 8, 8, 8, 8, 8, 8, 8, 8, 8, 8, 8, 8, 8, 8, 8, 8, 8, 8, 8, 8, 8, 8, 8, 8, 8, 8, 8, 8, 8, 8, 8, 8, 8, 8, 8, 8, 8, 8, 8, 8, 8, 8, 8, 8, 8, 8, 8, 8, 8, 8, 8, 8, 8, 8, 8, 8, 8, 8, 8, 8, 8, 8, 8, 8, 8, 8, 8, 8, 8, 8, 8, 8, 8, 8, 8, 8, 8, 8, 8, 8, 8, 8, 8, 8, 8, 8, 8, 8, 8, 8, 8, 8, 8, 8, 8, 8, 8, 8, 8, 8, 8, 8, 8, 8, 8, 8, 8, 8, 8, 8, 8]⟩)) (.t 15)) ::
 oO 4 17 (.conv (.int .i64) (.t 16)) ::
 oO 5 18 (.bin .add .no (.t 13) (.t 17)) ::
 mM 6 2 18 ::
 []))
 .ret)))),
 [.t 2]⟩

end Go.F
