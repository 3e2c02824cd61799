/- Parts of the proof, part 31: Code1. -/
import Derived.Test.YtjjkgfikkihokaaGreatZ30
/- The code of the functions, its types resolved (printed by program), part 1. -/
namespace Go.F

def k_l24_AllowanceShifts : KFn := ⟨
 (.seq
 (.ops 0 1 (oO 0 4 (.mov (.c (.bool false))) ::
 []))
 (.seq
 (.seq
 (.ops 1 4 (mM 0 9 0 ::
 mM 1 10 1 ::
 oO 2 11 (.callF f_l24_small [(.t 9), (.t 10)]) ::
 oO 3 12 (.un .not (.t 11)) ::
 []))
 (.cond (.t 12)
 (.seq
 (.ops 5 2 (oO 0 13 (.callF f_l24_exampleHolds []) ::
 mM 1 4 13 ::
 []))
 .ret)
 .skip))
 (.seq
 (.ops 7 8 (mM 0 15 0 ::
 mM 1 16 1 ::
 oO 2 17 (.callF f_allowance_Shifts [(.t 15), (.t 16)]) ::
 mM 3 14 17 ::
 oO 4 18 (.extract (.t 14) 0) ::
 oO 5 19 (.extract (.t 14) 1) ::
 mM 6 5 18 ::
 mM 7 6 19 ::
 []))
 (.seq
 (.ops 15 8 (mM 0 21 0 ::
 mM 1 22 1 ::
 oO 2 23 (.callF f_r24_Shifts [(.t 21), (.t 22)]) ::
 mM 3 20 23 ::
 oO 4 24 (.extract (.t 20) 0) ::
 oO 5 25 (.extract (.t 20) 1) ::
 mM 6 7 24 ::
 mM 7 8 25 ::
 []))
 (.seq
 (.ops 23 12 (mM 0 26 6 ::
 mM 1 27 8 ::
 oO 2 28 (.bin .eql .no (.t 26) (.t 27)) ::
 mM 3 29 28 ::
 gG 4 30 29 true (.mov (.t 5)) ::
 gG 5 31 29 true (.mov (.t 7)) ::
 gG 6 32 29 true (.callF f_r11_Same [(.t 30), (.t 31)]) ::
 oO 7 33 (.pick (.t 29) (.t 32) (.c (.bool false))) ::
 mM 8 34 33 ::
 gG 9 35 34 true (.callF f_l24_exampleHolds []) ::
 oO 10 36 (.pick (.t 34) (.t 35) (.c (.bool false))) ::
 mM 11 4 36 ::
 []))
 .ret))))),
 [.t 4]⟩

def k_l24_small : KFn := ⟨
 (.seq
 (.ops 6 1 (oO 0 4 (.mov (.c (.bool false))) ::
 []))
 (.seq
 (.seq
 (.ops 7 13 (mM 0 7 0 ::
 oO 1 8 (.len .sl (.t 7)) ::
 oO 2 9 (.bin .gtr .no (.t 8) (.c (.int .i64 30))) ::
 mM 3 10 9 ::
 gG 4 11 10 false (.mov (.t 1)) ::
 gG 5 12 10 false (.len .sl (.t 11)) ::
 gG 6 13 10 false (.bin .gtr .no (.t 12) (.c (.int .i64 20))) ::
 oO 7 14 (.pick (.t 10) (.c (.bool true)) (.t 13)) ::
 mM 8 15 14 ::
 gG 9 16 15 false (.mov (.t 0)) ::
 gG 10 17 15 false (.callF f_r24_Vertices [(.t 16), (.c (.int .i64 60))]) ::
 gG 11 18 15 false (.bin .gtr .no (.t 17) (.c (.int .i64 60))) ::
 oO 12 19 (.pick (.t 15) (.c (.bool true)) (.t 18)) ::
 []))
 (.cond (.t 19)
 (.seq
 (.ops 20 1 (oO 0 4 (.mov (.c (.bool false))) ::
 []))
 .ret)
 .skip))
 (.seq
 (.seq
 (.ops 21 3 (mM 0 20 0 ::
 oO 1 21 (.len .sl (.t 20)) ::
 oO 2 22 (.mov (.c (.int .i64 0))) ::
 []))
 (.block 0
 (.loop [(20, 0), (21, 0), (22, 0)]
 (.seq
 (.ops 24 1 (oO 0 23 (.bin .lss .no (.t 22) (.t 21)) ::
 []))
 (.seq
 (.cond (.t 23)
 .skip
 (.exit 0))
 (.seq
 (.block 1
 (.seq
 (.ops 25 4 (oO 0 24 (.ixs 2 (.t 20) (.t 22)) ::
 oO 1 25 (.load false true 2 (.t 24)) ::
 oO 2 6 (.new 2 (.agg [(.str ⟨#[]⟩), .nilsl])) ::
 ⟨3, none, none, .all, .store true 2 (.t 6) (.t 25)⟩ ::
 []))
 (.seq
 (.ops 29 4 (oO 0 26 (.off 0 (.t 6)) ::
 oO 1 27 (.load true false 1 (.t 26)) ::
 oO 2 28 (.len .str (.t 27)) ::
 oO 3 29 (.bin .gtr .no (.t 28) (.c (.int .i64 100))) ::
 []))
 (.cond (.t 29)
 (.seq
 (.ops 33 1 (oO 0 4 (.mov (.c (.bool false))) ::
 []))
 .ret)
 .skip))))
 (.ops 34 2 (oO 0 30 (.bin .add .no (.t 22) (.c (.int .i64 1))) ::
 mM 1 22 30 ::
 []))))))))
 (.seq
 (.ops 36 1 (oO 0 4 (.mov (.c (.bool true))) ::
 []))
 .ret)))),
 [.t 4]⟩

def k_l24_exampleHolds : KFn := ⟨
 (.seq
 (.ops 0 1 (oO 0 0 (.mov (.c (.bool false))) ::
 []))
 (.seq
 (.ops 1 3 (oO 0 13 (.callF f_l24_rect [(.c (.int .i64 0)), (.c (.int .i64 0)), (.c (.int .i64 10)), (.c (.int .i64 10))]) ::
 oO 1 14 (.callF f_l24_edges [(.t 13)]) ::
 mM 2 1 14 ::
 []))
 (.seq
 (.ops 4 2 (oO 0 15 (.buildSlice 1 4 [(.int .i64 0), (.int .i64 0), (.int .i64 0), (.int .i64 0)] [(0, (.c (.int .i64 1))), (1, (.c (.int .i64 2))), (2, (.c (.int .i64 3))), (3, (.c (.int .i64 4)))]) ::
 mM 1 2 15 ::
 []))
 (.seq
 (.ops 6 8 (mM 0 17 1 ::
 mM 1 18 2 ::
 oO 2 19 (.callF f_allowance_Shifts [(.t 17), (.t 18)]) ::
 mM 3 16 19 ::
 oO 4 20 (.extract (.t 16) 0) ::
 oO 5 21 (.extract (.t 16) 1) ::
 mM 6 3 20 ::
 mM 7 4 21 ::
 []))
 (.seq
 (.ops 14 8 (mM 0 23 1 ::
 mM 1 24 2 ::
 oO 2 25 (.callF f_allowance_Allow [(.t 23), (.t 24)]) ::
 mM 3 22 25 ::
 oO 4 26 (.extract (.t 22) 0) ::
 oO 5 27 (.extract (.t 22) 1) ::
 mM 6 5 26 ::
 mM 7 6 27 ::
 []))
 (.seq
 (.ops 22 12 (oO 0 29 (.build [(.int .i64 0), (.int .i64 0)] [(0, 1, (.c (.int .i64 0))), (1, 1, (.c (.int .i64 0)))]) ::
 oO 1 30 (.build [(.int .i64 0), (.int .i64 0)] [(0, 1, (.c (.int .i64 30))), (1, 1, (.c (.int .i64 0)))]) ::
 oO 2 31 (.build [(.int .i64 0), (.int .i64 0)] [(0, 1, (.c (.int .i64 0))), (1, 1, (.c (.int .i64 40)))]) ::
 oO 3 32 (.buildSlice 2 3 [(.agg [(.int .i64 0), (.int .i64 0)]), (.agg [(.int .i64 0), (.int .i64 0)]), (.agg [(.int .i64 0), (.int .i64 0)])] [(0, (.t 29)), (1, (.t 30)), (2, (.t 31))]) ::
 oO 4 33 (.callF f_l24_edges [(.t 32)]) ::
 oO 5 34 (.buildSlice 1 3 [(.int .i64 0), (.int .i64 0), (.int .i64 0)] [(0, (.c (.int .i64 0))), (1, (.c (.int .i64 5))), (2, (.c (.int .i64 0)))]) ::
 oO 6 35 (.callF f_allowance_Allow [(.t 33), (.t 34)]) ::
 mM 7 28 35 ::
 oO 8 36 (.extract (.t 28) 0) ::
 oO 9 37 (.extract (.t 28) 1) ::
 mM 10 7 36 ::
 mM 11 8 37 ::
 []))
 (.seq
 (.ops 34 9 (mM 0 39 1 ::
 mM 1 40 2 ::
 oO 2 41 (.slsl 1 (.t 40) none (some (.c (.int .i64 3))) none) ::
 oO 3 42 (.callF f_allowance_Allow [(.t 39), (.t 41)]) ::
 mM 4 38 42 ::
 oO 5 43 (.extract (.t 38) 0) ::
 oO 6 44 (.extract (.t 38) 1) ::
 mM 7 9 43 ::
 mM 8 10 44 ::
 []))
 (.seq
 (.ops 43 8 (mM 0 46 1 ::
 oO 1 47 (.buildSlice 1 4 [(.int .i64 0), (.int .i64 0), (.int .i64 0), (.int .i64 0)] [(0, (.c (.int .i64 0))), (1, (.c (.int .i64 0))), (2, (.c (.int .i64 0))), (3, (.c (.int .i64 501)))]) ::
 oO 2 48 (.callF f_allowance_Shifts [(.t 46), (.t 47)]) ::
 mM 3 45 48 ::
 oO 4 49 (.extract (.t 45) 0) ::
 oO 5 50 (.extract (.t 45) 1) ::
 mM 6 11 49 ::
 mM 7 12 50 ::
 []))
 (.seq
 (.seq
 (.ops 51 18 (mM 0 51 4 ::
 oO 1 52 (.bin .neq .no (.t 51) (.c (.int .i64 0))) ::
 mM 2 53 52 ::
 gG 3 54 53 false (.mov (.t 6)) ::
 gG 4 55 53 false (.bin .neq .no (.t 54) (.c (.int .i64 0))) ::
 oO 5 56 (.pick (.t 53) (.c (.bool true)) (.t 55)) ::
 mM 6 57 56 ::
 gG 7 58 57 false (.mov (.t 8)) ::
 gG 8 59 57 false (.bin .neq .no (.t 58) (.c (.int .i64 0))) ::
 oO 9 60 (.pick (.t 57) (.c (.bool true)) (.t 59)) ::
 mM 10 61 60 ::
 gG 11 62 61 false (.mov (.t 10)) ::
 gG 12 63 61 false (.bin .neq .no (.t 62) (.c (.int .i64 1))) ::
 oO 13 64 (.pick (.t 61) (.c (.bool true)) (.t 63)) ::
 mM 14 65 64 ::
 gG 15 66 65 false (.mov (.t 12)) ::
 gG 16 67 65 false (.bin .neq .no (.t 66) (.c (.int .i64 3))) ::
 oO 17 68 (.pick (.t 65) (.c (.bool true)) (.t 67)) ::
 []))
 (.cond (.t 68)
 (.seq
 (.ops 69 1 (oO 0 0 (.mov (.c (.bool false))) ::
 []))
 .ret)
 .skip))
 (.seq
 (.ops 70 21 (mM 0 69 3 ::
 oO 1 70 (.build [(.int .i64 0), (.int .i64 0)] [(0, 1, (.c (.int .i64 0))), (1, 1, (.c (.int .i64 (-1))))]) ::
 oO 2 71 (.build [(.int .i64 0), (.int .i64 0)] [(0, 1, (.c (.int .i64 2))), (1, 1, (.c (.int .i64 0)))]) ::
 oO 3 72 (.build [(.int .i64 0), (.int .i64 0)] [(0, 1, (.c (.int .i64 0))), (1, 1, (.c (.int .i64 3)))]) ::
 oO 4 73 (.build [(.int .i64 0), (.int .i64 0)] [(0, 1, (.c (.int .i64 (-4)))), (1, 1, (.c (.int .i64 0)))]) ::
 oO 5 74 (.buildSlice 2 4 [(.agg [(.int .i64 0), (.int .i64 0)]), (.agg [(.int .i64 0), (.int .i64 0)]), (.agg [(.int .i64 0), (.int .i64 0)]), (.agg [(.int .i64 0), (.int .i64 0)])] [(0, (.t 70)), (1, (.t 71)), (2, (.t 72)), (3, (.t 73))]) ::
 oO 6 75 (.callF f_r11_Same [(.t 69), (.t 74)]) ::
 mM 7 76 75 ::
 gG 8 77 76 true (.mov (.t 5)) ::
 gG 9 78 76 true (.callF f_l24_rect [(.c (.int .i64 (-4))), (.c (.int .i64 (-1))), (.c (.int .i64 12)), (.c (.int .i64 13))]) ::
 gG 10 79 76 true (.callF f_r11_Same [(.t 77), (.t 78)]) ::
 oO 11 80 (.pick (.t 76) (.t 79) (.c (.bool false))) ::
 mM 12 81 80 ::
 gG 13 82 81 true (.mov (.t 7)) ::
 gG 14 83 81 true (.build [(.int .i64 0), (.int .i64 0)] [(0, 1, (.c (.int .i64 0))), (1, 1, (.c (.int .i64 0)))]) ::
 gG 15 84 81 true (.build [(.int .i64 0), (.int .i64 0)] [(0, 1, (.c (.int .i64 36))), (1, 1, (.c (.int .i64 0)))]) ::
 gG 16 85 81 true (.build [(.int .i64 0), (.int .i64 0)] [(0, 1, (.c (.int .i64 0))), (1, 1, (.c (.int .i64 48)))]) ::
 gG 17 86 81 true (.buildSlice 2 3 [(.agg [(.int .i64 0), (.int .i64 0)]), (.agg [(.int .i64 0), (.int .i64 0)]), (.agg [(.int .i64 0), (.int .i64 0)])] [(0, (.t 83)), (1, (.t 84)), (2, (.t 85))]) ::
 gG 18 87 81 true (.callF f_r11_Same [(.t 82), (.t 86)]) ::
 oO 19 88 (.pick (.t 81) (.t 87) (.c (.bool false))) ::
 mM 20 0 88 ::
 []))
 .ret)))))))))),
 [.t 0]⟩

def k_allowance_Shifts : KFn := ⟨
 (.seq
 (.ops 14 2 (oO 0 4 (.mov (.c .nilsl)) ::
 oO 1 5 (.mov (.c (.int .i64 0))) ::
 []))
 (.seq
 (.ops 16 7 (mM 0 21 0 ::
 oO 1 22 (.callF f_outline_Polygon [(.t 21)]) ::
 mM 2 20 22 ::
 oO 3 23 (.extract (.t 20) 0) ::
 oO 4 24 (.extract (.t 20) 1) ::
 mM 5 6 23 ::
 mM 6 7 24 ::
 []))
 (.seq
 (.seq
 (.ops 23 2 (mM 0 25 7 ::
 oO 1 26 (.bin .neq .no (.t 25) (.c (.int .i64 0))) ::
 []))
 (.cond (.t 26)
 (.seq
 (.ops 25 3 (mM 0 27 7 ::
 oO 1 4 (.mov (.c .nilsl)) ::
 mM 2 5 27 ::
 []))
 .ret)
 .skip))
 (.seq
 (.seq
 (.ops 28 5 (mM 0 28 1 ::
 oO 1 29 (.len .sl (.t 28)) ::
 mM 2 30 0 ::
 oO 3 31 (.len .sl (.t 30)) ::
 oO 4 32 (.bin .neq .no (.t 29) (.t 31)) ::
 []))
 (.cond (.t 32)
 (.seq
 (.ops 33 2 (oO 0 4 (.mov (.c .nilsl)) ::
 oO 1 5 (.mov (.c (.int .i64 1))) ::
 []))
 .ret)
 .skip))
 (.seq
 (.seq
 (.ops 35 3 (mM 0 33 1 ::
 oO 1 34 (.len .sl (.t 33)) ::
 oO 2 35 (.mov (.c (.int .i64 0))) ::
 []))
 (.block 0
 (.loop [(0, 0), (1, 0), (6, 0), (33, 0), (34, 0), (35, 0)]
 (.seq
 (.ops 38 1 (oO 0 36 (.bin .lss .no (.t 35) (.t 34)) ::
 []))
 (.seq
 (.cond (.t 36)
 .skip
 (.exit 0))
 (.seq
 (.block 1
 (.seq
 (.ops 39 3 (oO 0 37 (.ixs 1 (.t 33) (.t 35)) ::
 oO 1 38 (.load false false 1 (.t 37)) ::
 mM 2 9 38 ::
 []))
 (.seq
 (.ops 42 6 (mM 0 39 9 ::
 oO 1 40 (.bin .lss .no (.t 39) (.c (.int .i64 0))) ::
 mM 2 41 40 ::
 gG 3 42 41 false (.mov (.t 9)) ::
 gG 4 43 41 false (.bin .gtr .no (.t 42) (.c (.int .i64 500))) ::
 oO 5 44 (.pick (.t 41) (.c (.bool true)) (.t 43)) ::
 []))
 (.cond (.t 44)
 (.seq
 (.ops 48 2 (oO 0 4 (.mov (.c .nilsl)) ::
 oO 1 5 (.mov (.c (.int .i64 3))) ::
 []))
 .ret)
 .skip))))
 (.ops 50 2 (oO 0 45 (.bin .add .no (.t 35) (.c (.int .i64 1))) ::
 mM 1 35 45 ::
 []))))))))
 (.seq
 (.ops 52 3 (mM 0 46 6 ::
 oO 1 47 (.callF f_allowance_orientation [(.t 46)]) ::
 mM 2 10 47 ::
 []))
 (.seq
 (.ops 55 4 (mM 0 48 0 ::
 mM 1 49 1 ::
 oO 2 50 (.callF f_allowance_segmentWidths [(.t 48), (.t 49)]) ::
 mM 3 11 50 ::
 []))
 (.seq
 (.ops 59 4 (mM 0 51 6 ::
 oO 1 52 (.len .sl (.t 51)) ::
 oO 2 53 (.mkslice ⟨2, 16, (.agg [(.int .i64 0), (.int .i64 0)])⟩ (.t 52) (.t 52)) ::
 mM 3 12 53 ::
 []))
 (.seq
 (.seq
 (.ops 63 3 (mM 0 54 6 ::
 oO 1 55 (.len .sl (.t 54)) ::
 oO 2 56 (.mov (.c (.int .i64 0))) ::
 []))
 (.block 2
 (.loop [(6, 0), (10, 0), (11, 0), (12, 0), (54, 0), (55, 0), (56, 0)]
 (.seq
 (.ops 66 1 (oO 0 57 (.bin .lss .no (.t 56) (.t 55)) ::
 []))
 (.seq
 (.cond (.t 57)
 .skip
 (.exit 2))
 (.seq
 (.block 3
 (.seq
 (.ops 67 6 (mM 0 58 56 ::
 oO 1 59 (.ixs 2 (.t 54) (.t 56)) ::
 oO 2 60 (.load false true 2 (.t 59)) ::
 oO 3 14 (.new 2 (.agg [(.int .i64 0), (.int .i64 0)])) ::
 mM 4 13 58 ::
 ⟨5, none, none, .all, .store true 2 (.t 14) (.t 60)⟩ ::
 []))
 (.seq
 (.ops 73 10 (mM 0 61 6 ::
 mM 1 62 13 ::
 oO 2 63 (.bin .add .no (.t 62) (.c (.int .i64 1))) ::
 mM 3 64 6 ::
 oO 4 65 (.len .sl (.t 64)) ::
 oO 5 66 (.bin .rem .no (.t 63) (.t 65)) ::
 oO 6 67 (.ixs 2 (.t 61) (.t 66)) ::
 oO 7 68 (.load false true 2 (.t 67)) ::
 oO 8 15 (.new 2 (.agg [(.int .i64 0), (.int .i64 0)])) ::
 ⟨9, none, none, .all, .store true 2 (.t 15) (.t 68)⟩ ::
 []))
 (.seq
 (.ops 83 19 (oO 0 69 (.off 0 (.t 15)) ::
 ⟨1, some 70, none, (.bef 1 19), .load true false 1 (.t 69)⟩ ::
 oO 2 71 (.off 0 (.t 14)) ::
 ⟨3, some 72, none, (.bef 4 19), .load true false 1 (.t 71)⟩ ::
 oO 4 73 (.bin .sub .no (.t 70) (.t 72)) ::
 oO 5 74 (.off 1 (.t 15)) ::
 ⟨6, some 75, none, (.bef 32 19), .load true false 1 (.t 74)⟩ ::
 oO 7 76 (.off 1 (.t 14)) ::
 ⟨8, some 77, none, (.bef 128 19), .load true false 1 (.t 76)⟩ ::
 oO 9 78 (.bin .sub .no (.t 75) (.t 77)) ::
 mM 10 79 10 ::
 mM 11 80 11 ::
 mM 12 81 13 ::
 ⟨13, some 82, none, (.bef 6144 19), .ixs 1 (.t 80) (.t 81)⟩ ::
 ⟨14, some 83, none, (.bef 14336 19), .load false false 1 (.t 82)⟩ ::
 oO 15 84 (.bin .mul .no (.t 79) (.t 83)) ::
 mM 16 16 73 ::
 mM 17 17 78 ::
 mM 18 18 84 ::
 []))
 (.seq
 (.ops 102 9 (mM 0 85 16 ::
 mM 1 86 16 ::
 oO 2 87 (.bin .mul .no (.t 85) (.t 86)) ::
 mM 3 88 17 ::
 mM 4 89 17 ::
 oO 5 90 (.bin .mul .no (.t 88) (.t 89)) ::
 oO 6 91 (.bin .add .no (.t 87) (.t 90)) ::
 oO 7 92 (.callF f_allowance_root [(.t 91)]) ::
 mM 8 19 92 ::
 []))
 (.ops 111 16 (mM 0 93 12 ::
 mM 1 94 13 ::
 mM 2 95 18 ::
 mM 3 96 17 ::
 oO 4 97 (.bin .mul .no (.t 95) (.t 96)) ::
 mM 5 98 19 ::
 oO 6 99 (.callF f_allowance_rounded [(.t 97), (.t 98)]) ::
 mM 7 100 18 ::
 oO 8 101 (.un .neg (.t 100)) ::
 mM 9 102 16 ::
 oO 10 103 (.bin .mul .no (.t 101) (.t 102)) ::
 mM 11 104 19 ::
 oO 12 105 (.callF f_allowance_rounded [(.t 103), (.t 104)]) ::
 oO 13 106 (.build [(.int .i64 0), (.int .i64 0)] [(0, 1, (.t 99)), (1, 1, (.t 105))]) ::
 oO 14 107 (.ixs 2 (.t 93) (.t 94)) ::
 ⟨15, none, none, .all, .store false 2 (.t 107) (.t 106)⟩ ::
 [])))))))
 (.ops 127 2 (oO 0 108 (.bin .add .no (.t 56) (.c (.int .i64 1))) ::
 mM 1 56 108 ::
 []))))))))
 (.seq
 (.ops 129 3 (mM 0 109 12 ::
 mM 1 4 109 ::
 oO 2 5 (.mov (.c (.int .i64 0))) ::
 []))
 .ret)))))))))),
 [.t 4, .t 5]⟩

def k_r24_Shifts : KFn := ⟨
 (.seq
 (.ops 6 2 (oO 0 4 (.mov (.c .nilsl)) ::
 oO 1 5 (.mov (.c (.int .i64 0))) ::
 []))
 (.seq
 (.ops 8 8 (mM 0 11 0 ::
 mM 1 12 1 ::
 oO 2 13 (.callF f_r24_Segments [(.t 11), (.t 12)]) ::
 mM 3 10 13 ::
 oO 4 14 (.extract (.t 10) 0) ::
 oO 5 15 (.extract (.t 10) 1) ::
 mM 6 6 14 ::
 mM 7 7 15 ::
 []))
 (.seq
 (.seq
 (.ops 16 2 (mM 0 16 7 ::
 oO 1 17 (.bin .neq .no (.t 16) (.c (.int .i64 0))) ::
 []))
 (.cond (.t 17)
 (.seq
 (.ops 18 3 (mM 0 18 7 ::
 oO 1 4 (.mov (.c .nilsl)) ::
 mM 2 5 18 ::
 []))
 .ret)
 .skip))
 (.seq
 (.ops 21 1 (oO 0 8 (.mov (.c .nilsl)) ::
 []))
 (.seq
 (.seq
 (.ops 22 1 (oO 0 9 (.mov (.c (.int .i64 0))) ::
 []))
 (.block 0
 (.loop [(6, 0), (8, 2), (9, 0)]
 (.seq
 (.seq
 (.ops 23 4 (mM 0 19 9 ::
 mM 1 20 6 ::
 oO 2 21 (.len .sl (.t 20)) ::
 oO 3 22 (.bin .lss .no (.t 19) (.t 21)) ::
 []))
 (.cond (.t 22)
 .skip
 (.exit 0)))
 (.seq
 (.block 1
 (.ops 27 9 (mM 0 25 8 ::
 mM 1 26 6 ::
 mM 2 27 9 ::
 oO 3 28 (.ixs 7 (.t 26) (.t 27)) ::
 oO 4 29 (.off 5 (.t 28)) ::
 oO 5 30 (.load false true 2 (.t 29)) ::
 oO 6 31 (.buildSlice 2 1 [(.agg [(.int .i64 0), (.int .i64 0)])] [(0, (.t 30))]) ::
 oO 7 32 (.append ⟨2, 16, (.agg [(.int .i64 0), (.int .i64 0)])⟩ .sl (.t 25) (.t 31)) ::
 mM 8 8 32 ::
 [])))
 (.ops 36 3 (mM 0 23 9 ::
 oO 1 24 (.bin .add .no (.t 23) (.c (.int .i64 1))) ::
 mM 2 9 24 ::
 [])))))))
 (.seq
 (.ops 39 3 (mM 0 33 8 ::
 mM 1 4 33 ::
 oO 2 5 (.mov (.c (.int .i64 0))) ::
 []))
 .ret)))))),
 [.t 4, .t 5]⟩

def k_r11_Same : KFn := ⟨
 (.seq
 (.ops 6 1 (oO 0 4 (.mov (.c (.bool false))) ::
 []))
 (.seq
 (.seq
 (.ops 7 5 (mM 0 6 0 ::
 oO 1 7 (.len .sl (.t 6)) ::
 mM 2 8 1 ::
 oO 3 9 (.len .sl (.t 8)) ::
 oO 4 10 (.bin .neq .no (.t 7) (.t 9)) ::
 []))
 (.cond (.t 10)
 (.seq
 (.ops 12 1 (oO 0 4 (.mov (.c (.bool false))) ::
 []))
 .ret)
 .skip))
 (.seq
 (.seq
 (.ops 13 1 (oO 0 5 (.mov (.c (.int .i64 0))) ::
 []))
 (.block 0
 (.loop [(0, 0), (1, 0), (5, 0)]
 (.seq
 (.seq
 (.ops 14 4 (mM 0 11 5 ::
 mM 1 12 0 ::
 oO 2 13 (.len .sl (.t 12)) ::
 oO 3 14 (.bin .lss .no (.t 11) (.t 13)) ::
 []))
 (.cond (.t 14)
 .skip
 (.exit 0)))
 (.seq
 (.block 1
 (.seq
 (.ops 18 9 (mM 0 17 0 ::
 mM 1 18 5 ::
 ⟨2, some 19, none, (.bef 3 9), .ixs 2 (.t 17) (.t 18)⟩ ::
 ⟨3, some 20, none, (.bef 7 9), .load false true 2 (.t 19)⟩ ::
 mM 4 21 1 ::
 mM 5 22 5 ::
 ⟨6, some 23, none, (.bef 48 9), .ixs 2 (.t 21) (.t 22)⟩ ::
 ⟨7, some 24, none, (.bef 112 9), .load false true 2 (.t 23)⟩ ::
 oO 8 25 (.bin .neq (.flat [.int, .int]) (.t 20) (.t 24)) ::
 []))
 (.cond (.t 25)
 (.seq
 (.ops 27 1 (oO 0 4 (.mov (.c (.bool false))) ::
 []))
 .ret)
 .skip)))
 (.ops 28 3 (mM 0 15 5 ::
 oO 1 16 (.bin .add .no (.t 15) (.c (.int .i64 1))) ::
 mM 2 5 16 ::
 [])))))))
 (.seq
 (.ops 31 1 (oO 0 4 (.mov (.c (.bool true))) ::
 []))
 .ret)))),
 [.t 4]⟩

def k_allowance_Allow : KFn := ⟨
 (.seq
 (.ops 20 2 (oO 0 4 (.mov (.c .nilsl)) ::
 oO 1 5 (.mov (.c (.int .i64 0))) ::
 []))
 (.seq
 (.ops 22 8 (mM 0 23 0 ::
 mM 1 24 1 ::
 oO 2 25 (.callF f_allowance_Shifts [(.t 23), (.t 24)]) ::
 mM 3 22 25 ::
 oO 4 26 (.extract (.t 22) 0) ::
 oO 5 27 (.extract (.t 22) 1) ::
 mM 6 6 26 ::
 mM 7 7 27 ::
 []))
 (.seq
 (.seq
 (.ops 30 2 (mM 0 28 7 ::
 oO 1 29 (.bin .neq .no (.t 28) (.c (.int .i64 0))) ::
 []))
 (.cond (.t 29)
 (.seq
 (.ops 32 3 (mM 0 30 7 ::
 oO 1 4 (.mov (.c .nilsl)) ::
 mM 2 5 30 ::
 []))
 .ret)
 .skip))
 (.seq
 (.ops 35 7 (mM 0 32 0 ::
 oO 1 33 (.callF f_outline_Polygon [(.t 32)]) ::
 mM 2 31 33 ::
 oO 3 34 (.extract (.t 31) 0) ::
 oO 4 35 (.extract (.t 31) 1) ::
 mM 5 8 34 ::
 mM 6 7 35 ::
 []))
 (.seq
 (.seq
 (.ops 42 2 (mM 0 36 7 ::
 oO 1 37 (.bin .neq .no (.t 36) (.c (.int .i64 0))) ::
 []))
 (.cond (.t 37)
 (.seq
 (.ops 44 3 (mM 0 38 7 ::
 oO 1 4 (.mov (.c .nilsl)) ::
 mM 2 5 38 ::
 []))
 .ret)
 .skip))
 (.seq
 (.ops 47 4 (mM 0 39 0 ::
 mM 1 40 1 ::
 oO 2 41 (.callF f_allowance_segmentWidths [(.t 39), (.t 40)]) ::
 mM 3 9 41 ::
 []))
 (.seq
 (.ops 51 3 (mM 0 42 8 ::
 oO 1 43 (.len .sl (.t 42)) ::
 mM 2 10 43 ::
 []))
 (.seq
 (.ops 54 3 (mM 0 44 10 ::
 oO 1 45 (.mkslice ⟨5, 40, (.agg [(.int .i64 0), (.int .i64 0), (.int .i64 0), (.int .i64 0), (.int .i64 0)])⟩ (.t 44) (.t 44)) ::
 mM 2 11 45 ::
 []))
 (.seq
 (.seq
 (.ops 57 3 (mM 0 46 6 ::
 oO 1 47 (.len .sl (.t 46)) ::
 oO 2 48 (.mov (.c (.int .i64 0))) ::
 []))
 (.block 0
 (.loop [(8, 0), (9, 0), (10, 0), (11, 0), (46, 0), (47, 0), (48, 0)]
 (.seq
 (.ops 60 1 (oO 0 49 (.bin .lss .no (.t 48) (.t 47)) ::
 []))
 (.seq
 (.cond (.t 49)
 .skip
 (.exit 0))
 (.seq
 (.block 1
 (.seq
 (.ops 61 6 (mM 0 50 48 ::
 oO 1 51 (.ixs 2 (.t 46) (.t 48)) ::
 oO 2 52 (.load false true 2 (.t 51)) ::
 oO 3 13 (.new 2 (.agg [(.int .i64 0), (.int .i64 0)])) ::
 mM 4 12 50 ::
 ⟨5, none, none, .all, .store true 2 (.t 13) (.t 52)⟩ ::
 []))
 (.ops 67 24 (mM 0 53 11 ::
 mM 1 54 12 ::
 mM 2 55 8 ::
 mM 3 56 12 ::
 ⟨4, some 57, none, (.bef 12 24), .ixs 2 (.t 55) (.t 56)⟩ ::
 ⟨5, some 58, none, (.bef 28 24), .load false true 2 (.t 57)⟩ ::
 ⟨6, some 59, none, (.bef 0 24), .load true true 2 (.t 13)⟩ ::
 ⟨7, some 60, none, (.bef 124 24), .callF f_allowance_sum [(.t 58), (.t 59)]⟩ ::
 mM 8 61 8 ::
 mM 9 62 12 ::
 oO 10 63 (.bin .add .no (.t 62) (.c (.int .i64 1))) ::
 mM 11 64 10 ::
 oO 12 65 (.bin .rem .no (.t 63) (.t 64)) ::
 ⟨13, some 66, none, (.bef 7936 24), .ixs 2 (.t 61) (.t 65)⟩ ::
 ⟨14, some 67, none, (.bef 16128 24), .load false true 2 (.t 66)⟩ ::
 ⟨15, some 68, none, (.bef 0 24), .load true true 2 (.t 13)⟩ ::
 ⟨16, some 69, none, (.bef 65532 24), .callF f_allowance_sum [(.t 67), (.t 68)]⟩ ::
 mM 17 70 9 ::
 mM 18 71 12 ::
 ⟨19, some 72, none, (.bef 393216 24), .ixs 1 (.t 70) (.t 71)⟩ ::
 ⟨20, some 73, none, (.bef 917504 24), .load false false 1 (.t 72)⟩ ::
 oO 21 74 (.build [(.int .i64 0), (.int .i64 0), (.int .i64 0), (.int .i64 0), (.int .i64 0)] [(0, 2, (.t 60)), (2, 2, (.t 69)), (4, 1, (.t 73))]) ::
 ⟨22, some 75, none, (.bef 4194303 24), .ixs 5 (.t 53) (.t 54)⟩ ::
 ⟨23, none, none, (.bef 8388607 24), .store false 5 (.t 75) (.t 74)⟩ ::
 []))))
 (.ops 91 2 (oO 0 76 (.bin .add .no (.t 48) (.c (.int .i64 1))) ::
 mM 1 48 76 ::
 []))))))))
 (.seq
 (.ops 93 1 (oO 0 14 (.mov (.c .nilsl)) ::
 []))
 (.seq
 (.seq
 (.ops 94 3 (mM 0 77 8 ::
 oO 1 78 (.len .sl (.t 77)) ::
 oO 2 79 (.mov (.c (.int .i64 0))) ::
 []))
 (.block 2
 (.loop [(8, 0), (10, 0), (11, 0), (14, 2), (77, 0), (78, 0), (79, 0)]
 (.seq
 (.ops 97 1 (oO 0 80 (.bin .lss .no (.t 79) (.t 78)) ::
 []))
 (.seq
 (.cond (.t 80)
 .skip
 (.exit 2))
 (.seq
 (.block 3
 (.seq
 (.ops 98 6 (mM 0 81 79 ::
 oO 1 82 (.ixs 2 (.t 77) (.t 79)) ::
 oO 2 83 (.load false true 2 (.t 82)) ::
 oO 3 16 (.new 2 (.agg [(.int .i64 0), (.int .i64 0)])) ::
 mM 4 15 81 ::
 ⟨5, none, none, .all, .store true 2 (.t 16) (.t 83)⟩ ::
 []))
 (.seq
 (.ops 104 17 (⟨0, some 84, none, (.bef 0 17), .load true true 2 (.t 16)⟩ ::
 mM 1 85 11 ::
 mM 2 86 15 ::
 mM 3 87 10 ::
 oO 4 88 (.bin .add .no (.t 86) (.t 87)) ::
 oO 5 89 (.bin .sub .no (.t 88) (.c (.int .i64 1))) ::
 mM 6 90 10 ::
 oO 7 91 (.bin .rem .no (.t 89) (.t 90)) ::
 ⟨8, some 92, none, (.bef 254 17), .ixs 5 (.t 85) (.t 91)⟩ ::
 ⟨9, some 93, none, (.bef 510 17), .load false true 5 (.t 92)⟩ ::
 mM 10 94 11 ::
 mM 11 95 15 ::
 ⟨12, some 96, none, (.bef 3072 17), .ixs 5 (.t 94) (.t 95)⟩ ::
 ⟨13, some 97, none, (.bef 7168 17), .load false true 5 (.t 96)⟩ ::
 ⟨14, some 98, none, (.bef 16383 17), .callF f_allowance_corner [(.t 84), (.t 93), (.t 97)]⟩ ::
 ⟨15, some 99, none, (.bef 32767 17), .len .sl (.t 98)⟩ ::
 oO 16 100 (.mov (.c (.int .i64 0))) ::
 []))
 (.block 4
 (.loop [(8, 0), (10, 0), (11, 0), (14, 2), (77, 0), (78, 0), (79, 0), (98, 0), (99, 0), (100, 0)]
 (.seq
 (.ops 121 1 (oO 0 101 (.bin .lss .no (.t 100) (.t 99)) ::
 []))
 (.seq
 (.cond (.t 101)
 .skip
 (.exit 4))
 (.seq
 (.block 5
 (.seq
 (.ops 122 4 (oO 0 102 (.ixs 2 (.t 98) (.t 100)) ::
 oO 1 103 (.load false true 2 (.t 102)) ::
 oO 2 18 (.new 2 (.agg [(.int .i64 0), (.int .i64 0)])) ::
 ⟨3, none, none, .all, .store true 2 (.t 18) (.t 103)⟩ ::
 []))
 (.seq
 (.ops 126 13 (mM 0 104 14 ::
 ⟨1, some 105, none, (.bef 1 13), .len .sl (.t 104)⟩ ::
 oO 2 106 (.bin .eql .no (.t 105) (.c (.int .i64 0))) ::
 mM 3 107 106 ::
 gG 4 108 107 false (.mov (.t 14)) ::
 gG 5 109 107 false (.mov (.t 14)) ::
 ⟨6, some 110, some (107, false), (.bef 47 13), .len .sl (.t 109)⟩ ::
 gG 7 111 107 false (.bin .sub .no (.t 110) (.c (.int .i64 1))) ::
 ⟨8, some 112, some (107, false), (.bef 255 13), .ixs 2 (.t 108) (.t 111)⟩ ::
 ⟨9, some 113, some (107, false), (.bef 511 13), .load false true 2 (.t 112)⟩ ::
 ⟨10, some 114, some (107, false), (.bef 15 13), .load true true 2 (.t 18)⟩ ::
 gG 11 115 107 false (.bin .neq (.flat [.int, .int]) (.t 113) (.t 114)) ::
 oO 12 116 (.pick (.t 107) (.c (.bool true)) (.t 115)) ::
 []))
 (.cond (.t 116)
 (.ops 139 5 (mM 0 117 14 ::
 oO 1 118 (.load true true 2 (.t 18)) ::
 oO 2 119 (.buildSlice 2 1 [(.agg [(.int .i64 0), (.int .i64 0)])] [(0, (.t 118))]) ::
 oO 3 120 (.append ⟨2, 16, (.agg [(.int .i64 0), (.int .i64 0)])⟩ .sl (.t 117) (.t 119)) ::
 mM 4 14 120 ::
 []))
 .skip))))
 (.ops 144 2 (oO 0 121 (.bin .add .no (.t 100) (.c (.int .i64 1))) ::
 mM 1 100 121 ::
 []))))))))))
 (.ops 146 2 (oO 0 122 (.bin .add .no (.t 79) (.c (.int .i64 1))) ::
 mM 1 79 122 ::
 []))))))))
 (.seq
 (.block 6
 (.loop [(8, 0), (14, 0)]
 (.seq
 (.seq
 (.ops 148 15 (mM 0 123 14 ::
 ⟨1, some 124, none, (.bef 1 15), .len .sl (.t 123)⟩ ::
 oO 2 125 (.bin .geq .no (.t 124) (.c (.int .i64 2))) ::
 mM 3 126 125 ::
 gG 4 127 126 true (.mov (.t 14)) ::
 gG 5 128 126 true (.mov (.t 14)) ::
 ⟨6, some 129, some (126, true), (.bef 47 15), .len .sl (.t 128)⟩ ::
 gG 7 130 126 true (.bin .sub .no (.t 129) (.c (.int .i64 1))) ::
 ⟨8, some 131, some (126, true), (.bef 255 15), .ixs 2 (.t 127) (.t 130)⟩ ::
 ⟨9, some 132, some (126, true), (.bef 511 15), .load false true 2 (.t 131)⟩ ::
 gG 10 133 126 true (.mov (.t 14)) ::
 ⟨11, some 134, some (126, true), (.bef 1039 15), .ixs 2 (.t 133) (.c (.int .i64 0))⟩ ::
 ⟨12, some 135, some (126, true), (.bef 3087 15), .load false true 2 (.t 134)⟩ ::
 gG 13 136 126 true (.bin .eql (.flat [.int, .int]) (.t 132) (.t 135)) ::
 oO 14 137 (.pick (.t 126) (.t 136) (.c (.bool false))) ::
 []))
 (.cond (.t 137)
 .skip
 (.exit 6)))
 (.block 7
 (.ops 163 6 (mM 0 138 14 ::
 mM 1 139 14 ::
 oO 2 140 (.len .sl (.t 139)) ::
 oO 3 141 (.bin .sub .no (.t 140) (.c (.int .i64 1))) ::
 oO 4 142 (.slsl 2 (.t 138) none (some (.t 141)) none) ::
 mM 5 14 142 ::
 []))))))
 (.seq
 (.seq
 (.ops 169 3 (mM 0 143 14 ::
 oO 1 144 (.len .sl (.t 143)) ::
 oO 2 145 (.mov (.c (.int .i64 0))) ::
 []))
 (.block 8
 (.loop [(8, 0), (14, 0), (143, 0), (144, 0), (145, 0)]
 (.seq
 (.ops 172 1 (oO 0 146 (.bin .lss .no (.t 145) (.t 144)) ::
 []))
 (.seq
 (.cond (.t 146)
 .skip
 (.exit 8))
 (.seq
 (.block 9
 (.seq
 (.ops 173 4 (oO 0 147 (.ixs 2 (.t 143) (.t 145)) ::
 oO 1 148 (.load false true 2 (.t 147)) ::
 oO 2 20 (.new 2 (.agg [(.int .i64 0), (.int .i64 0)])) ::
 ⟨3, none, none, .all, .store true 2 (.t 20) (.t 148)⟩ ::
 []))
 (.seq
 (.ops 177 3 (oO 0 149 (.load true true 2 (.t 20)) ::
 oO 1 150 (.callF f_allowance_within [(.t 149), (.c (.int .i64 1048576))]) ::
 oO 2 151 (.un .not (.t 150)) ::
 []))
 (.cond (.t 151)
 (.seq
 (.ops 180 2 (oO 0 4 (.mov (.c .nilsl)) ::
 oO 1 5 (.mov (.c (.int .i64 3))) ::
 []))
 .ret)
 .skip))))
 (.ops 182 2 (oO 0 152 (.bin .add .no (.t 145) (.c (.int .i64 1))) ::
 mM 1 145 152 ::
 []))))))))
 (.seq
 (.seq
 (.ops 184 3 (mM 0 153 14 ::
 oO 1 154 (.callF f_polygon_Check [(.t 153)]) ::
 mM 2 21 154 ::
 []))
 (.seq
 (.ops 187 2 (mM 0 155 21 ::
 oO 1 156 (.bin .neq .no (.t 155) (.c (.int .i64 0))) ::
 []))
 (.cond (.t 156)
 (.seq
 (.ops 189 3 (mM 0 157 21 ::
 oO 1 4 (.mov (.c .nilsl)) ::
 mM 2 5 157 ::
 []))
 .ret)
 .skip)))
 (.seq
 (.seq
 (.ops 192 5 (mM 0 158 14 ::
 oO 1 159 (.callF f_allowance_orientation [(.t 158)]) ::
 mM 2 160 8 ::
 oO 3 161 (.callF f_allowance_orientation [(.t 160)]) ::
 oO 4 162 (.bin .neq .no (.t 159) (.t 161)) ::
 []))
 (.cond (.t 162)
 (.seq
 (.ops 197 2 (oO 0 4 (.mov (.c .nilsl)) ::
 oO 1 5 (.mov (.c (.int .i64 11))) ::
 []))
 .ret)
 .skip))
 (.seq
 (.ops 199 3 (mM 0 163 14 ::
 mM 1 4 163 ::
 oO 2 5 (.mov (.c (.int .i64 0))) ::
 []))
 .ret)))))))))))))))),
 [.t 4, .t 5]⟩

def k_outline_Polygon : KFn := ⟨
 (.seq
 (.ops 0 2 (oO 0 2 (.mov (.c .nilsl)) ::
 oO 1 3 (.mov (.c (.int .i64 0))) ::
 []))
 (.seq
 (.seq
 (.ops 2 3 (mM 0 5 0 ::
 oO 1 6 (.callF f_outline_Check [(.t 5)]) ::
 mM 2 4 6 ::
 []))
 (.seq
 (.ops 5 2 (mM 0 7 4 ::
 oO 1 8 (.bin .neq .no (.t 7) (.c (.int .i64 0))) ::
 []))
 (.cond (.t 8)
 (.seq
 (.ops 7 3 (mM 0 9 4 ::
 oO 1 2 (.mov (.c .nilsl)) ::
 mM 2 3 9 ::
 []))
 .ret)
 .skip)))
 (.seq
 (.ops 10 4 (mM 0 10 0 ::
 oO 1 11 (.callF f_outline_vertices [(.t 10)]) ::
 mM 2 2 11 ::
 oO 3 3 (.mov (.c (.int .i64 0))) ::
 []))
 .ret))),
 [.t 2, .t 3]⟩

def k_r20_Polygon : KFn := ⟨
 (.seq
 (.ops 0 2 (oO 0 2 (.mov (.c .nilsl)) ::
 oO 1 3 (.mov (.c (.int .i64 0))) ::
 []))
 (.seq
 (.seq
 (.ops 2 3 (mM 0 5 0 ::
 oO 1 6 (.callF f_r20_Check [(.t 5)]) ::
 mM 2 4 6 ::
 []))
 (.seq
 (.ops 5 2 (mM 0 7 4 ::
 oO 1 8 (.bin .neq .no (.t 7) (.c (.int .i64 0))) ::
 []))
 (.cond (.t 8)
 (.seq
 (.ops 7 3 (mM 0 9 4 ::
 oO 1 2 (.mov (.c .nilsl)) ::
 mM 2 3 9 ::
 []))
 .ret)
 .skip)))
 (.seq
 (.ops 10 4 (mM 0 10 0 ::
 oO 1 11 (.callF f_r20_Vertices [(.t 10)]) ::
 mM 2 2 11 ::
 oO 3 3 (.mov (.c (.int .i64 0))) ::
 []))
 .ret))),
 [.t 2, .t 3]⟩

def k_outline_Check : KFn := ⟨
 (.seq
 (.ops 16 1 (oO 0 2 (.mov (.c (.int .i64 0))) ::
 []))
 (.seq
 (.seq
 (.ops 17 3 (mM 0 11 0 ::
 oO 1 12 (.len .sl (.t 11)) ::
 oO 2 13 (.bin .gtr .no (.t 12) (.c (.int .i64 16))) ::
 []))
 (.cond (.t 13)
 (.seq
 (.ops 20 1 (oO 0 2 (.mov (.c (.int .i64 5))) ::
 []))
 .ret)
 .skip))
 (.seq
 (.seq
 (.ops 21 3 (mM 0 14 0 ::
 oO 1 15 (.len .sl (.t 14)) ::
 oO 2 16 (.bin .lss .no (.t 15) (.c (.int .i64 2))) ::
 []))
 (.cond (.t 16)
 (.seq
 (.ops 24 1 (oO 0 2 (.mov (.c (.int .i64 11))) ::
 []))
 .ret)
 .skip))
 (.seq
 (.seq
 (.ops 25 3 (mM 0 17 0 ::
 oO 1 18 (.len .sl (.t 17)) ::
 oO 2 19 (.mov (.c (.int .i64 0))) ::
 []))
 (.block 0
 (.loop [(0, 0), (17, 0), (18, 0), (19, 0)]
 (.seq
 (.ops 28 1 (oO 0 20 (.bin .lss .no (.t 19) (.t 18)) ::
 []))
 (.seq
 (.cond (.t 20)
 .skip
 (.exit 0))
 (.seq
 (.block 1
 (.seq
 (.ops 29 6 (mM 0 21 19 ::
 oO 1 22 (.ixs 2 (.t 17) (.t 19)) ::
 oO 2 23 (.load false true 2 (.t 22)) ::
 oO 3 4 (.new 2 (.agg [(.str ⟨#[]⟩), .nilsl])) ::
 mM 4 3 21 ::
 ⟨5, none, none, .all, .store true 2 (.t 4) (.t 23)⟩ ::
 []))
 (.seq
 (.seq
 (.ops 35 4 (oO 0 24 (.off 0 (.t 4)) ::
 oO 1 25 (.load true false 1 (.t 24)) ::
 oO 2 26 (.callF f_outline_isName [(.t 25)]) ::
 oO 3 27 (.un .not (.t 26)) ::
 []))
 (.cond (.t 27)
 (.seq
 (.ops 39 1 (oO 0 2 (.mov (.c (.int .i64 1))) ::
 []))
 .ret)
 .skip))
 (.seq
 (.seq
 (.ops 40 5 (mM 0 28 0 ::
 mM 1 29 3 ::
 oO 2 30 (.slsl 2 (.t 28) none (some (.t 29)) none) ::
 oO 3 31 (.len .sl (.t 30)) ::
 oO 4 32 (.mov (.c (.int .i64 0))) ::
 []))
 (.block 2
 (.loop [(0, 0), (4, 0), (17, 0), (18, 0), (19, 0), (30, 0), (31, 0), (32, 0)]
 (.seq
 (.ops 45 1 (oO 0 33 (.bin .lss .no (.t 32) (.t 31)) ::
 []))
 (.seq
 (.cond (.t 33)
 .skip
 (.exit 2))
 (.seq
 (.block 3
 (.seq
 (.ops 46 4 (oO 0 34 (.ixs 2 (.t 30) (.t 32)) ::
 oO 1 35 (.load false true 2 (.t 34)) ::
 oO 2 6 (.new 2 (.agg [(.str ⟨#[]⟩), .nilsl])) ::
 ⟨3, none, none, .all, .store true 2 (.t 6) (.t 35)⟩ ::
 []))
 (.seq
 (.ops 50 5 (oO 0 36 (.off 0 (.t 6)) ::
 oO 1 37 (.load true false 1 (.t 36)) ::
 oO 2 38 (.off 0 (.t 4)) ::
 oO 3 39 (.load true false 1 (.t 38)) ::
 oO 4 40 (.bin .eql .no (.t 37) (.t 39)) ::
 []))
 (.cond (.t 40)
 (.seq
 (.ops 55 1 (oO 0 2 (.mov (.c (.int .i64 7))) ::
 []))
 .ret)
 .skip))))
 (.ops 56 2 (oO 0 41 (.bin .add .no (.t 32) (.c (.int .i64 1))) ::
 mM 1 32 41 ::
 []))))))))
 (.seq
 (.ops 58 4 (oO 0 42 (.off 1 (.t 4)) ::
 oO 1 43 (.load true false 1 (.t 42)) ::
 oO 2 44 (.callF f_polyline_Check [(.t 43)]) ::
 mM 3 7 44 ::
 []))
 (.seq
 (.ops 62 2 (mM 0 45 7 ::
 oO 1 46 (.bin .neq .no (.t 45) (.c (.int .i64 0))) ::
 []))
 (.cond (.t 46)
 (.seq
 (.ops 64 2 (mM 0 47 7 ::
 mM 1 2 47 ::
 []))
 .ret)
 .skip)))))))
 (.ops 66 2 (oO 0 48 (.bin .add .no (.t 19) (.c (.int .i64 1))) ::
 mM 1 19 48 ::
 []))))))))
 (.seq
 (.seq
 (.ops 68 3 (mM 0 49 0 ::
 oO 1 50 (.len .sl (.t 49)) ::
 oO 2 51 (.mov (.c (.int .i64 0))) ::
 []))
 (.block 4
 (.loop [(0, 0), (49, 0), (50, 0), (51, 0)]
 (.seq
 (.ops 71 1 (oO 0 52 (.bin .lss .no (.t 51) (.t 50)) ::
 []))
 (.seq
 (.cond (.t 52)
 .skip
 (.exit 4))
 (.seq
 (.block 5
 (.seq
 (.ops 72 6 (mM 0 53 51 ::
 oO 1 54 (.ixs 2 (.t 49) (.t 51)) ::
 oO 2 55 (.load false true 2 (.t 54)) ::
 oO 3 9 (.new 2 (.agg [(.str ⟨#[]⟩), .nilsl])) ::
 mM 4 8 53 ::
 ⟨5, none, none, .all, .store true 2 (.t 9) (.t 55)⟩ ::
 []))
 (.seq
 (.ops 78 10 (mM 0 56 0 ::
 mM 1 57 8 ::
 oO 2 58 (.bin .add .no (.t 57) (.c (.int .i64 1))) ::
 mM 3 59 0 ::
 oO 4 60 (.len .sl (.t 59)) ::
 oO 5 61 (.bin .rem .no (.t 58) (.t 60)) ::
 oO 6 62 (.ixs 2 (.t 56) (.t 61)) ::
 oO 7 63 (.load false true 2 (.t 62)) ::
 oO 8 10 (.new 2 (.agg [(.str ⟨#[]⟩), .nilsl])) ::
 ⟨9, none, none, .all, .store true 2 (.t 10) (.t 63)⟩ ::
 []))
 (.seq
 (.ops 88 13 (oO 0 64 (.off 1 (.t 9)) ::
 ⟨1, some 65, none, (.bef 1 13), .load true false 1 (.t 64)⟩ ::
 oO 2 66 (.off 1 (.t 9)) ::
 ⟨3, some 67, none, (.bef 4 13), .load true false 1 (.t 66)⟩ ::
 ⟨4, some 68, none, (.bef 12 13), .len .sl (.t 67)⟩ ::
 oO 5 69 (.bin .sub .no (.t 68) (.c (.int .i64 1))) ::
 ⟨6, some 70, none, (.bef 63 13), .ixs 2 (.t 65) (.t 69)⟩ ::
 ⟨7, some 71, none, (.bef 127 13), .load false true 2 (.t 70)⟩ ::
 oO 8 72 (.off 1 (.t 10)) ::
 ⟨9, some 73, none, (.bef 256 13), .load true false 1 (.t 72)⟩ ::
 ⟨10, some 74, none, (.bef 768 13), .ixs 2 (.t 73) (.c (.int .i64 0))⟩ ::
 ⟨11, some 75, none, (.bef 1792 13), .load false true 2 (.t 74)⟩ ::
 oO 12 76 (.bin .neq (.flat [.int, .int]) (.t 71) (.t 75)) ::
 []))
 (.cond (.t 76)
 (.seq
 (.ops 101 1 (oO 0 2 (.mov (.c (.int .i64 11))) ::
 []))
 .ret)
 .skip)))))
 (.ops 102 2 (oO 0 77 (.bin .add .no (.t 51) (.c (.int .i64 1))) ::
 mM 1 51 77 ::
 []))))))))
 (.seq
 (.ops 104 4 (mM 0 78 0 ::
 oO 1 79 (.callF f_outline_vertices [(.t 78)]) ::
 oO 2 80 (.callF f_polygon_Check [(.t 79)]) ::
 mM 3 2 80 ::
 []))
 .ret)))))),
 [.t 2]⟩

def k_r20_Check : KFn := ⟨
 (.seq
 (.ops 4 1 (oO 0 2 (.mov (.c (.int .i64 0))) ::
 []))
 (.seq
 (.seq
 (.ops 5 3 (mM 0 8 0 ::
 oO 1 9 (.len .sl (.t 8)) ::
 oO 2 10 (.bin .gtr .no (.t 9) (.c (.int .i64 16))) ::
 []))
 (.cond (.t 10)
 (.seq
 (.ops 8 1 (oO 0 2 (.mov (.c (.int .i64 5))) ::
 []))
 .ret)
 .skip))
 (.seq
 (.seq
 (.ops 9 3 (mM 0 11 0 ::
 oO 1 12 (.len .sl (.t 11)) ::
 oO 2 13 (.bin .lss .no (.t 12) (.c (.int .i64 2))) ::
 []))
 (.cond (.t 13)
 (.seq
 (.ops 12 1 (oO 0 2 (.mov (.c (.int .i64 11))) ::
 []))
 .ret)
 .skip))
 (.seq
 (.seq
 (.ops 13 1 (oO 0 3 (.mov (.c (.int .i64 0))) ::
 []))
 (.block 0
 (.loop [(0, 0), (3, 0)]
 (.seq
 (.seq
 (.ops 14 4 (mM 0 14 3 ::
 mM 1 15 0 ::
 oO 2 16 (.len .sl (.t 15)) ::
 oO 3 17 (.bin .lss .no (.t 14) (.t 16)) ::
 []))
 (.cond (.t 17)
 .skip
 (.exit 0)))
 (.seq
 (.block 1
 (.seq
 (.seq
 (.ops 18 7 (mM 0 20 0 ::
 mM 1 21 3 ::
 oO 2 22 (.ixs 2 (.t 20) (.t 21)) ::
 oO 3 23 (.off 0 (.t 22)) ::
 oO 4 24 (.load false false 1 (.t 23)) ::
 oO 5 25 (.callF f_r17_Name [(.t 24)]) ::
 oO 6 26 (.un .not (.t 25)) ::
 []))
 (.cond (.t 26)
 (.seq
 (.ops 25 1 (oO 0 2 (.mov (.c (.int .i64 1))) ::
 []))
 .ret)
 .skip))
 (.seq
 (.seq
 (.ops 26 8 (mM 0 27 0 ::
 mM 1 28 3 ::
 mM 2 29 0 ::
 mM 3 30 3 ::
 oO 4 31 (.ixs 2 (.t 29) (.t 30)) ::
 oO 5 32 (.off 0 (.t 31)) ::
 oO 6 33 (.load false false 1 (.t 32)) ::
 oO 7 34 (.callF f_r20_named [(.t 27), (.t 28), (.t 33)]) ::
 []))
 (.cond (.t 34)
 (.seq
 (.ops 34 1 (oO 0 2 (.mov (.c (.int .i64 7))) ::
 []))
 .ret)
 .skip))
 (.seq
 (.ops 35 7 (mM 0 35 0 ::
 mM 1 36 3 ::
 oO 2 37 (.ixs 2 (.t 35) (.t 36)) ::
 oO 3 38 (.off 1 (.t 37)) ::
 oO 4 39 (.load false false 1 (.t 38)) ::
 oO 5 40 (.callF f_r10_Check [(.t 39)]) ::
 mM 6 4 40 ::
 []))
 (.seq
 (.ops 42 2 (mM 0 41 4 ::
 oO 1 42 (.bin .neq .no (.t 41) (.c (.int .i64 0))) ::
 []))
 (.cond (.t 42)
 (.seq
 (.ops 44 2 (mM 0 43 4 ::
 mM 1 2 43 ::
 []))
 .ret)
 .skip))))))
 (.ops 46 3 (mM 0 18 3 ::
 oO 1 19 (.bin .add .no (.t 18) (.c (.int .i64 1))) ::
 mM 2 3 19 ::
 [])))))))
 (.seq
 (.seq
 (.ops 49 1 (oO 0 5 (.mov (.c (.int .i64 0))) ::
 []))
 (.block 2
 (.loop [(0, 0), (5, 0)]
 (.seq
 (.seq
 (.ops 50 4 (mM 0 44 5 ::
 mM 1 45 0 ::
 oO 2 46 (.len .sl (.t 45)) ::
 oO 3 47 (.bin .lss .no (.t 44) (.t 46)) ::
 []))
 (.cond (.t 47)
 .skip
 (.exit 2)))
 (.seq
 (.block 3
 (.seq
 (.ops 54 16 (mM 0 50 0 ::
 mM 1 51 5 ::
 ⟨2, some 52, none, (.bef 3 16), .ixs 2 (.t 50) (.t 51)⟩ ::
 oO 3 53 (.off 1 (.t 52)) ::
 ⟨4, some 54, none, (.bef 15 16), .load false false 1 (.t 53)⟩ ::
 mM 5 55 0 ::
 mM 6 56 5 ::
 oO 7 57 (.bin .add .no (.t 56) (.c (.int .i64 1))) ::
 mM 8 58 0 ::
 ⟨9, some 59, none, (.bef 256 16), .len .sl (.t 58)⟩ ::
 oO 10 60 (.bin .rem .no (.t 57) (.t 59)) ::
 ⟨11, some 61, none, (.bef 2016 16), .ixs 2 (.t 55) (.t 60)⟩ ::
 oO 12 62 (.off 1 (.t 61)) ::
 ⟨13, some 63, none, (.bef 8160 16), .load false false 1 (.t 62)⟩ ::
 mM 14 6 54 ::
 mM 15 7 63 ::
 []))
 (.seq
 (.ops 70 10 (mM 0 64 6 ::
 mM 1 65 6 ::
 ⟨2, some 66, none, (.bef 2 10), .len .sl (.t 65)⟩ ::
 oO 3 67 (.bin .sub .no (.t 66) (.c (.int .i64 1))) ::
 ⟨4, some 68, none, (.bef 15 10), .ixs 2 (.t 64) (.t 67)⟩ ::
 ⟨5, some 69, none, (.bef 31 10), .load false true 2 (.t 68)⟩ ::
 mM 6 70 7 ::
 ⟨7, some 71, none, (.bef 64 10), .ixs 2 (.t 70) (.c (.int .i64 0))⟩ ::
 ⟨8, some 72, none, (.bef 192 10), .load false true 2 (.t 71)⟩ ::
 oO 9 73 (.bin .neq (.flat [.int, .int]) (.t 69) (.t 72)) ::
 []))
 (.cond (.t 73)
 (.seq
 (.ops 80 1 (oO 0 2 (.mov (.c (.int .i64 11))) ::
 []))
 .ret)
 .skip))))
 (.ops 81 3 (mM 0 48 5 ::
 oO 1 49 (.bin .add .no (.t 48) (.c (.int .i64 1))) ::
 mM 2 5 49 ::
 [])))))))
 (.seq
 (.ops 84 4 (mM 0 74 0 ::
 oO 1 75 (.callF f_r20_Vertices [(.t 74)]) ::
 oO 2 76 (.callF f_r11_Check [(.t 75)]) ::
 mM 3 2 76 ::
 []))
 .ret)))))),
 [.t 2]⟩

def k_polygon_Check : KFn := ⟨
 (.seq
 (.ops 0 1 (oO 0 2 (.mov (.c (.int .i64 0))) ::
 []))
 (.seq
 (.seq
 (.ops 1 3 (mM 0 3 0 ::
 oO 1 4 (.len .sl (.t 3)) ::
 oO 2 5 (.bin .gtr .no (.t 4) (.c (.int .i64 40))) ::
 []))
 (.cond (.t 5)
 (.seq
 (.ops 4 1 (oO 0 2 (.mov (.c (.int .i64 5))) ::
 []))
 .ret)
 .skip))
 (.seq
 (.seq
 (.ops 5 3 (mM 0 6 0 ::
 oO 1 7 (.len .sl (.t 6)) ::
 oO 2 8 (.bin .lss .no (.t 7) (.c (.int .i64 3))) ::
 []))
 (.cond (.t 8)
 (.seq
 (.ops 8 1 (oO 0 2 (.mov (.c (.int .i64 11))) ::
 []))
 .ret)
 .skip))
 (.seq
 (.seq
 (.ops 9 2 (mM 0 9 0 ::
 oO 1 10 (.callF f_slices_ContainsFunc_Spot_Spot [(.t 9), (.c (.fn f_polygon_outside [] []))]) ::
 []))
 (.cond (.t 10)
 (.seq
 (.ops 11 1 (oO 0 2 (.mov (.c (.int .i64 3))) ::
 []))
 .ret)
 .skip))
 (.seq
 (.seq
 (.ops 12 3 (mM 0 11 0 ::
 oO 1 12 (.callF f_polygon_simple [(.t 11)]) ::
 oO 2 13 (.un .not (.t 12)) ::
 []))
 (.cond (.t 13)
 (.seq
 (.ops 15 1 (oO 0 2 (.mov (.c (.int .i64 11))) ::
 []))
 .ret)
 .skip))
 (.seq
 (.ops 16 1 (oO 0 2 (.mov (.c (.int .i64 0))) ::
 []))
 .ret)))))),
 [.t 2]⟩

def k_point_Grid : KFn := ⟨
 (.seq
 (.ops 0 3 (oO 0 1 (.box 6 (.t 0)) ::
 oO 1 2 (.new 2 (.agg [(.int .i64 0), (.int .i64 0)])) ::
 oO 2 3 (.mov (.c (.int .i64 0))) ::
 []))
 (.seq
 (.ops 3 8 (oO 0 9 (.off 0 (.t 1)) ::
 oO 1 10 (.load true true 3 (.t 9)) ::
 oO 2 11 (.callF f_point_coordinate [(.t 10)]) ::
 mM 3 8 11 ::
 oO 4 12 (.extract (.t 8) 0) ::
 oO 5 13 (.extract (.t 8) 1) ::
 mM 6 4 12 ::
 mM 7 5 13 ::
 []))
 (.seq
 (.ops 11 8 (oO 0 15 (.off 3 (.t 1)) ::
 oO 1 16 (.load true true 3 (.t 15)) ::
 oO 2 17 (.callF f_point_coordinate [(.t 16)]) ::
 mM 3 14 17 ::
 oO 4 18 (.extract (.t 14) 0) ::
 oO 5 19 (.extract (.t 14) 1) ::
 mM 6 6 18 ::
 mM 7 7 19 ::
 []))
 (.seq
 (.seq
 (.ops 19 6 (mM 0 20 5 ::
 oO 1 21 (.un .not (.t 20)) ::
 mM 2 22 21 ::
 gG 3 23 22 false (.mov (.t 7)) ::
 gG 4 24 22 false (.un .not (.t 23)) ::
 oO 5 25 (.pick (.t 22) (.c (.bool true)) (.t 24)) ::
 []))
 (.cond (.t 25)
 (.seq
 (.ops 25 3 (oO 0 26 (.build [(.int .i64 0), (.int .i64 0)] []) ::
 ⟨1, none, none, .all, .store true 2 (.t 2) (.t 26)⟩ ::
 oO 2 3 (.mov (.c (.int .i64 3))) ::
 []))
 .ret)
 .skip))
 (.seq
 (.ops 28 5 (mM 0 27 4 ::
 mM 1 28 6 ::
 oO 2 29 (.build [(.int .i64 0), (.int .i64 0)] [(0, 1, (.t 27)), (1, 1, (.t 28))]) ::
 ⟨3, none, none, .all, .store true 2 (.t 2) (.t 29)⟩ ::
 oO 4 3 (.mov (.c (.int .i64 0))) ::
 []))
 .ret))))),
 [.cell 2 true 2, .t 3]⟩

def k_polygon_Area2 : KFn := ⟨
 (.seq
 (.ops 0 1 (oO 0 2 (.mov (.c (.int .i64 0))) ::
 []))
 (.seq
 (.seq
 (.ops 1 3 (mM 0 3 0 ::
 oO 1 4 (.callF f_polygon_Check [(.t 3)]) ::
 oO 2 5 (.bin .neq .no (.t 4) (.c (.int .i64 0))) ::
 []))
 (.cond (.t 5)
 (.seq
 (.ops 4 1 (oO 0 2 (.mov (.c (.int .i64 0))) ::
 []))
 .ret)
 .skip))
 (.seq
 (.ops 5 3 (mM 0 6 0 ::
 oO 1 7 (.callF f_polygon_area [(.t 6)]) ::
 mM 2 2 7 ::
 []))
 .ret))),
 [.t 2]⟩

def k_r24_Vertices : KFn := ⟨
 (.seq
 (.ops 8 1 (oO 0 4 (.mov (.c (.int .i64 0))) ::
 []))
 (.seq
 (.ops 9 1 (oO 0 5 (.mov (.c (.int .i64 0))) ::
 []))
 (.seq
 (.seq
 (.ops 10 1 (oO 0 6 (.mov (.c (.int .i64 0))) ::
 []))
 (.block 0
 (.loop [(0, 0), (1, 0), (5, 0), (6, 0)]
 (.seq
 (.seq
 (.ops 11 9 (mM 0 7 6 ::
 mM 1 8 0 ::
 oO 2 9 (.len .sl (.t 8)) ::
 oO 3 10 (.bin .lss .no (.t 7) (.t 9)) ::
 mM 4 11 10 ::
 gG 5 12 11 true (.mov (.t 5)) ::
 gG 6 13 11 true (.mov (.t 1)) ::
 gG 7 14 11 true (.bin .leq .no (.t 12) (.t 13)) ::
 oO 8 15 (.pick (.t 11) (.t 14) (.c (.bool false))) ::
 []))
 (.cond (.t 15)
 .skip
 (.exit 0)))
 (.seq
 (.block 1
 (.ops 20 13 (mM 0 18 5 ::
 mM 1 19 0 ::
 mM 2 20 6 ::
 oO 3 21 (.ixs 2 (.t 19) (.t 20)) ::
 oO 4 22 (.off 1 (.t 21)) ::
 oO 5 23 (.load false false 1 (.t 22)) ::
 oO 6 24 (.len .sl (.t 23)) ::
 oO 7 25 (.bin .add .no (.t 18) (.t 24)) ::
 oO 8 26 (.bin .add .no (.t 25) (.c (.int .i64 1))) ::
 mM 9 27 1 ::
 oO 10 28 (.bin .add .no (.t 27) (.c (.int .i64 1))) ::
 oO 11 29 (.mm false [(.t 26), (.t 28)]) ::
 mM 12 5 29 ::
 [])))
 (.ops 33 3 (mM 0 16 6 ::
 oO 1 17 (.bin .add .no (.t 16) (.c (.int .i64 1))) ::
 mM 2 6 17 ::
 [])))))))
 (.seq
 (.ops 36 2 (mM 0 30 5 ::
 mM 1 4 30 ::
 []))
 .ret)))),
 [.t 4]⟩

def k_l24_edges : KFn := ⟨
 (.seq
 (.ops 8 1 (oO 0 2 (.mov (.c .nilsl)) ::
 []))
 (.seq
 (.ops 9 1 (oO 0 3 (.mov (.c .nilsl)) ::
 []))
 (.seq
 (.seq
 (.ops 10 3 (mM 0 5 0 ::
 oO 1 6 (.len .sl (.t 5)) ::
 oO 2 7 (.mov (.c (.int .i64 0))) ::
 []))
 (.block 0
 (.loop [(0, 0), (3, 2), (6, 0), (7, 0)]
 (.seq
 (.ops 13 1 (oO 0 8 (.bin .lss .no (.t 7) (.t 6)) ::
 []))
 (.seq
 (.cond (.t 8)
 .skip
 (.exit 0))
 (.seq
 (.block 1
 (.seq
 (.ops 14 2 (mM 0 9 7 ::
 mM 1 4 9 ::
 []))
 (.ops 16 24 (mM 0 10 3 ::
 mM 1 11 4 ::
 oO 2 12 (.bin .rem .no (.t 11) (.c (.int .i64 26))) ::
 ⟨3, some 13, none, (.bef 6 24), .conv (.int .u8) (.t 12)⟩ ::
 oO 4 14 (.bin .add .no (.c (.int .u8 97)) (.t 13)) ::
 ⟨5, some 15, none, (.bef 30 24), .buildSlice 1 1 [(.int .u8 0)] [(0, (.t 14))]⟩ ::
 ⟨6, some 16, none, (.bef 62 24), .conv .bytes (.t 15)⟩ ::
 mM 7 17 0 ::
 mM 8 18 4 ::
 ⟨9, some 19, none, (.bef 384 24), .ixs 2 (.t 17) (.t 18)⟩ ::
 ⟨10, some 20, none, (.bef 896 24), .load false true 2 (.t 19)⟩ ::
 mM 11 21 0 ::
 mM 12 22 4 ::
 oO 13 23 (.bin .add .no (.t 22) (.c (.int .i64 1))) ::
 mM 14 24 0 ::
 ⟨15, some 25, none, (.bef 16384 24), .len .sl (.t 24)⟩ ::
 oO 16 26 (.bin .rem .no (.t 23) (.t 25)) ::
 ⟨17, some 27, none, (.bef 129024 24), .ixs 2 (.t 21) (.t 26)⟩ ::
 ⟨18, some 28, none, (.bef 260096 24), .load false true 2 (.t 27)⟩ ::
 ⟨19, some 29, none, (.bef 524160 24), .buildSlice 2 2 [(.agg [(.int .i64 0), (.int .i64 0)]), (.agg [(.int .i64 0), (.int .i64 0)])] [(0, (.t 20)), (1, (.t 28))]⟩ ::
 oO 20 30 (.build [(.str ⟨#[]⟩), .nilsl] [(0, 1, (.t 16)), (1, 1, (.t 29))]) ::
 ⟨21, some 31, none, (.bef 2097150 24), .buildSlice 2 1 [(.agg [(.str ⟨#[]⟩), .nilsl])] [(0, (.t 30))]⟩ ::
 ⟨22, some 32, none, (.bef 4194303 24), .append ⟨2, 40, (.agg [(.str ⟨#[]⟩), .nilsl])⟩ .sl (.t 10) (.t 31)⟩ ::
 mM 23 3 32 ::
 []))))
 (.ops 40 2 (oO 0 33 (.bin .add .no (.t 7) (.c (.int .i64 1))) ::
 mM 1 7 33 ::
 []))))))))
 (.seq
 (.ops 42 2 (mM 0 34 3 ::
 mM 1 2 34 ::
 []))
 .ret)))),
 [.t 2]⟩

def k_l24_rect : KFn := ⟨
 (.seq
 (.ops 0 1 (oO 0 8 (.mov (.c .nilsl)) ::
 []))
 (.seq
 (.ops 1 14 (mM 0 9 0 ::
 mM 1 10 1 ::
 oO 2 11 (.build [(.int .i64 0), (.int .i64 0)] [(0, 1, (.t 9)), (1, 1, (.t 10))]) ::
 mM 3 12 2 ::
 mM 4 13 1 ::
 oO 5 14 (.build [(.int .i64 0), (.int .i64 0)] [(0, 1, (.t 12)), (1, 1, (.t 13))]) ::
 mM 6 15 2 ::
 mM 7 16 3 ::
 oO 8 17 (.build [(.int .i64 0), (.int .i64 0)] [(0, 1, (.t 15)), (1, 1, (.t 16))]) ::
 mM 9 18 0 ::
 mM 10 19 3 ::
 oO 11 20 (.build [(.int .i64 0), (.int .i64 0)] [(0, 1, (.t 18)), (1, 1, (.t 19))]) ::
 oO 12 21 (.buildSlice 2 4 [(.agg [(.int .i64 0), (.int .i64 0)]), (.agg [(.int .i64 0), (.int .i64 0)]), (.agg [(.int .i64 0), (.int .i64 0)]), (.agg [(.int .i64 0), (.int .i64 0)])] [(0, (.t 11)), (1, (.t 14)), (2, (.t 17)), (3, (.t 20))]) ::
 mM 13 8 21 ::
 []))
 .ret)),
 [.t 8]⟩

def k_allowance_orientation : KFn := ⟨
 (.seq
 (.ops 0 1 (oO 0 2 (.mov (.c (.int .i64 0))) ::
 []))
 (.seq
 (.ops 1 4 (mM 0 3 0 ::
 oO 1 4 (.callF f_polygon_Area2 [(.t 3)]) ::
 oO 2 5 (.callF f_cmp_Compare_int [(.t 4), (.c (.int .i64 0))]) ::
 mM 3 2 5 ::
 []))
 .ret)),
 [.t 2]⟩

def k_allowance_segmentWidths : KFn := ⟨
 (.seq
 (.ops 16 1 (oO 0 4 (.mov (.c .nilsl)) ::
 []))
 (.seq
 (.ops 17 1 (oO 0 5 (.mov (.c .nilsl)) ::
 []))
 (.seq
 (.seq
 (.ops 18 3 (mM 0 8 0 ::
 oO 1 9 (.len .sl (.t 8)) ::
 oO 2 10 (.mov (.c (.int .i64 0))) ::
 []))
 (.block 0
 (.loop [(1, 0), (5, 1), (8, 0), (9, 0), (10, 0)]
 (.seq
 (.ops 21 1 (oO 0 11 (.bin .lss .no (.t 10) (.t 9)) ::
 []))
 (.seq
 (.cond (.t 11)
 .skip
 (.exit 0))
 (.seq
 (.block 1
 (.seq
 (.ops 22 6 (mM 0 12 10 ::
 oO 1 13 (.ixs 2 (.t 8) (.t 10)) ::
 oO 2 14 (.load false true 2 (.t 13)) ::
 oO 3 7 (.new 2 (.agg [(.str ⟨#[]⟩), .nilsl])) ::
 mM 4 6 12 ::
 ⟨5, none, none, .all, .store true 2 (.t 7) (.t 14)⟩ ::
 []))
 (.seq
 (.ops 28 5 (oO 0 15 (.off 1 (.t 7)) ::
 oO 1 16 (.load true false 1 (.t 15)) ::
 oO 2 17 (.len .sl (.t 16)) ::
 oO 3 18 (.bin .sub .no (.t 17) (.c (.int .i64 1))) ::
 oO 4 19 (.mov (.c (.int .i64 0))) ::
 []))
 (.block 2
 (.loop [(1, 0), (5, 1), (6, 0), (8, 0), (9, 0), (10, 0), (18, 0), (19, 0)]
 (.seq
 (.ops 33 1 (oO 0 20 (.bin .lss .no (.t 19) (.t 18)) ::
 []))
 (.seq
 (.cond (.t 20)
 .skip
 (.exit 2))
 (.seq
 (.block 3
 (.ops 34 8 (mM 0 21 5 ::
 mM 1 22 1 ::
 mM 2 23 6 ::
 oO 3 24 (.ixs 1 (.t 22) (.t 23)) ::
 oO 4 25 (.load false false 1 (.t 24)) ::
 oO 5 26 (.buildSlice 1 1 [(.int .i64 0)] [(0, (.t 25))]) ::
 oO 6 27 (.append ⟨1, 8, (.int .i64 0)⟩ .sl (.t 21) (.t 26)) ::
 mM 7 5 27 ::
 [])))
 (.ops 42 2 (oO 0 28 (.bin .add .no (.t 19) (.c (.int .i64 1))) ::
 mM 1 19 28 ::
 []))))))))))
 (.ops 44 2 (oO 0 29 (.bin .add .no (.t 10) (.c (.int .i64 1))) ::
 mM 1 10 29 ::
 []))))))))
 (.seq
 (.ops 46 2 (mM 0 30 5 ::
 mM 1 4 30 ::
 []))
 .ret)))),
 [.t 4]⟩

def k_allowance_root : KFn := ⟨
 (.seq
 (.ops 4 1 (oO 0 2 (.mov (.c (.int .i64 0))) ::
 []))
 (.seq
 (.ops 5 5 (mM 0 4 0 ::
 oO 1 5 (.conv (.float .f64) (.t 4)) ::
 oO 2 6 (.callF f_math_Sqrt [(.t 5)]) ::
 oO 3 7 (.conv (.int .i64) (.t 6)) ::
 mM 4 3 7 ::
 []))
 (.seq
 (.block 0
 (.loop [(0, 0), (3, 0)]
 (.seq
 (.seq
 (.ops 10 5 (mM 0 8 3 ::
 mM 1 9 3 ::
 oO 2 10 (.bin .mul .no (.t 8) (.t 9)) ::
 mM 3 11 0 ::
 oO 4 12 (.bin .gtr .no (.t 10) (.t 11)) ::
 []))
 (.cond (.t 12)
 .skip
 (.exit 0)))
 (.block 1
 (.ops 15 3 (mM 0 13 3 ::
 oO 1 14 (.bin .sub .no (.t 13) (.c (.int .i64 1))) ::
 mM 2 3 14 ::
 []))))))
 (.seq
 (.block 2
 (.loop [(0, 0), (3, 0)]
 (.seq
 (.seq
 (.ops 18 7 (mM 0 15 3 ::
 oO 1 16 (.bin .add .no (.t 15) (.c (.int .i64 1))) ::
 mM 2 17 3 ::
 oO 3 18 (.bin .add .no (.t 17) (.c (.int .i64 1))) ::
 oO 4 19 (.bin .mul .no (.t 16) (.t 18)) ::
 mM 5 20 0 ::
 oO 6 21 (.bin .leq .no (.t 19) (.t 20)) ::
 []))
 (.cond (.t 21)
 .skip
 (.exit 2)))
 (.block 3
 (.ops 25 3 (mM 0 22 3 ::
 oO 1 23 (.bin .add .no (.t 22) (.c (.int .i64 1))) ::
 mM 2 3 23 ::
 []))))))
 (.seq
 (.ops 28 2 (mM 0 24 3 ::
 mM 1 2 24 ::
 []))
 .ret))))),
 [.t 2]⟩

def k_allowance_rounded : KFn := ⟨
 (.seq
 (.ops 0 1 (oO 0 4 (.mov (.c (.int .i64 0))) ::
 []))
 (.seq
 (.seq
 (.ops 1 2 (mM 0 5 0 ::
 oO 1 6 (.bin .lss .no (.t 5) (.c (.int .i64 0))) ::
 []))
 (.cond (.t 6)
 (.seq
 (.ops 3 6 (mM 0 7 0 ::
 oO 1 8 (.un .neg (.t 7)) ::
 mM 2 9 1 ::
 oO 3 10 (.callF f_allowance_rounded [(.t 8), (.t 9)]) ::
 oO 4 11 (.un .neg (.t 10)) ::
 mM 5 4 11 ::
 []))
 .ret)
 .skip))
 (.seq
 (.ops 9 8 (mM 0 12 0 ::
 oO 1 13 (.bin .mul .no (.c (.int .i64 2)) (.t 12)) ::
 mM 2 14 1 ::
 oO 3 15 (.bin .add .no (.t 13) (.t 14)) ::
 mM 4 16 1 ::
 oO 5 17 (.bin .mul .no (.c (.int .i64 2)) (.t 16)) ::
 oO 6 18 (.bin .quo .no (.t 15) (.t 17)) ::
 mM 7 4 18 ::
 []))
 .ret))),
 [.t 4]⟩

def k_r24_Segments : KFn := ⟨
 (.seq
 (.ops 12 2 (oO 0 4 (.mov (.c .nilsl)) ::
 oO 1 5 (.mov (.c (.int .i64 0))) ::
 []))
 (.seq
 (.seq
 (.ops 14 3 (mM 0 16 0 ::
 oO 1 17 (.callF f_r20_Check [(.t 16)]) ::
 mM 2 6 17 ::
 []))
 (.seq
 (.ops 17 2 (mM 0 18 6 ::
 oO 1 19 (.bin .neq .no (.t 18) (.c (.int .i64 0))) ::
 []))
 (.cond (.t 19)
 (.seq
 (.ops 19 3 (mM 0 20 6 ::
 oO 1 4 (.mov (.c .nilsl)) ::
 mM 2 5 20 ::
 []))
 .ret)
 .skip)))
 (.seq
 (.seq
 (.ops 22 5 (mM 0 21 1 ::
 oO 1 22 (.len .sl (.t 21)) ::
 mM 2 23 0 ::
 oO 3 24 (.len .sl (.t 23)) ::
 oO 4 25 (.bin .neq .no (.t 22) (.t 24)) ::
 []))
 (.cond (.t 25)
 (.seq
 (.ops 27 2 (oO 0 4 (.mov (.c .nilsl)) ::
 oO 1 5 (.mov (.c (.int .i64 1))) ::
 []))
 .ret)
 .skip))
 (.seq
 (.seq
 (.ops 29 1 (oO 0 7 (.mov (.c (.int .i64 0))) ::
 []))
 (.block 0
 (.loop [(0, 0), (1, 0), (7, 0)]
 (.seq
 (.seq
 (.ops 30 4 (mM 0 26 7 ::
 mM 1 27 1 ::
 oO 2 28 (.len .sl (.t 27)) ::
 oO 3 29 (.bin .lss .no (.t 26) (.t 28)) ::
 []))
 (.cond (.t 29)
 .skip
 (.exit 0)))
 (.seq
 (.block 1
 (.seq
 (.ops 34 12 (mM 0 32 1 ::
 mM 1 33 7 ::
 oO 2 34 (.ixs 1 (.t 32) (.t 33)) ::
 oO 3 35 (.load false false 1 (.t 34)) ::
 oO 4 36 (.bin .lss .no (.t 35) (.c (.int .i64 0))) ::
 mM 5 37 36 ::
 gG 6 38 37 false (.mov (.t 1)) ::
 gG 7 39 37 false (.mov (.t 7)) ::
 gG 8 40 37 false (.ixs 1 (.t 38) (.t 39)) ::
 gG 9 41 37 false (.load false false 1 (.t 40)) ::
 gG 10 42 37 false (.bin .gtr .no (.t 41) (.c (.int .i64 500))) ::
 oO 11 43 (.pick (.t 37) (.c (.bool true)) (.t 42)) ::
 []))
 (.cond (.t 43)
 (.seq
 (.ops 46 2 (oO 0 4 (.mov (.c .nilsl)) ::
 oO 1 5 (.mov (.c (.int .i64 3))) ::
 []))
 .ret)
 .skip)))
 (.ops 48 3 (mM 0 30 7 ::
 oO 1 31 (.bin .add .no (.t 30) (.c (.int .i64 1))) ::
 mM 2 7 31 ::
 [])))))))
 (.seq
 (.ops 51 7 (mM 0 45 0 ::
 oO 1 46 (.callF f_r20_Polygon [(.t 45)]) ::
 mM 2 44 46 ::
 oO 3 47 (.extract (.t 44) 0) ::
 oO 4 48 (.extract (.t 44) 1) ::
 mM 5 8 47 ::
 mM 6 9 48 ::
 []))
 (.seq
 (.ops 58 3 (mM 0 49 8 ::
 oO 1 50 (.callF f_r24_orientation [(.t 49)]) ::
 mM 2 10 50 ::
 []))
 (.seq
 (.ops 61 1 (oO 0 11 (.mov (.c .nilsl)) ::
 []))
 (.seq
 (.seq
 (.ops 62 1 (oO 0 12 (.mov (.c (.int .i64 0))) ::
 []))
 (.block 2
 (.loop [(0, 0), (1, 0), (10, 0), (11, 7), (12, 0)]
 (.seq
 (.seq
 (.ops 63 4 (mM 0 51 12 ::
 mM 1 52 0 ::
 oO 2 53 (.len .sl (.t 52)) ::
 oO 3 54 (.bin .lss .no (.t 51) (.t 53)) ::
 []))
 (.cond (.t 54)
 .skip
 (.exit 2)))
 (.seq
 (.block 3
 (.seq
 (.ops 67 1 (oO 0 13 (.mov (.c (.int .i64 0))) ::
 []))
 (.block 4
 (.loop [(0, 0), (1, 0), (10, 0), (11, 7), (12, 0), (13, 0)]
 (.seq
 (.seq
 (.ops 68 9 (mM 0 57 13 ::
 oO 1 58 (.bin .add .no (.t 57) (.c (.int .i64 1))) ::
 mM 2 59 0 ::
 mM 3 60 12 ::
 oO 4 61 (.ixs 2 (.t 59) (.t 60)) ::
 oO 5 62 (.off 1 (.t 61)) ::
 oO 6 63 (.load false false 1 (.t 62)) ::
 oO 7 64 (.len .sl (.t 63)) ::
 oO 8 65 (.bin .lss .no (.t 58) (.t 64)) ::
 []))
 (.cond (.t 65)
 .skip
 (.exit 4)))
 (.seq
 (.block 5
 (.seq
 (.ops 77 21 (mM 0 68 0 ::
 mM 1 69 12 ::
 ⟨2, some 70, none, (.bef 3 21), .ixs 2 (.t 68) (.t 69)⟩ ::
 oO 3 71 (.off 1 (.t 70)) ::
 ⟨4, some 72, none, (.bef 15 21), .load false false 1 (.t 71)⟩ ::
 mM 5 73 13 ::
 ⟨6, some 74, none, (.bef 63 21), .ixs 2 (.t 72) (.t 73)⟩ ::
 ⟨7, some 75, none, (.bef 127 21), .load false true 2 (.t 74)⟩ ::
 mM 8 76 0 ::
 mM 9 77 12 ::
 ⟨10, some 78, none, (.bef 768 21), .ixs 2 (.t 76) (.t 77)⟩ ::
 oO 11 79 (.off 1 (.t 78)) ::
 ⟨12, some 80, none, (.bef 3840 21), .load false false 1 (.t 79)⟩ ::
 mM 13 81 13 ::
 oO 14 82 (.bin .add .no (.t 81) (.c (.int .i64 1))) ::
 ⟨15, some 83, none, (.bef 32512 21), .ixs 2 (.t 80) (.t 82)⟩ ::
 ⟨16, some 84, none, (.bef 65280 21), .load false true 2 (.t 83)⟩ ::
 ⟨17, some 14, none, (.bef 0 21), .new 2 (.agg [(.int .i64 0), (.int .i64 0)])⟩ ::
 ⟨18, some 15, none, (.bef 0 21), .new 2 (.agg [(.int .i64 0), (.int .i64 0)])⟩ ::
 ⟨19, none, none, (.init 17), .store true 2 (.t 14) (.t 75)⟩ ::
 ⟨20, none, none, (.init 18), .store true 2 (.t 15) (.t 84)⟩ ::
 []))
 (.ops 98 19 (mM 0 85 11 ::
 ⟨1, some 86, none, (.bef 0 19), .load true true 2 (.t 14)⟩ ::
 ⟨2, some 87, none, (.bef 0 19), .load true true 2 (.t 15)⟩ ::
 mM 3 88 1 ::
 mM 4 89 12 ::
 ⟨5, some 90, none, (.bef 24 19), .ixs 1 (.t 88) (.t 89)⟩ ::
 ⟨6, some 91, none, (.bef 56 19), .load false false 1 (.t 90)⟩ ::
 ⟨7, some 92, none, (.bef 0 19), .load true true 2 (.t 14)⟩ ::
 ⟨8, some 93, none, (.bef 0 19), .load true true 2 (.t 15)⟩ ::
 mM 9 94 1 ::
 mM 10 95 12 ::
 ⟨11, some 96, none, (.bef 1536 19), .ixs 1 (.t 94) (.t 95)⟩ ::
 ⟨12, some 97, none, (.bef 3584 19), .load false false 1 (.t 96)⟩ ::
 mM 13 98 10 ::
 ⟨14, some 99, none, (.bef 16256 19), .callF f_r24_shift [(.t 92), (.t 93), (.t 97), (.t 98)]⟩ ::
 oO 15 100 (.build [(.int .i64 0), (.int .i64 0), (.int .i64 0), (.int .i64 0), (.int .i64 0), (.int .i64 0), (.int .i64 0)] [(0, 2, (.t 86)), (2, 2, (.t 87)), (4, 1, (.t 91)), (5, 2, (.t 99))]) ::
 ⟨16, some 101, none, (.bef 65534 19), .buildSlice 7 1 [(.agg [(.int .i64 0), (.int .i64 0), (.int .i64 0), (.int .i64 0), (.int .i64 0), (.int .i64 0), (.int .i64 0)])] [(0, (.t 100))]⟩ ::
 ⟨17, some 102, none, (.bef 131071 19), .append ⟨7, 56, (.agg [(.int .i64 0), (.int .i64 0), (.int .i64 0), (.int .i64 0), (.int .i64 0), (.int .i64 0), (.int .i64 0)])⟩ .sl (.t 85) (.t 101)⟩ ::
 mM 18 11 102 ::
 []))))
 (.ops 117 3 (mM 0 66 13 ::
 oO 1 67 (.bin .add .no (.t 66) (.c (.int .i64 1))) ::
 mM 2 13 67 ::
 []))))))))
 (.ops 120 3 (mM 0 55 12 ::
 oO 1 56 (.bin .add .no (.t 55) (.c (.int .i64 1))) ::
 mM 2 12 56 ::
 [])))))))
 (.seq
 (.ops 123 3 (mM 0 103 11 ::
 mM 1 4 103 ::
 oO 2 5 (.mov (.c (.int .i64 0))) ::
 []))
 .ret))))))))),
 [.t 4, .t 5]⟩

def k_allowance_sum : KFn := ⟨
 (.seq
 (.ops 0 3 (oO 0 2 (.box 2 (.t 0)) ::
 oO 1 3 (.box 2 (.t 1)) ::
 oO 2 4 (.new 2 (.agg [(.int .i64 0), (.int .i64 0)])) ::
 []))
 (.seq
 (.ops 3 12 (oO 0 5 (.off 0 (.t 2)) ::
 oO 1 6 (.load true false 1 (.t 5)) ::
 oO 2 7 (.off 0 (.t 3)) ::
 oO 3 8 (.load true false 1 (.t 7)) ::
 oO 4 9 (.bin .add .no (.t 6) (.t 8)) ::
 oO 5 10 (.off 1 (.t 2)) ::
 oO 6 11 (.load true false 1 (.t 10)) ::
 oO 7 12 (.off 1 (.t 3)) ::
 oO 8 13 (.load true false 1 (.t 12)) ::
 oO 9 14 (.bin .add .no (.t 11) (.t 13)) ::
 oO 10 15 (.build [(.int .i64 0), (.int .i64 0)] [(0, 1, (.t 9)), (1, 1, (.t 14))]) ::
 ⟨11, none, none, .all, .store true 2 (.t 4) (.t 15)⟩ ::
 []))
 .ret)),
 [.cell 4 true 2]⟩

def k_allowance_corner : KFn := ⟨
 (.seq
 (.ops 0 4 (oO 0 3 (.box 2 (.t 0)) ::
 oO 1 4 (.box 5 (.t 1)) ::
 oO 2 5 (.box 5 (.t 2)) ::
 oO 3 6 (.mov (.c .nilsl)) ::
 []))
 (.seq
 (.ops 4 19 (oO 0 12 (.off 0 (.t 4)) ::
 ⟨1, some 13, none, (.bef 1 19), .load true true 2 (.t 12)⟩ ::
 ⟨2, some 14, none, (.bef 3 19), .callF f_allowance_exact [(.t 13)]⟩ ::
 oO 3 15 (.off 2 (.t 4)) ::
 ⟨4, some 16, none, (.bef 8 19), .load true true 2 (.t 15)⟩ ::
 ⟨5, some 17, none, (.bef 31 19), .callF f_allowance_exact [(.t 16)]⟩ ::
 oO 6 18 (.off 0 (.t 5)) ::
 ⟨7, some 19, none, (.bef 64 19), .load true true 2 (.t 18)⟩ ::
 ⟨8, some 20, none, (.bef 255 19), .callF f_allowance_exact [(.t 19)]⟩ ::
 oO 9 21 (.off 2 (.t 5)) ::
 ⟨10, some 22, none, (.bef 512 19), .load true true 2 (.t 21)⟩ ::
 ⟨11, some 23, none, (.bef 2047 19), .callF f_allowance_exact [(.t 22)]⟩ ::
 ⟨12, some 24, none, (.bef 4095 19), .callF f_point_Meet [(.t 14), (.t 17), (.t 20), (.t 23)]⟩ ::
 mM 13 11 24 ::
 oO 14 25 (.extract (.t 11) 0) ::
 oO 15 26 (.extract (.t 11) 1) ::
 ⟨16, some 7, none, (.bef 0 19), .new 6 (.agg [(.bool false), .nilsl, .nilsl, (.bool false), .nilsl, .nilsl])⟩ ::
 ⟨17, none, none, (.init 16), .store true 6 (.t 7) (.t 25)⟩ ::
 mM 18 8 26 ::
 []))
 (.seq
 (.seq
 (.ops 23 2 (mM 0 27 8 ::
 oO 1 28 (.bin .eql .no (.t 27) (.c (.int .i64 0))) ::
 []))
 (.cond (.t 28)
 (.seq
 (.ops 25 11 (⟨0, some 30, none, (.bef 0 11), .load true true 6 (.t 7)⟩ ::
 ⟨1, some 31, none, (.bef 0 11), .load true true 2 (.t 3)⟩ ::
 ⟨2, some 32, none, (.bef 2 11), .callF f_allowance_exact [(.t 31)]⟩ ::
 ⟨3, some 33, none, (.bef 7 11), .callF f_point_Sub [(.t 30), (.t 32)]⟩ ::
 ⟨4, some 34, none, (.bef 15 11), .callF f_point_Grid [(.t 33)]⟩ ::
 mM 5 29 34 ::
 oO 6 35 (.extract (.t 29) 0) ::
 oO 7 36 (.extract (.t 29) 1) ::
 ⟨8, some 9, none, (.bef 0 11), .new 2 (.agg [(.int .i64 0), (.int .i64 0)])⟩ ::
 ⟨9, none, none, (.init 8), .store true 2 (.t 9) (.t 35)⟩ ::
 mM 10 10 36 ::
 []))
 (.seq
 (.ops 36 13 (mM 0 37 10 ::
 oO 1 38 (.bin .eql .no (.t 37) (.c (.int .i64 0))) ::
 mM 2 39 38 ::
 gG 3 40 39 true (.load true true 2 (.t 9)) ::
 gG 4 41 39 true (.off 4 (.t 4)) ::
 gG 5 42 39 true (.load true false 1 (.t 41)) ::
 gG 6 43 39 true (.off 4 (.t 5)) ::
 gG 7 44 39 true (.load true false 1 (.t 43)) ::
 gG 8 45 39 true (.mm true [(.t 42), (.t 44)]) ::
 gG 9 46 39 true (.bin .mul .no (.c (.int .i64 4)) (.t 45)) ::
 gG 10 47 39 true (.bin .add .no (.t 46) (.c (.int .i64 4))) ::
 gG 11 48 39 true (.callF f_allowance_within [(.t 40), (.t 47)]) ::
 oO 12 49 (.pick (.t 39) (.t 48) (.c (.bool false))) ::
 []))
 (.cond (.t 49)
 (.seq
 (.ops 49 5 (oO 0 50 (.load true true 2 (.t 3)) ::
 oO 1 51 (.load true true 2 (.t 9)) ::
 oO 2 52 (.callF f_allowance_sum [(.t 50), (.t 51)]) ::
 oO 3 53 (.buildSlice 2 1 [(.agg [(.int .i64 0), (.int .i64 0)])] [(0, (.t 52))]) ::
 mM 4 6 53 ::
 []))
 .ret)
 .skip)))
 .skip))
 (.seq
 (.ops 54 6 (oO 0 54 (.off 2 (.t 4)) ::
 oO 1 55 (.load true true 2 (.t 54)) ::
 oO 2 56 (.off 0 (.t 5)) ::
 oO 3 57 (.load true true 2 (.t 56)) ::
 oO 4 58 (.buildSlice 2 2 [(.agg [(.int .i64 0), (.int .i64 0)]), (.agg [(.int .i64 0), (.int .i64 0)])] [(0, (.t 55)), (1, (.t 57))]) ::
 mM 5 6 58 ::
 []))
 .ret)))),
 [.t 6]⟩

def k_allowance_within : KFn := ⟨
 (.seq
 (.ops 0 2 (oO 0 2 (.box 2 (.t 0)) ::
 oO 1 4 (.mov (.c (.bool false))) ::
 []))
 (.seq
 (.ops 2 25 (mM 0 5 1 ::
 oO 1 6 (.un .neg (.t 5)) ::
 oO 2 7 (.off 0 (.t 2)) ::
 oO 3 8 (.load true false 1 (.t 7)) ::
 oO 4 9 (.bin .leq .no (.t 6) (.t 8)) ::
 mM 5 10 9 ::
 gG 6 11 10 true (.off 0 (.t 2)) ::
 gG 7 12 10 true (.load true false 1 (.t 11)) ::
 gG 8 13 10 true (.mov (.t 1)) ::
 gG 9 14 10 true (.bin .leq .no (.t 12) (.t 13)) ::
 oO 10 15 (.pick (.t 10) (.t 14) (.c (.bool false))) ::
 mM 11 16 15 ::
 gG 12 17 16 true (.mov (.t 1)) ::
 gG 13 18 16 true (.un .neg (.t 17)) ::
 gG 14 19 16 true (.off 1 (.t 2)) ::
 gG 15 20 16 true (.load true false 1 (.t 19)) ::
 gG 16 21 16 true (.bin .leq .no (.t 18) (.t 20)) ::
 oO 17 22 (.pick (.t 16) (.t 21) (.c (.bool false))) ::
 mM 18 23 22 ::
 gG 19 24 23 true (.off 1 (.t 2)) ::
 gG 20 25 23 true (.load true false 1 (.t 24)) ::
 gG 21 26 23 true (.mov (.t 1)) ::
 gG 22 27 23 true (.bin .leq .no (.t 25) (.t 26)) ::
 oO 23 28 (.pick (.t 23) (.t 27) (.c (.bool false))) ::
 mM 24 4 28 ::
 []))
 .ret)),
 [.t 4]⟩

def k_r11_Within : KFn := ⟨
 (.seq
 (.ops 0 2 (oO 0 2 (.box 2 (.t 0)) ::
 oO 1 4 (.mov (.c (.bool false))) ::
 []))
 (.seq
 (.ops 2 25 (oO 0 5 (.off 0 (.t 2)) ::
 oO 1 6 (.load true false 1 (.t 5)) ::
 mM 2 7 1 ::
 oO 3 8 (.un .neg (.t 7)) ::
 oO 4 9 (.bin .geq .no (.t 6) (.t 8)) ::
 mM 5 10 9 ::
 gG 6 11 10 true (.off 0 (.t 2)) ::
 gG 7 12 10 true (.load true false 1 (.t 11)) ::
 gG 8 13 10 true (.mov (.t 1)) ::
 gG 9 14 10 true (.bin .leq .no (.t 12) (.t 13)) ::
 oO 10 15 (.pick (.t 10) (.t 14) (.c (.bool false))) ::
 mM 11 16 15 ::
 gG 12 17 16 true (.off 1 (.t 2)) ::
 gG 13 18 16 true (.load true false 1 (.t 17)) ::
 gG 14 19 16 true (.mov (.t 1)) ::
 gG 15 20 16 true (.un .neg (.t 19)) ::
 gG 16 21 16 true (.bin .geq .no (.t 18) (.t 20)) ::
 oO 17 22 (.pick (.t 16) (.t 21) (.c (.bool false))) ::
 mM 18 23 22 ::
 gG 19 24 23 true (.off 1 (.t 2)) ::
 gG 20 25 23 true (.load true false 1 (.t 24)) ::
 gG 21 26 23 true (.mov (.t 1)) ::
 gG 22 27 23 true (.bin .leq .no (.t 25) (.t 26)) ::
 oO 23 28 (.pick (.t 23) (.t 27) (.c (.bool false))) ::
 mM 24 4 28 ::
 []))
 .ret)),
 [.t 4]⟩

def k_r11_Check : KFn := ⟨
 (.seq
 (.ops 4 1 (oO 0 2 (.mov (.c (.int .i64 0))) ::
 []))
 (.seq
 (.seq
 (.ops 5 3 (mM 0 4 0 ::
 oO 1 5 (.len .sl (.t 4)) ::
 oO 2 6 (.bin .gtr .no (.t 5) (.c (.int .i64 40))) ::
 []))
 (.cond (.t 6)
 (.seq
 (.ops 8 1 (oO 0 2 (.mov (.c (.int .i64 5))) ::
 []))
 .ret)
 .skip))
 (.seq
 (.seq
 (.ops 9 3 (mM 0 7 0 ::
 oO 1 8 (.len .sl (.t 7)) ::
 oO 2 9 (.bin .lss .no (.t 8) (.c (.int .i64 3))) ::
 []))
 (.cond (.t 9)
 (.seq
 (.ops 12 1 (oO 0 2 (.mov (.c (.int .i64 11))) ::
 []))
 .ret)
 .skip))
 (.seq
 (.seq
 (.ops 13 1 (oO 0 3 (.mov (.c (.int .i64 0))) ::
 []))
 (.block 0
 (.loop [(0, 0), (3, 0)]
 (.seq
 (.seq
 (.ops 14 4 (mM 0 10 3 ::
 mM 1 11 0 ::
 oO 2 12 (.len .sl (.t 11)) ::
 oO 3 13 (.bin .lss .no (.t 10) (.t 12)) ::
 []))
 (.cond (.t 13)
 .skip
 (.exit 0)))
 (.seq
 (.block 1
 (.seq
 (.ops 18 6 (mM 0 16 0 ::
 mM 1 17 3 ::
 oO 2 18 (.ixs 2 (.t 16) (.t 17)) ::
 oO 3 19 (.load false true 2 (.t 18)) ::
 oO 4 20 (.callF f_r11_Within [(.t 19), (.c (.int .i64 1048576))]) ::
 oO 5 21 (.un .not (.t 20)) ::
 []))
 (.cond (.t 21)
 (.seq
 (.ops 24 1 (oO 0 2 (.mov (.c (.int .i64 3))) ::
 []))
 .ret)
 .skip)))
 (.ops 25 3 (mM 0 14 3 ::
 oO 1 15 (.bin .add .no (.t 14) (.c (.int .i64 1))) ::
 mM 2 3 15 ::
 [])))))))
 (.seq
 (.seq
 (.ops 28 3 (mM 0 22 0 ::
 oO 1 23 (.callF f_r11_simple [(.t 22)]) ::
 oO 2 24 (.un .not (.t 23)) ::
 []))
 (.cond (.t 24)
 (.seq
 (.ops 31 1 (oO 0 2 (.mov (.c (.int .i64 11))) ::
 []))
 .ret)
 .skip))
 (.seq
 (.ops 32 1 (oO 0 2 (.mov (.c (.int .i64 0))) ::
 []))
 .ret)))))),
 [.t 2]⟩

def k_r24_orientation : KFn := ⟨
 (.seq
 (.ops 0 1 (oO 0 2 (.mov (.c (.int .i64 0))) ::
 []))
 (.seq
 (.seq
 (.ops 1 3 (mM 0 3 0 ::
 oO 1 4 (.callF f_r11_Area2 [(.t 3)]) ::
 oO 2 5 (.bin .lss .no (.t 4) (.c (.int .i64 0))) ::
 []))
 (.cond (.t 5)
 (.seq
 (.ops 4 1 (oO 0 2 (.mov (.c (.int .i64 (-1)))) ::
 []))
 .ret)
 .skip))
 (.seq
 (.ops 5 1 (oO 0 2 (.mov (.c (.int .i64 1))) ::
 []))
 .ret))),
 [.t 2]⟩

def k_outline_vertices : KFn := ⟨
 (.seq
 (.ops 8 1 (oO 0 2 (.mov (.c .nilsl)) ::
 []))
 (.seq
 (.ops 9 1 (oO 0 3 (.mov (.c .nilsl)) ::
 []))
 (.seq
 (.seq
 (.ops 10 3 (mM 0 6 0 ::
 oO 1 7 (.len .sl (.t 6)) ::
 oO 2 8 (.mov (.c (.int .i64 0))) ::
 []))
 (.block 0
 (.loop [(3, 2), (6, 0), (7, 0), (8, 0)]
 (.seq
 (.ops 13 1 (oO 0 9 (.bin .lss .no (.t 8) (.t 7)) ::
 []))
 (.seq
 (.cond (.t 9)
 .skip
 (.exit 0))
 (.seq
 (.block 1
 (.seq
 (.ops 14 4 (oO 0 10 (.ixs 2 (.t 6) (.t 8)) ::
 oO 1 11 (.load false true 2 (.t 10)) ::
 oO 2 5 (.new 2 (.agg [(.str ⟨#[]⟩), .nilsl])) ::
 ⟨3, none, none, .all, .store true 2 (.t 5) (.t 11)⟩ ::
 []))
 (.ops 18 10 (mM 0 12 3 ::
 oO 1 13 (.off 1 (.t 5)) ::
 oO 2 14 (.load true false 1 (.t 13)) ::
 oO 3 15 (.off 1 (.t 5)) ::
 oO 4 16 (.load true false 1 (.t 15)) ::
 oO 5 17 (.len .sl (.t 16)) ::
 oO 6 18 (.bin .sub .no (.t 17) (.c (.int .i64 1))) ::
 oO 7 19 (.slsl 2 (.t 14) none (some (.t 18)) none) ::
 oO 8 20 (.append ⟨2, 16, (.agg [(.int .i64 0), (.int .i64 0)])⟩ .sl (.t 12) (.t 19)) ::
 mM 9 3 20 ::
 []))))
 (.ops 28 2 (oO 0 21 (.bin .add .no (.t 8) (.c (.int .i64 1))) ::
 mM 1 8 21 ::
 []))))))))
 (.seq
 (.ops 30 2 (mM 0 22 3 ::
 mM 1 2 22 ::
 []))
 .ret)))),
 [.t 2]⟩

def k_r20_Vertices : KFn := ⟨
 (.seq
 (.ops 6 1 (oO 0 2 (.mov (.c .nilsl)) ::
 []))
 (.seq
 (.ops 7 1 (oO 0 3 (.mov (.c .nilsl)) ::
 []))
 (.seq
 (.seq
 (.ops 8 1 (oO 0 4 (.mov (.c (.int .i64 0))) ::
 []))
 (.block 0
 (.loop [(0, 0), (3, 2), (4, 0)]
 (.seq
 (.seq
 (.ops 9 4 (mM 0 6 4 ::
 mM 1 7 0 ::
 oO 2 8 (.len .sl (.t 7)) ::
 oO 3 9 (.bin .lss .no (.t 6) (.t 8)) ::
 []))
 (.cond (.t 9)
 .skip
 (.exit 0)))
 (.seq
 (.block 1
 (.seq
 (.ops 13 7 (mM 0 12 0 ::
 mM 1 13 4 ::
 oO 2 14 (.ixs 2 (.t 12) (.t 13)) ::
 oO 3 15 (.off 1 (.t 14)) ::
 oO 4 16 (.load false false 1 (.t 15)) ::
 oO 5 17 (.len .sl (.t 16)) ::
 mM 6 5 17 ::
 []))
 (.seq
 (.ops 20 2 (mM 0 18 5 ::
 oO 1 19 (.bin .gtr .no (.t 18) (.c (.int .i64 0))) ::
 []))
 (.cond (.t 19)
 (.ops 22 11 (mM 0 20 3 ::
 mM 1 21 0 ::
 mM 2 22 4 ::
 oO 3 23 (.ixs 2 (.t 21) (.t 22)) ::
 oO 4 24 (.off 1 (.t 23)) ::
 oO 5 25 (.load false false 1 (.t 24)) ::
 mM 6 26 5 ::
 oO 7 27 (.bin .sub .no (.t 26) (.c (.int .i64 1))) ::
 oO 8 28 (.slsl 2 (.t 25) none (some (.t 27)) none) ::
 oO 9 29 (.append ⟨2, 16, (.agg [(.int .i64 0), (.int .i64 0)])⟩ .sl (.t 20) (.t 28)) ::
 mM 10 3 29 ::
 []))
 .skip))))
 (.ops 33 3 (mM 0 10 4 ::
 oO 1 11 (.bin .add .no (.t 10) (.c (.int .i64 1))) ::
 mM 2 4 11 ::
 [])))))))
 (.seq
 (.ops 36 2 (mM 0 30 3 ::
 mM 1 2 30 ::
 []))
 .ret)))),
 [.t 2]⟩

def k_outline_isName : KFn := ⟨
 (.seq
 (.ops 0 1 (oO 0 2 (.mov (.c (.bool false))) ::
 []))
 (.seq
 (.ops 1 5 (mM 0 3 0 ::
 oO 1 4 (.build [(.int .i64 0), (.bool false), .nilsl, .nilsl, (.str ⟨#[]⟩), .nilsl] [(0, 1, (.c (.int .i64 2))), (4, 1, (.t 3))]) ::
 oO 2 5 (.callF f_formula_Check [(.t 4)]) ::
 oO 3 6 (.bin .eql .no (.t 5) (.c (.int .i64 0))) ::
 mM 4 2 6 ::
 []))
 .ret)),
 [.t 2]⟩

def k_polyline_Check : KFn := ⟨
 (.seq
 (.ops 6 1 (oO 0 2 (.mov (.c (.int .i64 0))) ::
 []))
 (.seq
 (.seq
 (.ops 7 3 (mM 0 4 0 ::
 oO 1 5 (.len .sl (.t 4)) ::
 oO 2 6 (.bin .gtr .no (.t 5) (.c (.int .i64 40))) ::
 []))
 (.cond (.t 6)
 (.seq
 (.ops 10 1 (oO 0 2 (.mov (.c (.int .i64 5))) ::
 []))
 .ret)
 .skip))
 (.seq
 (.seq
 (.ops 11 3 (mM 0 7 0 ::
 oO 1 8 (.len .sl (.t 7)) ::
 oO 2 9 (.bin .lss .no (.t 8) (.c (.int .i64 2))) ::
 []))
 (.cond (.t 9)
 (.seq
 (.ops 14 1 (oO 0 2 (.mov (.c (.int .i64 11))) ::
 []))
 .ret)
 .skip))
 (.seq
 (.seq
 (.ops 15 2 (mM 0 10 0 ::
 oO 1 11 (.callF f_slices_ContainsFunc_Spot_Spot [(.t 10), (.c (.fn f_polyline_outside [] []))]) ::
 []))
 (.cond (.t 11)
 (.seq
 (.ops 17 1 (oO 0 2 (.mov (.c (.int .i64 3))) ::
 []))
 .ret)
 .skip))
 (.seq
 (.seq
 (.ops 18 4 (mM 0 12 0 ::
 oO 1 13 (.len .sl (.t 12)) ::
 oO 2 14 (.bin .sub .no (.t 13) (.c (.int .i64 1))) ::
 oO 3 15 (.mov (.c (.int .i64 0))) ::
 []))
 (.block 0
 (.loop [(0, 0), (14, 0), (15, 0)]
 (.seq
 (.ops 22 1 (oO 0 16 (.bin .lss .no (.t 15) (.t 14)) ::
 []))
 (.seq
 (.cond (.t 16)
 .skip
 (.exit 0))
 (.seq
 (.block 1
 (.seq
 (.ops 23 2 (mM 0 17 15 ::
 mM 1 3 17 ::
 []))
 (.seq
 (.ops 25 10 (mM 0 18 0 ::
 mM 1 19 3 ::
 ⟨2, some 20, none, (.bef 3 10), .ixs 2 (.t 18) (.t 19)⟩ ::
 ⟨3, some 21, none, (.bef 7 10), .load false true 2 (.t 20)⟩ ::
 mM 4 22 0 ::
 mM 5 23 3 ::
 oO 6 24 (.bin .add .no (.t 23) (.c (.int .i64 1))) ::
 ⟨7, some 25, none, (.bef 112 10), .ixs 2 (.t 22) (.t 24)⟩ ::
 ⟨8, some 26, none, (.bef 240 10), .load false true 2 (.t 25)⟩ ::
 oO 9 27 (.bin .eql (.flat [.int, .int]) (.t 21) (.t 26)) ::
 []))
 (.cond (.t 27)
 (.seq
 (.ops 35 1 (oO 0 2 (.mov (.c (.int .i64 11))) ::
 []))
 .ret)
 .skip))))
 (.ops 36 2 (oO 0 28 (.bin .add .no (.t 15) (.c (.int .i64 1))) ::
 mM 1 15 28 ::
 []))))))))
 (.seq
 (.ops 38 1 (oO 0 2 (.mov (.c (.int .i64 0))) ::
 []))
 .ret)))))),
 [.t 2]⟩

def k_r17_Name : KFn := ⟨
 (.seq
 (.ops 4 1 (oO 0 2 (.mov (.c (.bool false))) ::
 []))
 (.seq
 (.seq
 (.ops 5 25 (mM 0 4 0 ::
 oO 1 5 (.bin .eql .no (.t 4) (.c (.str ⟨#[]⟩))) ::
 mM 2 6 5 ::
 gG 3 7 6 false (.mov (.t 0)) ::
 gG 4 8 6 false (.len .str (.t 7)) ::
 gG 5 9 6 false (.bin .gtr .no (.t 8) (.c (.int .i64 24))) ::
 oO 6 10 (.pick (.t 6) (.c (.bool true)) (.t 9)) ::
 mM 7 11 10 ::
 gG 8 12 11 false (.mov (.t 0)) ::
 gG 9 13 11 false (.bin .eql .no (.t 12) (.c (.str ⟨#[109, 105, 110]⟩))) ::
 oO 10 14 (.pick (.t 11) (.c (.bool true)) (.t 13)) ::
 mM 11 15 14 ::
 gG 12 16 15 false (.mov (.t 0)) ::
 gG 13 17 15 false (.bin .eql .no (.t 16) (.c (.str ⟨#[109, 97, 120]⟩))) ::
 oO 14 18 (.pick (.t 15) (.c (.bool true)) (.t 17)) ::
 mM 15 19 18 ::
 gG 16 20 19 false (.mov (.t 0)) ::
 gG 17 21 19 false (.istr (.t 20) (.c (.int .i64 0))) ::
 gG 18 22 19 false (.bin .lss .no (.t 21) (.c (.int .u8 97))) ::
 oO 19 23 (.pick (.t 19) (.c (.bool true)) (.t 22)) ::
 mM 20 24 23 ::
 gG 21 25 24 false (.mov (.t 0)) ::
 gG 22 26 24 false (.istr (.t 25) (.c (.int .i64 0))) ::
 gG 23 27 24 false (.bin .gtr .no (.t 26) (.c (.int .u8 122))) ::
 oO 24 28 (.pick (.t 24) (.c (.bool true)) (.t 27)) ::
 []))
 (.cond (.t 28)
 (.seq
 (.ops 30 1 (oO 0 2 (.mov (.c (.bool false))) ::
 []))
 .ret)
 .skip))
 (.seq
 (.seq
 (.ops 31 1 (oO 0 3 (.mov (.c (.int .i64 0))) ::
 []))
 (.block 0
 (.loop [(0, 0), (3, 0)]
 (.seq
 (.seq
 (.ops 32 4 (mM 0 29 3 ::
 mM 1 30 0 ::
 oO 2 31 (.len .str (.t 30)) ::
 oO 3 32 (.bin .lss .no (.t 29) (.t 31)) ::
 []))
 (.cond (.t 32)
 .skip
 (.exit 0)))
 (.seq
 (.block 1
 (.seq
 (.ops 36 23 (mM 0 35 0 ::
 mM 1 36 3 ::
 oO 2 37 (.istr (.t 35) (.t 36)) ::
 oO 3 38 (.callF f_r17_digit [(.t 37)]) ::
 oO 4 39 (.un .not (.t 38)) ::
 mM 5 40 39 ::
 gG 6 41 40 true (.mov (.t 0)) ::
 gG 7 42 40 true (.mov (.t 3)) ::
 gG 8 43 40 true (.istr (.t 41) (.t 42)) ::
 gG 9 44 40 true (.bin .neq .no (.t 43) (.c (.int .u8 95))) ::
 oO 10 45 (.pick (.t 40) (.t 44) (.c (.bool false))) ::
 mM 11 46 45 ::
 gG 12 47 46 true (.mov (.t 0)) ::
 gG 13 48 46 true (.mov (.t 3)) ::
 gG 14 49 46 true (.istr (.t 47) (.t 48)) ::
 gG 15 50 46 true (.bin .lss .no (.t 49) (.c (.int .u8 97))) ::
 gG 16 51 46 true (.mov (.t 50)) ::
 gG 17 52 51 false (.mov (.t 0)) ::
 gG 18 53 51 false (.mov (.t 3)) ::
 gG 19 54 51 false (.istr (.t 52) (.t 53)) ::
 gG 20 55 51 false (.bin .gtr .no (.t 54) (.c (.int .u8 122))) ::
 gG 21 56 46 true (.pick (.t 51) (.c (.bool true)) (.t 55)) ::
 oO 22 57 (.pick (.t 46) (.t 56) (.c (.bool false))) ::
 []))
 (.cond (.t 57)
 (.seq
 (.ops 59 1 (oO 0 2 (.mov (.c (.bool false))) ::
 []))
 .ret)
 .skip)))
 (.ops 60 3 (mM 0 33 3 ::
 oO 1 34 (.bin .add .no (.t 33) (.c (.int .i64 1))) ::
 mM 2 3 34 ::
 [])))))))
 (.seq
 (.ops 63 1 (oO 0 2 (.mov (.c (.bool true))) ::
 []))
 .ret)))),
 [.t 2]⟩

def k_r20_named : KFn := ⟨
 (.seq
 (.ops 8 1 (oO 0 6 (.mov (.c (.bool false))) ::
 []))
 (.seq
 (.seq
 (.ops 9 1 (oO 0 7 (.mov (.c (.int .i64 0))) ::
 []))
 (.block 0
 (.loop [(0, 0), (1, 0), (2, 0), (7, 0)]
 (.seq
 (.seq
 (.ops 10 3 (mM 0 8 7 ::
 mM 1 9 1 ::
 oO 2 10 (.bin .lss .no (.t 8) (.t 9)) ::
 []))
 (.cond (.t 10)
 .skip
 (.exit 0)))
 (.seq
 (.block 1
 (.seq
 (.ops 13 7 (mM 0 13 0 ::
 mM 1 14 7 ::
 oO 2 15 (.ixs 2 (.t 13) (.t 14)) ::
 oO 3 16 (.off 0 (.t 15)) ::
 oO 4 17 (.load false false 1 (.t 16)) ::
 mM 5 18 2 ::
 oO 6 19 (.bin .eql .no (.t 17) (.t 18)) ::
 []))
 (.cond (.t 19)
 (.seq
 (.ops 20 1 (oO 0 6 (.mov (.c (.bool true))) ::
 []))
 .ret)
 .skip)))
 (.ops 21 3 (mM 0 11 7 ::
 oO 1 12 (.bin .add .no (.t 11) (.c (.int .i64 1))) ::
 mM 2 7 12 ::
 [])))))))
 (.seq
 (.ops 24 1 (oO 0 6 (.mov (.c (.bool false))) ::
 []))
 .ret))),
 [.t 6]⟩

def k_r10_Check : KFn := ⟨
 (.seq
 (.ops 4 1 (oO 0 2 (.mov (.c (.int .i64 0))) ::
 []))
 (.seq
 (.seq
 (.ops 5 3 (mM 0 4 0 ::
 oO 1 5 (.len .sl (.t 4)) ::
 oO 2 6 (.bin .gtr .no (.t 5) (.c (.int .i64 40))) ::
 []))
 (.cond (.t 6)
 (.seq
 (.ops 8 1 (oO 0 2 (.mov (.c (.int .i64 5))) ::
 []))
 .ret)
 .skip))
 (.seq
 (.seq
 (.ops 9 3 (mM 0 7 0 ::
 oO 1 8 (.len .sl (.t 7)) ::
 oO 2 9 (.bin .lss .no (.t 8) (.c (.int .i64 2))) ::
 []))
 (.cond (.t 9)
 (.seq
 (.ops 12 1 (oO 0 2 (.mov (.c (.int .i64 11))) ::
 []))
 .ret)
 .skip))
 (.seq
 (.seq
 (.ops 13 2 (mM 0 10 0 ::
 oO 1 11 (.callF f_r10_Far [(.t 10)]) ::
 []))
 (.cond (.t 11)
 (.seq
 (.ops 15 1 (oO 0 2 (.mov (.c (.int .i64 3))) ::
 []))
 .ret)
 .skip))
 (.seq
 (.seq
 (.ops 16 1 (oO 0 3 (.mov (.c (.int .i64 1))) ::
 []))
 (.block 0
 (.loop [(0, 0), (3, 0)]
 (.seq
 (.seq
 (.ops 17 4 (mM 0 12 3 ::
 mM 1 13 0 ::
 oO 2 14 (.len .sl (.t 13)) ::
 oO 3 15 (.bin .lss .no (.t 12) (.t 14)) ::
 []))
 (.cond (.t 15)
 .skip
 (.exit 0)))
 (.seq
 (.block 1
 (.seq
 (.ops 21 10 (mM 0 18 0 ::
 mM 1 19 3 ::
 ⟨2, some 20, none, (.bef 3 10), .ixs 2 (.t 18) (.t 19)⟩ ::
 ⟨3, some 21, none, (.bef 7 10), .load false true 2 (.t 20)⟩ ::
 mM 4 22 0 ::
 mM 5 23 3 ::
 oO 6 24 (.bin .sub .no (.t 23) (.c (.int .i64 1))) ::
 ⟨7, some 25, none, (.bef 112 10), .ixs 2 (.t 22) (.t 24)⟩ ::
 ⟨8, some 26, none, (.bef 240 10), .load false true 2 (.t 25)⟩ ::
 oO 9 27 (.bin .eql (.flat [.int, .int]) (.t 21) (.t 26)) ::
 []))
 (.cond (.t 27)
 (.seq
 (.ops 31 1 (oO 0 2 (.mov (.c (.int .i64 11))) ::
 []))
 .ret)
 .skip)))
 (.ops 32 3 (mM 0 16 3 ::
 oO 1 17 (.bin .add .no (.t 16) (.c (.int .i64 1))) ::
 mM 2 3 17 ::
 [])))))))
 (.seq
 (.ops 35 1 (oO 0 2 (.mov (.c (.int .i64 0))) ::
 []))
 .ret)))))),
 [.t 2]⟩

def k_slices_ContainsFunc_Spot_Spot : KFn := ⟨
 (.seq
 (.ops 0 1 (oO 0 4 (.mov (.c (.bool false))) ::
 []))
 (.seq
 (.ops 1 5 (mM 0 5 0 ::
 mM 1 6 1 ::
 oO 2 7 (.callF f_slices_IndexFunc_Spot_Spot [(.t 5), (.t 6)]) ::
 oO 3 8 (.bin .geq .no (.t 7) (.c (.int .i64 0))) ::
 mM 4 4 8 ::
 []))
 .ret)),
 [.t 4]⟩

def k_polygon_outside : KFn := ⟨
 (.seq
 (.ops 0 2 (oO 0 1 (.box 2 (.t 0)) ::
 oO 1 2 (.mov (.c (.bool false))) ::
 []))
 (.seq
 (.ops 2 19 (oO 0 3 (.off 0 (.t 1)) ::
 oO 1 4 (.load true false 1 (.t 3)) ::
 oO 2 5 (.bin .lss .no (.t 4) (.c (.int .i64 (-1048576)))) ::
 mM 3 6 5 ::
 gG 4 7 6 false (.off 0 (.t 1)) ::
 gG 5 8 6 false (.load true false 1 (.t 7)) ::
 gG 6 9 6 false (.bin .gtr .no (.t 8) (.c (.int .i64 1048576))) ::
 oO 7 10 (.pick (.t 6) (.c (.bool true)) (.t 9)) ::
 mM 8 11 10 ::
 gG 9 12 11 false (.off 1 (.t 1)) ::
 gG 10 13 11 false (.load true false 1 (.t 12)) ::
 gG 11 14 11 false (.bin .lss .no (.t 13) (.c (.int .i64 (-1048576)))) ::
 oO 12 15 (.pick (.t 11) (.c (.bool true)) (.t 14)) ::
 mM 13 16 15 ::
 gG 14 17 16 false (.off 1 (.t 1)) ::
 gG 15 18 16 false (.load true false 1 (.t 17)) ::
 gG 16 19 16 false (.bin .gtr .no (.t 18) (.c (.int .i64 1048576))) ::
 oO 17 20 (.pick (.t 16) (.c (.bool true)) (.t 19)) ::
 mM 18 2 20 ::
 []))
 .ret)),
 [.t 2]⟩

def k_polygon_simple : KFn := ⟨
 (.seq
 (.ops 18 1 (oO 0 2 (.mov (.c (.bool false))) ::
 []))
 (.seq
 (.ops 19 3 (mM 0 10 0 ::
 oO 1 11 (.len .sl (.t 10)) ::
 mM 2 3 11 ::
 []))
 (.seq
 (.seq
 (.ops 22 3 (mM 0 12 0 ::
 oO 1 13 (.len .sl (.t 12)) ::
 oO 2 14 (.mov (.c (.int .i64 0))) ::
 []))
 (.block 0
 (.loop [(0, 0), (3, 0), (12, 0), (13, 0), (14, 0)]
 (.seq
 (.ops 25 1 (oO 0 15 (.bin .lss .no (.t 14) (.t 13)) ::
 []))
 (.seq
 (.cond (.t 15)
 .skip
 (.exit 0))
 (.seq
 (.block 1
 (.seq
 (.ops 26 6 (mM 0 16 14 ::
 oO 1 17 (.ixs 2 (.t 12) (.t 14)) ::
 oO 2 18 (.load false true 2 (.t 17)) ::
 oO 3 5 (.new 2 (.agg [(.int .i64 0), (.int .i64 0)])) ::
 mM 4 4 16 ::
 ⟨5, none, none, .all, .store true 2 (.t 5) (.t 18)⟩ ::
 []))
 (.seq
 (.ops 32 5 (mM 0 19 0 ::
 mM 1 20 4 ::
 ⟨2, some 21, none, (.bef 3 5), .slsl 2 (.t 19) none (some (.t 20)) none⟩ ::
 ⟨3, some 22, none, (.bef 0 5), .load true true 2 (.t 5)⟩ ::
 ⟨4, some 23, none, (.bef 15 5), .callF f_slices_Contains_Spot_Spot [(.t 21), (.t 22)]⟩ ::
 []))
 (.cond (.t 23)
 (.seq
 (.ops 37 1 (oO 0 2 (.mov (.c (.bool false))) ::
 []))
 .ret)
 .skip))))
 (.ops 38 2 (oO 0 24 (.bin .add .no (.t 14) (.c (.int .i64 1))) ::
 mM 1 14 24 ::
 []))))))))
 (.seq
 (.seq
 (.ops 40 3 (mM 0 25 0 ::
 oO 1 26 (.len .sl (.t 25)) ::
 oO 2 27 (.mov (.c (.int .i64 0))) ::
 []))
 (.block 2
 (.loop [(0, 0), (3, 0), (25, 0), (26, 0), (27, 0)]
 (.seq
 (.ops 43 1 (oO 0 28 (.bin .lss .no (.t 27) (.t 26)) ::
 []))
 (.seq
 (.cond (.t 28)
 .skip
 (.exit 2))
 (.seq
 (.block 3
 (.seq
 (.ops 44 6 (mM 0 29 27 ::
 oO 1 30 (.ixs 2 (.t 25) (.t 27)) ::
 oO 2 31 (.load false true 2 (.t 30)) ::
 oO 3 7 (.new 2 (.agg [(.int .i64 0), (.int .i64 0)])) ::
 mM 4 6 29 ::
 ⟨5, none, none, .all, .store true 2 (.t 7) (.t 31)⟩ ::
 []))
 (.seq
 (.ops 50 9 (mM 0 32 0 ::
 mM 1 33 6 ::
 oO 2 34 (.bin .add .no (.t 33) (.c (.int .i64 1))) ::
 mM 3 35 3 ::
 oO 4 36 (.bin .rem .no (.t 34) (.t 35)) ::
 oO 5 37 (.ixs 2 (.t 32) (.t 36)) ::
 oO 6 38 (.load false true 2 (.t 37)) ::
 oO 7 8 (.new 2 (.agg [(.int .i64 0), (.int .i64 0)])) ::
 ⟨8, none, none, .all, .store true 2 (.t 8) (.t 38)⟩ ::
 []))
 (.seq
 (.seq
 (.ops 59 10 (⟨0, some 39, none, (.bef 0 10), .load true true 2 (.t 7)⟩ ::
 ⟨1, some 40, none, (.bef 0 10), .load true true 2 (.t 8)⟩ ::
 mM 2 41 0 ::
 mM 3 42 6 ::
 oO 4 43 (.bin .add .no (.t 42) (.c (.int .i64 2))) ::
 mM 5 44 3 ::
 oO 6 45 (.bin .rem .no (.t 43) (.t 44)) ::
 ⟨7, some 46, none, (.bef 124 10), .ixs 2 (.t 41) (.t 45)⟩ ::
 ⟨8, some 47, none, (.bef 252 10), .load false true 2 (.t 46)⟩ ::
 ⟨9, some 48, none, (.bef 511 10), .callF f_polygon_folded [(.t 39), (.t 40), (.t 47)]⟩ ::
 []))
 (.cond (.t 48)
 (.seq
 (.ops 69 1 (oO 0 2 (.mov (.c (.bool false))) ::
 []))
 .ret)
 .skip))
 (.seq
 (.ops 70 3 (mM 0 49 6 ::
 oO 1 50 (.bin .add .no (.t 49) (.c (.int .i64 2))) ::
 mM 2 9 50 ::
 []))
 (.block 4
 (.loop [(0, 0), (3, 0), (6, 0), (7, 0), (8, 0), (9, 0), (25, 0), (26, 0), (27, 0)]
 (.seq
 (.seq
 (.ops 73 11 (mM 0 51 9 ::
 mM 1 52 3 ::
 oO 2 53 (.bin .lss .no (.t 51) (.t 52)) ::
 mM 3 54 53 ::
 gG 4 55 54 true (.mov (.t 9)) ::
 gG 5 56 54 true (.bin .add .no (.t 55) (.c (.int .i64 1))) ::
 gG 6 57 54 true (.mov (.t 3)) ::
 gG 7 58 54 true (.bin .rem .no (.t 56) (.t 57)) ::
 gG 8 59 54 true (.mov (.t 6)) ::
 gG 9 60 54 true (.bin .neq .no (.t 58) (.t 59)) ::
 oO 10 61 (.pick (.t 54) (.t 60) (.c (.bool false))) ::
 []))
 (.cond (.t 61)
 .skip
 (.exit 4)))
 (.seq
 (.block 5
 (.seq
 (.ops 84 14 (⟨0, some 64, none, (.bef 0 14), .load true true 2 (.t 7)⟩ ::
 ⟨1, some 65, none, (.bef 0 14), .load true true 2 (.t 8)⟩ ::
 mM 2 66 0 ::
 mM 3 67 9 ::
 ⟨4, some 68, none, (.bef 12 14), .ixs 2 (.t 66) (.t 67)⟩ ::
 ⟨5, some 69, none, (.bef 28 14), .load false true 2 (.t 68)⟩ ::
 mM 6 70 0 ::
 mM 7 71 9 ::
 oO 8 72 (.bin .add .no (.t 71) (.c (.int .i64 1))) ::
 mM 9 73 3 ::
 oO 10 74 (.bin .rem .no (.t 72) (.t 73)) ::
 ⟨11, some 75, none, (.bef 1984 14), .ixs 2 (.t 70) (.t 74)⟩ ::
 ⟨12, some 76, none, (.bef 4032 14), .load false true 2 (.t 75)⟩ ::
 ⟨13, some 77, none, (.bef 8191 14), .callF f_polygon_meet [(.t 64), (.t 65), (.t 69), (.t 76)]⟩ ::
 []))
 (.cond (.t 77)
 (.seq
 (.ops 98 1 (oO 0 2 (.mov (.c (.bool false))) ::
 []))
 .ret)
 .skip)))
 (.ops 99 3 (mM 0 62 9 ::
 oO 1 63 (.bin .add .no (.t 62) (.c (.int .i64 1))) ::
 mM 2 9 63 ::
 [])))))))))))
 (.ops 102 2 (oO 0 78 (.bin .add .no (.t 27) (.c (.int .i64 1))) ::
 mM 1 27 78 ::
 []))))))))
 (.seq
 (.ops 104 1 (oO 0 2 (.mov (.c (.bool true))) ::
 []))
 .ret))))),
 [.t 2]⟩

def k_point_coordinate : KFn := ⟨
 (.seq
 (.ops 0 3 (oO 0 1 (.box 3 (.t 0)) ::
 oO 1 2 (.mov (.c (.int .i64 0))) ::
 oO 2 3 (.mov (.c (.bool false))) ::
 []))
 (.seq
 (.ops 3 8 (oO 0 7 (.load true true 3 (.t 1)) ::
 oO 1 8 (.callF f_ratio_Round [(.t 7)]) ::
 oO 2 9 (.callF f_integer_Small [(.t 8)]) ::
 mM 3 6 9 ::
 oO 4 10 (.extract (.t 6) 0) ::
 oO 5 11 (.extract (.t 6) 1) ::
 mM 6 4 10 ::
 mM 7 5 11 ::
 []))
 (.seq
 (.ops 11 12 (mM 0 12 4 ::
 mM 1 13 5 ::
 mM 2 14 13 ::
 gG 3 15 14 true (.mov (.t 4)) ::
 gG 4 16 14 true (.bin .geq .no (.t 15) (.c (.int .i64 (-1048576)))) ::
 oO 5 17 (.pick (.t 14) (.t 16) (.c (.bool false))) ::
 mM 6 18 17 ::
 gG 7 19 18 true (.mov (.t 4)) ::
 gG 8 20 18 true (.bin .leq .no (.t 19) (.c (.int .i64 1048576))) ::
 oO 9 21 (.pick (.t 18) (.t 20) (.c (.bool false))) ::
 mM 10 2 12 ::
 mM 11 3 21 ::
 []))
 .ret))),
 [.t 2, .t 3]⟩

def k_polygon_area : KFn := ⟨
 (.seq
 (.ops 10 1 (oO 0 2 (.mov (.c (.int .i64 0))) ::
 []))
 (.seq
 (.ops 11 1 (oO 0 3 (.mov (.c (.int .i64 0))) ::
 []))
 (.seq
 (.seq
 (.ops 12 3 (mM 0 7 0 ::
 oO 1 8 (.len .sl (.t 7)) ::
 oO 2 9 (.mov (.c (.int .i64 0))) ::
 []))
 (.block 0
 (.loop [(0, 0), (3, 0), (7, 0), (8, 0), (9, 0)]
 (.seq
 (.ops 15 1 (oO 0 10 (.bin .lss .no (.t 9) (.t 8)) ::
 []))
 (.seq
 (.cond (.t 10)
 .skip
 (.exit 0))
 (.seq
 (.block 1
 (.seq
 (.ops 16 6 (mM 0 11 9 ::
 oO 1 12 (.ixs 2 (.t 7) (.t 9)) ::
 oO 2 13 (.load false true 2 (.t 12)) ::
 oO 3 5 (.new 2 (.agg [(.int .i64 0), (.int .i64 0)])) ::
 mM 4 4 11 ::
 ⟨5, none, none, .all, .store true 2 (.t 5) (.t 13)⟩ ::
 []))
 (.seq
 (.ops 22 10 (mM 0 14 0 ::
 mM 1 15 4 ::
 oO 2 16 (.bin .add .no (.t 15) (.c (.int .i64 1))) ::
 mM 3 17 0 ::
 oO 4 18 (.len .sl (.t 17)) ::
 oO 5 19 (.bin .rem .no (.t 16) (.t 18)) ::
 oO 6 20 (.ixs 2 (.t 14) (.t 19)) ::
 oO 7 21 (.load false true 2 (.t 20)) ::
 oO 8 6 (.new 2 (.agg [(.int .i64 0), (.int .i64 0)])) ::
 ⟨9, none, none, .all, .store true 2 (.t 6) (.t 21)⟩ ::
 []))
 (.ops 32 14 (mM 0 22 3 ::
 oO 1 23 (.off 0 (.t 5)) ::
 oO 2 24 (.load true false 1 (.t 23)) ::
 oO 3 25 (.off 1 (.t 6)) ::
 oO 4 26 (.load true false 1 (.t 25)) ::
 oO 5 27 (.bin .mul .no (.t 24) (.t 26)) ::
 oO 6 28 (.off 1 (.t 5)) ::
 oO 7 29 (.load true false 1 (.t 28)) ::
 oO 8 30 (.off 0 (.t 6)) ::
 oO 9 31 (.load true false 1 (.t 30)) ::
 oO 10 32 (.bin .mul .no (.t 29) (.t 31)) ::
 oO 11 33 (.bin .sub .no (.t 27) (.t 32)) ::
 oO 12 34 (.bin .add .no (.t 22) (.t 33)) ::
 mM 13 3 34 ::
 [])))))
 (.ops 46 2 (oO 0 35 (.bin .add .no (.t 9) (.c (.int .i64 1))) ::
 mM 1 9 35 ::
 []))))))))
 (.seq
 (.ops 48 2 (mM 0 36 3 ::
 mM 1 2 36 ::
 []))
 .ret)))),
 [.t 2]⟩

def k_cmp_Compare_int : KFn := ⟨
 (.seq
 (.ops 0 1 (oO 0 4 (.mov (.c (.int .i64 0))) ::
 []))
 (.seq
 (.ops 1 3 (mM 0 7 0 ::
 oO 1 8 (.callF f_cmp_isNaN_int [(.t 7)]) ::
 mM 2 5 8 ::
 []))
 (.seq
 (.ops 4 3 (mM 0 9 1 ::
 oO 1 10 (.callF f_cmp_isNaN_int [(.t 9)]) ::
 mM 2 6 10 ::
 []))
 (.seq
 (.seq
 (.ops 7 1 (mM 0 11 5 ::
 []))
 (.cond (.t 11)
 (.seq
 (.seq
 (.ops 8 1 (mM 0 12 6 ::
 []))
 (.cond (.t 12)
 (.seq
 (.ops 9 1 (oO 0 4 (.mov (.c (.int .i64 0))) ::
 []))
 .ret)
 .skip))
 (.seq
 (.ops 10 1 (oO 0 4 (.mov (.c (.int .i64 (-1)))) ::
 []))
 .ret))
 .skip))
 (.seq
 (.seq
 (.ops 11 1 (mM 0 13 6 ::
 []))
 (.cond (.t 13)
 (.seq
 (.ops 12 1 (oO 0 4 (.mov (.c (.int .i64 1))) ::
 []))
 .ret)
 .skip))
 (.seq
 (.seq
 (.ops 13 3 (mM 0 14 0 ::
 mM 1 15 1 ::
 oO 2 16 (.bin .lss .no (.t 14) (.t 15)) ::
 []))
 (.cond (.t 16)
 (.seq
 (.ops 16 1 (oO 0 4 (.mov (.c (.int .i64 (-1)))) ::
 []))
 .ret)
 .skip))
 (.seq
 (.seq
 (.ops 17 3 (mM 0 17 0 ::
 mM 1 18 1 ::
 oO 2 19 (.bin .gtr .no (.t 17) (.t 18)) ::
 []))
 (.cond (.t 19)
 (.seq
 (.ops 20 1 (oO 0 4 (.mov (.c (.int .i64 1))) ::
 []))
 .ret)
 .skip))
 (.seq
 (.ops 21 1 (oO 0 4 (.mov (.c (.int .i64 0))) ::
 []))
 .ret)))))))),
 [.t 4]⟩

def k_math_Sqrt : KFn := ⟨
 (.seq
 (.ops 0 1 (oO 0 2 (.mov (.c (.float .f64 0))) ::
 []))
 (.seq
 (.ops 1 3 (mM 0 3 0 ::
 oO 1 4 (.callF f_math_sqrt [(.t 3)]) ::
 mM 2 2 4 ::
 []))
 .ret)),
 [.t 2]⟩

def k_r24_shift : KFn := ⟨
 (.seq
 (.ops 0 3 (oO 0 4 (.box 2 (.t 0)) ::
 oO 1 5 (.box 2 (.t 1)) ::
 oO 2 8 (.new 2 (.agg [(.int .i64 0), (.int .i64 0)])) ::
 []))
 (.seq
 (.ops 3 12 (oO 0 12 (.off 0 (.t 5)) ::
 ⟨1, some 13, none, (.bef 1 12), .load true false 1 (.t 12)⟩ ::
 oO 2 14 (.off 0 (.t 4)) ::
 ⟨3, some 15, none, (.bef 4 12), .load true false 1 (.t 14)⟩ ::
 oO 4 16 (.bin .sub .no (.t 13) (.t 15)) ::
 oO 5 17 (.off 1 (.t 5)) ::
 ⟨6, some 18, none, (.bef 32 12), .load true false 1 (.t 17)⟩ ::
 oO 7 19 (.off 1 (.t 4)) ::
 ⟨8, some 20, none, (.bef 128 12), .load true false 1 (.t 19)⟩ ::
 oO 9 21 (.bin .sub .no (.t 18) (.t 20)) ::
 mM 10 9 16 ::
 mM 11 10 21 ::
 []))
 (.seq
 (.ops 15 9 (mM 0 22 9 ::
 mM 1 23 9 ::
 oO 2 24 (.bin .mul .no (.t 22) (.t 23)) ::
 mM 3 25 10 ::
 mM 4 26 10 ::
 oO 5 27 (.bin .mul .no (.t 25) (.t 26)) ::
 oO 6 28 (.bin .add .no (.t 24) (.t 27)) ::
 oO 7 29 (.callF f_r24_root [(.t 28)]) ::
 mM 8 11 29 ::
 []))
 (.seq
 (.ops 24 17 (mM 0 30 3 ::
 mM 1 31 2 ::
 mM 2 32 10 ::
 oO 3 33 (.bin .mul .no (.t 31) (.t 32)) ::
 mM 4 34 11 ::
 oO 5 35 (.callF f_r24_round [(.t 33), (.t 34)]) ::
 oO 6 36 (.bin .mul .no (.t 30) (.t 35)) ::
 mM 7 37 3 ::
 oO 8 38 (.un .neg (.t 37)) ::
 mM 9 39 2 ::
 mM 10 40 9 ::
 oO 11 41 (.bin .mul .no (.t 39) (.t 40)) ::
 mM 12 42 11 ::
 oO 13 43 (.callF f_r24_round [(.t 41), (.t 42)]) ::
 oO 14 44 (.bin .mul .no (.t 38) (.t 43)) ::
 oO 15 45 (.build [(.int .i64 0), (.int .i64 0)] [(0, 1, (.t 36)), (1, 1, (.t 44))]) ::
 ⟨16, none, none, .all, .store true 2 (.t 8) (.t 45)⟩ ::
 []))
 .ret)))),
 [.cell 8 true 2]⟩

def k_point_Meet : KFn := ⟨
 (.seq
 (.ops 0 6 (oO 0 4 (.box 6 (.t 0)) ::
 oO 1 5 (.box 6 (.t 1)) ::
 oO 2 6 (.box 6 (.t 2)) ::
 oO 3 7 (.box 6 (.t 3)) ::
 oO 4 8 (.new 6 (.agg [(.bool false), .nilsl, .nilsl, (.bool false), .nilsl, .nilsl])) ::
 oO 5 9 (.mov (.c (.int .i64 0))) ::
 []))
 (.seq
 (.ops 6 5 (oO 0 13 (.load true true 6 (.t 7)) ::
 oO 1 14 (.load true true 6 (.t 6)) ::
 oO 2 15 (.callF f_point_Sub [(.t 13), (.t 14)]) ::
 oO 3 10 (.new 6 (.agg [(.bool false), .nilsl, .nilsl, (.bool false), .nilsl, .nilsl])) ::
 ⟨4, none, none, .all, .store true 6 (.t 10) (.t 15)⟩ ::
 []))
 (.seq
 (.ops 11 17 (⟨0, some 17, none, (.bef 0 17), .load true true 6 (.t 6)⟩ ::
 ⟨1, some 18, none, (.bef 0 17), .load true true 6 (.t 4)⟩ ::
 ⟨2, some 19, none, (.bef 3 17), .callF f_point_Sub [(.t 17), (.t 18)]⟩ ::
 ⟨3, some 20, none, (.bef 0 17), .load true true 6 (.t 10)⟩ ::
 ⟨4, some 21, none, (.bef 15 17), .callF f_point_Cross [(.t 19), (.t 20)]⟩ ::
 ⟨5, some 22, none, (.bef 0 17), .load true true 6 (.t 5)⟩ ::
 ⟨6, some 23, none, (.bef 0 17), .load true true 6 (.t 4)⟩ ::
 ⟨7, some 24, none, (.bef 127 17), .callF f_point_Sub [(.t 22), (.t 23)]⟩ ::
 ⟨8, some 25, none, (.bef 0 17), .load true true 6 (.t 10)⟩ ::
 ⟨9, some 26, none, (.bef 511 17), .callF f_point_Cross [(.t 24), (.t 25)]⟩ ::
 ⟨10, some 27, none, (.bef 1023 17), .callF f_ratio_Div [(.t 21), (.t 26)]⟩ ::
 mM 11 16 27 ::
 oO 12 28 (.extract (.t 16) 0) ::
 oO 13 29 (.extract (.t 16) 1) ::
 ⟨14, some 11, none, (.bef 0 17), .new 3 (.agg [(.bool false), .nilsl, .nilsl])⟩ ::
 ⟨15, none, none, (.init 14), .store true 3 (.t 11) (.t 28)⟩ ::
 mM 16 12 29 ::
 []))
 (.seq
 (.seq
 (.ops 28 2 (mM 0 30 12 ::
 oO 1 31 (.un .not (.t 30)) ::
 []))
 (.cond (.t 31)
 (.seq
 (.ops 30 3 (oO 0 32 (.build [(.bool false), .nilsl, .nilsl, (.bool false), .nilsl, .nilsl] []) ::
 ⟨1, none, none, .all, .store true 6 (.t 8) (.t 32)⟩ ::
 oO 2 9 (.mov (.c (.int .i64 10))) ::
 []))
 .ret)
 .skip))
 (.seq
 (.ops 33 6 (oO 0 33 (.load true true 6 (.t 4)) ::
 oO 1 34 (.load true true 6 (.t 5)) ::
 oO 2 35 (.load true true 3 (.t 11)) ::
 oO 3 36 (.callF f_point_On [(.t 33), (.t 34), (.t 35)]) ::
 ⟨4, none, none, .all, .store true 6 (.t 8) (.t 36)⟩ ::
 oO 5 9 (.mov (.c (.int .i64 0))) ::
 []))
 .ret))))),
 [.cell 8 true 6, .t 9]⟩

def k_allowance_exact : KFn := ⟨
 (.seq
 (.ops 0 2 (oO 0 1 (.box 2 (.t 0)) ::
 oO 1 2 (.new 6 (.agg [(.bool false), .nilsl, .nilsl, (.bool false), .nilsl, .nilsl])) ::
 []))
 (.seq
 (.ops 2 6 (oO 0 3 (.off 0 (.t 1)) ::
 oO 1 4 (.load true false 1 (.t 3)) ::
 oO 2 5 (.off 1 (.t 1)) ::
 oO 3 6 (.load true false 1 (.t 5)) ::
 oO 4 7 (.callF f_point_Of [(.t 4), (.t 6)]) ::
 ⟨5, none, none, .all, .store true 6 (.t 2) (.t 7)⟩ ::
 []))
 .ret)),
 [.cell 2 true 6]⟩

def k_point_Sub : KFn := ⟨
 (.seq
 (.ops 0 3 (oO 0 2 (.box 6 (.t 0)) ::
 oO 1 3 (.box 6 (.t 1)) ::
 oO 2 4 (.new 6 (.agg [(.bool false), .nilsl, .nilsl, (.bool false), .nilsl, .nilsl])) ::
 []))
 (.seq
 (.ops 3 12 (oO 0 5 (.off 0 (.t 2)) ::
 ⟨1, some 6, none, (.bef 1 12), .load true true 3 (.t 5)⟩ ::
 oO 2 7 (.off 0 (.t 3)) ::
 ⟨3, some 8, none, (.bef 4 12), .load true true 3 (.t 7)⟩ ::
 ⟨4, some 9, none, (.bef 15 12), .callF f_ratio_Sub [(.t 6), (.t 8)]⟩ ::
 oO 5 10 (.off 3 (.t 2)) ::
 ⟨6, some 11, none, (.bef 32 12), .load true true 3 (.t 10)⟩ ::
 oO 7 12 (.off 3 (.t 3)) ::
 ⟨8, some 13, none, (.bef 128 12), .load true true 3 (.t 12)⟩ ::
 ⟨9, some 14, none, (.bef 511 12), .callF f_ratio_Sub [(.t 11), (.t 13)]⟩ ::
 oO 10 15 (.build [(.bool false), .nilsl, .nilsl, (.bool false), .nilsl, .nilsl] [(0, 3, (.t 9)), (3, 3, (.t 14))]) ::
 ⟨11, none, none, (.bef 2047 12), .store true 6 (.t 4) (.t 15)⟩ ::
 []))
 .ret)),
 [.cell 4 true 6]⟩

def k_r11_simple : KFn := ⟨
 (.seq
 (.ops 12 1 (oO 0 2 (.mov (.c (.bool false))) ::
 []))
 (.seq
 (.ops 13 3 (mM 0 9 0 ::
 oO 1 10 (.len .sl (.t 9)) ::
 mM 2 3 10 ::
 []))
 (.seq
 (.seq
 (.ops 16 1 (oO 0 4 (.mov (.c (.int .i64 0))) ::
 []))
 (.block 0
 (.loop [(0, 0), (3, 0), (4, 0)]
 (.seq
 (.seq
 (.ops 17 3 (mM 0 11 4 ::
 mM 1 12 3 ::
 oO 2 13 (.bin .lss .no (.t 11) (.t 12)) ::
 []))
 (.cond (.t 13)
 .skip
 (.exit 0)))
 (.seq
 (.block 1
 (.seq
 (.ops 20 15 (mM 0 16 0 ::
 mM 1 17 4 ::
 ⟨2, some 18, none, (.bef 3 15), .ixs 2 (.t 16) (.t 17)⟩ ::
 ⟨3, some 19, none, (.bef 7 15), .load false true 2 (.t 18)⟩ ::
 mM 4 20 0 ::
 mM 5 21 4 ::
 oO 6 22 (.bin .add .no (.t 21) (.c (.int .i64 1))) ::
 mM 7 23 3 ::
 oO 8 24 (.bin .rem .no (.t 22) (.t 23)) ::
 ⟨9, some 25, none, (.bef 496 15), .ixs 2 (.t 20) (.t 24)⟩ ::
 ⟨10, some 26, none, (.bef 1008 15), .load false true 2 (.t 25)⟩ ::
 ⟨11, some 5, none, (.bef 0 15), .new 2 (.agg [(.int .i64 0), (.int .i64 0)])⟩ ::
 ⟨12, some 6, none, (.bef 0 15), .new 2 (.agg [(.int .i64 0), (.int .i64 0)])⟩ ::
 ⟨13, none, none, (.init 11), .store true 2 (.t 5) (.t 19)⟩ ::
 ⟨14, none, none, (.init 12), .store true 2 (.t 6) (.t 26)⟩ ::
 []))
 (.seq
 (.ops 35 9 (mM 0 27 0 ::
 mM 1 28 4 ::
 oO 2 29 (.bin .add .no (.t 28) (.c (.int .i64 2))) ::
 mM 3 30 3 ::
 oO 4 31 (.bin .rem .no (.t 29) (.t 30)) ::
 oO 5 32 (.ixs 2 (.t 27) (.t 31)) ::
 oO 6 33 (.load false true 2 (.t 32)) ::
 oO 7 7 (.new 2 (.agg [(.int .i64 0), (.int .i64 0)])) ::
 ⟨8, none, none, .all, .store true 2 (.t 7) (.t 33)⟩ ::
 []))
 (.seq
 (.seq
 (.ops 44 15 (oO 0 34 (.load true true 2 (.t 5)) ::
 oO 1 35 (.load true true 2 (.t 6)) ::
 oO 2 36 (.bin .eql (.flat [.int, .int]) (.t 34) (.t 35)) ::
 mM 3 37 36 ::
 gG 4 38 37 false (.load true true 2 (.t 5)) ::
 gG 5 39 37 false (.load true true 2 (.t 6)) ::
 gG 6 40 37 false (.load true true 2 (.t 7)) ::
 gG 7 41 37 false (.callF f_r11_Between [(.t 38), (.t 39), (.t 40)]) ::
 oO 8 42 (.pick (.t 37) (.c (.bool true)) (.t 41)) ::
 mM 9 43 42 ::
 gG 10 44 43 false (.load true true 2 (.t 6)) ::
 gG 11 45 43 false (.load true true 2 (.t 7)) ::
 gG 12 46 43 false (.load true true 2 (.t 5)) ::
 gG 13 47 43 false (.callF f_r11_Between [(.t 44), (.t 45), (.t 46)]) ::
 oO 14 48 (.pick (.t 43) (.c (.bool true)) (.t 47)) ::
 []))
 (.cond (.t 48)
 (.seq
 (.ops 59 1 (oO 0 2 (.mov (.c (.bool false))) ::
 []))
 .ret)
 .skip))
 (.seq
 (.ops 60 3 (mM 0 49 4 ::
 oO 1 50 (.bin .add .no (.t 49) (.c (.int .i64 2))) ::
 mM 2 8 50 ::
 []))
 (.block 2
 (.loop [(0, 0), (3, 0), (4, 0), (5, 0), (6, 0), (8, 0)]
 (.seq
 (.seq
 (.ops 63 3 (mM 0 51 8 ::
 mM 1 52 3 ::
 oO 2 53 (.bin .lss .no (.t 51) (.t 52)) ::
 []))
 (.cond (.t 53)
 .skip
 (.exit 2)))
 (.seq
 (.block 3
 (.seq
 (.ops 66 22 (mM 0 56 8 ::
 oO 1 57 (.bin .add .no (.t 56) (.c (.int .i64 1))) ::
 mM 2 58 3 ::
 oO 3 59 (.bin .rem .no (.t 57) (.t 58)) ::
 mM 4 60 4 ::
 oO 5 61 (.bin .neq .no (.t 59) (.t 60)) ::
 mM 6 62 61 ::
 ⟨7, some 63, some (62, true), (.bef 127 22), .load true true 2 (.t 5)⟩ ::
 ⟨8, some 64, some (62, true), (.bef 127 22), .load true true 2 (.t 6)⟩ ::
 gG 9 65 62 true (.mov (.t 0)) ::
 gG 10 66 62 true (.mov (.t 8)) ::
 ⟨11, some 67, some (62, true), (.bef 1663 22), .ixs 2 (.t 65) (.t 66)⟩ ::
 ⟨12, some 68, some (62, true), (.bef 3711 22), .load false true 2 (.t 67)⟩ ::
 gG 13 69 62 true (.mov (.t 0)) ::
 gG 14 70 62 true (.mov (.t 8)) ::
 gG 15 71 62 true (.bin .add .no (.t 70) (.c (.int .i64 1))) ::
 gG 16 72 62 true (.mov (.t 3)) ::
 gG 17 73 62 true (.bin .rem .no (.t 71) (.t 72)) ::
 ⟨18, some 74, some (62, true), (.bef 254079 22), .ixs 2 (.t 69) (.t 73)⟩ ::
 ⟨19, some 75, some (62, true), (.bef 516223 22), .load false true 2 (.t 74)⟩ ::
 ⟨20, some 76, some (62, true), (.bef 1048575 22), .callF f_r11_meet [(.t 63), (.t 64), (.t 68), (.t 75)]⟩ ::
 oO 21 77 (.pick (.t 62) (.t 76) (.c (.bool false))) ::
 []))
 (.cond (.t 77)
 (.seq
 (.ops 88 1 (oO 0 2 (.mov (.c (.bool false))) ::
 []))
 .ret)
 .skip)))
 (.ops 89 3 (mM 0 54 8 ::
 oO 1 55 (.bin .add .no (.t 54) (.c (.int .i64 1))) ::
 mM 2 8 55 ::
 [])))))))))))
 (.ops 92 3 (mM 0 14 4 ::
 oO 1 15 (.bin .add .no (.t 14) (.c (.int .i64 1))) ::
 mM 2 4 15 ::
 [])))))))
 (.seq
 (.ops 95 1 (oO 0 2 (.mov (.c (.bool true))) ::
 []))
 .ret)))),
 [.t 2]⟩

def k_r11_Area2 : KFn := ⟨
 (.seq
 (.ops 0 1 (oO 0 2 (.mov (.c (.int .i64 0))) ::
 []))
 (.seq
 (.seq
 (.ops 1 3 (mM 0 3 0 ::
 oO 1 4 (.callF f_r11_Check [(.t 3)]) ::
 oO 2 5 (.bin .neq .no (.t 4) (.c (.int .i64 0))) ::
 []))
 (.cond (.t 5)
 (.seq
 (.ops 4 1 (oO 0 2 (.mov (.c (.int .i64 0))) ::
 []))
 .ret)
 .skip))
 (.seq
 (.ops 5 3 (mM 0 6 0 ::
 oO 1 7 (.callF f_r11_Twice [(.t 6)]) ::
 mM 2 2 7 ::
 []))
 .ret))),
 [.t 2]⟩

def k_formula_Check : KFn := ⟨
 (.seq
 (.ops 0 2 (oO 0 1 (.box 6 (.t 0)) ::
 oO 1 2 (.mov (.c (.int .i64 0))) ::
 []))
 (.seq
 (.ops 2 3 (oO 0 3 (.load true true 6 (.t 1)) ::
 oO 1 4 (.callF f_formula_check [(.t 3), (.c (.int .i64 1))]) ::
 mM 2 2 4 ::
 []))
 .ret)),
 [.t 2]⟩

def k_polyline_outside : KFn := ⟨
 (.seq
 (.ops 0 2 (oO 0 1 (.box 2 (.t 0)) ::
 oO 1 2 (.mov (.c (.bool false))) ::
 []))
 (.seq
 (.ops 2 19 (oO 0 3 (.off 0 (.t 1)) ::
 oO 1 4 (.load true false 1 (.t 3)) ::
 oO 2 5 (.bin .lss .no (.t 4) (.c (.int .i64 (-1048576)))) ::
 mM 3 6 5 ::
 gG 4 7 6 false (.off 0 (.t 1)) ::
 gG 5 8 6 false (.load true false 1 (.t 7)) ::
 gG 6 9 6 false (.bin .gtr .no (.t 8) (.c (.int .i64 1048576))) ::
 oO 7 10 (.pick (.t 6) (.c (.bool true)) (.t 9)) ::
 mM 8 11 10 ::
 gG 9 12 11 false (.off 1 (.t 1)) ::
 gG 10 13 11 false (.load true false 1 (.t 12)) ::
 gG 11 14 11 false (.bin .lss .no (.t 13) (.c (.int .i64 (-1048576)))) ::
 oO 12 15 (.pick (.t 11) (.c (.bool true)) (.t 14)) ::
 mM 13 16 15 ::
 gG 14 17 16 false (.off 1 (.t 1)) ::
 gG 15 18 16 false (.load true false 1 (.t 17)) ::
 gG 16 19 16 false (.bin .gtr .no (.t 18) (.c (.int .i64 1048576))) ::
 oO 17 20 (.pick (.t 16) (.c (.bool true)) (.t 19)) ::
 mM 18 2 20 ::
 []))
 .ret)),
 [.t 2]⟩

def k_r17_digit : KFn := ⟨
 (.seq
 (.ops 0 1 (oO 0 2 (.mov (.c (.bool false))) ::
 []))
 (.seq
 (.ops 1 7 (mM 0 3 0 ::
 oO 1 4 (.bin .geq .no (.t 3) (.c (.int .u8 48))) ::
 mM 2 5 4 ::
 gG 3 6 5 true (.mov (.t 0)) ::
 gG 4 7 5 true (.bin .leq .no (.t 6) (.c (.int .u8 57))) ::
 oO 5 8 (.pick (.t 5) (.t 7) (.c (.bool false))) ::
 mM 6 2 8 ::
 []))
 .ret)),
 [.t 2]⟩

def k_r10_Far : KFn := ⟨
 (.seq
 (.ops 4 1 (oO 0 2 (.mov (.c (.bool false))) ::
 []))
 (.seq
 (.seq
 (.ops 5 1 (oO 0 3 (.mov (.c (.int .i64 0))) ::
 []))
 (.block 0
 (.loop [(0, 0), (3, 0)]
 (.seq
 (.seq
 (.ops 6 4 (mM 0 4 3 ::
 mM 1 5 0 ::
 oO 2 6 (.len .sl (.t 5)) ::
 oO 3 7 (.bin .lss .no (.t 4) (.t 6)) ::
 []))
 (.cond (.t 7)
 .skip
 (.exit 0)))
 (.seq
 (.block 1
 (.seq
 (.ops 10 14 (mM 0 10 0 ::
 mM 1 11 3 ::
 oO 2 12 (.ixs 2 (.t 10) (.t 11)) ::
 oO 3 13 (.off 0 (.t 12)) ::
 oO 4 14 (.load false false 1 (.t 13)) ::
 oO 5 15 (.callF f_r10_far [(.t 14)]) ::
 mM 6 16 15 ::
 gG 7 17 16 false (.mov (.t 0)) ::
 gG 8 18 16 false (.mov (.t 3)) ::
 gG 9 19 16 false (.ixs 2 (.t 17) (.t 18)) ::
 gG 10 20 16 false (.off 1 (.t 19)) ::
 gG 11 21 16 false (.load false false 1 (.t 20)) ::
 gG 12 22 16 false (.callF f_r10_far [(.t 21)]) ::
 oO 13 23 (.pick (.t 16) (.c (.bool true)) (.t 22)) ::
 []))
 (.cond (.t 23)
 (.seq
 (.ops 24 1 (oO 0 2 (.mov (.c (.bool true))) ::
 []))
 .ret)
 .skip)))
 (.ops 25 3 (mM 0 8 3 ::
 oO 1 9 (.bin .add .no (.t 8) (.c (.int .i64 1))) ::
 mM 2 3 9 ::
 [])))))))
 (.seq
 (.ops 28 1 (oO 0 2 (.mov (.c (.bool false))) ::
 []))
 .ret))),
 [.t 2]⟩

end Go.F
