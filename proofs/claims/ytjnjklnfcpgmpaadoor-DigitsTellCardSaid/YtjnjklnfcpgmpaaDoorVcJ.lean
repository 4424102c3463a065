/- V's code of the functions that the laws of this seat reach, printed by a program of mine out of the loaded program. -/
import Derived.Test.YtjnjklnfcpgmpaaDoorVxDefs
import Derived.Test.YtjnjklnfcpgmpaaDoorVxExt
import Derived.Test.YtjnjklnfcpgmpaaDoorVxHex
set_option maxRecDepth 100000
namespace Go.Vx.YtjnjklnfcpgmpaaDoor
-- comptoir/comptoirlaw02.DigitsWide
def b3 : VC := (.seq (.reg [⟨(some 4), (.p (.mov (.cst (.bool false)))), none⟩])
 (.seq (.reg [⟨(some 9), (.p (.mov (.tmp 1))), none⟩,
 ⟨(some 10), (.p (.conv (.toInt .u64) (.tmp 9))), none⟩,
 ⟨(some 11), (.p (.ibin .rem (.tmp 10) (.cst (.int .u64 20)))), none⟩,
 ⟨(some 12), (.p (.conv (.toInt .i64) (.tmp 11))), none⟩,
 ⟨(some 13), (.p (.ibin .add (.cst (.int .i64 1)) (.tmp 12))), none⟩,
 ⟨(some 1), (.p (.mov (.tmp 13))), none⟩])
 (.seq (.reg [⟨(some 14), (.p (.mov (.tmp 0))), none⟩,
 ⟨(some 15), (.r (.pcall (.cst (.fn 6 [] [])) [(.tmp 14)])), none⟩,
 ⟨(some 5), (.p (.mov (.tmp 15))), none⟩])
 (.seq (.reg [⟨(some 17), (.p (.mov (.tmp 0))), none⟩,
 ⟨(some 18), (.p (.mov (.tmp 1))), none⟩,
 ⟨(some 19), (.r (.pcall (.cst (.fn 7 [] [])) [(.tmp 17), (.tmp 18)])), none⟩,
 ⟨(some 16), (.p (.mov (.tmp 19))), none⟩,
 ⟨(some 20), (.p (.ext (.tmp 16) 0)), none⟩,
 ⟨(some 21), (.p (.ext (.tmp 16) 1)), none⟩,
 ⟨(some 6), (.p (.mov (.tmp 20))), none⟩,
 ⟨(some 7), (.p (.mov (.tmp 21))), none⟩])
 (.seq (.seq (.reg [⟨(some 22), (.p (.mov (.tmp 5))), none⟩,
 ⟨(some 23), (.p (.lenStr (.tmp 22))), none⟩,
 ⟨(some 24), (.p (.mov (.tmp 1))), none⟩,
 ⟨(some 25), (.p (.ibin .gtr (.tmp 23) (.tmp 24))), none⟩])
 (.cond (.tmp 25) (.seq (.reg [⟨(some 26), (.r (.pcall (.cst (.fn 8 [] [])) [])), none⟩,
 ⟨(some 27), (.p (.mov (.tmp 26))), none⟩,
 ⟨(some 28), (.p (.mov (.tmp 7))), (some (27, true))⟩,
 ⟨(some 29), (.p (.ibin .eql (.tmp 28) (.cst (.int .i64 4)))), (some (27, true))⟩,
 ⟨(some 30), (.p (.pick (.tmp 27) (.tmp 29) (.cst (.bool false)))), none⟩,
 ⟨(some 31), (.p (.mov (.tmp 30))), none⟩,
 ⟨(some 32), (.p (.mov (.tmp 6))), (some (31, true))⟩,
 ⟨(some 33), (.p (.ibin .eql (.tmp 32) (.cst (.str [])))), (some (31, true))⟩,
 ⟨(some 34), (.p (.pick (.tmp 31) (.tmp 33) (.cst (.bool false)))), none⟩,
 ⟨(some 4), (.p (.mov (.tmp 34))), none⟩])
 .ret)
 .skip))
 (.seq (.seq (.reg [⟨(some 8), (.p (.mov (.cst (.int .i64 0)))), none⟩])
 (.block 0 (.loop (.seq (.seq (.reg [⟨(some 35), (.p (.mov (.tmp 8))), none⟩,
 ⟨(some 36), (.p (.mov (.tmp 6))), none⟩,
 ⟨(some 37), (.p (.lenStr (.tmp 36))), none⟩,
 ⟨(some 38), (.p (.mov (.tmp 5))), none⟩,
 ⟨(some 39), (.p (.lenStr (.tmp 38))), none⟩,
 ⟨(some 40), (.p (.ibin .sub (.tmp 37) (.tmp 39))), none⟩,
 ⟨(some 41), (.p (.ibin .lss (.tmp 35) (.tmp 40))), none⟩])
 (.cond (.tmp 41) .skip
 (.exit 0)))
 (.seq (.block 1 (.seq (.reg [⟨(some 44), (.p (.mov (.tmp 6))), none⟩,
 ⟨(some 45), (.p (.mov (.tmp 8))), none⟩,
 ⟨(some 46), (.p (.idxStr (.tmp 44) (.tmp 45))), none⟩,
 ⟨(some 47), (.p (.ibin .neq (.tmp 46) (.cst (.int .u8 48)))), none⟩])
 (.cond (.tmp 47) (.seq (.reg [⟨(some 4), (.p (.mov (.cst (.bool false)))), none⟩])
 .ret)
 .skip)))
 (.reg [⟨(some 42), (.p (.mov (.tmp 8))), none⟩,
 ⟨(some 43), (.p (.ibin .add (.tmp 42) (.cst (.int .i64 1)))), none⟩,
 ⟨(some 8), (.p (.mov (.tmp 43))), none⟩]))))))
 (.seq (.reg [⟨(some 48), (.r (.pcall (.cst (.fn 8 [] [])) [])), none⟩,
 ⟨(some 49), (.p (.mov (.tmp 48))), none⟩,
 ⟨(some 50), (.p (.mov (.tmp 7))), (some (49, true))⟩,
 ⟨(some 51), (.p (.ibin .eql (.tmp 50) (.cst (.int .i64 0)))), (some (49, true))⟩,
 ⟨(some 52), (.p (.pick (.tmp 49) (.tmp 51) (.cst (.bool false)))), none⟩,
 ⟨(some 53), (.p (.mov (.tmp 52))), none⟩,
 ⟨(some 54), (.p (.mov (.tmp 6))), (some (53, true))⟩,
 ⟨(some 55), (.p (.lenStr (.tmp 54))), (some (53, true))⟩,
 ⟨(some 56), (.p (.mov (.tmp 1))), (some (53, true))⟩,
 ⟨(some 57), (.p (.ibin .eql (.tmp 55) (.tmp 56))), (some (53, true))⟩,
 ⟨(some 58), (.p (.pick (.tmp 53) (.tmp 57) (.cst (.bool false)))), none⟩,
 ⟨(some 59), (.p (.mov (.tmp 58))), none⟩,
 ⟨(some 60), (.p (.mov (.tmp 6))), (some (59, true))⟩,
 ⟨(some 61), (.p (.mov (.tmp 1))), (some (59, true))⟩,
 ⟨(some 62), (.p (.mov (.tmp 5))), (some (59, true))⟩,
 ⟨(some 63), (.p (.lenStr (.tmp 62))), (some (59, true))⟩,
 ⟨(some 64), (.p (.ibin .sub (.tmp 61) (.tmp 63))), (some (59, true))⟩,
 ⟨(some 65), (.p (.sliceStr (.tmp 60) (some (.tmp 64)) none)), (some (59, true))⟩,
 ⟨(some 66), (.p (.mov (.tmp 5))), (some (59, true))⟩,
 ⟨(some 67), (.p (.ibin .eql (.tmp 65) (.tmp 66))), (some (59, true))⟩,
 ⟨(some 68), (.p (.pick (.tmp 59) (.tmp 67) (.cst (.bool false)))), none⟩,
 ⟨(some 4), (.p (.mov (.tmp 68))), none⟩])
 .ret)))))))
def f3 : VF := { body := b3, res := [(.tmp 4)] }
-- comptoir/comptoirlaw02.DigitsTell
def b4 : VC := (.seq (.reg [⟨(some 12), (.p (.mov (.cst (.bool false)))), none⟩])
 (.seq (.seq (.reg [⟨(some 33), (.p (.mov (.tmp 0))), none⟩,
 ⟨(some 34), (.p (.lenStr (.tmp 33))), none⟩,
 ⟨(some 35), (.p (.ibin .gtr (.tmp 34) (.cst (.int .i64 300)))), none⟩,
 ⟨(some 36), (.p (.mov (.tmp 35))), none⟩,
 ⟨(some 37), (.p (.mov (.tmp 5))), (some (36, false))⟩,
 ⟨(some 38), (.p (.len (.tmp 37))), (some (36, false))⟩,
 ⟨(some 39), (.p (.ibin .gtr (.tmp 38) (.cst (.int .i64 300)))), (some (36, false))⟩,
 ⟨(some 40), (.p (.pick (.tmp 36) (.cst (.bool true)) (.tmp 39))), none⟩])
 (.cond (.tmp 40) (.seq (.reg [⟨(some 41), (.r (.pcall (.cst (.fn 8 [] [])) [])), none⟩,
 ⟨(some 12), (.p (.mov (.tmp 41))), none⟩])
 .ret)
 .skip))
 (.seq (.reg [⟨(some 43), (.p (.mov (.tmp 0))), none⟩,
 ⟨(some 44), (.r (.pcall (.cst (.fn 9 [] [])) [(.tmp 43)])), none⟩,
 ⟨(some 42), (.p (.mov (.tmp 44))), none⟩,
 ⟨(some 45), (.p (.ext (.tmp 42) 0)), none⟩,
 ⟨(some 46), (.p (.ext (.tmp 42) 1)), none⟩,
 ⟨(some 13), (.p (.mov (.tmp 45))), none⟩,
 ⟨(some 14), (.p (.mov (.tmp 46))), none⟩])
 (.seq (.reg [⟨(some 48), (.p (.mov (.tmp 0))), none⟩,
 ⟨(some 49), (.r (.pcall (.cst (.fn 10 [] [])) [(.tmp 48)])), none⟩,
 ⟨(some 47), (.p (.mov (.tmp 49))), none⟩,
 ⟨(some 50), (.p (.ext (.tmp 47) 0)), none⟩,
 ⟨(some 51), (.p (.ext (.tmp 47) 1)), none⟩,
 ⟨(some 15), (.p (.mov (.tmp 50))), none⟩,
 ⟨(some 16), (.p (.mov (.tmp 51))), none⟩])
 (.seq (.reg [⟨(some 53), (.p (.mov (.tmp 3))), none⟩,
 ⟨(some 54), (.p (.mov (.tmp 4))), none⟩,
 ⟨(some 55), (.r (.pcall (.cst (.fn 7 [] [])) [(.tmp 53), (.tmp 54)])), none⟩,
 ⟨(some 52), (.p (.mov (.tmp 55))), none⟩,
 ⟨(some 56), (.p (.ext (.tmp 52) 0)), none⟩,
 ⟨(some 57), (.p (.ext (.tmp 52) 1)), none⟩,
 ⟨(some 17), (.p (.mov (.tmp 56))), none⟩,
 ⟨(some 18), (.p (.mov (.tmp 57))), none⟩])
 (.seq (.reg [⟨(some 59), (.p (.mov (.tmp 3))), none⟩,
 ⟨(some 60), (.p (.mov (.tmp 4))), none⟩,
 ⟨(some 61), (.r (.pcall (.cst (.fn 11 [] [])) [(.tmp 59), (.tmp 60)])), none⟩,
 ⟨(some 58), (.p (.mov (.tmp 61))), none⟩,
 ⟨(some 62), (.p (.ext (.tmp 58) 0)), none⟩,
 ⟨(some 63), (.p (.ext (.tmp 58) 1)), none⟩,
 ⟨(some 19), (.p (.mov (.tmp 62))), none⟩,
 ⟨(some 20), (.p (.mov (.tmp 63))), none⟩])
 (.seq (.reg [⟨(some 65), (.p (.mov (.tmp 0))), none⟩,
 ⟨(some 66), (.r (.pcall (.cst (.fn 12 [] [])) [(.tmp 65)])), none⟩,
 ⟨(some 64), (.p (.mov (.tmp 66))), none⟩,
 ⟨(some 67), (.p (.ext (.tmp 64) 0)), none⟩,
 ⟨(some 68), (.p (.ext (.tmp 64) 1)), none⟩,
 ⟨(some 21), (.p (.mov (.tmp 67))), none⟩,
 ⟨(some 22), (.p (.mov (.tmp 68))), none⟩])
 (.seq (.reg [⟨(some 70), (.p (.mov (.tmp 0))), none⟩,
 ⟨(some 71), (.r (.pcall (.cst (.fn 13 [] [])) [(.tmp 70)])), none⟩,
 ⟨(some 69), (.p (.mov (.tmp 71))), none⟩,
 ⟨(some 72), (.p (.ext (.tmp 69) 0)), none⟩,
 ⟨(some 73), (.p (.ext (.tmp 69) 1)), none⟩,
 ⟨(some 23), (.p (.mov (.tmp 72))), none⟩,
 ⟨(some 24), (.p (.mov (.tmp 73))), none⟩])
 (.seq (.reg [⟨(some 75), (.p (.mov (.tmp 5))), none⟩,
 ⟨(some 76), (.p (.mov (.tmp 1))), none⟩,
 ⟨(some 77), (.r (.pcall (.cst (.fn 14 [] [])) [(.tmp 75), (.tmp 76)])), none⟩,
 ⟨(some 74), (.p (.mov (.tmp 77))), none⟩,
 ⟨(some 78), (.p (.ext (.tmp 74) 0)), none⟩,
 ⟨(some 79), (.p (.ext (.tmp 74) 1)), none⟩,
 ⟨(some 25), (.p (.mov (.tmp 78))), none⟩,
 ⟨(some 26), (.p (.mov (.tmp 79))), none⟩])
 (.seq (.reg [⟨(some 81), (.p (.mov (.tmp 5))), none⟩,
 ⟨(some 82), (.p (.mov (.tmp 1))), none⟩,
 ⟨(some 83), (.r (.pcall (.cst (.fn 15 [] [])) [(.tmp 81), (.tmp 82)])), none⟩,
 ⟨(some 80), (.p (.mov (.tmp 83))), none⟩,
 ⟨(some 84), (.p (.ext (.tmp 80) 0)), none⟩,
 ⟨(some 85), (.p (.ext (.tmp 80) 1)), none⟩,
 ⟨(some 27), (.p (.mov (.tmp 84))), none⟩,
 ⟨(some 28), (.p (.mov (.tmp 85))), none⟩])
 (.seq (.reg [⟨(some 87), (.p (.mov (.tmp 0))), none⟩,
 ⟨(some 88), (.r (.pcall (.cst (.fn 16 [] [])) [(.tmp 87)])), none⟩,
 ⟨(some 86), (.p (.mov (.tmp 88))), none⟩,
 ⟨(some 89), (.p (.ext (.tmp 86) 0)), none⟩,
 ⟨(some 90), (.p (.ext (.tmp 86) 1)), none⟩,
 ⟨(some 29), (.p (.mov (.tmp 89))), none⟩,
 ⟨(some 30), (.p (.mov (.tmp 90))), none⟩])
 (.seq (.reg [⟨(some 92), (.p (.mov (.tmp 0))), none⟩,
 ⟨(some 93), (.r (.pcall (.cst (.fn 17 [] [])) [(.tmp 92)])), none⟩,
 ⟨(some 91), (.p (.mov (.tmp 93))), none⟩,
 ⟨(some 94), (.p (.ext (.tmp 91) 0)), none⟩,
 ⟨(some 95), (.p (.ext (.tmp 91) 1)), none⟩,
 ⟨(some 31), (.p (.mov (.tmp 94))), none⟩,
 ⟨(some 32), (.p (.mov (.tmp 95))), none⟩])
 (.seq (.reg [⟨(some 96), (.r (.pcall (.cst (.fn 8 [] [])) [])), none⟩,
 ⟨(some 97), (.p (.mov (.tmp 96))), none⟩,
 ⟨(some 98), (.p (.mov (.tmp 0))), (some (97, true))⟩,
 ⟨(some 99), (.p (.mov (.tmp 1))), (some (97, true))⟩,
 ⟨(some 100), (.p (.mov (.tmp 2))), (some (97, true))⟩,
 ⟨(some 101), (.r (.pcall (.cst (.fn 18 [] [])) [(.tmp 98), (.tmp 99), (.tmp 100)])), (some (97, true))⟩,
 ⟨(some 102), (.p (.mov (.tmp 0))), (some (97, true))⟩,
 ⟨(some 103), (.p (.mov (.tmp 1))), (some (97, true))⟩,
 ⟨(some 104), (.p (.mov (.tmp 2))), (some (97, true))⟩,
 ⟨(some 105), (.r (.pcall (.cst (.fn 19 [] [])) [(.tmp 102), (.tmp 103), (.tmp 104)])), (some (97, true))⟩,
 ⟨(some 106), (.p (.beq false (.tmp 101) (.tmp 105))), (some (97, true))⟩,
 ⟨(some 107), (.p (.pick (.tmp 97) (.tmp 106) (.cst (.bool false)))), none⟩,
 ⟨(some 108), (.p (.mov (.tmp 107))), none⟩,
 ⟨(some 109), (.p (.mov (.tmp 13))), (some (108, true))⟩,
 ⟨(some 110), (.p (.mov (.tmp 15))), (some (108, true))⟩,
 ⟨(some 111), (.p (.ibin .eql (.tmp 109) (.tmp 110))), (some (108, true))⟩,
 ⟨(some 112), (.p (.pick (.tmp 108) (.tmp 111) (.cst (.bool false)))), none⟩,
 ⟨(some 113), (.p (.mov (.tmp 112))), none⟩,
 ⟨(some 114), (.p (.mov (.tmp 14))), (some (113, true))⟩,
 ⟨(some 115), (.p (.mov (.tmp 16))), (some (113, true))⟩,
 ⟨(some 116), (.p (.ibin .eql (.tmp 114) (.tmp 115))), (some (113, true))⟩,
 ⟨(some 117), (.p (.pick (.tmp 113) (.tmp 116) (.cst (.bool false)))), none⟩,
 ⟨(some 118), (.p (.mov (.tmp 117))), none⟩,
 ⟨(some 119), (.p (.mov (.tmp 17))), (some (118, true))⟩,
 ⟨(some 120), (.p (.mov (.tmp 19))), (some (118, true))⟩,
 ⟨(some 121), (.p (.ibin .eql (.tmp 119) (.tmp 120))), (some (118, true))⟩,
 ⟨(some 122), (.p (.pick (.tmp 118) (.tmp 121) (.cst (.bool false)))), none⟩,
 ⟨(some 123), (.p (.mov (.tmp 122))), none⟩,
 ⟨(some 124), (.p (.mov (.tmp 18))), (some (123, true))⟩,
 ⟨(some 125), (.p (.mov (.tmp 20))), (some (123, true))⟩,
 ⟨(some 126), (.p (.ibin .eql (.tmp 124) (.tmp 125))), (some (123, true))⟩,
 ⟨(some 127), (.p (.pick (.tmp 123) (.tmp 126) (.cst (.bool false)))), none⟩,
 ⟨(some 128), (.p (.mov (.tmp 127))), none⟩,
 ⟨(some 129), (.p (.mov (.tmp 21))), (some (128, true))⟩,
 ⟨(some 130), (.p (.mov (.tmp 23))), (some (128, true))⟩,
 ⟨(some 131), (.r (.pcall (.cst (.fn 20 [] [])) [(.tmp 129), (.tmp 130)])), (some (128, true))⟩,
 ⟨(some 132), (.p (.pick (.tmp 128) (.tmp 131) (.cst (.bool false)))), none⟩,
 ⟨(some 133), (.p (.mov (.tmp 132))), none⟩,
 ⟨(some 134), (.p (.mov (.tmp 22))), (some (133, true))⟩,
 ⟨(some 135), (.p (.mov (.tmp 24))), (some (133, true))⟩,
 ⟨(some 136), (.p (.ibin .eql (.tmp 134) (.tmp 135))), (some (133, true))⟩,
 ⟨(some 137), (.p (.pick (.tmp 133) (.tmp 136) (.cst (.bool false)))), none⟩,
 ⟨(some 138), (.p (.mov (.tmp 137))), none⟩,
 ⟨(some 139), (.p (.mov (.tmp 25))), (some (138, true))⟩,
 ⟨(some 140), (.p (.mov (.tmp 27))), (some (138, true))⟩,
 ⟨(some 141), (.p (.ibin .eql (.tmp 139) (.tmp 140))), (some (138, true))⟩,
 ⟨(some 142), (.p (.pick (.tmp 138) (.tmp 141) (.cst (.bool false)))), none⟩,
 ⟨(some 143), (.p (.mov (.tmp 142))), none⟩,
 ⟨(some 144), (.p (.mov (.tmp 26))), (some (143, true))⟩,
 ⟨(some 145), (.p (.mov (.tmp 28))), (some (143, true))⟩,
 ⟨(some 146), (.p (.ibin .eql (.tmp 144) (.tmp 145))), (some (143, true))⟩,
 ⟨(some 147), (.p (.pick (.tmp 143) (.tmp 146) (.cst (.bool false)))), none⟩,
 ⟨(some 148), (.p (.mov (.tmp 147))), none⟩,
 ⟨(some 149), (.p (.mov (.tmp 29))), (some (148, true))⟩,
 ⟨(some 150), (.p (.mov (.tmp 31))), (some (148, true))⟩,
 ⟨(some 151), (.r (.pcall (.cst (.fn 20 [] [])) [(.tmp 149), (.tmp 150)])), (some (148, true))⟩,
 ⟨(some 152), (.p (.pick (.tmp 148) (.tmp 151) (.cst (.bool false)))), none⟩,
 ⟨(some 153), (.p (.mov (.tmp 152))), none⟩,
 ⟨(some 154), (.p (.mov (.tmp 30))), (some (153, true))⟩,
 ⟨(some 155), (.p (.mov (.tmp 32))), (some (153, true))⟩,
 ⟨(some 156), (.p (.ibin .eql (.tmp 154) (.tmp 155))), (some (153, true))⟩,
 ⟨(some 157), (.p (.pick (.tmp 153) (.tmp 156) (.cst (.bool false)))), none⟩,
 ⟨(some 158), (.p (.mov (.tmp 157))), none⟩,
 ⟨(some 159), (.p (.mov (.tmp 5))), (some (158, true))⟩,
 ⟨(some 160), (.r (.pcall (.cst (.fn 21 [] [])) [(.tmp 159)])), (some (158, true))⟩,
 ⟨(some 161), (.p (.mov (.tmp 5))), (some (158, true))⟩,
 ⟨(some 162), (.r (.pcall (.cst (.fn 22 [] [])) [(.tmp 161)])), (some (158, true))⟩,
 ⟨(some 163), (.p (.ibin .eql (.tmp 160) (.tmp 162))), (some (158, true))⟩,
 ⟨(some 164), (.p (.pick (.tmp 158) (.tmp 163) (.cst (.bool false)))), none⟩,
 ⟨(some 12), (.p (.mov (.tmp 164))), none⟩])
 .ret)))))))))))))
def f4 : VF := { body := b4, res := [(.tmp 12)] }
-- comptoir/comptoirlaw02.DigitsBack
def b5 : VC := (.seq (.reg [⟨(some 8), (.p (.mov (.cst (.bool false)))), none⟩])
 (.seq (.seq (.reg [⟨(some 19), (.p (.mov (.tmp 2))), none⟩,
 ⟨(some 20), (.p (.lenStr (.tmp 19))), none⟩,
 ⟨(some 21), (.p (.ibin .gtr (.tmp 20) (.cst (.int .i64 100)))), none⟩,
 ⟨(some 22), (.p (.mov (.tmp 21))), none⟩,
 ⟨(some 23), (.p (.mov (.tmp 3))), (some (22, false))⟩,
 ⟨(some 24), (.p (.len (.tmp 23))), (some (22, false))⟩,
 ⟨(some 25), (.p (.ibin .gtr (.tmp 24) (.cst (.int .i64 200)))), (some (22, false))⟩,
 ⟨(some 26), (.p (.pick (.tmp 22) (.cst (.bool true)) (.tmp 25))), none⟩])
 (.cond (.tmp 26) (.seq (.reg [⟨(some 27), (.r (.pcall (.cst (.fn 8 [] [])) [])), none⟩,
 ⟨(some 8), (.p (.mov (.tmp 27))), none⟩])
 .ret)
 .skip))
 (.seq (.reg [⟨(some 28), (.p (.mov (.tmp 1))), none⟩,
 ⟨(some 29), (.p (.conv (.toInt .u64) (.tmp 28))), none⟩,
 ⟨(some 30), (.p (.ibin .rem (.tmp 29) (.cst (.int .u64 18)))), none⟩,
 ⟨(some 31), (.p (.conv (.toInt .i64) (.tmp 30))), none⟩,
 ⟨(some 32), (.p (.ibin .add (.cst (.int .i64 1)) (.tmp 31))), none⟩,
 ⟨(some 1), (.p (.mov (.tmp 32))), none⟩])
 (.seq (.reg [⟨(some 33), (.p (.mov (.tmp 0))), none⟩,
 ⟨(some 34), (.p (.ibin .rem (.tmp 33) (.cst (.int .u64 1000000000000000000)))), none⟩,
 ⟨(some 0), (.p (.mov (.tmp 34))), none⟩])
 (.seq (.reg [⟨(some 36), (.p (.mov (.tmp 0))), none⟩,
 ⟨(some 37), (.p (.mov (.tmp 1))), none⟩,
 ⟨(some 38), (.r (.pcall (.cst (.fn 7 [] [])) [(.tmp 36), (.tmp 37)])), none⟩,
 ⟨(some 35), (.p (.mov (.tmp 38))), none⟩,
 ⟨(some 39), (.p (.ext (.tmp 35) 0)), none⟩,
 ⟨(some 40), (.p (.ext (.tmp 35) 1)), none⟩,
 ⟨(some 9), (.p (.mov (.tmp 39))), none⟩,
 ⟨(some 10), (.p (.mov (.tmp 40))), none⟩])
 (.seq (.seq (.reg [⟨(some 41), (.p (.mov (.tmp 10))), none⟩,
 ⟨(some 42), (.p (.ibin .eql (.tmp 41) (.cst (.int .i64 0)))), none⟩])
 (.cond (.tmp 42) (.seq (.reg [⟨(some 44), (.p (.mov (.tmp 9))), none⟩,
 ⟨(some 45), (.r (.pcall (.cst (.fn 9 [] [])) [(.tmp 44)])), none⟩,
 ⟨(some 43), (.p (.mov (.tmp 45))), none⟩,
 ⟨(some 46), (.p (.ext (.tmp 43) 0)), none⟩,
 ⟨(some 47), (.p (.ext (.tmp 43) 1)), none⟩,
 ⟨(some 11), (.p (.mov (.tmp 46))), none⟩,
 ⟨(some 12), (.p (.mov (.tmp 47))), none⟩])
 (.seq (.reg [⟨(some 48), (.p (.mov (.tmp 12))), none⟩,
 ⟨(some 49), (.p (.ibin .neq (.tmp 48) (.cst (.int .i64 0)))), none⟩,
 ⟨(some 50), (.p (.mov (.tmp 49))), none⟩,
 ⟨(some 51), (.p (.mov (.tmp 11))), (some (50, false))⟩,
 ⟨(some 52), (.p (.mov (.tmp 0))), (some (50, false))⟩,
 ⟨(some 53), (.p (.ibin .neq (.tmp 51) (.tmp 52))), (some (50, false))⟩,
 ⟨(some 54), (.p (.pick (.tmp 50) (.cst (.bool true)) (.tmp 53))), none⟩,
 ⟨(some 55), (.p (.mov (.tmp 54))), none⟩,
 ⟨(some 56), (.p (.mov (.tmp 9))), (some (55, false))⟩,
 ⟨(some 57), (.p (.lenStr (.tmp 56))), (some (55, false))⟩,
 ⟨(some 58), (.p (.mov (.tmp 1))), (some (55, false))⟩,
 ⟨(some 59), (.p (.ibin .neq (.tmp 57) (.tmp 58))), (some (55, false))⟩,
 ⟨(some 60), (.p (.pick (.tmp 55) (.cst (.bool true)) (.tmp 59))), none⟩])
 (.cond (.tmp 60) (.seq (.reg [⟨(some 8), (.p (.mov (.cst (.bool false)))), none⟩])
 .ret)
 .skip)))
 .skip))
 (.seq (.reg [⟨(some 62), (.p (.mov (.tmp 2))), none⟩,
 ⟨(some 63), (.r (.pcall (.cst (.fn 12 [] [])) [(.tmp 62)])), none⟩,
 ⟨(some 61), (.p (.mov (.tmp 63))), none⟩,
 ⟨(some 64), (.p (.ext (.tmp 61) 0)), none⟩,
 ⟨(some 65), (.p (.ext (.tmp 61) 1)), none⟩,
 ⟨(some 13), (.p (.mov (.tmp 64))), none⟩,
 ⟨(some 14), (.p (.mov (.tmp 65))), none⟩])
 (.seq (.seq (.reg [⟨(some 66), (.p (.mov (.tmp 14))), none⟩,
 ⟨(some 67), (.p (.ibin .eql (.tmp 66) (.cst (.int .i64 0)))), none⟩])
 (.cond (.tmp 67) (.seq (.reg [⟨(some 69), (.p (.mov (.tmp 13))), none⟩,
 ⟨(some 70), (.p (.mov (.tmp 2))), none⟩,
 ⟨(some 71), (.p (.lenStr (.tmp 70))), none⟩,
 ⟨(some 72), (.r (.pcall (.cst (.fn 14 [] [])) [(.tmp 69), (.tmp 71)])), none⟩,
 ⟨(some 68), (.p (.mov (.tmp 72))), none⟩,
 ⟨(some 73), (.p (.ext (.tmp 68) 0)), none⟩,
 ⟨(some 74), (.p (.ext (.tmp 68) 1)), none⟩,
 ⟨(some 15), (.p (.mov (.tmp 73))), none⟩,
 ⟨(some 16), (.p (.mov (.tmp 74))), none⟩])
 (.seq (.reg [⟨(some 75), (.p (.mov (.tmp 16))), none⟩,
 ⟨(some 76), (.p (.ibin .neq (.tmp 75) (.cst (.int .i64 0)))), none⟩,
 ⟨(some 77), (.p (.mov (.tmp 76))), none⟩,
 ⟨(some 78), (.p (.mov (.tmp 15))), (some (77, false))⟩,
 ⟨(some 79), (.p (.mov (.tmp 2))), (some (77, false))⟩,
 ⟨(some 80), (.p (.ibin .neq (.tmp 78) (.tmp 79))), (some (77, false))⟩,
 ⟨(some 81), (.p (.pick (.tmp 77) (.cst (.bool true)) (.tmp 80))), none⟩,
 ⟨(some 82), (.p (.mov (.tmp 81))), none⟩,
 ⟨(some 83), (.p (.mov (.tmp 13))), (some (82, false))⟩,
 ⟨(some 84), (.p (.len (.tmp 83))), (some (82, false))⟩,
 ⟨(some 85), (.p (.mov (.tmp 2))), (some (82, false))⟩,
 ⟨(some 86), (.p (.lenStr (.tmp 85))), (some (82, false))⟩,
 ⟨(some 87), (.p (.ibin .add (.tmp 86) (.cst (.int .i64 1)))), (some (82, false))⟩,
 ⟨(some 88), (.p (.ibin .quo (.tmp 87) (.cst (.int .i64 2)))), (some (82, false))⟩,
 ⟨(some 89), (.p (.ibin .neq (.tmp 84) (.tmp 88))), (some (82, false))⟩,
 ⟨(some 90), (.p (.pick (.tmp 82) (.cst (.bool true)) (.tmp 89))), none⟩])
 (.cond (.tmp 90) (.seq (.reg [⟨(some 8), (.p (.mov (.cst (.bool false)))), none⟩])
 .ret)
 .skip)))
 .skip))
 (.seq (.reg [⟨(some 92), (.p (.mov (.tmp 3))), none⟩,
 ⟨(some 93), (.r (.pcall (.cst (.fn 21 [] [])) [(.tmp 92)])), none⟩,
 ⟨(some 94), (.r (.pcall (.cst (.fn 16 [] [])) [(.tmp 93)])), none⟩,
 ⟨(some 91), (.p (.mov (.tmp 94))), none⟩,
 ⟨(some 95), (.p (.ext (.tmp 91) 0)), none⟩,
 ⟨(some 96), (.p (.ext (.tmp 91) 1)), none⟩,
 ⟨(some 17), (.p (.mov (.tmp 95))), none⟩,
 ⟨(some 18), (.p (.mov (.tmp 96))), none⟩])
 (.seq (.reg [⟨(some 97), (.r (.pcall (.cst (.fn 8 [] [])) [])), none⟩,
 ⟨(some 98), (.p (.mov (.tmp 97))), none⟩,
 ⟨(some 99), (.p (.mov (.tmp 10))), (some (98, true))⟩,
 ⟨(some 100), (.p (.ibin .eql (.tmp 99) (.cst (.int .i64 0)))), (some (98, true))⟩,
 ⟨(some 101), (.p (.mov (.tmp 100))), (some (98, true))⟩,
 ⟨(some 102), (.p (.mov (.tmp 10))), (some (101, false))⟩,
 ⟨(some 103), (.p (.ibin .eql (.tmp 102) (.cst (.int .i64 4)))), (some (101, false))⟩,
 ⟨(some 104), (.p (.pick (.tmp 101) (.cst (.bool true)) (.tmp 103))), (some (98, true))⟩,
 ⟨(some 105), (.p (.pick (.tmp 98) (.tmp 104) (.cst (.bool false)))), none⟩,
 ⟨(some 106), (.p (.mov (.tmp 105))), none⟩,
 ⟨(some 107), (.p (.mov (.tmp 18))), (some (106, true))⟩,
 ⟨(some 108), (.p (.ibin .eql (.tmp 107) (.cst (.int .i64 0)))), (some (106, true))⟩,
 ⟨(some 109), (.p (.pick (.tmp 106) (.tmp 108) (.cst (.bool false)))), none⟩,
 ⟨(some 110), (.p (.mov (.tmp 109))), none⟩,
 ⟨(some 111), (.p (.mov (.tmp 17))), (some (110, true))⟩,
 ⟨(some 112), (.p (.mov (.tmp 3))), (some (110, true))⟩,
 ⟨(some 113), (.r (.pcall (.cst (.fn 20 [] [])) [(.tmp 111), (.tmp 112)])), (some (110, true))⟩,
 ⟨(some 114), (.p (.pick (.tmp 110) (.tmp 113) (.cst (.bool false)))), none⟩,
 ⟨(some 115), (.p (.mov (.tmp 114))), none⟩,
 ⟨(some 116), (.p (.mov (.tmp 14))), (some (115, true))⟩,
 ⟨(some 117), (.p (.ibin .eql (.tmp 116) (.cst (.int .i64 0)))), (some (115, true))⟩,
 ⟨(some 118), (.p (.mov (.tmp 2))), (some (115, true))⟩,
 ⟨(some 119), (.r (.pcall (.cst (.fn 18 [] [])) [(.tmp 118), (.cst (.int .i64 0)), (.cst (.int .i64 100))])), (some (115, true))⟩,
 ⟨(some 120), (.p (.beq false (.tmp 117) (.tmp 119))), (some (115, true))⟩,
 ⟨(some 121), (.p (.pick (.tmp 115) (.tmp 120) (.cst (.bool false)))), none⟩,
 ⟨(some 8), (.p (.mov (.tmp 121))), none⟩])
 .ret))))))))))
def f5 : VF := { body := b5, res := [(.tmp 8)] }
-- comptoir/comptoirhelp.Digits
def b6 : VC := (.seq (.reg [⟨(some 2), (.p (.mov (.cst (.str [])))), none⟩])
 (.seq (.seq (.reg [⟨(some 3), (.p (.mov (.tmp 0))), none⟩,
 ⟨(some 4), (.p (.ibin .lss (.tmp 3) (.cst (.int .u64 10)))), none⟩])
 (.cond (.tmp 4) (.seq (.reg [⟨(some 5), (.p (.mov (.tmp 0))), none⟩,
 ⟨(some 6), (.p (.ibin .add (.cst (.int .u64 48)) (.tmp 5))), none⟩,
 ⟨(some 7), (.p (.conv (.toInt .u8) (.tmp 6))), none⟩,
 ⟨(some 8), (.p (.lit 1 (.int .u8 0) 1 [(0, (.tmp 7))])), none⟩,
 ⟨(some 9), (.r (.bytesStr (.tmp 8))), none⟩,
 ⟨(some 2), (.p (.mov (.tmp 9))), none⟩])
 .ret)
 .skip))
 (.seq (.draw [(⟨(some 10), (.p (.mov (.tmp 0))), none⟩, 0, 0),
 (⟨(some 11), (.p (.ibin .quo (.tmp 10) (.cst (.int .u64 10)))), none⟩, 0, 0),
 (⟨(some 12), (.r (.pcall (.cst (.fn 6 [] [])) [(.tmp 11)])), none⟩, 0, 0),
 (⟨(some 13), (.p (.mov (.tmp 0))), none⟩, 0, 0),
 (⟨(some 14), (.p (.ibin .rem (.tmp 13) (.cst (.int .u64 10)))), none⟩, 0, 0),
 (⟨(some 15), (.p (.ibin .add (.cst (.int .u64 48)) (.tmp 14))), none⟩, 0, 0),
 (⟨(some 16), (.p (.conv (.toInt .u8) (.tmp 15))), none⟩, 0, 0),
 (⟨(some 17), (.p (.lit 1 (.int .u8 0) 1 [(0, (.tmp 16))])), none⟩, 0, 0),
 (⟨(some 18), (.r (.bytesStr (.tmp 17))), none⟩, 0, 0),
 (⟨(some 19), (.p (.ibin .add (.tmp 12) (.tmp 18))), none⟩, 0, 0),
 (⟨(some 2), (.p (.mov (.tmp 19))), none⟩, 0, 0)])
 .ret)))
def f6 : VF := { body := b6, res := [(.tmp 2)] }
-- comptoir/digits.Text
def b7 : VC := (.seq (.reg [⟨(some 4), (.p (.mov (.cst (.str [])))), none⟩,
 ⟨(some 5), (.p (.mov (.cst (.int .i64 0)))), none⟩])
 (.seq (.seq (.reg [⟨(some 7), (.p (.mov (.tmp 1))), none⟩,
 ⟨(some 8), (.p (.ibin .lss (.tmp 7) (.cst (.int .i64 1)))), none⟩,
 ⟨(some 9), (.p (.mov (.tmp 8))), none⟩,
 ⟨(some 10), (.p (.mov (.tmp 1))), (some (9, false))⟩,
 ⟨(some 11), (.p (.ibin .gtr (.tmp 10) (.cst (.int .i64 20)))), (some (9, false))⟩,
 ⟨(some 12), (.p (.pick (.tmp 9) (.cst (.bool true)) (.tmp 11))), none⟩])
 (.cond (.tmp 12) (.seq (.reg [⟨(some 4), (.p (.mov (.cst (.str [])))), none⟩,
 ⟨(some 5), (.p (.mov (.cst (.int .i64 1)))), none⟩])
 .ret)
 .skip))
 (.seq (.reg [⟨(some 13), (.p (.mov (.tmp 0))), none⟩,
 ⟨(some 14), (.r (.pcall (.cst (.fn 23 [] [])) [(.tmp 13), (.cst (.int .i64 10))])), none⟩,
 ⟨(some 6), (.p (.mov (.tmp 14))), none⟩])
 (.seq (.seq (.reg [⟨(some 15), (.p (.mov (.tmp 6))), none⟩,
 ⟨(some 16), (.p (.lenStr (.tmp 15))), none⟩,
 ⟨(some 17), (.p (.mov (.tmp 1))), none⟩,
 ⟨(some 18), (.p (.ibin .gtr (.tmp 16) (.tmp 17))), none⟩])
 (.cond (.tmp 18) (.seq (.reg [⟨(some 4), (.p (.mov (.cst (.str [])))), none⟩,
 ⟨(some 5), (.p (.mov (.cst (.int .i64 4)))), none⟩])
 .ret)
 .skip))
 (.seq (.reg [⟨(some 19), (.p (.mov (.tmp 1))), none⟩,
 ⟨(some 20), (.p (.mov (.tmp 6))), none⟩,
 ⟨(some 21), (.p (.lenStr (.tmp 20))), none⟩,
 ⟨(some 22), (.p (.ibin .sub (.tmp 19) (.tmp 21))), none⟩,
 ⟨(some 23), (.r (.pcall (.cst (.fn 24 [] [])) [(.cst (.str [48])), (.tmp 22)])), none⟩,
 ⟨(some 24), (.p (.mov (.tmp 6))), none⟩,
 ⟨(some 25), (.p (.ibin .add (.tmp 23) (.tmp 24))), none⟩,
 ⟨(some 4), (.p (.mov (.tmp 25))), none⟩,
 ⟨(some 5), (.p (.mov (.cst (.int .i64 0)))), none⟩])
 .ret)))))
def f7 : VF := { body := b7, res := [(.tmp 4), (.tmp 5)] }
-- comptoir/comptoirlaw02.awake
def b8 : VC := (.seq (.reg [⟨(some 0), (.p (.mov (.cst (.bool false)))), none⟩])
 (.seq (.reg [⟨(some 4), (.r (.pcall (.cst (.fn 12 [] [])) [(.cst (.str [49, 50, 51]))])), none⟩,
 ⟨(some 3), (.p (.mov (.tmp 4))), none⟩,
 ⟨(some 5), (.p (.ext (.tmp 3) 0)), none⟩,
 ⟨(some 6), (.p (.ext (.tmp 3) 1)), none⟩,
 ⟨(some 1), (.p (.mov (.tmp 5))), none⟩,
 ⟨(some 2), (.p (.mov (.tmp 6))), none⟩])
 (.seq (.reg [⟨(some 7), (.p (.mov (.tmp 2))), none⟩,
 ⟨(some 8), (.p (.ibin .eql (.tmp 7) (.cst (.int .i64 0)))), none⟩,
 ⟨(some 9), (.p (.mov (.tmp 8))), none⟩,
 ⟨(some 10), (.p (.mov (.tmp 1))), (some (9, true))⟩,
 ⟨(some 11), (.p (.lit 1 (.int .u8 0) 2 [(0, (.cst (.int .u8 1))), (1, (.cst (.int .u8 35)))])), (some (9, true))⟩,
 ⟨(some 12), (.r (.pcall (.cst (.fn 20 [] [])) [(.tmp 10), (.tmp 11)])), (some (9, true))⟩,
 ⟨(some 13), (.p (.pick (.tmp 9) (.tmp 12) (.cst (.bool false)))), none⟩,
 ⟨(some 14), (.p (.mov (.tmp 13))), none⟩,
 ⟨(some 15), (.r (.pcall (.cst (.fn 18 [] [])) [(.cst (.str [53])), (.cst (.int .i64 1)), (.cst (.int .i64 1))])), (some (14, true))⟩,
 ⟨(some 16), (.p (.pick (.tmp 14) (.tmp 15) (.cst (.bool false)))), none⟩,
 ⟨(some 17), (.p (.mov (.tmp 16))), none⟩,
 ⟨(some 18), (.p (.lit 1 (.int .u8 0) 1 [(0, (.cst (.int .u8 171)))])), (some (17, true))⟩,
 ⟨(some 19), (.r (.pcall (.cst (.fn 21 [] [])) [(.tmp 18)])), (some (17, true))⟩,
 ⟨(some 20), (.p (.ibin .eql (.tmp 19) (.cst (.str [65, 66])))), (some (17, true))⟩,
 ⟨(some 21), (.p (.pick (.tmp 17) (.tmp 20) (.cst (.bool false)))), none⟩,
 ⟨(some 0), (.p (.mov (.tmp 21))), none⟩])
 .ret)))
def f8 : VF := { body := b8, res := [(.tmp 0)] }
-- comptoir/digits.Number
def b9 : VC := (.seq (.reg [⟨(some 2), (.p (.mov (.cst (.int .u64 0)))), none⟩,
 ⟨(some 3), (.p (.mov (.cst (.int .i64 0)))), none⟩])
 (.seq (.seq (.reg [⟨(some 6), (.p (.mov (.tmp 0))), none⟩,
 ⟨(some 7), (.r (.pcall (.cst (.fn 18 [] [])) [(.tmp 6), (.cst (.int .i64 1)), (.cst (.int .i64 18))])), none⟩,
 ⟨(some 8), (.p (.un .not (.tmp 7))), none⟩])
 (.cond (.tmp 8) (.seq (.reg [⟨(some 2), (.p (.mov (.cst (.int .u64 0)))), none⟩,
 ⟨(some 3), (.p (.mov (.cst (.int .i64 5)))), none⟩])
 .ret)
 .skip))
 (.seq (.reg [⟨(some 4), (.p (.mov (.cst (.int .u64 0)))), none⟩])
 (.seq (.seq (.reg [⟨(some 9), (.p (.mov (.tmp 0))), none⟩,
 ⟨(some 10), (.p (.lenStr (.tmp 9))), none⟩,
 ⟨(some 11), (.p (.mov (.cst (.int .i64 0)))), none⟩])
 (.block 0 (.loop (.seq (.reg [⟨(some 12), (.p (.ibin .lss (.tmp 11) (.tmp 10))), none⟩])
 (.seq (.cond (.tmp 12) .skip
 (.exit 0))
 (.seq (.block 1 (.seq (.reg [⟨(some 13), (.p (.mov (.tmp 11))), none⟩,
 ⟨(some 5), (.p (.mov (.tmp 13))), none⟩])
 (.reg [⟨(some 14), (.p (.mov (.tmp 4))), none⟩,
 ⟨(some 15), (.p (.ibin .mul (.tmp 14) (.cst (.int .u64 10)))), none⟩,
 ⟨(some 16), (.p (.mov (.tmp 0))), none⟩,
 ⟨(some 17), (.p (.mov (.tmp 5))), none⟩,
 ⟨(some 18), (.p (.idxStr (.tmp 16) (.tmp 17))), none⟩,
 ⟨(some 19), (.p (.ibin .sub (.tmp 18) (.cst (.int .u8 48)))), none⟩,
 ⟨(some 20), (.p (.conv (.toInt .u64) (.tmp 19))), none⟩,
 ⟨(some 21), (.p (.ibin .add (.tmp 15) (.tmp 20))), none⟩,
 ⟨(some 4), (.p (.mov (.tmp 21))), none⟩])))
 (.reg [⟨(some 22), (.p (.ibin .add (.tmp 11) (.cst (.int .i64 1)))), none⟩,
 ⟨(some 11), (.p (.mov (.tmp 22))), none⟩])))))))
 (.seq (.reg [⟨(some 23), (.p (.mov (.tmp 4))), none⟩,
 ⟨(some 2), (.p (.mov (.tmp 23))), none⟩,
 ⟨(some 3), (.p (.mov (.cst (.int .i64 0)))), none⟩])
 .ret)))))
def f9 : VF := { body := b9, res := [(.tmp 2), (.tmp 3)] }
-- comptoir/comptoirref01.Number
def b10 : VC := (.seq (.reg [⟨(some 2), (.p (.mov (.cst (.int .u64 0)))), none⟩,
 ⟨(some 3), (.p (.mov (.cst (.int .i64 0)))), none⟩])
 (.seq (.seq (.reg [⟨(some 6), (.p (.mov (.tmp 0))), none⟩,
 ⟨(some 7), (.r (.pcall (.cst (.fn 19 [] [])) [(.tmp 6), (.cst (.int .i64 1)), (.cst (.int .i64 18))])), none⟩,
 ⟨(some 8), (.p (.un .not (.tmp 7))), none⟩])
 (.cond (.tmp 8) (.seq (.reg [⟨(some 2), (.p (.mov (.cst (.int .u64 0)))), none⟩,
 ⟨(some 3), (.p (.mov (.cst (.int .i64 5)))), none⟩])
 .ret)
 .skip))
 (.seq (.reg [⟨(some 4), (.p (.mov (.cst (.int .u64 0)))), none⟩])
 (.seq (.seq (.reg [⟨(some 5), (.p (.mov (.cst (.int .i64 0)))), none⟩])
 (.block 0 (.loop (.seq (.seq (.reg [⟨(some 9), (.p (.mov (.tmp 5))), none⟩,
 ⟨(some 10), (.p (.mov (.tmp 0))), none⟩,
 ⟨(some 11), (.p (.lenStr (.tmp 10))), none⟩,
 ⟨(some 12), (.p (.ibin .lss (.tmp 9) (.tmp 11))), none⟩])
 (.cond (.tmp 12) .skip
 (.exit 0)))
 (.seq (.block 1 (.reg [⟨(some 15), (.p (.mov (.tmp 4))), none⟩,
 ⟨(some 16), (.p (.ibin .mul (.tmp 15) (.cst (.int .u64 10)))), none⟩,
 ⟨(some 17), (.p (.mov (.tmp 0))), none⟩,
 ⟨(some 18), (.p (.mov (.tmp 5))), none⟩,
 ⟨(some 19), (.p (.idxStr (.tmp 17) (.tmp 18))), none⟩,
 ⟨(some 20), (.p (.ibin .sub (.tmp 19) (.cst (.int .u8 48)))), none⟩,
 ⟨(some 21), (.p (.conv (.toInt .u64) (.tmp 20))), none⟩,
 ⟨(some 22), (.p (.ibin .add (.tmp 16) (.tmp 21))), none⟩,
 ⟨(some 4), (.p (.mov (.tmp 22))), none⟩]))
 (.reg [⟨(some 13), (.p (.mov (.tmp 5))), none⟩,
 ⟨(some 14), (.p (.ibin .add (.tmp 13) (.cst (.int .i64 1)))), none⟩,
 ⟨(some 5), (.p (.mov (.tmp 14))), none⟩]))))))
 (.seq (.reg [⟨(some 23), (.p (.mov (.tmp 4))), none⟩,
 ⟨(some 2), (.p (.mov (.tmp 23))), none⟩,
 ⟨(some 3), (.p (.mov (.cst (.int .i64 0)))), none⟩])
 .ret)))))
def f10 : VF := { body := b10, res := [(.tmp 2), (.tmp 3)] }
-- comptoir/comptoirref01.Digits
def b11 : VC := (.seq (.reg [⟨(some 4), (.p (.mov (.cst (.str [])))), none⟩,
 ⟨(some 5), (.p (.mov (.cst (.int .i64 0)))), none⟩])
 (.seq (.seq (.reg [⟨(some 7), (.p (.mov (.tmp 1))), none⟩,
 ⟨(some 8), (.p (.ibin .lss (.tmp 7) (.cst (.int .i64 1)))), none⟩,
 ⟨(some 9), (.p (.mov (.tmp 8))), none⟩,
 ⟨(some 10), (.p (.mov (.tmp 1))), (some (9, false))⟩,
 ⟨(some 11), (.p (.ibin .gtr (.tmp 10) (.cst (.int .i64 20)))), (some (9, false))⟩,
 ⟨(some 12), (.p (.pick (.tmp 9) (.cst (.bool true)) (.tmp 11))), none⟩])
 (.cond (.tmp 12) (.seq (.reg [⟨(some 4), (.p (.mov (.cst (.str [])))), none⟩,
 ⟨(some 5), (.p (.mov (.cst (.int .i64 1)))), none⟩])
 .ret)
 .skip))
 (.seq (.reg [⟨(some 13), (.p (.mov (.tmp 0))), none⟩,
 ⟨(some 14), (.r (.pcall (.cst (.fn 6 [] [])) [(.tmp 13)])), none⟩,
 ⟨(some 6), (.p (.mov (.tmp 14))), none⟩])
 (.seq (.seq (.reg [⟨(some 15), (.p (.mov (.tmp 6))), none⟩,
 ⟨(some 16), (.p (.lenStr (.tmp 15))), none⟩,
 ⟨(some 17), (.p (.mov (.tmp 1))), none⟩,
 ⟨(some 18), (.p (.ibin .gtr (.tmp 16) (.tmp 17))), none⟩])
 (.cond (.tmp 18) (.seq (.reg [⟨(some 4), (.p (.mov (.cst (.str [])))), none⟩,
 ⟨(some 5), (.p (.mov (.cst (.int .i64 4)))), none⟩])
 .ret)
 .skip))
 (.seq (.block 0 (.loop (.seq (.seq (.reg [⟨(some 19), (.p (.mov (.tmp 6))), none⟩,
 ⟨(some 20), (.p (.lenStr (.tmp 19))), none⟩,
 ⟨(some 21), (.p (.mov (.tmp 1))), none⟩,
 ⟨(some 22), (.p (.ibin .lss (.tmp 20) (.tmp 21))), none⟩])
 (.cond (.tmp 22) .skip
 (.exit 0)))
 (.block 1 (.reg [⟨(some 23), (.p (.mov (.tmp 6))), none⟩,
 ⟨(some 24), (.p (.ibin .add (.cst (.str [48])) (.tmp 23))), none⟩,
 ⟨(some 6), (.p (.mov (.tmp 24))), none⟩])))))
 (.seq (.reg [⟨(some 25), (.p (.mov (.tmp 6))), none⟩,
 ⟨(some 4), (.p (.mov (.tmp 25))), none⟩,
 ⟨(some 5), (.p (.mov (.cst (.int .i64 0)))), none⟩])
 .ret))))))
def f11 : VF := { body := b11, res := [(.tmp 4), (.tmp 5)] }
-- comptoir/digits.Bcd
def b12 : VC := (.seq (.reg [⟨(some 2), (.p (.mov (.cst .nilsl))), none⟩,
 ⟨(some 3), (.p (.mov (.cst (.int .i64 0)))), none⟩])
 (.seq (.seq (.reg [⟨(some 6), (.p (.mov (.tmp 0))), none⟩,
 ⟨(some 7), (.r (.pcall (.cst (.fn 18 [] [])) [(.tmp 6), (.cst (.int .i64 0)), (.cst (.int .i64 100))])), none⟩,
 ⟨(some 8), (.p (.un .not (.tmp 7))), none⟩])
 (.cond (.tmp 8) (.seq (.reg [⟨(some 2), (.p (.mov (.cst .nilsl))), none⟩,
 ⟨(some 3), (.p (.mov (.cst (.int .i64 5)))), none⟩])
 .ret)
 .skip))
 (.seq (.seq (.reg [⟨(some 9), (.p (.mov (.tmp 0))), none⟩,
 ⟨(some 10), (.p (.lenStr (.tmp 9))), none⟩,
 ⟨(some 11), (.p (.ibin .rem (.tmp 10) (.cst (.int .i64 2)))), none⟩,
 ⟨(some 12), (.p (.ibin .eql (.tmp 11) (.cst (.int .i64 1)))), none⟩])
 (.cond (.tmp 12) (.reg [⟨(some 13), (.p (.mov (.tmp 0))), none⟩,
 ⟨(some 14), (.p (.ibin .add (.cst (.str [48])) (.tmp 13))), none⟩,
 ⟨(some 0), (.p (.mov (.tmp 14))), none⟩])
 .skip))
 (.seq (.reg [⟨(some 4), (.p (.mov (.cst .nilsl))), none⟩])
 (.seq (.seq (.reg [⟨(some 5), (.p (.mov (.cst (.int .i64 0)))), none⟩])
 (.block 0 (.loop (.seq (.seq (.reg [⟨(some 15), (.p (.mov (.tmp 5))), none⟩,
 ⟨(some 16), (.p (.mov (.tmp 0))), none⟩,
 ⟨(some 17), (.p (.lenStr (.tmp 16))), none⟩,
 ⟨(some 18), (.p (.ibin .lss (.tmp 15) (.tmp 17))), none⟩])
 (.cond (.tmp 18) .skip
 (.exit 0)))
 (.seq (.block 1 (.draw [(⟨(some 21), (.p (.mov (.tmp 4))), none⟩, 0, 0),
 (⟨(some 22), (.p (.mov (.tmp 0))), none⟩, 0, 0),
 (⟨(some 23), (.p (.mov (.tmp 5))), none⟩, 0, 0),
 (⟨(some 24), (.p (.idxStr (.tmp 22) (.tmp 23))), none⟩, 0, 0),
 (⟨(some 25), (.p (.ibin .sub (.tmp 24) (.cst (.int .u8 48)))), none⟩, 0, 0),
 (⟨(some 26), (.p (.ibin .shl (.tmp 25) (.cst (.int .u64 4)))), none⟩, 0, 0),
 (⟨(some 27), (.p (.mov (.tmp 0))), none⟩, 0, 0),
 (⟨(some 28), (.p (.mov (.tmp 5))), none⟩, 0, 0),
 (⟨(some 29), (.p (.ibin .add (.tmp 28) (.cst (.int .i64 1)))), none⟩, 0, 0),
 (⟨(some 30), (.p (.idxStr (.tmp 27) (.tmp 29))), none⟩, 0, 0),
 (⟨(some 31), (.p (.ibin .sub (.tmp 30) (.cst (.int .u8 48)))), none⟩, 0, 0),
 (⟨(some 32), (.p (.ibin .or (.tmp 26) (.tmp 31))), none⟩, 0, 0),
 (⟨(some 33), (.p (.lit 1 (.int .u8 0) 1 [(0, (.tmp 32))])), none⟩, 0, 0),
 (⟨(some 34), (.w (.append 1 1 (.tmp 21) (.tmp 33))), none⟩, 0, 0),
 (⟨(some 4), (.p (.mov (.tmp 34))), none⟩, 1, 1)]))
 (.reg [⟨(some 19), (.p (.mov (.tmp 5))), none⟩,
 ⟨(some 20), (.p (.ibin .add (.tmp 19) (.cst (.int .i64 2)))), none⟩,
 ⟨(some 5), (.p (.mov (.tmp 20))), none⟩]))))))
 (.seq (.reg [⟨(some 35), (.p (.mov (.tmp 4))), none⟩,
 ⟨(some 2), (.p (.mov (.tmp 35))), none⟩,
 ⟨(some 3), (.p (.mov (.cst (.int .i64 0)))), none⟩])
 .ret))))))
def f12 : VF := { body := b12, res := [(.tmp 2), (.tmp 3)] }
-- comptoir/comptoirref01.Bcd
def b13 : VC := (.seq (.reg [⟨(some 2), (.p (.mov (.cst .nilsl))), none⟩,
 ⟨(some 3), (.p (.mov (.cst (.int .i64 0)))), none⟩])
 (.seq (.seq (.reg [⟨(some 6), (.p (.mov (.tmp 0))), none⟩,
 ⟨(some 7), (.r (.pcall (.cst (.fn 19 [] [])) [(.tmp 6), (.cst (.int .i64 0)), (.cst (.int .i64 100))])), none⟩,
 ⟨(some 8), (.p (.un .not (.tmp 7))), none⟩])
 (.cond (.tmp 8) (.seq (.reg [⟨(some 2), (.p (.mov (.cst .nilsl))), none⟩,
 ⟨(some 3), (.p (.mov (.cst (.int .i64 5)))), none⟩])
 .ret)
 .skip))
 (.seq (.seq (.reg [⟨(some 9), (.p (.mov (.tmp 0))), none⟩,
 ⟨(some 10), (.p (.lenStr (.tmp 9))), none⟩,
 ⟨(some 11), (.p (.ibin .rem (.tmp 10) (.cst (.int .i64 2)))), none⟩,
 ⟨(some 12), (.p (.ibin .eql (.tmp 11) (.cst (.int .i64 1)))), none⟩])
 (.cond (.tmp 12) (.reg [⟨(some 13), (.p (.mov (.tmp 0))), none⟩,
 ⟨(some 14), (.p (.ibin .add (.cst (.str [48])) (.tmp 13))), none⟩,
 ⟨(some 0), (.p (.mov (.tmp 14))), none⟩])
 .skip))
 (.seq (.reg [⟨(some 4), (.p (.mov (.cst .nilsl))), none⟩])
 (.seq (.seq (.reg [⟨(some 5), (.p (.mov (.cst (.int .i64 0)))), none⟩])
 (.block 0 (.loop (.seq (.seq (.reg [⟨(some 15), (.p (.mov (.tmp 5))), none⟩,
 ⟨(some 16), (.p (.mov (.tmp 0))), none⟩,
 ⟨(some 17), (.p (.lenStr (.tmp 16))), none⟩,
 ⟨(some 18), (.p (.ibin .lss (.tmp 15) (.tmp 17))), none⟩])
 (.cond (.tmp 18) .skip
 (.exit 0)))
 (.seq (.block 1 (.draw [(⟨(some 21), (.p (.mov (.tmp 4))), none⟩, 0, 0),
 (⟨(some 22), (.p (.mov (.tmp 0))), none⟩, 0, 0),
 (⟨(some 23), (.p (.mov (.tmp 5))), none⟩, 0, 0),
 (⟨(some 24), (.p (.idxStr (.tmp 22) (.tmp 23))), none⟩, 0, 0),
 (⟨(some 25), (.p (.ibin .sub (.tmp 24) (.cst (.int .u8 48)))), none⟩, 0, 0),
 (⟨(some 26), (.p (.ibin .shl (.tmp 25) (.cst (.int .u64 4)))), none⟩, 0, 0),
 (⟨(some 27), (.p (.mov (.tmp 0))), none⟩, 0, 0),
 (⟨(some 28), (.p (.mov (.tmp 5))), none⟩, 0, 0),
 (⟨(some 29), (.p (.ibin .add (.tmp 28) (.cst (.int .i64 1)))), none⟩, 0, 0),
 (⟨(some 30), (.p (.idxStr (.tmp 27) (.tmp 29))), none⟩, 0, 0),
 (⟨(some 31), (.p (.ibin .sub (.tmp 30) (.cst (.int .u8 48)))), none⟩, 0, 0),
 (⟨(some 32), (.p (.ibin .or (.tmp 26) (.tmp 31))), none⟩, 0, 0),
 (⟨(some 33), (.p (.lit 1 (.int .u8 0) 1 [(0, (.tmp 32))])), none⟩, 0, 0),
 (⟨(some 34), (.w (.append 1 1 (.tmp 21) (.tmp 33))), none⟩, 0, 0),
 (⟨(some 4), (.p (.mov (.tmp 34))), none⟩, 1, 1)]))
 (.reg [⟨(some 19), (.p (.mov (.tmp 5))), none⟩,
 ⟨(some 20), (.p (.ibin .add (.tmp 19) (.cst (.int .i64 2)))), none⟩,
 ⟨(some 5), (.p (.mov (.tmp 20))), none⟩]))))))
 (.seq (.reg [⟨(some 35), (.p (.mov (.tmp 4))), none⟩,
 ⟨(some 2), (.p (.mov (.tmp 35))), none⟩,
 ⟨(some 3), (.p (.mov (.cst (.int .i64 0)))), none⟩])
 .ret))))))
def f13 : VF := { body := b13, res := [(.tmp 2), (.tmp 3)] }
-- comptoir/digits.UnBcd
def b14 : VC := (.seq (.reg [⟨(some 4), (.p (.mov (.cst (.str [])))), none⟩,
 ⟨(some 5), (.p (.mov (.cst (.int .i64 0)))), none⟩])
 (.seq (.reg [⟨(some 10), (.p (.mov (.tmp 0))), none⟩,
 ⟨(some 11), (.p (.len (.tmp 10))), none⟩,
 ⟨(some 12), (.p (.ibin .mul (.cst (.int .i64 2)) (.tmp 11))), none⟩,
 ⟨(some 13), (.p (.mov (.tmp 1))), none⟩,
 ⟨(some 14), (.p (.ibin .sub (.tmp 12) (.tmp 13))), none⟩,
 ⟨(some 6), (.p (.mov (.tmp 14))), none⟩])
 (.seq (.seq (.reg [⟨(some 15), (.p (.mov (.tmp 1))), none⟩,
 ⟨(some 16), (.p (.ibin .lss (.tmp 15) (.cst (.int .i64 0)))), none⟩,
 ⟨(some 17), (.p (.mov (.tmp 16))), none⟩,
 ⟨(some 18), (.p (.mov (.tmp 6))), (some (17, false))⟩,
 ⟨(some 19), (.p (.ibin .lss (.tmp 18) (.cst (.int .i64 0)))), (some (17, false))⟩,
 ⟨(some 20), (.p (.pick (.tmp 17) (.cst (.bool true)) (.tmp 19))), none⟩,
 ⟨(some 21), (.p (.mov (.tmp 20))), none⟩,
 ⟨(some 22), (.p (.mov (.tmp 6))), (some (21, false))⟩,
 ⟨(some 23), (.p (.ibin .gtr (.tmp 22) (.cst (.int .i64 1)))), (some (21, false))⟩,
 ⟨(some 24), (.p (.pick (.tmp 21) (.cst (.bool true)) (.tmp 23))), none⟩])
 (.cond (.tmp 24) (.seq (.reg [⟨(some 4), (.p (.mov (.cst (.str [])))), none⟩,
 ⟨(some 5), (.p (.mov (.cst (.int .i64 1)))), none⟩])
 .ret)
 .skip))
 (.seq (.reg [⟨(some 7), (.p (.mov (.cst .nilsl))), none⟩])
 (.seq (.seq (.reg [⟨(some 25), (.p (.mov (.tmp 0))), none⟩,
 ⟨(some 26), (.p (.len (.tmp 25))), none⟩,
 ⟨(some 27), (.p (.mov (.cst (.int .i64 0)))), none⟩])
 (.block 0 (.loop (.seq (.reg [⟨(some 28), (.p (.ibin .lss (.tmp 27) (.tmp 26))), none⟩])
 (.seq (.cond (.tmp 28) .skip
 (.exit 0))
 (.seq (.block 1 (.seq (.reg [⟨(some 29), (.p (.idxA 1 (.tmp 25) (.tmp 27))), none⟩,
 ⟨(some 30), (.r (.load none (.tmp 29))), none⟩,
 ⟨(some 9), (.p (.mov (.tmp 30))), none⟩])
 (.seq (.seq (.reg [⟨(some 31), (.p (.mov (.tmp 9))), none⟩,
 ⟨(some 32), (.p (.ibin .shr (.tmp 31) (.cst (.int .u64 4)))), none⟩,
 ⟨(some 33), (.p (.ibin .gtr (.tmp 32) (.cst (.int .u8 9)))), none⟩,
 ⟨(some 34), (.p (.mov (.tmp 33))), none⟩,
 ⟨(some 35), (.p (.mov (.tmp 9))), (some (34, false))⟩,
 ⟨(some 36), (.p (.ibin .and (.tmp 35) (.cst (.int .u8 15)))), (some (34, false))⟩,
 ⟨(some 37), (.p (.ibin .gtr (.tmp 36) (.cst (.int .u8 9)))), (some (34, false))⟩,
 ⟨(some 38), (.p (.pick (.tmp 34) (.cst (.bool true)) (.tmp 37))), none⟩])
 (.cond (.tmp 38) (.seq (.reg [⟨(some 4), (.p (.mov (.cst (.str [])))), none⟩,
 ⟨(some 5), (.p (.mov (.cst (.int .i64 5)))), none⟩])
 .ret)
 .skip))
 (.reg [⟨(some 39), (.p (.mov (.tmp 7))), none⟩,
 ⟨(some 40), (.p (.mov (.tmp 9))), none⟩,
 ⟨(some 41), (.p (.ibin .shr (.tmp 40) (.cst (.int .u64 4)))), none⟩,
 ⟨(some 42), (.p (.ibin .add (.cst (.int .u8 48)) (.tmp 41))), none⟩,
 ⟨(some 43), (.p (.mov (.tmp 9))), none⟩,
 ⟨(some 44), (.p (.ibin .and (.tmp 43) (.cst (.int .u8 15)))), none⟩,
 ⟨(some 45), (.p (.ibin .add (.cst (.int .u8 48)) (.tmp 44))), none⟩,
 ⟨(some 46), (.p (.lit 1 (.int .u8 0) 2 [(0, (.tmp 42)), (1, (.tmp 45))])), none⟩,
 ⟨(some 47), (.w (.append 1 1 (.tmp 39) (.tmp 46))), none⟩,
 ⟨(some 7), (.p (.mov (.tmp 47))), none⟩]))))
 (.reg [⟨(some 48), (.p (.ibin .add (.tmp 27) (.cst (.int .i64 1)))), none⟩,
 ⟨(some 27), (.p (.mov (.tmp 48))), none⟩])))))))
 (.seq (.seq (.reg [⟨(some 49), (.p (.mov (.tmp 6))), none⟩,
 ⟨(some 50), (.p (.ibin .eql (.tmp 49) (.cst (.int .i64 1)))), none⟩,
 ⟨(some 51), (.p (.mov (.tmp 50))), none⟩,
 ⟨(some 52), (.p (.mov (.tmp 7))), (some (51, true))⟩,
 ⟨(some 53), (.p (.idxA 1 (.tmp 52) (.cst (.int .i64 0)))), (some (51, true))⟩,
 ⟨(some 54), (.r (.load none (.tmp 53))), (some (51, true))⟩,
 ⟨(some 55), (.p (.ibin .neq (.tmp 54) (.cst (.int .u8 48)))), (some (51, true))⟩,
 ⟨(some 56), (.p (.pick (.tmp 51) (.tmp 55) (.cst (.bool false)))), none⟩])
 (.cond (.tmp 56) (.seq (.reg [⟨(some 4), (.p (.mov (.cst (.str [])))), none⟩,
 ⟨(some 5), (.p (.mov (.cst (.int .i64 5)))), none⟩])
 .ret)
 .skip))
 (.seq (.reg [⟨(some 57), (.p (.mov (.tmp 7))), none⟩,
 ⟨(some 58), (.p (.mov (.tmp 6))), none⟩,
 ⟨(some 59), (.p (.slice 1 (.tmp 57) (some (.tmp 58)) none)), none⟩,
 ⟨(some 60), (.r (.bytesStr (.tmp 59))), none⟩,
 ⟨(some 4), (.p (.mov (.tmp 60))), none⟩,
 ⟨(some 5), (.p (.mov (.cst (.int .i64 0)))), none⟩])
 .ret)))))))
def f14 : VF := { body := b14, res := [(.tmp 4), (.tmp 5)] }
-- comptoir/comptoirref01.UnBcd
def b15 : VC := (.seq (.reg [⟨(some 4), (.p (.mov (.cst (.str [])))), none⟩,
 ⟨(some 5), (.p (.mov (.cst (.int .i64 0)))), none⟩])
 (.seq (.seq (.reg [⟨(some 8), (.p (.mov (.tmp 1))), none⟩,
 ⟨(some 9), (.p (.ibin .lss (.tmp 8) (.cst (.int .i64 0)))), none⟩,
 ⟨(some 10), (.p (.mov (.tmp 9))), none⟩,
 ⟨(some 11), (.p (.mov (.tmp 1))), (some (10, false))⟩,
 ⟨(some 12), (.p (.mov (.tmp 0))), (some (10, false))⟩,
 ⟨(some 13), (.p (.len (.tmp 12))), (some (10, false))⟩,
 ⟨(some 14), (.p (.ibin .mul (.cst (.int .i64 2)) (.tmp 13))), (some (10, false))⟩,
 ⟨(some 15), (.p (.ibin .neq (.tmp 11) (.tmp 14))), (some (10, false))⟩,
 ⟨(some 16), (.p (.mov (.tmp 15))), (some (10, false))⟩,
 ⟨(some 17), (.p (.mov (.tmp 1))), (some (16, true))⟩,
 ⟨(some 18), (.p (.mov (.tmp 0))), (some (16, true))⟩,
 ⟨(some 19), (.p (.len (.tmp 18))), (some (16, true))⟩,
 ⟨(some 20), (.p (.ibin .mul (.cst (.int .i64 2)) (.tmp 19))), (some (16, true))⟩,
 ⟨(some 21), (.p (.ibin .sub (.tmp 20) (.cst (.int .i64 1)))), (some (16, true))⟩,
 ⟨(some 22), (.p (.ibin .neq (.tmp 17) (.tmp 21))), (some (16, true))⟩,
 ⟨(some 23), (.p (.pick (.tmp 16) (.tmp 22) (.cst (.bool false)))), (some (10, false))⟩,
 ⟨(some 24), (.p (.pick (.tmp 10) (.cst (.bool true)) (.tmp 23))), none⟩])
 (.cond (.tmp 24) (.seq (.reg [⟨(some 4), (.p (.mov (.cst (.str [])))), none⟩,
 ⟨(some 5), (.p (.mov (.cst (.int .i64 1)))), none⟩])
 .ret)
 .skip))
 (.seq (.reg [⟨(some 6), (.p (.mov (.cst .nilsl))), none⟩])
 (.seq (.seq (.reg [⟨(some 7), (.p (.mov (.cst (.int .i64 0)))), none⟩])
 (.block 0 (.loop (.seq (.seq (.reg [⟨(some 25), (.p (.mov (.tmp 7))), none⟩,
 ⟨(some 26), (.p (.mov (.tmp 0))), none⟩,
 ⟨(some 27), (.p (.len (.tmp 26))), none⟩,
 ⟨(some 28), (.p (.ibin .lss (.tmp 25) (.tmp 27))), none⟩])
 (.cond (.tmp 28) .skip
 (.exit 0)))
 (.seq (.block 1 (.seq (.seq (.reg [⟨(some 31), (.p (.mov (.tmp 0))), none⟩,
 ⟨(some 32), (.p (.mov (.tmp 7))), none⟩,
 ⟨(some 33), (.p (.idxA 1 (.tmp 31) (.tmp 32))), none⟩,
 ⟨(some 34), (.r (.load none (.tmp 33))), none⟩,
 ⟨(some 35), (.p (.ibin .shr (.tmp 34) (.cst (.int .u64 4)))), none⟩,
 ⟨(some 36), (.p (.ibin .gtr (.tmp 35) (.cst (.int .u8 9)))), none⟩,
 ⟨(some 37), (.p (.mov (.tmp 36))), none⟩,
 ⟨(some 38), (.p (.mov (.tmp 0))), (some (37, false))⟩,
 ⟨(some 39), (.p (.mov (.tmp 7))), (some (37, false))⟩,
 ⟨(some 40), (.p (.idxA 1 (.tmp 38) (.tmp 39))), (some (37, false))⟩,
 ⟨(some 41), (.r (.load none (.tmp 40))), (some (37, false))⟩,
 ⟨(some 42), (.p (.ibin .and (.tmp 41) (.cst (.int .u8 15)))), (some (37, false))⟩,
 ⟨(some 43), (.p (.ibin .gtr (.tmp 42) (.cst (.int .u8 9)))), (some (37, false))⟩,
 ⟨(some 44), (.p (.pick (.tmp 37) (.cst (.bool true)) (.tmp 43))), none⟩])
 (.cond (.tmp 44) (.seq (.reg [⟨(some 4), (.p (.mov (.cst (.str [])))), none⟩,
 ⟨(some 5), (.p (.mov (.cst (.int .i64 5)))), none⟩])
 .ret)
 .skip))
 (.draw [(⟨(some 45), (.p (.mov (.tmp 6))), none⟩, 0, 0),
 (⟨(some 46), (.p (.mov (.tmp 0))), none⟩, 0, 0),
 (⟨(some 47), (.p (.mov (.tmp 7))), none⟩, 0, 0),
 (⟨(some 48), (.p (.idxA 1 (.tmp 46) (.tmp 47))), none⟩, 0, 0),
 (⟨(some 49), (.r (.load none (.tmp 48))), none⟩, 0, 0),
 (⟨(some 50), (.p (.ibin .shr (.tmp 49) (.cst (.int .u64 4)))), none⟩, 0, 0),
 (⟨(some 51), (.p (.ibin .add (.cst (.int .u8 48)) (.tmp 50))), none⟩, 0, 0),
 (⟨(some 52), (.p (.mov (.tmp 0))), none⟩, 0, 0),
 (⟨(some 53), (.p (.mov (.tmp 7))), none⟩, 0, 0),
 (⟨(some 54), (.p (.idxA 1 (.tmp 52) (.tmp 53))), none⟩, 0, 0),
 (⟨(some 55), (.r (.load none (.tmp 54))), none⟩, 0, 0),
 (⟨(some 56), (.p (.ibin .and (.tmp 55) (.cst (.int .u8 15)))), none⟩, 0, 0),
 (⟨(some 57), (.p (.ibin .add (.cst (.int .u8 48)) (.tmp 56))), none⟩, 0, 0),
 (⟨(some 58), (.p (.lit 1 (.int .u8 0) 2 [(0, (.tmp 51)), (1, (.tmp 57))])), none⟩, 0, 0),
 (⟨(some 59), (.w (.append 1 1 (.tmp 45) (.tmp 58))), none⟩, 0, 0),
 (⟨(some 6), (.p (.mov (.tmp 59))), none⟩, 1, 1)])))
 (.reg [⟨(some 29), (.p (.mov (.tmp 7))), none⟩,
 ⟨(some 30), (.p (.ibin .add (.tmp 29) (.cst (.int .i64 1)))), none⟩,
 ⟨(some 7), (.p (.mov (.tmp 30))), none⟩]))))))
 (.seq (.seq (.reg [⟨(some 60), (.p (.mov (.tmp 1))), none⟩,
 ⟨(some 61), (.p (.mov (.tmp 6))), none⟩,
 ⟨(some 62), (.p (.len (.tmp 61))), none⟩,
 ⟨(some 63), (.p (.ibin .lss (.tmp 60) (.tmp 62))), none⟩])
 (.cond (.tmp 63) (.seq (.seq (.reg [⟨(some 64), (.p (.mov (.tmp 6))), none⟩,
 ⟨(some 65), (.p (.idxA 1 (.tmp 64) (.cst (.int .i64 0)))), none⟩,
 ⟨(some 66), (.r (.load none (.tmp 65))), none⟩,
 ⟨(some 67), (.p (.ibin .neq (.tmp 66) (.cst (.int .u8 48)))), none⟩])
 (.cond (.tmp 67) (.seq (.reg [⟨(some 4), (.p (.mov (.cst (.str [])))), none⟩,
 ⟨(some 5), (.p (.mov (.cst (.int .i64 5)))), none⟩])
 .ret)
 .skip))
 (.reg [⟨(some 68), (.p (.mov (.tmp 6))), none⟩,
 ⟨(some 69), (.p (.slice 1 (.tmp 68) (some (.cst (.int .i64 1))) none)), none⟩,
 ⟨(some 6), (.p (.mov (.tmp 69))), none⟩]))
 .skip))
 (.seq (.reg [⟨(some 70), (.p (.mov (.tmp 6))), none⟩,
 ⟨(some 71), (.r (.bytesStr (.tmp 70))), none⟩,
 ⟨(some 4), (.p (.mov (.tmp 71))), none⟩,
 ⟨(some 5), (.p (.mov (.cst (.int .i64 0)))), none⟩])
 .ret))))))
def f15 : VF := { body := b15, res := [(.tmp 4), (.tmp 5)] }
-- comptoir/digits.UnHex
def b16 : VC := (.seq (.reg [⟨(some 2), (.p (.mov (.cst .nilsl))), none⟩,
 ⟨(some 3), (.p (.mov (.cst (.int .i64 0)))), none⟩])
 (.seq (.reg [⟨(some 4), (.w (.alloc [.nilfn])), none⟩,
 ⟨none, (.w (.store 1 (.tmp 4) (.cst (.fn 25 [] [])))), none⟩])
 (.seq (.seq (.reg [⟨(some 7), (.p (.mov (.tmp 0))), none⟩,
 ⟨(some 8), (.p (.lenStr (.tmp 7))), none⟩,
 ⟨(some 9), (.p (.ibin .rem (.tmp 8) (.cst (.int .i64 2)))), none⟩,
 ⟨(some 10), (.p (.ibin .eql (.tmp 9) (.cst (.int .i64 1)))), none⟩,
 ⟨(some 11), (.p (.mov (.tmp 10))), none⟩,
 ⟨(some 12), (.p (.mov (.tmp 0))), (some (11, false))⟩,
 ⟨(some 13), (.p (.mkfn 27 [] [(.tmp 4)])), (some (11, false))⟩,
 ⟨(some 14), (.r (.pcall (.cst (.fn 26 [] [])) [(.tmp 12), (.tmp 13)])), (some (11, false))⟩,
 ⟨(some 15), (.p (.un .not (.tmp 14))), (some (11, false))⟩,
 ⟨(some 16), (.p (.pick (.tmp 11) (.cst (.bool true)) (.tmp 15))), none⟩])
 (.cond (.tmp 16) (.seq (.reg [⟨(some 2), (.p (.mov (.cst .nilsl))), none⟩,
 ⟨(some 3), (.p (.mov (.cst (.int .i64 5)))), none⟩])
 .ret)
 .skip))
 (.seq (.reg [⟨(some 5), (.p (.mov (.cst .nilsl))), none⟩])
 (.seq (.seq (.reg [⟨(some 6), (.p (.mov (.cst (.int .i64 0)))), none⟩])
 (.block 0 (.loop (.seq (.seq (.reg [⟨(some 17), (.p (.mov (.tmp 6))), none⟩,
 ⟨(some 18), (.p (.mov (.tmp 0))), none⟩,
 ⟨(some 19), (.p (.lenStr (.tmp 18))), none⟩,
 ⟨(some 20), (.p (.ibin .lss (.tmp 17) (.tmp 19))), none⟩])
 (.cond (.tmp 20) .skip
 (.exit 0)))
 (.seq (.block 1 (.draw [(⟨(some 23), (.p (.mov (.tmp 5))), none⟩, 0, 0),
 (⟨(some 24), (.p (.mov (.tmp 0))), none⟩, 0, 0),
 (⟨(some 25), (.p (.mov (.tmp 6))), none⟩, 0, 0),
 (⟨(some 26), (.p (.idxStr (.tmp 24) (.tmp 25))), none⟩, 0, 0),
 (⟨(some 27), (.r (.pcall (.cst (.fn 28 [] [])) [(.cst (.str [48, 49, 50, 51, 52, 53, 54, 55, 56, 57, 65, 66, 67, 68, 69, 70])), (.tmp 26)])), none⟩, 0, 0),
 (⟨(some 28), (.p (.ibin .shl (.tmp 27) (.cst (.int .u64 4)))), none⟩, 0, 0),
 (⟨(some 29), (.p (.mov (.tmp 0))), none⟩, 0, 0),
 (⟨(some 30), (.p (.mov (.tmp 6))), none⟩, 0, 0),
 (⟨(some 31), (.p (.ibin .add (.tmp 30) (.cst (.int .i64 1)))), none⟩, 0, 0),
 (⟨(some 32), (.p (.idxStr (.tmp 29) (.tmp 31))), none⟩, 0, 0),
 (⟨(some 33), (.r (.pcall (.cst (.fn 28 [] [])) [(.cst (.str [48, 49, 50, 51, 52, 53, 54, 55, 56, 57, 65, 66, 67, 68, 69, 70])), (.tmp 32)])), none⟩, 0, 0),
 (⟨(some 34), (.p (.ibin .or (.tmp 28) (.tmp 33))), none⟩, 0, 0),
 (⟨(some 35), (.p (.conv (.toInt .u8) (.tmp 34))), none⟩, 0, 0),
 (⟨(some 36), (.p (.lit 1 (.int .u8 0) 1 [(0, (.tmp 35))])), none⟩, 0, 0),
 (⟨(some 37), (.w (.append 1 1 (.tmp 23) (.tmp 36))), none⟩, 0, 0),
 (⟨(some 5), (.p (.mov (.tmp 37))), none⟩, 1, 1)]))
 (.reg [⟨(some 21), (.p (.mov (.tmp 6))), none⟩,
 ⟨(some 22), (.p (.ibin .add (.tmp 21) (.cst (.int .i64 2)))), none⟩,
 ⟨(some 6), (.p (.mov (.tmp 22))), none⟩]))))))
 (.seq (.reg [⟨(some 38), (.p (.mov (.tmp 5))), none⟩,
 ⟨(some 2), (.p (.mov (.tmp 38))), none⟩,
 ⟨(some 3), (.p (.mov (.cst (.int .i64 0)))), none⟩])
 .ret))))))
def f16 : VF := { body := b16, res := [(.tmp 2), (.tmp 3)] }
-- comptoir/comptoirref01.UnHex
def b17 : VC := (.seq (.reg [⟨(some 2), (.p (.mov (.cst .nilsl))), none⟩,
 ⟨(some 3), (.p (.mov (.cst (.int .i64 0)))), none⟩])
 (.seq (.seq (.reg [⟨(some 8), (.p (.mov (.tmp 0))), none⟩,
 ⟨(some 9), (.p (.lenStr (.tmp 8))), none⟩,
 ⟨(some 10), (.p (.ibin .rem (.tmp 9) (.cst (.int .i64 2)))), none⟩,
 ⟨(some 11), (.p (.ibin .neq (.tmp 10) (.cst (.int .i64 0)))), none⟩])
 (.cond (.tmp 11) (.seq (.reg [⟨(some 2), (.p (.mov (.cst .nilsl))), none⟩,
 ⟨(some 3), (.p (.mov (.cst (.int .i64 5)))), none⟩])
 .ret)
 .skip))
 (.seq (.reg [⟨(some 4), (.p (.mov (.cst .nilsl))), none⟩])
 (.seq (.seq (.reg [⟨(some 5), (.p (.mov (.cst (.int .i64 0)))), none⟩])
 (.block 0 (.loop (.seq (.seq (.reg [⟨(some 12), (.p (.mov (.tmp 5))), none⟩,
 ⟨(some 13), (.p (.mov (.tmp 0))), none⟩,
 ⟨(some 14), (.p (.lenStr (.tmp 13))), none⟩,
 ⟨(some 15), (.p (.ibin .lss (.tmp 12) (.tmp 14))), none⟩])
 (.cond (.tmp 15) .skip
 (.exit 0)))
 (.seq (.block 1 (.seq (.draw [(⟨(some 18), (.p (.mov (.tmp 0))), none⟩, 0, 0),
 (⟨(some 19), (.p (.mov (.tmp 5))), none⟩, 0, 0),
 (⟨(some 20), (.p (.idxStr (.tmp 18) (.tmp 19))), none⟩, 0, 0),
 (⟨(some 21), (.r (.pcall (.cst (.fn 29 [] [])) [(.tmp 20)])), none⟩, 0, 0),
 (⟨(some 22), (.p (.mov (.tmp 0))), none⟩, 0, 0),
 (⟨(some 23), (.p (.mov (.tmp 5))), none⟩, 0, 0),
 (⟨(some 24), (.p (.ibin .add (.tmp 23) (.cst (.int .i64 1)))), none⟩, 0, 0),
 (⟨(some 25), (.p (.idxStr (.tmp 22) (.tmp 24))), none⟩, 0, 0),
 (⟨(some 26), (.r (.pcall (.cst (.fn 29 [] [])) [(.tmp 25)])), none⟩, 0, 0),
 (⟨(some 6), (.p (.mov (.tmp 21))), none⟩, 0, 0),
 (⟨(some 7), (.p (.mov (.tmp 26))), none⟩, 0, 0)])
 (.seq (.seq (.reg [⟨(some 27), (.p (.mov (.tmp 6))), none⟩,
 ⟨(some 28), (.p (.ibin .gtr (.tmp 27) (.cst (.int .u8 15)))), none⟩,
 ⟨(some 29), (.p (.mov (.tmp 28))), none⟩,
 ⟨(some 30), (.p (.mov (.tmp 7))), (some (29, false))⟩,
 ⟨(some 31), (.p (.ibin .gtr (.tmp 30) (.cst (.int .u8 15)))), (some (29, false))⟩,
 ⟨(some 32), (.p (.pick (.tmp 29) (.cst (.bool true)) (.tmp 31))), none⟩])
 (.cond (.tmp 32) (.seq (.reg [⟨(some 2), (.p (.mov (.cst .nilsl))), none⟩,
 ⟨(some 3), (.p (.mov (.cst (.int .i64 5)))), none⟩])
 .ret)
 .skip))
 (.reg [⟨(some 33), (.p (.mov (.tmp 4))), none⟩,
 ⟨(some 34), (.p (.mov (.tmp 6))), none⟩,
 ⟨(some 35), (.p (.ibin .shl (.tmp 34) (.cst (.int .u64 4)))), none⟩,
 ⟨(some 36), (.p (.mov (.tmp 7))), none⟩,
 ⟨(some 37), (.p (.ibin .or (.tmp 35) (.tmp 36))), none⟩,
 ⟨(some 38), (.p (.lit 1 (.int .u8 0) 1 [(0, (.tmp 37))])), none⟩,
 ⟨(some 39), (.w (.append 1 1 (.tmp 33) (.tmp 38))), none⟩,
 ⟨(some 4), (.p (.mov (.tmp 39))), none⟩]))))
 (.reg [⟨(some 16), (.p (.mov (.tmp 5))), none⟩,
 ⟨(some 17), (.p (.ibin .add (.tmp 16) (.cst (.int .i64 2)))), none⟩,
 ⟨(some 5), (.p (.mov (.tmp 17))), none⟩]))))))
 (.seq (.reg [⟨(some 40), (.p (.mov (.tmp 4))), none⟩,
 ⟨(some 2), (.p (.mov (.tmp 40))), none⟩,
 ⟨(some 3), (.p (.mov (.cst (.int .i64 0)))), none⟩])
 .ret)))))
def f17 : VF := { body := b17, res := [(.tmp 2), (.tmp 3)] }
-- comptoir/digits.Right
def b18 : VC := (.seq (.reg [⟨(some 6), (.p (.mov (.cst (.bool false)))), none⟩])
 (.seq (.reg [⟨(some 7), (.p (.mov (.tmp 0))), none⟩,
 ⟨(some 8), (.p (.lenStr (.tmp 7))), none⟩,
 ⟨(some 9), (.p (.mov (.tmp 1))), none⟩,
 ⟨(some 10), (.p (.ibin .geq (.tmp 8) (.tmp 9))), none⟩,
 ⟨(some 11), (.p (.mov (.tmp 10))), none⟩,
 ⟨(some 12), (.p (.mov (.tmp 0))), (some (11, true))⟩,
 ⟨(some 13), (.p (.lenStr (.tmp 12))), (some (11, true))⟩,
 ⟨(some 14), (.p (.mov (.tmp 2))), (some (11, true))⟩,
 ⟨(some 15), (.p (.ibin .leq (.tmp 13) (.tmp 14))), (some (11, true))⟩,
 ⟨(some 16), (.p (.pick (.tmp 11) (.tmp 15) (.cst (.bool false)))), none⟩,
 ⟨(some 17), (.p (.mov (.tmp 16))), none⟩,
 ⟨(some 18), (.p (.mov (.tmp 0))), (some (17, true))⟩,
 ⟨(some 19), (.p (.mkfn 25 [(.cst (.str [48, 49, 50, 51, 52, 53, 54, 55, 56, 57]))] [])), (some (17, true))⟩,
 ⟨(some 20), (.r (.pcall (.cst (.fn 26 [] [])) [(.tmp 18), (.tmp 19)])), (some (17, true))⟩,
 ⟨(some 21), (.p (.pick (.tmp 17) (.tmp 20) (.cst (.bool false)))), none⟩,
 ⟨(some 6), (.p (.mov (.tmp 21))), none⟩])
 .ret))
def f18 : VF := { body := b18, res := [(.tmp 6)] }
-- comptoir/comptoirref01.Right
def b19 : VC := (.seq (.reg [⟨(some 6), (.p (.mov (.cst (.bool false)))), none⟩])
 (.seq (.seq (.reg [⟨(some 7), (.p (.mov (.cst (.int .i64 0)))), none⟩])
 (.block 0 (.loop (.seq (.seq (.reg [⟨(some 8), (.p (.mov (.tmp 7))), none⟩,
 ⟨(some 9), (.p (.mov (.tmp 0))), none⟩,
 ⟨(some 10), (.p (.lenStr (.tmp 9))), none⟩,
 ⟨(some 11), (.p (.ibin .lss (.tmp 8) (.tmp 10))), none⟩])
 (.cond (.tmp 11) .skip
 (.exit 0)))
 (.seq (.block 1 (.seq (.reg [⟨(some 14), (.p (.mov (.tmp 0))), none⟩,
 ⟨(some 15), (.p (.mov (.tmp 7))), none⟩,
 ⟨(some 16), (.p (.idxStr (.tmp 14) (.tmp 15))), none⟩,
 ⟨(some 17), (.p (.ibin .lss (.tmp 16) (.cst (.int .u8 48)))), none⟩,
 ⟨(some 18), (.p (.mov (.tmp 17))), none⟩,
 ⟨(some 19), (.p (.mov (.tmp 0))), (some (18, false))⟩,
 ⟨(some 20), (.p (.mov (.tmp 7))), (some (18, false))⟩,
 ⟨(some 21), (.p (.idxStr (.tmp 19) (.tmp 20))), (some (18, false))⟩,
 ⟨(some 22), (.p (.ibin .gtr (.tmp 21) (.cst (.int .u8 57)))), (some (18, false))⟩,
 ⟨(some 23), (.p (.pick (.tmp 18) (.cst (.bool true)) (.tmp 22))), none⟩])
 (.cond (.tmp 23) (.seq (.reg [⟨(some 6), (.p (.mov (.cst (.bool false)))), none⟩])
 .ret)
 .skip)))
 (.reg [⟨(some 12), (.p (.mov (.tmp 7))), none⟩,
 ⟨(some 13), (.p (.ibin .add (.tmp 12) (.cst (.int .i64 1)))), none⟩,
 ⟨(some 7), (.p (.mov (.tmp 13))), none⟩]))))))
 (.seq (.reg [⟨(some 24), (.p (.mov (.tmp 0))), none⟩,
 ⟨(some 25), (.p (.lenStr (.tmp 24))), none⟩,
 ⟨(some 26), (.p (.mov (.tmp 1))), none⟩,
 ⟨(some 27), (.p (.ibin .geq (.tmp 25) (.tmp 26))), none⟩,
 ⟨(some 28), (.p (.mov (.tmp 27))), none⟩,
 ⟨(some 29), (.p (.mov (.tmp 0))), (some (28, true))⟩,
 ⟨(some 30), (.p (.lenStr (.tmp 29))), (some (28, true))⟩,
 ⟨(some 31), (.p (.mov (.tmp 2))), (some (28, true))⟩,
 ⟨(some 32), (.p (.ibin .leq (.tmp 30) (.tmp 31))), (some (28, true))⟩,
 ⟨(some 33), (.p (.pick (.tmp 28) (.tmp 32) (.cst (.bool false)))), none⟩,
 ⟨(some 6), (.p (.mov (.tmp 33))), none⟩])
 .ret)))
def f19 : VF := { body := b19, res := [(.tmp 6)] }
-- comptoir/comptoirhelp.Bytes
def b20 : VC := (.seq (.reg [⟨(some 4), (.p (.mov (.cst (.bool false)))), none⟩])
 (.seq (.reg [⟨(some 5), (.p (.mov (.tmp 0))), none⟩,
 ⟨(some 6), (.r (.bytesStr (.tmp 5))), none⟩,
 ⟨(some 7), (.p (.mov (.tmp 1))), none⟩,
 ⟨(some 8), (.r (.bytesStr (.tmp 7))), none⟩,
 ⟨(some 9), (.p (.ibin .eql (.tmp 6) (.tmp 8))), none⟩,
 ⟨(some 4), (.p (.mov (.tmp 9))), none⟩])
 .ret))
def f20 : VF := { body := b20, res := [(.tmp 4)] }
-- comptoir/comptoirref01.Hex
def b22 : VC := (.seq (.reg [⟨(some 2), (.p (.mov (.cst (.str [])))), none⟩])
 (.seq (.reg [⟨(some 3), (.p (.mov (.cst (.str [])))), none⟩])
 (.seq (.seq (.reg [⟨(some 4), (.p (.mov (.cst (.int .i64 0)))), none⟩])
 (.block 0 (.loop (.seq (.seq (.reg [⟨(some 5), (.p (.mov (.tmp 4))), none⟩,
 ⟨(some 6), (.p (.mov (.tmp 0))), none⟩,
 ⟨(some 7), (.p (.len (.tmp 6))), none⟩,
 ⟨(some 8), (.p (.ibin .lss (.tmp 5) (.tmp 7))), none⟩])
 (.cond (.tmp 8) .skip
 (.exit 0)))
 (.seq (.block 1 (.draw [(⟨(some 11), (.p (.mov (.tmp 3))), none⟩, 0, 0),
 (⟨(some 12), (.p (.mov (.tmp 0))), none⟩, 0, 0),
 (⟨(some 13), (.p (.mov (.tmp 4))), none⟩, 0, 0),
 (⟨(some 14), (.p (.idxA 1 (.tmp 12) (.tmp 13))), none⟩, 0, 0),
 (⟨(some 15), (.r (.load none (.tmp 14))), none⟩, 0, 0),
 (⟨(some 16), (.p (.ibin .shr (.tmp 15) (.cst (.int .u64 4)))), none⟩, 0, 0),
 (⟨(some 17), (.p (.mov (.tmp 0))), none⟩, 0, 0),
 (⟨(some 18), (.p (.mov (.tmp 4))), none⟩, 0, 0),
 (⟨(some 19), (.p (.idxA 1 (.tmp 17) (.tmp 18))), none⟩, 0, 0),
 (⟨(some 20), (.r (.load none (.tmp 19))), none⟩, 0, 0),
 (⟨(some 21), (.p (.ibin .shr (.tmp 20) (.cst (.int .u64 4)))), none⟩, 0, 0),
 (⟨(some 22), (.p (.ibin .add (.tmp 21) (.cst (.int .u8 1)))), none⟩, 0, 0),
 (⟨(some 23), (.p (.sliceStr (.cst (.str [48, 49, 50, 51, 52, 53, 54, 55, 56, 57, 65, 66, 67, 68, 69, 70])) (some (.tmp 16)) (some (.tmp 22)))), none⟩, 0, 0),
 (⟨(some 24), (.p (.ibin .add (.tmp 11) (.tmp 23))), none⟩, 0, 0),
 (⟨(some 25), (.p (.mov (.tmp 0))), none⟩, 0, 0),
 (⟨(some 26), (.p (.mov (.tmp 4))), none⟩, 0, 0),
 (⟨(some 27), (.p (.idxA 1 (.tmp 25) (.tmp 26))), none⟩, 0, 0),
 (⟨(some 28), (.r (.load none (.tmp 27))), none⟩, 0, 0),
 (⟨(some 29), (.p (.ibin .and (.tmp 28) (.cst (.int .u8 15)))), none⟩, 0, 0),
 (⟨(some 30), (.p (.mov (.tmp 0))), none⟩, 0, 0),
 (⟨(some 31), (.p (.mov (.tmp 4))), none⟩, 0, 0),
 (⟨(some 32), (.p (.idxA 1 (.tmp 30) (.tmp 31))), none⟩, 0, 0),
 (⟨(some 33), (.r (.load none (.tmp 32))), none⟩, 0, 0),
 (⟨(some 34), (.p (.ibin .and (.tmp 33) (.cst (.int .u8 15)))), none⟩, 0, 0),
 (⟨(some 35), (.p (.ibin .add (.tmp 34) (.cst (.int .u8 1)))), none⟩, 0, 0),
 (⟨(some 36), (.p (.sliceStr (.cst (.str [48, 49, 50, 51, 52, 53, 54, 55, 56, 57, 65, 66, 67, 68, 69, 70])) (some (.tmp 29)) (some (.tmp 35)))), none⟩, 0, 0),
 (⟨(some 37), (.p (.ibin .add (.tmp 24) (.tmp 36))), none⟩, 0, 0),
 (⟨(some 3), (.p (.mov (.tmp 37))), none⟩, 0, 0)]))
 (.reg [⟨(some 9), (.p (.mov (.tmp 4))), none⟩,
 ⟨(some 10), (.p (.ibin .add (.tmp 9) (.cst (.int .i64 1)))), none⟩,
 ⟨(some 4), (.p (.mov (.tmp 10))), none⟩]))))))
 (.seq (.reg [⟨(some 38), (.p (.mov (.tmp 3))), none⟩,
 ⟨(some 2), (.p (.mov (.tmp 38))), none⟩])
 .ret))))
def f22 : VF := { body := b22, res := [(.tmp 2)] }
-- strconv.FormatUint
def b23 : VC := (.seq (.reg [⟨(some 4), (.p (.mov (.cst (.str [])))), none⟩])
 (.seq (.reg [⟨(some 5), (.p (.mov (.tmp 0))), none⟩,
 ⟨(some 6), (.p (.mov (.tmp 1))), none⟩,
 ⟨(some 7), (.r (.pcall (.cst (.fn 32 [] [])) [(.tmp 5), (.tmp 6)])), none⟩,
 ⟨(some 4), (.p (.mov (.tmp 7))), none⟩])
 .ret))
def f23 : VF := { body := b23, res := [(.tmp 4)] }
-- (comptoir/digits.signs).has
def b25 : VC := (.seq (.reg [⟨(some 4), (.p (.mov (.cst (.bool false)))), none⟩])
 (.seq (.reg [⟨(some 5), (.p (.mov (.tmp 0))), none⟩,
 ⟨(some 6), (.p (.mov (.tmp 1))), none⟩,
 ⟨(some 7), (.r (.pcall (.cst (.fn 28 [] [])) [(.tmp 5), (.tmp 6)])), none⟩,
 ⟨(some 8), (.p (.ibin .geq (.tmp 7) (.cst (.int .i64 0)))), none⟩,
 ⟨(some 4), (.p (.mov (.tmp 8))), none⟩])
 .ret))
def f25 : VF := { body := b25, res := [(.tmp 4)] }
-- comptoir/digits.all
def b26 : VC := (.seq (.reg [⟨(some 4), (.p (.mov (.cst (.bool false)))), none⟩])
 (.seq (.seq (.reg [⟨(some 6), (.p (.mov (.tmp 0))), none⟩,
 ⟨(some 7), (.p (.lenStr (.tmp 6))), none⟩,
 ⟨(some 8), (.p (.mov (.cst (.int .i64 0)))), none⟩])
 (.block 0 (.loop (.seq (.reg [⟨(some 9), (.p (.ibin .lss (.tmp 8) (.tmp 7))), none⟩])
 (.seq (.cond (.tmp 9) .skip
 (.exit 0))
 (.seq (.block 1 (.seq (.reg [⟨(some 10), (.p (.mov (.tmp 8))), none⟩,
 ⟨(some 5), (.p (.mov (.tmp 10))), none⟩])
 (.seq (.reg [⟨(some 11), (.p (.mov (.tmp 1))), none⟩,
 ⟨(some 12), (.p (.mov (.tmp 0))), none⟩,
 ⟨(some 13), (.p (.mov (.tmp 5))), none⟩,
 ⟨(some 14), (.p (.idxStr (.tmp 12) (.tmp 13))), none⟩,
 ⟨(some 15), (.r (.pcall (.tmp 11) [(.tmp 14)])), none⟩,
 ⟨(some 16), (.p (.un .not (.tmp 15))), none⟩])
 (.cond (.tmp 16) (.seq (.reg [⟨(some 4), (.p (.mov (.cst (.bool false)))), none⟩])
 .ret)
 .skip))))
 (.reg [⟨(some 17), (.p (.ibin .add (.tmp 8) (.cst (.int .i64 1)))), none⟩,
 ⟨(some 8), (.p (.mov (.tmp 17))), none⟩])))))))
 (.seq (.reg [⟨(some 4), (.p (.mov (.cst (.bool true)))), none⟩])
 .ret)))
def f26 : VF := { body := b26, res := [(.tmp 4)] }
-- comptoir/digits.UnHex$1
def b27 : VC := (.seq (.reg [⟨(some 3), (.p (.mov (.cst (.bool false)))), none⟩])
 (.seq (.reg [⟨(some 4), (.r (.load none (.tmp 1))), none⟩,
 ⟨(some 5), (.p (.mov (.tmp 0))), none⟩,
 ⟨(some 6), (.w (.call (.tmp 4) [(.cst (.str [48, 49, 50, 51, 52, 53, 54, 55, 56, 57, 65, 66, 67, 68, 69, 70])), (.tmp 5)])), none⟩,
 ⟨(some 3), (.p (.mov (.tmp 6))), none⟩])
 .ret))
def f27 : VF := { body := b27, res := [(.tmp 3)] }
-- comptoir/comptoirref01.sign
def b29 : VC := (.seq (.reg [⟨(some 2), (.p (.mov (.cst (.int .u8 0)))), none⟩])
 (.seq (.seq (.reg [⟨(some 3), (.p (.mov (.tmp 0))), none⟩,
 ⟨(some 4), (.p (.ibin .geq (.tmp 3) (.cst (.int .u8 48)))), none⟩,
 ⟨(some 5), (.p (.mov (.tmp 4))), none⟩,
 ⟨(some 6), (.p (.mov (.tmp 0))), (some (5, true))⟩,
 ⟨(some 7), (.p (.ibin .leq (.tmp 6) (.cst (.int .u8 57)))), (some (5, true))⟩,
 ⟨(some 8), (.p (.pick (.tmp 5) (.tmp 7) (.cst (.bool false)))), none⟩])
 (.cond (.tmp 8) (.seq (.reg [⟨(some 9), (.p (.mov (.tmp 0))), none⟩,
 ⟨(some 10), (.p (.ibin .sub (.tmp 9) (.cst (.int .u8 48)))), none⟩,
 ⟨(some 2), (.p (.mov (.tmp 10))), none⟩])
 .ret)
 .skip))
 (.seq (.seq (.reg [⟨(some 11), (.p (.mov (.tmp 0))), none⟩,
 ⟨(some 12), (.p (.ibin .geq (.tmp 11) (.cst (.int .u8 65)))), none⟩,
 ⟨(some 13), (.p (.mov (.tmp 12))), none⟩,
 ⟨(some 14), (.p (.mov (.tmp 0))), (some (13, true))⟩,
 ⟨(some 15), (.p (.ibin .leq (.tmp 14) (.cst (.int .u8 70)))), (some (13, true))⟩,
 ⟨(some 16), (.p (.pick (.tmp 13) (.tmp 15) (.cst (.bool false)))), none⟩])
 (.cond (.tmp 16) (.seq (.reg [⟨(some 17), (.p (.mov (.tmp 0))), none⟩,
 ⟨(some 18), (.p (.ibin .sub (.tmp 17) (.cst (.int .u8 65)))), none⟩,
 ⟨(some 19), (.p (.ibin .add (.tmp 18) (.cst (.int .u8 10)))), none⟩,
 ⟨(some 2), (.p (.mov (.tmp 19))), none⟩])
 .ret)
 .skip))
 (.seq (.reg [⟨(some 2), (.p (.mov (.cst (.int .u8 16)))), none⟩])
 .ret))))
def f29 : VF := { body := b29, res := [(.tmp 2)] }
def tbl : List (Nat × VFn) := [(3, .code f3), (4, .code f4), (5, .code f5), (6, .code f6), (7, .code f7), (8, .code f8), (9, .code f9), (10, .code f10), (11, .code f11), (12, .code f12), (13, .code f13), (14, .code f14), (15, .code f15), (16, .code f16), (17, .code f17), (18, .code f18), (19, .code f19), (20, .code f20), (22, .code f22), (23, .code f23), (25, .code f25), (26, .code f26), (27, .code f27), (29, .code f29), (21, .ext hexV), (24, .ext repeatV), (28, .ext indexByteV), (32, .ext formatUintV)]
end Go.Vx.YtjnjklnfcpgmpaaDoor
