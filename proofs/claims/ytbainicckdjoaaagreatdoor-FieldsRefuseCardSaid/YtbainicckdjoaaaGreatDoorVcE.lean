/- V's code of the functions that the laws of this seat reach, printed by a program of mine out of the loaded program. -/
import Derived.Test.YtbainicckdjoaaaGreatDoorVxDefs
import Derived.Test.YtbainicckdjoaaaGreatDoorVxExt
set_option maxRecDepth 100000
namespace Go.Vx.YtbainicckdjoaaaGreatDoor
-- comptoir/comptoirlaw18.FieldsRefuse
def b3 : VC := (.seq (.reg [⟨(some 2), (.p (.mov (.cst (.bool false)))), none⟩])
 (.seq (.reg [⟨(some 9), (.w (.litMut 1 (.int .u8 0) 6 [(0, (.cst (.int .u8 48))), (1, (.cst (.int .u8 48))), (2, (.cst (.int .u8 48))), (3, (.cst (.int .u8 48))), (4, (.cst (.int .u8 48))), (5, (.cst (.int .u8 55)))])), none⟩,
 ⟨(some 10), (.w (.mark (.tmp 9))), none⟩,
 ⟨(some 11), (.p (.build [(.int .i64 0), .nilsl] [(0, 1, (.cst (.int .i64 11))), (1, 1, (.tmp 10))])), none⟩,
 ⟨(some 12), (.w (.litMut 1 (.int .u8 0) 14 [(0, (.cst (.int .u8 50))), (1, (.cst (.int .u8 48))), (2, (.cst (.int .u8 50))), (3, (.cst (.int .u8 54))), (4, (.cst (.int .u8 48))), (5, (.cst (.int .u8 49))), (6, (.cst (.int .u8 48))), (7, (.cst (.int .u8 49))), (8, (.cst (.int .u8 49))), (9, (.cst (.int .u8 50))), (10, (.cst (.int .u8 48))), (11, (.cst (.int .u8 48))), (12, (.cst (.int .u8 48))), (13, (.cst (.int .u8 48)))])), none⟩,
 ⟨(some 13), (.w (.mark (.tmp 12))), none⟩,
 ⟨(some 14), (.p (.build [(.int .i64 0), .nilsl] [(0, 1, (.cst (.int .i64 12))), (1, 1, (.tmp 13))])), none⟩,
 ⟨(some 15), (.w (.litMut 1 (.int .u8 0) 1 [(0, (.cst (.int .u8 49)))])), none⟩,
 ⟨(some 16), (.w (.mark (.tmp 15))), none⟩,
 ⟨(some 17), (.p (.build [(.int .i64 0), .nilsl] [(0, 1, (.cst (.int .i64 32))), (1, 1, (.tmp 16))])), none⟩,
 ⟨(some 18), (.w (.litMut 1 (.int .u8 0) 3 [(0, (.cst (.int .u8 56))), (1, (.cst (.int .u8 48))), (2, (.cst (.int .u8 48)))])), none⟩,
 ⟨(some 19), (.w (.mark (.tmp 18))), none⟩,
 ⟨(some 20), (.p (.build [(.int .i64 0), .nilsl] [(0, 1, (.cst (.int .i64 39))), (1, 1, (.tmp 19))])), none⟩,
 ⟨(some 21), (.w (.litMut 2 (.agg [(.int .i64 0), .nilsl]) 4 [(0, (.tmp 11)), (1, (.tmp 14)), (2, (.tmp 17)), (3, (.tmp 20))])), none⟩,
 ⟨(some 22), (.p (.build [(.str []), .nilsl] [(0, 1, (.cst (.str [50, 56, 49, 48]))), (1, 1, (.tmp 21))])), none⟩,
 ⟨(some 3), (.w (.alloc [(.str []), .nilsl])), none⟩,
 ⟨none, (.w (.store 2 (.tmp 3) (.tmp 22))), none⟩])
 (.seq (.reg [⟨(some 4), (.p (.mov (.cst (.int .i64 19)))), none⟩])
 (.seq (.seq (.reg [⟨(some 23), (.p (.mov (.tmp 0))), none⟩,
 ⟨(some 24), (.p (.conv (.toInt .u64) (.tmp 23))), none⟩,
 ⟨(some 25), (.p (.ibin .rem (.tmp 24) (.cst (.int .u64 9)))), none⟩])
 (.block 0 (.seq (.reg [⟨(some 27), (.p (.ibin .eql (.tmp 25) (.cst (.int .u64 0)))), none⟩,
 ⟨(some 26), (.p (.mov (.tmp 27))), none⟩])
 (.cond (.tmp 26) (.reg [⟨(some 28), (.p (.fieldA 0 (.tmp 3))), none⟩,
 ⟨none, (.w (.store 1 (.tmp 28) (.cst (.str [50, 56, 49, 49])))), none⟩,
 ⟨(some 4), (.p (.mov (.cst (.int .i64 15)))), none⟩])
 (.seq (.reg [⟨(some 30), (.p (.ibin .eql (.tmp 25) (.cst (.int .u64 1)))), none⟩,
 ⟨(some 29), (.p (.mov (.tmp 30))), none⟩])
 (.cond (.tmp 29) (.reg [⟨(some 31), (.p (.fieldA 1 (.tmp 3))), none⟩,
 ⟨(some 32), (.r (.load none (.tmp 31))), none⟩,
 ⟨(some 33), (.p (.slice 2 (.tmp 32) (some (.cst (.int .i64 1))) none)), none⟩,
 ⟨(some 34), (.p (.fieldA 1 (.tmp 3))), none⟩,
 ⟨none, (.w (.store 1 (.tmp 34) (.tmp 33))), none⟩])
 (.seq (.reg [⟨(some 36), (.p (.ibin .eql (.tmp 25) (.cst (.int .u64 2)))), none⟩,
 ⟨(some 35), (.p (.mov (.tmp 36))), none⟩])
 (.cond (.tmp 35) (.reg [⟨(some 37), (.p (.fieldA 1 (.tmp 3))), none⟩,
 ⟨(some 38), (.r (.load none (.tmp 37))), none⟩,
 ⟨(some 39), (.p (.slice 2 (.tmp 38) none (some (.cst (.int .i64 3))))), none⟩,
 ⟨(some 40), (.p (.fieldA 1 (.tmp 3))), none⟩,
 ⟨none, (.w (.store 1 (.tmp 40) (.tmp 39))), none⟩])
 (.seq (.reg [⟨(some 42), (.p (.ibin .eql (.tmp 25) (.cst (.int .u64 3)))), none⟩,
 ⟨(some 41), (.p (.mov (.tmp 42))), none⟩])
 (.cond (.tmp 41) (.reg [⟨(some 43), (.p (.fieldA 1 (.tmp 3))), none⟩,
 ⟨(some 44), (.r (.load none (.tmp 43))), none⟩,
 ⟨(some 45), (.w (.litMut 1 (.int .u8 0) 14 [(0, (.cst (.int .u8 50))), (1, (.cst (.int .u8 48))), (2, (.cst (.int .u8 50))), (3, (.cst (.int .u8 54))), (4, (.cst (.int .u8 48))), (5, (.cst (.int .u8 49))), (6, (.cst (.int .u8 48))), (7, (.cst (.int .u8 49))), (8, (.cst (.int .u8 50))), (9, (.cst (.int .u8 53))), (10, (.cst (.int .u8 48))), (11, (.cst (.int .u8 48))), (12, (.cst (.int .u8 48))), (13, (.cst (.int .u8 48)))])), none⟩,
 ⟨(some 46), (.w (.mark (.tmp 45))), none⟩,
 ⟨(some 47), (.p (.idxA 2 (.tmp 44) (.cst (.int .i64 1)))), none⟩,
 ⟨(some 48), (.p (.fieldA 1 (.tmp 47))), none⟩,
 ⟨none, (.w (.store 1 (.tmp 48) (.tmp 46))), none⟩,
 ⟨(some 4), (.p (.mov (.cst (.int .i64 14)))), none⟩])
 (.seq (.reg [⟨(some 50), (.p (.ibin .eql (.tmp 25) (.cst (.int .u64 4)))), none⟩,
 ⟨(some 49), (.p (.mov (.tmp 50))), none⟩])
 (.cond (.tmp 49) (.reg [⟨(some 51), (.p (.fieldA 1 (.tmp 3))), none⟩,
 ⟨(some 52), (.r (.load none (.tmp 51))), none⟩,
 ⟨(some 53), (.w (.litMut 1 (.int .u8 0) 3 [(0, (.cst (.int .u8 56))), (1, (.cst (.int .u8 48))), (2, (.cst (.int .u8 49)))])), none⟩,
 ⟨(some 54), (.w (.mark (.tmp 53))), none⟩,
 ⟨(some 55), (.p (.idxA 2 (.tmp 52) (.cst (.int .i64 3)))), none⟩,
 ⟨(some 56), (.p (.fieldA 1 (.tmp 55))), none⟩,
 ⟨none, (.w (.store 1 (.tmp 56) (.tmp 54))), none⟩,
 ⟨(some 4), (.p (.mov (.cst (.int .i64 20)))), none⟩])
 (.seq (.reg [⟨(some 58), (.p (.ibin .eql (.tmp 25) (.cst (.int .u64 5)))), none⟩,
 ⟨(some 57), (.p (.mov (.tmp 58))), none⟩])
 (.cond (.tmp 57) (.reg [⟨(some 59), (.p (.fieldA 1 (.tmp 3))), none⟩,
 ⟨(some 60), (.r (.load none (.tmp 59))), none⟩,
 ⟨(some 61), (.w (.litMut 1 (.int .u8 0) 3 [(0, (.cst (.int .u8 57))), (1, (.cst (.int .u8 55))), (2, (.cst (.int .u8 56)))])), none⟩,
 ⟨(some 62), (.w (.mark (.tmp 61))), none⟩,
 ⟨(some 63), (.p (.build [(.int .i64 0), .nilsl] [(0, 1, (.cst (.int .i64 49))), (1, 1, (.tmp 62))])), none⟩,
 ⟨(some 64), (.w (.litMut 2 (.agg [(.int .i64 0), .nilsl]) 1 [(0, (.tmp 63))])), none⟩,
 ⟨(some 65), (.w (.append 2 32 (.tmp 60) (.tmp 64))), none⟩,
 ⟨(some 66), (.p (.fieldA 1 (.tmp 3))), none⟩,
 ⟨none, (.w (.store 1 (.tmp 66) (.tmp 65))), none⟩])
 (.seq (.reg [⟨(some 68), (.p (.ibin .eql (.tmp 25) (.cst (.int .u64 6)))), none⟩,
 ⟨(some 67), (.p (.mov (.tmp 68))), none⟩])
 (.cond (.tmp 67) (.reg [⟨(some 69), (.p (.fieldA 1 (.tmp 3))), none⟩,
 ⟨(some 70), (.r (.load none (.tmp 69))), none⟩,
 ⟨(some 71), (.w (.litMut 1 (.int .u8 0) 8 [(0, (.cst (.int .u8 48))), (1, (.cst (.int .u8 48))), (2, (.cst (.int .u8 48))), (3, (.cst (.int .u8 48))), (4, (.cst (.int .u8 48))), (5, (.cst (.int .u8 48))), (6, (.cst (.int .u8 48))), (7, (.cst (.int .u8 122)))])), none⟩,
 ⟨(some 72), (.w (.mark (.tmp 71))), none⟩,
 ⟨(some 73), (.p (.build [(.int .i64 0), .nilsl] [(0, 1, (.cst (.int .i64 48))), (1, 1, (.tmp 72))])), none⟩,
 ⟨(some 74), (.w (.litMut 2 (.agg [(.int .i64 0), .nilsl]) 1 [(0, (.tmp 73))])), none⟩,
 ⟨(some 75), (.w (.append 2 32 (.tmp 70) (.tmp 74))), none⟩,
 ⟨(some 76), (.p (.fieldA 1 (.tmp 3))), none⟩,
 ⟨none, (.w (.store 1 (.tmp 76) (.tmp 75))), none⟩,
 ⟨(some 4), (.p (.mov (.cst (.int .i64 14)))), none⟩])
 (.seq (.reg [⟨(some 78), (.p (.ibin .eql (.tmp 25) (.cst (.int .u64 7)))), none⟩,
 ⟨(some 77), (.p (.mov (.tmp 78))), none⟩])
 (.cond (.tmp 77) (.reg [⟨(some 79), (.p (.fieldA 1 (.tmp 3))), none⟩,
 ⟨(some 80), (.r (.load none (.tmp 79))), none⟩,
 ⟨(some 81), (.w (.litMut 1 (.int .u8 0) 1 [(0, (.cst (.int .u8 0)))])), none⟩,
 ⟨(some 82), (.p (.build [(.int .i64 0), .nilsl] [(0, 1, (.cst (.int .i64 55))), (1, 1, (.tmp 81))])), none⟩,
 ⟨(some 83), (.w (.litMut 2 (.agg [(.int .i64 0), .nilsl]) 1 [(0, (.tmp 82))])), none⟩,
 ⟨(some 84), (.w (.append 2 32 (.tmp 80) (.tmp 83))), none⟩,
 ⟨(some 85), (.p (.fieldA 1 (.tmp 3))), none⟩,
 ⟨none, (.w (.store 1 (.tmp 85) (.tmp 84))), none⟩,
 ⟨(some 4), (.p (.mov (.cst (.int .i64 18)))), none⟩])
 (.reg [⟨(some 4), (.p (.mov (.cst (.int .i64 0)))), none⟩])))))))))))))))))))
 (.seq (.reg [⟨(some 87), (.r (.load (some 2) (.tmp 3))), none⟩,
 ⟨(some 88), (.r (.pcall (.cst (.fn 5 [] [])) [(.tmp 87)])), none⟩,
 ⟨(some 86), (.p (.mov (.tmp 88))), none⟩,
 ⟨(some 89), (.p (.ext (.tmp 86) 0)), none⟩,
 ⟨(some 90), (.p (.ext (.tmp 86) 1)), none⟩,
 ⟨(some 5), (.p (.mov (.tmp 89))), none⟩,
 ⟨(some 6), (.p (.mov (.tmp 90))), none⟩])
 (.seq (.reg [⟨(some 92), (.p (.mov (.tmp 5))), none⟩,
 ⟨(some 93), (.r (.pcall (.cst (.fn 6 [] [])) [(.tmp 92)])), none⟩,
 ⟨(some 91), (.p (.mov (.tmp 93))), none⟩,
 ⟨(some 94), (.p (.ext (.tmp 91) 0)), none⟩,
 ⟨(some 95), (.p (.ext (.tmp 91) 1)), none⟩,
 ⟨(some 7), (.w (.alloc [(.int .i64 0), (.int .i64 0), (.str []), (.str []), (.str []), (.str []), (.int .u64 0), (.str []), (.str []), (.str []), (.str []), (.int .i64 0), (.str []), (.str []), (.int .i64 0), (.str []), .nilsl, (.str []), (.str []), .nilsl, .nilsl])), none⟩,
 ⟨none, (.w (.store 21 (.tmp 7) (.tmp 94))), none⟩,
 ⟨(some 8), (.p (.mov (.tmp 95))), none⟩])
 (.seq (.reg [⟨(some 96), (.r (.pcall (.cst (.fn 7 [] [])) [])), none⟩,
 ⟨(some 97), (.p (.mov (.tmp 96))), none⟩,
 ⟨(some 98), (.p (.mov (.tmp 6))), (some (97, true))⟩,
 ⟨(some 99), (.p (.ibin .eql (.tmp 98) (.cst (.int .i64 0)))), (some (97, true))⟩,
 ⟨(some 100), (.p (.pick (.tmp 97) (.tmp 99) (.cst (.bool false)))), none⟩,
 ⟨(some 101), (.p (.mov (.tmp 100))), none⟩,
 ⟨(some 102), (.p (.mov (.tmp 8))), (some (101, true))⟩,
 ⟨(some 103), (.p (.mov (.tmp 4))), (some (101, true))⟩,
 ⟨(some 104), (.p (.ibin .eql (.tmp 102) (.tmp 103))), (some (101, true))⟩,
 ⟨(some 105), (.p (.pick (.tmp 101) (.tmp 104) (.cst (.bool false)))), none⟩,
 ⟨(some 106), (.p (.mov (.tmp 105))), none⟩,
 ⟨(some 107), (.p (.mov (.tmp 8))), (some (106, true))⟩,
 ⟨(some 108), (.p (.ibin .neq (.tmp 107) (.cst (.int .i64 0)))), (some (106, true))⟩,
 ⟨(some 109), (.p (.mov (.tmp 108))), (some (106, true))⟩,
 ⟨(some 110), (.p (.fieldA 12 (.tmp 7))), (some (109, false))⟩,
 ⟨(some 111), (.r (.load none (.tmp 110))), (some (109, false))⟩,
 ⟨(some 112), (.p (.ibin .eql (.tmp 111) (.cst (.str [56, 48, 48])))), (some (109, false))⟩,
 ⟨(some 113), (.p (.mov (.tmp 112))), (some (109, false))⟩,
 ⟨(some 114), (.p (.fieldA 1 (.tmp 7))), (some (113, true))⟩,
 ⟨(some 115), (.r (.load none (.tmp 114))), (some (113, true))⟩,
 ⟨(some 116), (.p (.ibin .eql (.tmp 115) (.cst (.int .i64 7)))), (some (113, true))⟩,
 ⟨(some 117), (.p (.pick (.tmp 113) (.tmp 116) (.cst (.bool false)))), (some (109, false))⟩,
 ⟨(some 118), (.p (.pick (.tmp 109) (.cst (.bool true)) (.tmp 117))), (some (106, true))⟩,
 ⟨(some 119), (.p (.pick (.tmp 106) (.tmp 118) (.cst (.bool false)))), none⟩,
 ⟨(some 2), (.p (.mov (.tmp 119))), none⟩])
 .ret)))))))
def f3 : VF := { body := b3, res := [(.tmp 2)] }
-- comptoir/comptoirlaw18.FieldsHeads
def b4 : VC := (.seq (.reg [⟨(some 6), (.p (.mov (.cst (.bool false)))), none⟩])
 (.seq (.reg [⟨(some 18), (.p (.mov (.tmp 0))), none⟩,
 ⟨(some 19), (.p (.conv (.toInt .u64) (.tmp 18))), none⟩,
 ⟨(some 20), (.p (.ibin .rem (.tmp 19) (.cst (.int .u64 1000000)))), none⟩,
 ⟨(some 21), (.p (.conv (.toInt .i64) (.tmp 20))), none⟩,
 ⟨(some 0), (.p (.mov (.tmp 21))), none⟩])
 (.seq (.reg [⟨(some 23), (.p (.mov (.tmp 0))), none⟩,
 ⟨(some 24), (.p (.conv (.toInt .u64) (.tmp 23))), none⟩,
 ⟨(some 25), (.r (.pcall (.cst (.fn 8 [] [])) [(.tmp 24), (.cst (.int .i64 6))])), none⟩,
 ⟨(some 22), (.p (.mov (.tmp 25))), none⟩,
 ⟨(some 26), (.p (.ext (.tmp 22) 0)), none⟩,
 ⟨(some 27), (.p (.ext (.tmp 22) 1)), none⟩,
 ⟨(some 7), (.p (.mov (.tmp 26))), none⟩,
 ⟨(some 8), (.p (.mov (.tmp 27))), none⟩])
 (.seq (.reg [⟨(some 29), (.p (.mov (.tmp 1))), none⟩,
 ⟨(some 30), (.p (.conv (.toInt .u64) (.tmp 29))), none⟩,
 ⟨(some 31), (.p (.ibin .rem (.tmp 30) (.cst (.int .u64 10000)))), none⟩,
 ⟨(some 32), (.r (.pcall (.cst (.fn 8 [] [])) [(.tmp 31), (.cst (.int .i64 4))])), none⟩,
 ⟨(some 28), (.p (.mov (.tmp 32))), none⟩,
 ⟨(some 33), (.p (.ext (.tmp 28) 0)), none⟩,
 ⟨(some 34), (.p (.ext (.tmp 28) 1)), none⟩,
 ⟨(some 9), (.p (.mov (.tmp 33))), none⟩,
 ⟨(some 10), (.p (.mov (.tmp 34))), none⟩])
 (.seq (.reg [⟨(some 35), (.p (.mov (.tmp 9))), none⟩,
 ⟨(some 36), (.p (.mov (.tmp 7))), none⟩,
 ⟨(some 37), (.w (.strBytes (.tmp 36))), none⟩,
 ⟨(some 38), (.p (.build [(.int .i64 0), .nilsl] [(0, 1, (.cst (.int .i64 11))), (1, 1, (.tmp 37))])), none⟩,
 ⟨(some 39), (.w (.litMut 1 (.int .u8 0) 14 [(0, (.cst (.int .u8 50))), (1, (.cst (.int .u8 48))), (2, (.cst (.int .u8 50))), (3, (.cst (.int .u8 54))), (4, (.cst (.int .u8 48))), (5, (.cst (.int .u8 49))), (6, (.cst (.int .u8 48))), (7, (.cst (.int .u8 49))), (8, (.cst (.int .u8 49))), (9, (.cst (.int .u8 50))), (10, (.cst (.int .u8 48))), (11, (.cst (.int .u8 48))), (12, (.cst (.int .u8 48))), (13, (.cst (.int .u8 48)))])), none⟩,
 ⟨(some 40), (.w (.mark (.tmp 39))), none⟩,
 ⟨(some 41), (.p (.build [(.int .i64 0), .nilsl] [(0, 1, (.cst (.int .i64 12))), (1, 1, (.tmp 40))])), none⟩,
 ⟨(some 42), (.w (.litMut 1 (.int .u8 0) 2 [(0, (.cst (.int .u8 52))), (1, (.cst (.int .u8 50)))])), none⟩,
 ⟨(some 43), (.w (.mark (.tmp 42))), none⟩,
 ⟨(some 44), (.p (.build [(.int .i64 0), .nilsl] [(0, 1, (.cst (.int .i64 32))), (1, 1, (.tmp 43))])), none⟩,
 ⟨(some 45), (.w (.litMut 2 (.agg [(.int .i64 0), .nilsl]) 3 [(0, (.tmp 38)), (1, (.tmp 41)), (2, (.tmp 44))])), none⟩,
 ⟨(some 46), (.p (.build [(.str []), .nilsl] [(0, 1, (.tmp 35)), (1, 1, (.tmp 45))])), none⟩,
 ⟨(some 11), (.w (.alloc [(.str []), .nilsl])), none⟩,
 ⟨none, (.w (.store 2 (.tmp 11) (.tmp 46))), none⟩])
 (.seq (.seq (.reg [⟨(some 47), (.p (.mov (.tmp 2))), none⟩,
 ⟨(some 48), (.p (.un .not (.tmp 47))), none⟩])
 (.cond (.tmp 48) (.reg [⟨(some 49), (.p (.fieldA 1 (.tmp 11))), none⟩,
 ⟨(some 50), (.r (.load none (.tmp 49))), none⟩,
 ⟨(some 51), (.p (.slice 2 (.tmp 50) none (some (.cst (.int .i64 2))))), none⟩,
 ⟨(some 52), (.p (.fieldA 1 (.tmp 11))), none⟩,
 ⟨none, (.w (.store 1 (.tmp 52) (.tmp 51))), none⟩])
 .skip))
 (.seq (.reg [⟨(some 54), (.r (.load (some 2) (.tmp 11))), none⟩,
 ⟨(some 55), (.r (.pcall (.cst (.fn 5 [] [])) [(.tmp 54)])), none⟩,
 ⟨(some 53), (.p (.mov (.tmp 55))), none⟩,
 ⟨(some 56), (.p (.ext (.tmp 53) 0)), none⟩,
 ⟨(some 57), (.p (.ext (.tmp 53) 1)), none⟩,
 ⟨(some 12), (.p (.mov (.tmp 56))), none⟩,
 ⟨(some 13), (.p (.mov (.tmp 57))), none⟩])
 (.seq (.reg [⟨(some 59), (.p (.mov (.tmp 12))), none⟩,
 ⟨(some 60), (.r (.pcall (.cst (.fn 9 [] [])) [(.tmp 59)])), none⟩,
 ⟨(some 58), (.p (.mov (.tmp 60))), none⟩,
 ⟨(some 61), (.p (.ext (.tmp 58) 0)), none⟩,
 ⟨(some 62), (.p (.ext (.tmp 58) 1)), none⟩,
 ⟨(some 14), (.w (.alloc [(.int .i64 0), (.int .i64 0), (.str []), (.str []), (.str []), (.str []), (.int .u64 0), (.str []), (.str []), (.str []), (.str []), (.int .i64 0), (.str []), (.str []), (.int .i64 0), (.str []), .nilsl, (.str []), (.str []), .nilsl, .nilsl])), none⟩,
 ⟨none, (.w (.store 21 (.tmp 14) (.tmp 61))), none⟩,
 ⟨(some 15), (.p (.mov (.tmp 62))), none⟩])
 (.seq (.reg [⟨(some 64), (.p (.mov (.tmp 12))), none⟩,
 ⟨(some 65), (.p (.mov (.tmp 12))), none⟩,
 ⟨(some 66), (.p (.len (.tmp 65))), none⟩,
 ⟨(some 67), (.p (.ibin .sub (.tmp 66) (.cst (.int .i64 1)))), none⟩,
 ⟨(some 68), (.p (.mm true (.cst (.int .i64 0)) (.tmp 67))), none⟩,
 ⟨(some 69), (.p (.slice 1 (.tmp 64) none (some (.tmp 68)))), none⟩,
 ⟨(some 70), (.r (.pcall (.cst (.fn 9 [] [])) [(.tmp 69)])), none⟩,
 ⟨(some 63), (.p (.mov (.tmp 70))), none⟩,
 ⟨(some 71), (.p (.ext (.tmp 63) 0)), none⟩,
 ⟨(some 72), (.p (.ext (.tmp 63) 1)), none⟩,
 ⟨(some 16), (.w (.alloc [(.int .i64 0), (.int .i64 0), (.str []), (.str []), (.str []), (.str []), (.int .u64 0), (.str []), (.str []), (.str []), (.str []), (.int .i64 0), (.str []), (.str []), (.int .i64 0), (.str []), .nilsl, (.str []), (.str []), .nilsl, .nilsl])), none⟩,
 ⟨none, (.w (.store 21 (.tmp 16) (.tmp 71))), none⟩,
 ⟨(some 17), (.p (.mov (.tmp 72))), none⟩])
 (.seq (.seq (.reg [⟨(some 73), (.p (.mov (.tmp 2))), none⟩,
 ⟨(some 74), (.p (.un .not (.tmp 73))), none⟩])
 (.cond (.tmp 74) (.seq (.reg [⟨(some 75), (.r (.pcall (.cst (.fn 7 [] [])) [])), none⟩,
 ⟨(some 76), (.p (.mov (.tmp 75))), none⟩,
 ⟨(some 77), (.p (.mov (.tmp 13))), (some (76, true))⟩,
 ⟨(some 78), (.p (.ibin .eql (.tmp 77) (.cst (.int .i64 0)))), (some (76, true))⟩,
 ⟨(some 79), (.p (.pick (.tmp 76) (.tmp 78) (.cst (.bool false)))), none⟩,
 ⟨(some 80), (.p (.mov (.tmp 79))), none⟩,
 ⟨(some 81), (.p (.mov (.tmp 15))), (some (80, true))⟩,
 ⟨(some 82), (.p (.un .not (.tmp 81))), (some (80, true))⟩,
 ⟨(some 83), (.p (.pick (.tmp 80) (.tmp 82) (.cst (.bool false)))), none⟩,
 ⟨(some 84), (.p (.mov (.tmp 83))), none⟩,
 ⟨(some 85), (.p (.mov (.tmp 17))), (some (84, true))⟩,
 ⟨(some 86), (.p (.un .not (.tmp 85))), (some (84, true))⟩,
 ⟨(some 87), (.p (.pick (.tmp 84) (.tmp 86) (.cst (.bool false)))), none⟩,
 ⟨(some 6), (.p (.mov (.tmp 87))), none⟩])
 .ret)
 .skip))
 (.seq (.reg [⟨(some 88), (.r (.pcall (.cst (.fn 7 [] [])) [])), none⟩,
 ⟨(some 89), (.p (.mov (.tmp 88))), none⟩,
 ⟨(some 90), (.p (.mov (.tmp 13))), (some (89, true))⟩,
 ⟨(some 91), (.p (.ibin .eql (.tmp 90) (.cst (.int .i64 0)))), (some (89, true))⟩,
 ⟨(some 92), (.p (.pick (.tmp 89) (.tmp 91) (.cst (.bool false)))), none⟩,
 ⟨(some 93), (.p (.mov (.tmp 92))), none⟩,
 ⟨(some 94), (.p (.mov (.tmp 15))), (some (93, true))⟩,
 ⟨(some 95), (.p (.pick (.tmp 93) (.tmp 94) (.cst (.bool false)))), none⟩,
 ⟨(some 96), (.p (.mov (.tmp 95))), none⟩,
 ⟨(some 97), (.p (.mov (.tmp 17))), (some (96, true))⟩,
 ⟨(some 98), (.p (.un .not (.tmp 97))), (some (96, true))⟩,
 ⟨(some 99), (.p (.pick (.tmp 96) (.tmp 98) (.cst (.bool false)))), none⟩,
 ⟨(some 100), (.p (.mov (.tmp 99))), none⟩,
 ⟨(some 101), (.r (.load (some 21) (.tmp 14))), (some (100, true))⟩,
 ⟨(some 102), (.p (.mov (.tmp 0))), (some (100, true))⟩,
 ⟨(some 103), (.p (.build [(.int .i64 0), (.int .i64 0), (.str []), (.str []), (.str []), (.str []), (.int .u64 0), (.str []), (.str []), (.str []), (.str []), (.int .i64 0), (.str []), (.str []), (.int .i64 0), (.str []), .nilsl, (.str []), (.str []), .nilsl, .nilsl] [(1, 1, (.tmp 102)), (2, 1, (.cst (.str [50, 48, 50, 54, 48, 49, 48, 49, 49, 50, 48, 48, 48, 48]))), (3, 1, (.cst (.str [52, 50])))])), (some (100, true))⟩,
 ⟨(some 104), (.r (.pcall (.cst (.fn 10 [] [])) [(.tmp 101), (.tmp 103)])), (some (100, true))⟩,
 ⟨(some 105), (.p (.pick (.tmp 100) (.tmp 104) (.cst (.bool false)))), none⟩,
 ⟨(some 6), (.p (.mov (.tmp 105))), none⟩])
 .ret)))))))))))
def f4 : VF := { body := b4, res := [(.tmp 6)] }
-- comptoir/comptoirref16.PackIso
def b5 : VC := (.seq (.reg [⟨(some 1), (.w (.box 2 (.tmp 0))), none⟩,
 ⟨(some 2), (.p (.mov (.cst .nilsl))), none⟩,
 ⟨(some 3), (.p (.mov (.cst (.int .i64 0)))), none⟩])
 (.seq (.seq (.reg [⟨(some 12), (.p (.fieldA 0 (.tmp 1))), none⟩,
 ⟨(some 13), (.r (.load none (.tmp 12))), none⟩,
 ⟨(some 14), (.r (.pcall (.cst (.fn 11 [] [])) [(.tmp 13), (.cst (.int .i64 4)), (.cst (.int .i64 4))])), none⟩,
 ⟨(some 15), (.p (.un .not (.tmp 14))), none⟩])
 (.cond (.tmp 15) (.seq (.reg [⟨(some 2), (.p (.mov (.cst .nilsl))), none⟩,
 ⟨(some 3), (.p (.mov (.cst (.int .i64 5)))), none⟩])
 .ret)
 .skip))
 (.seq (.reg [⟨(some 4), (.p (.mov (.cst .nilsl))), none⟩])
 (.seq (.seq (.reg [⟨(some 5), (.p (.mov (.cst (.int .i64 0)))), none⟩])
 (.block 0 (.loop (.seq (.seq (.reg [⟨(some 16), (.p (.mov (.tmp 5))), none⟩,
 ⟨(some 17), (.p (.fieldA 1 (.tmp 1))), none⟩,
 ⟨(some 18), (.r (.load none (.tmp 17))), none⟩,
 ⟨(some 19), (.p (.len (.tmp 18))), none⟩,
 ⟨(some 20), (.p (.ibin .lss (.tmp 16) (.tmp 19))), none⟩])
 (.cond (.tmp 20) .skip
 (.exit 0)))
 (.seq (.block 1 (.reg [⟨(some 23), (.p (.mov (.tmp 4))), none⟩,
 ⟨(some 24), (.p (.fieldA 1 (.tmp 1))), none⟩,
 ⟨(some 25), (.r (.load none (.tmp 24))), none⟩,
 ⟨(some 26), (.p (.mov (.tmp 5))), none⟩,
 ⟨(some 27), (.p (.idxA 2 (.tmp 25) (.tmp 26))), none⟩,
 ⟨(some 28), (.p (.fieldA 0 (.tmp 27))), none⟩,
 ⟨(some 29), (.r (.load none (.tmp 28))), none⟩,
 ⟨(some 30), (.p (.lit 1 (.int .i64 0) 1 [(0, (.tmp 29))])), none⟩,
 ⟨(some 31), (.w (.append 1 8 (.tmp 23) (.tmp 30))), none⟩,
 ⟨(some 4), (.p (.mov (.tmp 31))), none⟩]))
 (.reg [⟨(some 21), (.p (.mov (.tmp 5))), none⟩,
 ⟨(some 22), (.p (.ibin .add (.tmp 21) (.cst (.int .i64 1)))), none⟩,
 ⟨(some 5), (.p (.mov (.tmp 22))), none⟩]))))))
 (.seq (.reg [⟨(some 33), (.p (.mov (.tmp 4))), none⟩,
 ⟨(some 34), (.r (.pcall (.cst (.fn 12 [] [])) [(.tmp 33)])), none⟩,
 ⟨(some 32), (.p (.mov (.tmp 34))), none⟩,
 ⟨(some 35), (.p (.ext (.tmp 32) 0)), none⟩,
 ⟨(some 36), (.p (.ext (.tmp 32) 1)), none⟩,
 ⟨(some 6), (.p (.mov (.tmp 35))), none⟩,
 ⟨(some 7), (.p (.mov (.tmp 36))), none⟩])
 (.seq (.seq (.reg [⟨(some 37), (.p (.mov (.tmp 7))), none⟩,
 ⟨(some 38), (.p (.ibin .neq (.tmp 37) (.cst (.int .i64 0)))), none⟩])
 (.cond (.tmp 38) (.seq (.reg [⟨(some 39), (.p (.mov (.tmp 7))), none⟩,
 ⟨(some 2), (.p (.mov (.cst .nilsl))), none⟩,
 ⟨(some 3), (.p (.mov (.tmp 39))), none⟩])
 .ret)
 .skip))
 (.seq (.reg [⟨(some 40), (.p (.fieldA 0 (.tmp 1))), none⟩,
 ⟨(some 41), (.r (.load none (.tmp 40))), none⟩,
 ⟨(some 42), (.w (.strBytes (.tmp 41))), none⟩,
 ⟨(some 43), (.p (.mov (.tmp 6))), none⟩,
 ⟨(some 44), (.w (.append 1 1 (.tmp 42) (.tmp 43))), none⟩,
 ⟨(some 8), (.p (.mov (.tmp 44))), none⟩])
 (.seq (.seq (.reg [⟨(some 9), (.p (.mov (.cst (.int .i64 0)))), none⟩])
 (.block 2 (.loop (.seq (.seq (.reg [⟨(some 45), (.p (.mov (.tmp 9))), none⟩,
 ⟨(some 46), (.p (.fieldA 1 (.tmp 1))), none⟩,
 ⟨(some 47), (.r (.load none (.tmp 46))), none⟩,
 ⟨(some 48), (.p (.len (.tmp 47))), none⟩,
 ⟨(some 49), (.p (.ibin .lss (.tmp 45) (.tmp 48))), none⟩])
 (.cond (.tmp 49) .skip
 (.exit 2)))
 (.seq (.block 3 (.seq (.reg [⟨(some 53), (.p (.fieldA 1 (.tmp 1))), none⟩,
 ⟨(some 54), (.r (.load none (.tmp 53))), none⟩,
 ⟨(some 55), (.p (.mov (.tmp 9))), none⟩,
 ⟨(some 56), (.p (.idxA 2 (.tmp 54) (.tmp 55))), none⟩,
 ⟨(some 57), (.r (.load (some 2) (.tmp 56))), none⟩,
 ⟨(some 58), (.r (.pcall (.cst (.fn 13 [] [])) [(.tmp 57)])), none⟩,
 ⟨(some 52), (.p (.mov (.tmp 58))), none⟩,
 ⟨(some 59), (.p (.ext (.tmp 52) 0)), none⟩,
 ⟨(some 60), (.p (.ext (.tmp 52) 1)), none⟩,
 ⟨(some 10), (.p (.mov (.tmp 59))), none⟩,
 ⟨(some 11), (.p (.mov (.tmp 60))), none⟩])
 (.seq (.seq (.reg [⟨(some 61), (.p (.mov (.tmp 11))), none⟩,
 ⟨(some 62), (.p (.ibin .neq (.tmp 61) (.cst (.int .i64 0)))), none⟩])
 (.cond (.tmp 62) (.seq (.reg [⟨(some 63), (.p (.mov (.tmp 11))), none⟩,
 ⟨(some 2), (.p (.mov (.cst .nilsl))), none⟩,
 ⟨(some 3), (.p (.mov (.tmp 63))), none⟩])
 .ret)
 .skip))
 (.reg [⟨(some 64), (.p (.mov (.tmp 8))), none⟩,
 ⟨(some 65), (.p (.mov (.tmp 10))), none⟩,
 ⟨(some 66), (.w (.append 1 1 (.tmp 64) (.tmp 65))), none⟩,
 ⟨(some 8), (.p (.mov (.tmp 66))), none⟩]))))
 (.reg [⟨(some 50), (.p (.mov (.tmp 9))), none⟩,
 ⟨(some 51), (.p (.ibin .add (.tmp 50) (.cst (.int .i64 1)))), none⟩,
 ⟨(some 9), (.p (.mov (.tmp 51))), none⟩]))))))
 (.seq (.seq (.reg [⟨(some 67), (.p (.mov (.tmp 8))), none⟩,
 ⟨(some 68), (.p (.len (.tmp 67))), none⟩,
 ⟨(some 69), (.p (.ibin .gtr (.tmp 68) (.cst (.int .i64 4096)))), none⟩])
 (.cond (.tmp 69) (.seq (.reg [⟨(some 2), (.p (.mov (.cst .nilsl))), none⟩,
 ⟨(some 3), (.p (.mov (.cst (.int .i64 4)))), none⟩])
 .ret)
 .skip))
 (.seq (.reg [⟨(some 70), (.p (.mov (.tmp 8))), none⟩,
 ⟨(some 71), (.p (.mov (.tmp 7))), none⟩,
 ⟨(some 2), (.p (.mov (.tmp 70))), none⟩,
 ⟨(some 3), (.p (.mov (.tmp 71))), none⟩])
 .ret))))))))))
def f5 : VF := { body := b5, res := [(.tmp 2), (.tmp 3)] }
-- comptoir/fields.Decode
def b6 : VC := (.seq (.reg [⟨(some 2), (.w (.alloc [(.int .i64 0), (.int .i64 0), (.str []), (.str []), (.str []), (.str []), (.int .u64 0), (.str []), (.str []), (.str []), (.str []), (.int .i64 0), (.str []), (.str []), (.int .i64 0), (.str []), .nilsl, (.str []), (.str []), .nilsl, .nilsl])), none⟩,
 ⟨(some 3), (.p (.mov (.cst (.int .i64 0)))), none⟩])
 (.seq (.reg [⟨(some 14), (.p (.mov (.tmp 0))), none⟩,
 ⟨(some 15), (.r (.pcall (.cst (.fn 14 [] [])) [(.tmp 14)])), none⟩,
 ⟨(some 13), (.p (.mov (.tmp 15))), none⟩,
 ⟨(some 16), (.p (.ext (.tmp 13) 0)), none⟩,
 ⟨(some 17), (.p (.ext (.tmp 13) 1)), none⟩,
 ⟨(some 4), (.w (.alloc [(.str []), .nilsl])), none⟩,
 ⟨none, (.w (.store 2 (.tmp 4) (.tmp 16))), none⟩,
 ⟨(some 5), (.p (.mov (.tmp 17))), none⟩])
 (.seq (.seq (.reg [⟨(some 18), (.p (.mov (.tmp 5))), none⟩,
 ⟨(some 19), (.p (.ibin .neq (.tmp 18) (.cst (.int .i64 0)))), none⟩])
 (.cond (.tmp 19) (.seq (.reg [⟨(some 20), (.p (.build [(.int .i64 0), (.int .i64 0), (.str []), (.str []), (.str []), (.str []), (.int .u64 0), (.str []), (.str []), (.str []), (.str []), (.int .i64 0), (.str []), (.str []), (.int .i64 0), (.str []), .nilsl, (.str []), (.str []), .nilsl, .nilsl] [])), none⟩,
 ⟨(some 21), (.p (.mov (.tmp 5))), none⟩,
 ⟨none, (.w (.store 21 (.tmp 2) (.tmp 20))), none⟩,
 ⟨(some 3), (.p (.mov (.tmp 21))), none⟩])
 .ret)
 .skip))
 (.seq (.reg [⟨(some 22), (.p (.fieldA 0 (.tmp 4))), none⟩,
 ⟨(some 23), (.r (.load none (.tmp 22))), none⟩,
 ⟨(some 24), (.r (.pcall (.cst (.fn 15 [] [])) [(.tmp 23)])), none⟩,
 ⟨(some 6), (.p (.mov (.tmp 24))), none⟩])
 (.seq (.seq (.reg [⟨(some 25), (.p (.mov (.tmp 6))), none⟩,
 ⟨(some 26), (.p (.ibin .eql (.tmp 25) (.cst (.int .i64 0)))), none⟩])
 (.cond (.tmp 26) (.seq (.reg [⟨(some 27), (.p (.build [(.int .i64 0), (.int .i64 0), (.str []), (.str []), (.str []), (.str []), (.int .u64 0), (.str []), (.str []), (.str []), (.str []), (.int .i64 0), (.str []), (.str []), (.int .i64 0), (.str []), .nilsl, (.str []), (.str []), .nilsl, .nilsl] [])), none⟩,
 ⟨none, (.w (.store 21 (.tmp 2) (.tmp 27))), none⟩,
 ⟨(some 3), (.p (.mov (.cst (.int .i64 15)))), none⟩])
 .ret)
 .skip))
 (.seq (.reg [⟨(some 28), (.p (.fieldA 1 (.tmp 4))), none⟩,
 ⟨(some 29), (.r (.load none (.tmp 28))), none⟩,
 ⟨(some 7), (.p (.mov (.tmp 29))), none⟩])
 (.seq (.seq (.reg [⟨(some 30), (.p (.mov (.tmp 7))), none⟩,
 ⟨(some 31), (.p (.mkfn 16 [(.tmp 30)] [])), none⟩,
 ⟨(some 32), (.p (.mov (.tmp 7))), none⟩,
 ⟨(some 33), (.p (.mkfn 17 [(.tmp 32)] [])), none⟩,
 ⟨(some 34), (.p (.mov (.tmp 7))), none⟩,
 ⟨(some 35), (.p (.mkfn 18 [(.tmp 34)] [])), none⟩,
 ⟨(some 36), (.p (.mov (.tmp 7))), none⟩,
 ⟨(some 37), (.p (.mkfn 19 [(.tmp 36)] [])), none⟩,
 ⟨(some 38), (.p (.mov (.tmp 7))), none⟩,
 ⟨(some 39), (.p (.mkfn 20 [(.tmp 38)] [])), none⟩,
 ⟨(some 40), (.p (.lit 1 .nilfn 5 [(0, (.tmp 31)), (1, (.tmp 33)), (2, (.tmp 35)), (3, (.tmp 37)), (4, (.tmp 39))])), none⟩,
 ⟨(some 41), (.p (.len (.tmp 40))), none⟩,
 ⟨(some 42), (.p (.mov (.cst (.int .i64 0)))), none⟩])
 (.block 0 (.loop (.seq (.reg [⟨(some 43), (.p (.ibin .lss (.tmp 42) (.tmp 41))), none⟩])
 (.seq (.cond (.tmp 43) .skip
 (.exit 0))
 (.seq (.block 1 (.seq (.reg [⟨(some 44), (.p (.idxA 1 (.tmp 40) (.tmp 42))), none⟩,
 ⟨(some 45), (.r (.load none (.tmp 44))), none⟩,
 ⟨(some 9), (.p (.mov (.tmp 45))), none⟩])
 (.seq (.reg [⟨(some 46), (.p (.mov (.tmp 9))), none⟩,
 ⟨(some 47), (.w (.call (.tmp 46) [])), none⟩,
 ⟨(some 10), (.p (.mov (.tmp 47))), none⟩])
 (.seq (.reg [⟨(some 48), (.p (.mov (.tmp 10))), none⟩,
 ⟨(some 49), (.p (.ibin .neq (.tmp 48) (.cst (.int .i64 0)))), none⟩])
 (.cond (.tmp 49) (.seq (.reg [⟨(some 50), (.p (.build [(.int .i64 0), (.int .i64 0), (.str []), (.str []), (.str []), (.str []), (.int .u64 0), (.str []), (.str []), (.str []), (.str []), (.int .i64 0), (.str []), (.str []), (.int .i64 0), (.str []), .nilsl, (.str []), (.str []), .nilsl, .nilsl] [])), none⟩,
 ⟨(some 51), (.p (.mov (.tmp 10))), none⟩,
 ⟨none, (.w (.store 21 (.tmp 2) (.tmp 50))), none⟩,
 ⟨(some 3), (.p (.mov (.tmp 51))), none⟩])
 .ret)
 .skip)))))
 (.reg [⟨(some 52), (.p (.ibin .add (.tmp 42) (.cst (.int .i64 1)))), none⟩,
 ⟨(some 42), (.p (.mov (.tmp 52))), none⟩])))))))
 (.seq (.reg [⟨(some 53), (.p (.mov (.tmp 7))), none⟩,
 ⟨(some 54), (.p (.mov (.tmp 6))), none⟩,
 ⟨(some 55), (.r (.pcall (.cst (.fn 21 [] [])) [(.tmp 53), (.tmp 54)])), none⟩,
 ⟨(some 11), (.w (.alloc [(.int .i64 0), (.int .i64 0), (.str []), (.str []), (.str []), (.str []), (.int .u64 0), (.str []), (.str []), (.str []), (.str []), (.int .i64 0), (.str []), (.str []), (.int .i64 0), (.str []), .nilsl, (.str []), (.str []), .nilsl, .nilsl])), none⟩,
 ⟨none, (.w (.store 21 (.tmp 11) (.tmp 55))), none⟩])
 (.seq (.seq (.reg [⟨(some 56), (.r (.load (some 21) (.tmp 11))), none⟩,
 ⟨(some 57), (.r (.pcall (.cst (.fn 22 [] [])) [(.tmp 56)])), none⟩,
 ⟨(some 12), (.p (.mov (.tmp 57))), none⟩])
 (.seq (.reg [⟨(some 58), (.p (.mov (.tmp 12))), none⟩,
 ⟨(some 59), (.p (.ibin .neq (.tmp 58) (.cst (.int .i64 0)))), none⟩])
 (.cond (.tmp 59) (.seq (.reg [⟨(some 60), (.p (.build [(.int .i64 0), (.int .i64 0), (.str []), (.str []), (.str []), (.str []), (.int .u64 0), (.str []), (.str []), (.str []), (.str []), (.int .i64 0), (.str []), (.str []), (.int .i64 0), (.str []), .nilsl, (.str []), (.str []), .nilsl, .nilsl] [])), none⟩,
 ⟨(some 61), (.p (.mov (.tmp 12))), none⟩,
 ⟨none, (.w (.store 21 (.tmp 2) (.tmp 60))), none⟩,
 ⟨(some 3), (.p (.mov (.tmp 61))), none⟩])
 .ret)
 .skip)))
 (.seq (.reg [⟨(some 62), (.r (.load (some 21) (.tmp 11))), none⟩,
 ⟨none, (.w (.store 21 (.tmp 2) (.tmp 62))), none⟩,
 ⟨(some 3), (.p (.mov (.cst (.int .i64 0)))), none⟩])
 .ret))))))))))
def f6 : VF := { body := b6, res := [(.cell 2 (some 21)), (.tmp 3)] }
-- comptoir/comptoirlaw18.awake
def b7 : VC := (.seq (.reg [⟨(some 0), (.p (.mov (.cst (.bool false)))), none⟩])
 (.seq (.reg [⟨(some 8), (.r (.pcall (.cst (.fn 24 [] [])) [])), none⟩,
 ⟨(some 9), (.r (.pcall (.cst (.fn 23 [] [])) [(.tmp 8)])), none⟩,
 ⟨(some 7), (.p (.mov (.tmp 9))), none⟩,
 ⟨(some 10), (.p (.ext (.tmp 7) 0)), none⟩,
 ⟨(some 11), (.p (.ext (.tmp 7) 1)), none⟩,
 ⟨(some 1), (.p (.mov (.tmp 10))), none⟩,
 ⟨(some 2), (.p (.mov (.tmp 11))), none⟩])
 (.seq (.reg [⟨(some 13), (.p (.mov (.tmp 1))), none⟩,
 ⟨(some 14), (.r (.pcall (.cst (.fn 6 [] [])) [(.tmp 13)])), none⟩,
 ⟨(some 12), (.p (.mov (.tmp 14))), none⟩,
 ⟨(some 15), (.p (.ext (.tmp 12) 0)), none⟩,
 ⟨(some 16), (.p (.ext (.tmp 12) 1)), none⟩,
 ⟨(some 3), (.w (.alloc [(.int .i64 0), (.int .i64 0), (.str []), (.str []), (.str []), (.str []), (.int .u64 0), (.str []), (.str []), (.str []), (.str []), (.int .i64 0), (.str []), (.str []), (.int .i64 0), (.str []), .nilsl, (.str []), (.str []), .nilsl, .nilsl])), none⟩,
 ⟨none, (.w (.store 21 (.tmp 3) (.tmp 15))), none⟩,
 ⟨(some 4), (.p (.mov (.tmp 16))), none⟩])
 (.seq (.reg [⟨(some 18), (.p (.mov (.tmp 1))), none⟩,
 ⟨(some 19), (.r (.pcall (.cst (.fn 9 [] [])) [(.tmp 18)])), none⟩,
 ⟨(some 17), (.p (.mov (.tmp 19))), none⟩,
 ⟨(some 20), (.p (.ext (.tmp 17) 0)), none⟩,
 ⟨(some 21), (.p (.ext (.tmp 17) 1)), none⟩,
 ⟨(some 5), (.w (.alloc [(.int .i64 0), (.int .i64 0), (.str []), (.str []), (.str []), (.str []), (.int .u64 0), (.str []), (.str []), (.str []), (.str []), (.int .i64 0), (.str []), (.str []), (.int .i64 0), (.str []), .nilsl, (.str []), (.str []), .nilsl, .nilsl])), none⟩,
 ⟨none, (.w (.store 21 (.tmp 5) (.tmp 20))), none⟩,
 ⟨(some 6), (.p (.mov (.tmp 21))), none⟩])
 (.seq (.draw [(⟨(some 22), (.p (.mov (.tmp 2))), none⟩, 0, 0),
 (⟨(some 23), (.p (.ibin .eql (.tmp 22) (.cst (.int .i64 0)))), none⟩, 0, 0),
 (⟨(some 24), (.p (.mov (.tmp 23))), none⟩, 0, 0),
 (⟨(some 25), (.p (.mov (.tmp 4))), (some (24, true))⟩, 0, 0),
 (⟨(some 26), (.p (.ibin .eql (.tmp 25) (.cst (.int .i64 0)))), (some (24, true))⟩, 0, 0),
 (⟨(some 27), (.p (.pick (.tmp 24) (.tmp 26) (.cst (.bool false)))), none⟩, 0, 0),
 (⟨(some 28), (.p (.mov (.tmp 27))), none⟩, 0, 0),
 (⟨(some 29), (.r (.load (some 21) (.tmp 3))), (some (28, true))⟩, 0, 0),
 (⟨(some 30), (.r (.pcall (.cst (.fn 24 [] [])) [])), (some (28, true))⟩, 0, 0),
 (⟨(some 31), (.r (.pcall (.cst (.fn 10 [] [])) [(.tmp 29), (.tmp 30)])), (some (28, true))⟩, 0, 0),
 (⟨(some 32), (.p (.pick (.tmp 28) (.tmp 31) (.cst (.bool false)))), none⟩, 0, 0),
 (⟨(some 33), (.p (.mov (.tmp 32))), none⟩, 0, 0),
 (⟨(some 34), (.p (.mov (.tmp 6))), (some (33, true))⟩, 0, 0),
 (⟨(some 35), (.p (.pick (.tmp 33) (.tmp 34) (.cst (.bool false)))), none⟩, 0, 0),
 (⟨(some 36), (.p (.mov (.tmp 35))), none⟩, 0, 0),
 (⟨(some 37), (.p (.fieldA 1 (.tmp 5))), (some (36, true))⟩, 0, 0),
 (⟨(some 38), (.r (.load none (.tmp 37))), (some (36, true))⟩, 0, 0),
 (⟨(some 39), (.p (.ibin .eql (.tmp 38) (.cst (.int .i64 7)))), (some (36, true))⟩, 0, 0),
 (⟨(some 40), (.p (.pick (.tmp 36) (.tmp 39) (.cst (.bool false)))), none⟩, 0, 0),
 (⟨(some 0), (.p (.mov (.tmp 40))), none⟩, 0, 0)])
 .ret)))))
def f7 : VF := { body := b7, res := [(.tmp 0)] }
-- comptoir/comptoirref01.Digits
def b8 : VC := (.seq (.reg [⟨(some 4), (.p (.mov (.cst (.str [])))), none⟩,
 ⟨(some 5), (.p (.mov (.cst (.int .i64 0)))), none⟩])
 (.seq (.seq (.reg [⟨(some 7), (.p (.mov (.tmp 1))), none⟩,
 ⟨(some 8), (.p (.ibin .lss (.tmp 7) (.cst (.int .i64 1)))), none⟩,
 ⟨(some 9), (.p (.mov (.tmp 8))), none⟩,
 ⟨(some 10), (.p (.mov (.tmp 1))), (some (9, false))⟩,
 ⟨(some 11), (.p (.ibin .gtr (.tmp 10) (.cst (.int .i64 20)))), (some (9, false))⟩,
 ⟨(some 12), (.p (.pick (.tmp 9) (.cst (.bool true)) (.tmp 11))), none⟩])
 (.cond (.tmp 12) (.seq (.reg [⟨(some 4), (.p (.mov (.cst (.str [])))), none⟩,
 ⟨(some 5), (.p (.mov (.cst (.int .i64 1)))), none⟩])
 .ret)
 .skip))
 (.seq (.reg [⟨(some 13), (.p (.mov (.tmp 0))), none⟩,
 ⟨(some 14), (.r (.pcall (.cst (.fn 25 [] [])) [(.tmp 13)])), none⟩,
 ⟨(some 6), (.p (.mov (.tmp 14))), none⟩])
 (.seq (.seq (.reg [⟨(some 15), (.p (.mov (.tmp 6))), none⟩,
 ⟨(some 16), (.p (.lenStr (.tmp 15))), none⟩,
 ⟨(some 17), (.p (.mov (.tmp 1))), none⟩,
 ⟨(some 18), (.p (.ibin .gtr (.tmp 16) (.tmp 17))), none⟩])
 (.cond (.tmp 18) (.seq (.reg [⟨(some 4), (.p (.mov (.cst (.str [])))), none⟩,
 ⟨(some 5), (.p (.mov (.cst (.int .i64 4)))), none⟩])
 .ret)
 .skip))
 (.seq (.block 0 (.loop (.seq (.seq (.reg [⟨(some 19), (.p (.mov (.tmp 6))), none⟩,
 ⟨(some 20), (.p (.lenStr (.tmp 19))), none⟩,
 ⟨(some 21), (.p (.mov (.tmp 1))), none⟩,
 ⟨(some 22), (.p (.ibin .lss (.tmp 20) (.tmp 21))), none⟩])
 (.cond (.tmp 22) .skip
 (.exit 0)))
 (.block 1 (.reg [⟨(some 23), (.p (.mov (.tmp 6))), none⟩,
 ⟨(some 24), (.p (.ibin .add (.cst (.str [48])) (.tmp 23))), none⟩,
 ⟨(some 6), (.p (.mov (.tmp 24))), none⟩])))))
 (.seq (.reg [⟨(some 25), (.p (.mov (.tmp 6))), none⟩,
 ⟨(some 4), (.p (.mov (.tmp 25))), none⟩,
 ⟨(some 5), (.p (.mov (.cst (.int .i64 0)))), none⟩])
 .ret))))))
def f8 : VF := { body := b8, res := [(.tmp 4), (.tmp 5)] }
-- comptoir/fields.Head
def b9 : VC := (.seq (.reg [⟨(some 2), (.w (.alloc [(.int .i64 0), (.int .i64 0), (.str []), (.str []), (.str []), (.str []), (.int .u64 0), (.str []), (.str []), (.str []), (.str []), (.int .i64 0), (.str []), (.str []), (.int .i64 0), (.str []), .nilsl, (.str []), (.str []), .nilsl, .nilsl])), none⟩,
 ⟨(some 3), (.p (.mov (.cst (.bool false)))), none⟩])
 (.seq (.reg [⟨(some 8), (.p (.mov (.tmp 0))), none⟩,
 ⟨(some 9), (.r (.pcall (.cst (.fn 14 [] [])) [(.tmp 8)])), none⟩,
 ⟨(some 7), (.p (.mov (.tmp 9))), none⟩,
 ⟨(some 10), (.p (.ext (.tmp 7) 0)), none⟩,
 ⟨(some 11), (.p (.ext (.tmp 7) 1)), none⟩,
 ⟨(some 4), (.w (.alloc [(.str []), .nilsl])), none⟩,
 ⟨none, (.w (.store 2 (.tmp 4) (.tmp 10))), none⟩,
 ⟨(some 5), (.p (.mov (.tmp 11))), none⟩])
 (.seq (.reg [⟨(some 12), (.p (.fieldA 1 (.tmp 4))), none⟩,
 ⟨(some 13), (.r (.load none (.tmp 12))), none⟩,
 ⟨(some 6), (.p (.mov (.tmp 13))), none⟩])
 (.seq (.seq (.reg [⟨(some 14), (.p (.mov (.tmp 5))), none⟩,
 ⟨(some 15), (.p (.ibin .neq (.tmp 14) (.cst (.int .i64 0)))), none⟩,
 ⟨(some 16), (.p (.mov (.tmp 15))), none⟩,
 ⟨(some 17), (.p (.mov (.tmp 6))), (some (16, false))⟩,
 ⟨(some 18), (.r (.pcall (.cst (.fn 26 [] [])) [(.tmp 17), (.cst (.int .i64 11))])), (some (16, false))⟩,
 ⟨(some 19), (.p (.un .not (.tmp 18))), (some (16, false))⟩,
 ⟨(some 20), (.p (.pick (.tmp 16) (.cst (.bool true)) (.tmp 19))), none⟩,
 ⟨(some 21), (.p (.mov (.tmp 20))), none⟩,
 ⟨(some 22), (.p (.mov (.tmp 6))), (some (21, false))⟩,
 ⟨(some 23), (.r (.pcall (.cst (.fn 26 [] [])) [(.tmp 22), (.cst (.int .i64 32))])), (some (21, false))⟩,
 ⟨(some 24), (.p (.un .not (.tmp 23))), (some (21, false))⟩,
 ⟨(some 25), (.p (.pick (.tmp 21) (.cst (.bool true)) (.tmp 24))), none⟩,
 ⟨(some 26), (.p (.mov (.tmp 25))), none⟩,
 ⟨(some 27), (.p (.mov (.tmp 6))), (some (26, false))⟩,
 ⟨(some 28), (.r (.pcall (.cst (.fn 28 [] [])) [(.tmp 27), (.cst (.int .i64 12))])), (some (26, false))⟩,
 ⟨(some 29), (.r (.pcall (.cst (.fn 27 [] [])) [(.tmp 28)])), (some (26, false))⟩,
 ⟨(some 30), (.p (.un .not (.tmp 29))), (some (26, false))⟩,
 ⟨(some 31), (.p (.pick (.tmp 26) (.cst (.bool true)) (.tmp 30))), none⟩])
 (.cond (.tmp 31) (.seq (.reg [⟨(some 32), (.p (.build [(.int .i64 0), (.int .i64 0), (.str []), (.str []), (.str []), (.str []), (.int .u64 0), (.str []), (.str []), (.str []), (.str []), (.int .i64 0), (.str []), (.str []), (.int .i64 0), (.str []), .nilsl, (.str []), (.str []), .nilsl, .nilsl] [])), none⟩,
 ⟨none, (.w (.store 21 (.tmp 2) (.tmp 32))), none⟩,
 ⟨(some 3), (.p (.mov (.cst (.bool false)))), none⟩])
 .ret)
 .skip))
 (.seq (.reg [⟨(some 33), (.p (.mov (.tmp 6))), none⟩,
 ⟨(some 34), (.r (.pcall (.cst (.fn 29 [] [])) [(.tmp 33)])), none⟩,
 ⟨none, (.w (.store 21 (.tmp 2) (.tmp 34))), none⟩,
 ⟨(some 3), (.p (.mov (.cst (.bool true)))), none⟩])
 .ret)))))
def f9 : VF := { body := b9, res := [(.cell 2 (some 21)), (.tmp 3)] }
-- comptoir/comptoirhelp.Message
def b10 : VC := (.seq (.reg [⟨(some 2), (.w (.box 21 (.tmp 0))), none⟩,
 ⟨(some 3), (.w (.box 21 (.tmp 1))), none⟩,
 ⟨(some 4), (.p (.mov (.cst (.bool false)))), none⟩])
 (.seq (.reg [⟨(some 6), (.p (.fieldA 0 (.tmp 2))), none⟩,
 ⟨(some 7), (.r (.load none (.tmp 6))), none⟩,
 ⟨(some 8), (.p (.fieldA 0 (.tmp 3))), none⟩,
 ⟨(some 9), (.r (.load none (.tmp 8))), none⟩,
 ⟨(some 10), (.p (.ibin .eql (.tmp 7) (.tmp 9))), none⟩,
 ⟨(some 11), (.p (.mov (.tmp 10))), none⟩,
 ⟨(some 12), (.p (.fieldA 1 (.tmp 2))), (some (11, true))⟩,
 ⟨(some 13), (.r (.load none (.tmp 12))), (some (11, true))⟩,
 ⟨(some 14), (.p (.fieldA 1 (.tmp 3))), (some (11, true))⟩,
 ⟨(some 15), (.r (.load none (.tmp 14))), (some (11, true))⟩,
 ⟨(some 16), (.p (.ibin .eql (.tmp 13) (.tmp 15))), (some (11, true))⟩,
 ⟨(some 17), (.p (.pick (.tmp 11) (.tmp 16) (.cst (.bool false)))), none⟩,
 ⟨(some 18), (.p (.mov (.tmp 17))), none⟩,
 ⟨(some 19), (.p (.fieldA 2 (.tmp 2))), (some (18, true))⟩,
 ⟨(some 20), (.r (.load none (.tmp 19))), (some (18, true))⟩,
 ⟨(some 21), (.p (.fieldA 2 (.tmp 3))), (some (18, true))⟩,
 ⟨(some 22), (.r (.load none (.tmp 21))), (some (18, true))⟩,
 ⟨(some 23), (.p (.ibin .eql (.tmp 20) (.tmp 22))), (some (18, true))⟩,
 ⟨(some 24), (.p (.pick (.tmp 18) (.tmp 23) (.cst (.bool false)))), none⟩,
 ⟨(some 25), (.p (.mov (.tmp 24))), none⟩,
 ⟨(some 26), (.p (.fieldA 3 (.tmp 2))), (some (25, true))⟩,
 ⟨(some 27), (.r (.load none (.tmp 26))), (some (25, true))⟩,
 ⟨(some 28), (.p (.fieldA 3 (.tmp 3))), (some (25, true))⟩,
 ⟨(some 29), (.r (.load none (.tmp 28))), (some (25, true))⟩,
 ⟨(some 30), (.p (.ibin .eql (.tmp 27) (.tmp 29))), (some (25, true))⟩,
 ⟨(some 31), (.p (.pick (.tmp 25) (.tmp 30) (.cst (.bool false)))), none⟩,
 ⟨(some 32), (.p (.mov (.tmp 31))), none⟩,
 ⟨(some 33), (.p (.fieldA 4 (.tmp 2))), (some (32, true))⟩,
 ⟨(some 34), (.r (.load none (.tmp 33))), (some (32, true))⟩,
 ⟨(some 35), (.p (.fieldA 4 (.tmp 3))), (some (32, true))⟩,
 ⟨(some 36), (.r (.load none (.tmp 35))), (some (32, true))⟩,
 ⟨(some 37), (.p (.ibin .eql (.tmp 34) (.tmp 36))), (some (32, true))⟩,
 ⟨(some 38), (.p (.pick (.tmp 32) (.tmp 37) (.cst (.bool false)))), none⟩,
 ⟨(some 39), (.p (.mov (.tmp 38))), none⟩,
 ⟨(some 40), (.p (.fieldA 5 (.tmp 2))), (some (39, true))⟩,
 ⟨(some 41), (.r (.load none (.tmp 40))), (some (39, true))⟩,
 ⟨(some 42), (.p (.fieldA 5 (.tmp 3))), (some (39, true))⟩,
 ⟨(some 43), (.r (.load none (.tmp 42))), (some (39, true))⟩,
 ⟨(some 44), (.p (.ibin .eql (.tmp 41) (.tmp 43))), (some (39, true))⟩,
 ⟨(some 45), (.p (.pick (.tmp 39) (.tmp 44) (.cst (.bool false)))), none⟩,
 ⟨(some 46), (.p (.mov (.tmp 45))), none⟩,
 ⟨(some 47), (.p (.fieldA 6 (.tmp 2))), (some (46, true))⟩,
 ⟨(some 48), (.r (.load none (.tmp 47))), (some (46, true))⟩,
 ⟨(some 49), (.p (.fieldA 6 (.tmp 3))), (some (46, true))⟩,
 ⟨(some 50), (.r (.load none (.tmp 49))), (some (46, true))⟩,
 ⟨(some 51), (.p (.ibin .eql (.tmp 48) (.tmp 50))), (some (46, true))⟩,
 ⟨(some 52), (.p (.pick (.tmp 46) (.tmp 51) (.cst (.bool false)))), none⟩,
 ⟨(some 5), (.p (.mov (.tmp 52))), none⟩])
 (.seq (.reg [⟨(some 53), (.p (.mov (.tmp 5))), none⟩,
 ⟨(some 54), (.p (.mov (.tmp 53))), none⟩,
 ⟨(some 55), (.p (.fieldA 7 (.tmp 2))), (some (54, true))⟩,
 ⟨(some 56), (.r (.load none (.tmp 55))), (some (54, true))⟩,
 ⟨(some 57), (.p (.fieldA 7 (.tmp 3))), (some (54, true))⟩,
 ⟨(some 58), (.r (.load none (.tmp 57))), (some (54, true))⟩,
 ⟨(some 59), (.p (.ibin .eql (.tmp 56) (.tmp 58))), (some (54, true))⟩,
 ⟨(some 60), (.p (.pick (.tmp 54) (.tmp 59) (.cst (.bool false)))), none⟩,
 ⟨(some 61), (.p (.mov (.tmp 60))), none⟩,
 ⟨(some 62), (.p (.fieldA 8 (.tmp 2))), (some (61, true))⟩,
 ⟨(some 63), (.r (.load none (.tmp 62))), (some (61, true))⟩,
 ⟨(some 64), (.p (.fieldA 8 (.tmp 3))), (some (61, true))⟩,
 ⟨(some 65), (.r (.load none (.tmp 64))), (some (61, true))⟩,
 ⟨(some 66), (.p (.ibin .eql (.tmp 63) (.tmp 65))), (some (61, true))⟩,
 ⟨(some 67), (.p (.pick (.tmp 61) (.tmp 66) (.cst (.bool false)))), none⟩,
 ⟨(some 68), (.p (.mov (.tmp 67))), none⟩,
 ⟨(some 69), (.p (.fieldA 9 (.tmp 2))), (some (68, true))⟩,
 ⟨(some 70), (.r (.load none (.tmp 69))), (some (68, true))⟩,
 ⟨(some 71), (.p (.fieldA 9 (.tmp 3))), (some (68, true))⟩,
 ⟨(some 72), (.r (.load none (.tmp 71))), (some (68, true))⟩,
 ⟨(some 73), (.p (.ibin .eql (.tmp 70) (.tmp 72))), (some (68, true))⟩,
 ⟨(some 74), (.p (.pick (.tmp 68) (.tmp 73) (.cst (.bool false)))), none⟩,
 ⟨(some 75), (.p (.mov (.tmp 74))), none⟩,
 ⟨(some 76), (.p (.fieldA 10 (.tmp 2))), (some (75, true))⟩,
 ⟨(some 77), (.r (.load none (.tmp 76))), (some (75, true))⟩,
 ⟨(some 78), (.p (.fieldA 10 (.tmp 3))), (some (75, true))⟩,
 ⟨(some 79), (.r (.load none (.tmp 78))), (some (75, true))⟩,
 ⟨(some 80), (.p (.ibin .eql (.tmp 77) (.tmp 79))), (some (75, true))⟩,
 ⟨(some 81), (.p (.pick (.tmp 75) (.tmp 80) (.cst (.bool false)))), none⟩,
 ⟨(some 82), (.p (.mov (.tmp 81))), none⟩,
 ⟨(some 83), (.p (.fieldA 11 (.tmp 2))), (some (82, true))⟩,
 ⟨(some 84), (.r (.load none (.tmp 83))), (some (82, true))⟩,
 ⟨(some 85), (.p (.fieldA 11 (.tmp 3))), (some (82, true))⟩,
 ⟨(some 86), (.r (.load none (.tmp 85))), (some (82, true))⟩,
 ⟨(some 87), (.p (.ibin .eql (.tmp 84) (.tmp 86))), (some (82, true))⟩,
 ⟨(some 88), (.p (.pick (.tmp 82) (.tmp 87) (.cst (.bool false)))), none⟩,
 ⟨(some 89), (.p (.mov (.tmp 88))), none⟩,
 ⟨(some 90), (.p (.fieldA 12 (.tmp 2))), (some (89, true))⟩,
 ⟨(some 91), (.r (.load none (.tmp 90))), (some (89, true))⟩,
 ⟨(some 92), (.p (.fieldA 12 (.tmp 3))), (some (89, true))⟩,
 ⟨(some 93), (.r (.load none (.tmp 92))), (some (89, true))⟩,
 ⟨(some 94), (.p (.ibin .eql (.tmp 91) (.tmp 93))), (some (89, true))⟩,
 ⟨(some 95), (.p (.pick (.tmp 89) (.tmp 94) (.cst (.bool false)))), none⟩,
 ⟨(some 5), (.p (.mov (.tmp 95))), none⟩])
 (.seq (.reg [⟨(some 96), (.p (.mov (.tmp 5))), none⟩,
 ⟨(some 97), (.p (.mov (.tmp 96))), none⟩,
 ⟨(some 98), (.p (.fieldA 13 (.tmp 2))), (some (97, true))⟩,
 ⟨(some 99), (.r (.load none (.tmp 98))), (some (97, true))⟩,
 ⟨(some 100), (.p (.fieldA 13 (.tmp 3))), (some (97, true))⟩,
 ⟨(some 101), (.r (.load none (.tmp 100))), (some (97, true))⟩,
 ⟨(some 102), (.p (.ibin .eql (.tmp 99) (.tmp 101))), (some (97, true))⟩,
 ⟨(some 103), (.p (.pick (.tmp 97) (.tmp 102) (.cst (.bool false)))), none⟩,
 ⟨(some 104), (.p (.mov (.tmp 103))), none⟩,
 ⟨(some 105), (.p (.fieldA 14 (.tmp 2))), (some (104, true))⟩,
 ⟨(some 106), (.r (.load (some 2) (.tmp 105))), (some (104, true))⟩,
 ⟨(some 107), (.p (.fieldA 14 (.tmp 3))), (some (104, true))⟩,
 ⟨(some 108), (.r (.load (some 2) (.tmp 107))), (some (104, true))⟩,
 ⟨(some 109), (.p (.eqagg [1, 2] false (.tmp 106) (.tmp 108))), (some (104, true))⟩,
 ⟨(some 110), (.p (.pick (.tmp 104) (.tmp 109) (.cst (.bool false)))), none⟩,
 ⟨(some 111), (.p (.mov (.tmp 110))), none⟩,
 ⟨(some 112), (.p (.fieldA 17 (.tmp 2))), (some (111, true))⟩,
 ⟨(some 113), (.r (.load none (.tmp 112))), (some (111, true))⟩,
 ⟨(some 114), (.p (.fieldA 17 (.tmp 3))), (some (111, true))⟩,
 ⟨(some 115), (.r (.load none (.tmp 114))), (some (111, true))⟩,
 ⟨(some 116), (.p (.ibin .eql (.tmp 113) (.tmp 115))), (some (111, true))⟩,
 ⟨(some 117), (.p (.pick (.tmp 111) (.tmp 116) (.cst (.bool false)))), none⟩,
 ⟨(some 118), (.p (.mov (.tmp 117))), none⟩,
 ⟨(some 119), (.p (.fieldA 18 (.tmp 2))), (some (118, true))⟩,
 ⟨(some 120), (.r (.load none (.tmp 119))), (some (118, true))⟩,
 ⟨(some 121), (.p (.fieldA 18 (.tmp 3))), (some (118, true))⟩,
 ⟨(some 122), (.r (.load none (.tmp 121))), (some (118, true))⟩,
 ⟨(some 123), (.p (.ibin .eql (.tmp 120) (.tmp 122))), (some (118, true))⟩,
 ⟨(some 124), (.p (.pick (.tmp 118) (.tmp 123) (.cst (.bool false)))), none⟩,
 ⟨(some 5), (.p (.mov (.tmp 124))), none⟩])
 (.seq (.reg [⟨(some 125), (.p (.mov (.tmp 5))), none⟩,
 ⟨(some 126), (.p (.mov (.tmp 125))), none⟩,
 ⟨(some 127), (.p (.fieldA 16 (.tmp 2))), (some (126, true))⟩,
 ⟨(some 128), (.r (.load none (.tmp 127))), (some (126, true))⟩,
 ⟨(some 129), (.p (.fieldA 16 (.tmp 3))), (some (126, true))⟩,
 ⟨(some 130), (.r (.load none (.tmp 129))), (some (126, true))⟩,
 ⟨(some 131), (.r (.pcall (.cst (.fn 30 [] [])) [(.tmp 128), (.tmp 130), (.cst (.fn 31 [] []))])), (some (126, true))⟩,
 ⟨(some 132), (.p (.pick (.tmp 126) (.tmp 131) (.cst (.bool false)))), none⟩,
 ⟨(some 133), (.p (.mov (.tmp 132))), none⟩,
 ⟨(some 134), (.p (.fieldA 19 (.tmp 2))), (some (133, true))⟩,
 ⟨(some 135), (.r (.load none (.tmp 134))), (some (133, true))⟩,
 ⟨(some 136), (.p (.fieldA 19 (.tmp 3))), (some (133, true))⟩,
 ⟨(some 137), (.r (.load none (.tmp 136))), (some (133, true))⟩,
 ⟨(some 138), (.r (.pcall (.cst (.fn 32 [] [])) [(.tmp 135), (.tmp 137)])), (some (133, true))⟩,
 ⟨(some 139), (.p (.pick (.tmp 133) (.tmp 138) (.cst (.bool false)))), none⟩,
 ⟨(some 140), (.p (.mov (.tmp 139))), none⟩,
 ⟨(some 141), (.p (.fieldA 20 (.tmp 2))), (some (140, true))⟩,
 ⟨(some 142), (.r (.load none (.tmp 141))), (some (140, true))⟩,
 ⟨(some 143), (.p (.fieldA 20 (.tmp 3))), (some (140, true))⟩,
 ⟨(some 144), (.r (.load none (.tmp 143))), (some (140, true))⟩,
 ⟨(some 145), (.r (.pcall (.cst (.fn 33 [] [])) [(.tmp 142), (.tmp 144), (.cst (.fn 34 [] []))])), (some (140, true))⟩,
 ⟨(some 146), (.p (.pick (.tmp 140) (.tmp 145) (.cst (.bool false)))), none⟩,
 ⟨(some 4), (.p (.mov (.tmp 146))), none⟩])
 .ret)))))
def f10 : VF := { body := b10, res := [(.tmp 4)] }
-- comptoir/comptoirref01.Right
def b11 : VC := (.seq (.reg [⟨(some 6), (.p (.mov (.cst (.bool false)))), none⟩])
 (.seq (.seq (.reg [⟨(some 7), (.p (.mov (.cst (.int .i64 0)))), none⟩])
 (.block 0 (.loop (.seq (.seq (.reg [⟨(some 8), (.p (.mov (.tmp 7))), none⟩,
 ⟨(some 9), (.p (.mov (.tmp 0))), none⟩,
 ⟨(some 10), (.p (.lenStr (.tmp 9))), none⟩,
 ⟨(some 11), (.p (.ibin .lss (.tmp 8) (.tmp 10))), none⟩])
 (.cond (.tmp 11) .skip
 (.exit 0)))
 (.seq (.block 1 (.seq (.reg [⟨(some 14), (.p (.mov (.tmp 0))), none⟩,
 ⟨(some 15), (.p (.mov (.tmp 7))), none⟩,
 ⟨(some 16), (.p (.idxStr (.tmp 14) (.tmp 15))), none⟩,
 ⟨(some 17), (.p (.ibin .lss (.tmp 16) (.cst (.int .u8 48)))), none⟩,
 ⟨(some 18), (.p (.mov (.tmp 17))), none⟩,
 ⟨(some 19), (.p (.mov (.tmp 0))), (some (18, false))⟩,
 ⟨(some 20), (.p (.mov (.tmp 7))), (some (18, false))⟩,
 ⟨(some 21), (.p (.idxStr (.tmp 19) (.tmp 20))), (some (18, false))⟩,
 ⟨(some 22), (.p (.ibin .gtr (.tmp 21) (.cst (.int .u8 57)))), (some (18, false))⟩,
 ⟨(some 23), (.p (.pick (.tmp 18) (.cst (.bool true)) (.tmp 22))), none⟩])
 (.cond (.tmp 23) (.seq (.reg [⟨(some 6), (.p (.mov (.cst (.bool false)))), none⟩])
 .ret)
 .skip)))
 (.reg [⟨(some 12), (.p (.mov (.tmp 7))), none⟩,
 ⟨(some 13), (.p (.ibin .add (.tmp 12) (.cst (.int .i64 1)))), none⟩,
 ⟨(some 7), (.p (.mov (.tmp 13))), none⟩]))))))
 (.seq (.reg [⟨(some 24), (.p (.mov (.tmp 0))), none⟩,
 ⟨(some 25), (.p (.lenStr (.tmp 24))), none⟩,
 ⟨(some 26), (.p (.mov (.tmp 1))), none⟩,
 ⟨(some 27), (.p (.ibin .geq (.tmp 25) (.tmp 26))), none⟩,
 ⟨(some 28), (.p (.mov (.tmp 27))), none⟩,
 ⟨(some 29), (.p (.mov (.tmp 0))), (some (28, true))⟩,
 ⟨(some 30), (.p (.lenStr (.tmp 29))), (some (28, true))⟩,
 ⟨(some 31), (.p (.mov (.tmp 2))), (some (28, true))⟩,
 ⟨(some 32), (.p (.ibin .leq (.tmp 30) (.tmp 31))), (some (28, true))⟩,
 ⟨(some 33), (.p (.pick (.tmp 28) (.tmp 32) (.cst (.bool false)))), none⟩,
 ⟨(some 6), (.p (.mov (.tmp 33))), none⟩])
 .ret)))
def f11 : VF := { body := b11, res := [(.tmp 6)] }
-- comptoir/comptoirref01.WriteMap
def b12 : VC := (.seq (.reg [⟨(some 2), (.p (.mov (.cst .nilsl))), none⟩,
 ⟨(some 3), (.p (.mov (.cst (.int .i64 0)))), none⟩])
 (.seq (.reg [⟨(some 7), (.w (.mksl 1 1 (.int .u8 0) (.cst (.int .i64 8)) (.cst (.int .i64 8)))), none⟩,
 ⟨(some 4), (.p (.mov (.tmp 7))), none⟩])
 (.seq (.seq (.reg [⟨(some 5), (.p (.mov (.cst (.int .i64 0)))), none⟩])
 (.block 0 (.loop (.seq (.seq (.reg [⟨(some 8), (.p (.mov (.tmp 5))), none⟩,
 ⟨(some 9), (.p (.mov (.tmp 0))), none⟩,
 ⟨(some 10), (.p (.len (.tmp 9))), none⟩,
 ⟨(some 11), (.p (.ibin .lss (.tmp 8) (.tmp 10))), none⟩])
 (.cond (.tmp 11) .skip
 (.exit 0)))
 (.seq (.block 1 (.seq (.reg [⟨(some 14), (.p (.mov (.tmp 0))), none⟩,
 ⟨(some 15), (.p (.mov (.tmp 5))), none⟩,
 ⟨(some 16), (.p (.idxA 1 (.tmp 14) (.tmp 15))), none⟩,
 ⟨(some 17), (.r (.load none (.tmp 16))), none⟩,
 ⟨(some 6), (.p (.mov (.tmp 17))), none⟩])
 (.seq (.seq (.reg [⟨(some 18), (.p (.mov (.tmp 6))), none⟩,
 ⟨(some 19), (.p (.ibin .lss (.tmp 18) (.cst (.int .i64 2)))), none⟩,
 ⟨(some 20), (.p (.mov (.tmp 19))), none⟩,
 ⟨(some 21), (.p (.mov (.tmp 6))), (some (20, false))⟩,
 ⟨(some 22), (.p (.ibin .gtr (.tmp 21) (.cst (.int .i64 128)))), (some (20, false))⟩,
 ⟨(some 23), (.p (.pick (.tmp 20) (.cst (.bool true)) (.tmp 22))), none⟩,
 ⟨(some 24), (.p (.mov (.tmp 23))), none⟩,
 ⟨(some 25), (.p (.mov (.tmp 6))), (some (24, false))⟩,
 ⟨(some 26), (.p (.ibin .eql (.tmp 25) (.cst (.int .i64 65)))), (some (24, false))⟩,
 ⟨(some 27), (.p (.pick (.tmp 24) (.cst (.bool true)) (.tmp 26))), none⟩,
 ⟨(some 28), (.p (.mov (.tmp 27))), none⟩,
 ⟨(some 29), (.p (.mov (.tmp 5))), (some (28, false))⟩,
 ⟨(some 30), (.p (.ibin .gtr (.tmp 29) (.cst (.int .i64 0)))), (some (28, false))⟩,
 ⟨(some 31), (.p (.mov (.tmp 30))), (some (28, false))⟩,
 ⟨(some 32), (.p (.mov (.tmp 6))), (some (31, true))⟩,
 ⟨(some 33), (.p (.mov (.tmp 0))), (some (31, true))⟩,
 ⟨(some 34), (.p (.mov (.tmp 5))), (some (31, true))⟩,
 ⟨(some 35), (.p (.ibin .sub (.tmp 34) (.cst (.int .i64 1)))), (some (31, true))⟩,
 ⟨(some 36), (.p (.idxA 1 (.tmp 33) (.tmp 35))), (some (31, true))⟩,
 ⟨(some 37), (.r (.load none (.tmp 36))), (some (31, true))⟩,
 ⟨(some 38), (.p (.ibin .leq (.tmp 32) (.tmp 37))), (some (31, true))⟩,
 ⟨(some 39), (.p (.pick (.tmp 31) (.tmp 38) (.cst (.bool false)))), (some (28, false))⟩,
 ⟨(some 40), (.p (.pick (.tmp 28) (.cst (.bool true)) (.tmp 39))), none⟩])
 (.cond (.tmp 40) (.seq (.reg [⟨(some 2), (.p (.mov (.cst .nilsl))), none⟩,
 ⟨(some 3), (.p (.mov (.cst (.int .i64 1)))), none⟩])
 .ret)
 .skip))
 (.seq (.seq (.reg [⟨(some 41), (.p (.mov (.tmp 6))), none⟩,
 ⟨(some 42), (.p (.ibin .gtr (.tmp 41) (.cst (.int .i64 64)))), none⟩,
 ⟨(some 43), (.p (.mov (.tmp 42))), none⟩,
 ⟨(some 44), (.p (.mov (.tmp 4))), (some (43, true))⟩,
 ⟨(some 45), (.p (.len (.tmp 44))), (some (43, true))⟩,
 ⟨(some 46), (.p (.ibin .eql (.tmp 45) (.cst (.int .i64 8)))), (some (43, true))⟩,
 ⟨(some 47), (.p (.pick (.tmp 43) (.tmp 46) (.cst (.bool false)))), none⟩])
 (.cond (.tmp 47) (.seq (.reg [⟨(some 48), (.p (.mov (.tmp 4))), none⟩,
 ⟨(some 49), (.p (.lit 1 (.int .u8 0) 8 [(0, (.cst (.int .u8 0))), (1, (.cst (.int .u8 0))), (2, (.cst (.int .u8 0))), (3, (.cst (.int .u8 0))), (4, (.cst (.int .u8 0))), (5, (.cst (.int .u8 0))), (6, (.cst (.int .u8 0))), (7, (.cst (.int .u8 0)))])), none⟩,
 ⟨(some 50), (.w (.append 1 1 (.tmp 48) (.tmp 49))), none⟩,
 ⟨(some 4), (.p (.mov (.tmp 50))), none⟩])
 (.reg [⟨(some 51), (.p (.mov (.tmp 4))), none⟩,
 ⟨(some 52), (.p (.mov (.tmp 4))), none⟩,
 ⟨(some 53), (.p (.idxA 1 (.tmp 52) (.cst (.int .i64 0)))), none⟩,
 ⟨(some 54), (.r (.load none (.tmp 53))), none⟩,
 ⟨(some 55), (.p (.ibin .or (.tmp 54) (.cst (.int .u8 128)))), none⟩,
 ⟨(some 56), (.p (.idxA 1 (.tmp 51) (.cst (.int .i64 0)))), none⟩,
 ⟨none, (.w (.store 1 (.tmp 56) (.tmp 55))), none⟩]))
 .skip))
 (.reg [⟨(some 57), (.p (.mov (.tmp 4))), none⟩,
 ⟨(some 58), (.p (.mov (.tmp 6))), none⟩,
 ⟨(some 59), (.p (.ibin .sub (.tmp 58) (.cst (.int .i64 1)))), none⟩,
 ⟨(some 60), (.p (.ibin .quo (.tmp 59) (.cst (.int .i64 8)))), none⟩,
 ⟨(some 61), (.p (.mov (.tmp 4))), none⟩,
 ⟨(some 62), (.p (.mov (.tmp 6))), none⟩,
 ⟨(some 63), (.p (.ibin .sub (.tmp 62) (.cst (.int .i64 1)))), none⟩,
 ⟨(some 64), (.p (.ibin .quo (.tmp 63) (.cst (.int .i64 8)))), none⟩,
 ⟨(some 65), (.p (.idxA 1 (.tmp 61) (.tmp 64))), none⟩,
 ⟨(some 66), (.r (.load none (.tmp 65))), none⟩,
 ⟨(some 67), (.p (.mov (.tmp 6))), none⟩,
 ⟨(some 68), (.p (.ibin .sub (.tmp 67) (.cst (.int .i64 1)))), none⟩,
 ⟨(some 69), (.p (.ibin .rem (.tmp 68) (.cst (.int .i64 8)))), none⟩,
 ⟨(some 70), (.p (.conv (.toInt .u64) (.tmp 69))), none⟩,
 ⟨(some 71), (.p (.ibin .shr (.cst (.int .u8 128)) (.tmp 70))), none⟩,
 ⟨(some 72), (.p (.ibin .or (.tmp 66) (.tmp 71))), none⟩,
 ⟨(some 73), (.p (.idxA 1 (.tmp 57) (.tmp 60))), none⟩,
 ⟨none, (.w (.store 1 (.tmp 73) (.tmp 72))), none⟩])))))
 (.reg [⟨(some 12), (.p (.mov (.tmp 5))), none⟩,
 ⟨(some 13), (.p (.ibin .add (.tmp 12) (.cst (.int .i64 1)))), none⟩,
 ⟨(some 5), (.p (.mov (.tmp 13))), none⟩]))))))
 (.seq (.reg [⟨(some 74), (.p (.mov (.tmp 4))), none⟩,
 ⟨(some 2), (.p (.mov (.tmp 74))), none⟩,
 ⟨(some 3), (.p (.mov (.cst (.int .i64 0)))), none⟩])
 .ret))))
def f12 : VF := { body := b12, res := [(.tmp 2), (.tmp 3)] }
-- comptoir/comptoirref16.WriteElement
def b13 : VC := (.seq (.reg [⟨(some 1), (.w (.box 2 (.tmp 0))), none⟩,
 ⟨(some 2), (.p (.mov (.cst .nilsl))), none⟩,
 ⟨(some 3), (.p (.mov (.cst (.int .i64 0)))), none⟩])
 (.seq (.reg [⟨(some 8), (.r (.load (some 2) (.tmp 1))), none⟩,
 ⟨(some 9), (.r (.pcall (.cst (.fn 35 [] [])) [(.tmp 8)])), none⟩,
 ⟨(some 4), (.p (.mov (.tmp 9))), none⟩])
 (.seq (.seq (.reg [⟨(some 10), (.p (.mov (.tmp 4))), none⟩,
 ⟨(some 11), (.p (.ibin .neq (.tmp 10) (.cst (.int .i64 0)))), none⟩])
 (.cond (.tmp 11) (.seq (.reg [⟨(some 12), (.p (.mov (.tmp 4))), none⟩,
 ⟨(some 2), (.p (.mov (.cst .nilsl))), none⟩,
 ⟨(some 3), (.p (.mov (.tmp 12))), none⟩])
 .ret)
 .skip))
 (.seq (.reg [⟨(some 14), (.p (.fieldA 0 (.tmp 1))), none⟩,
 ⟨(some 15), (.r (.load none (.tmp 14))), none⟩,
 ⟨(some 16), (.r (.pcall (.cst (.fn 36 [] [])) [(.tmp 15)])), none⟩,
 ⟨(some 13), (.p (.mov (.tmp 16))), none⟩,
 ⟨(some 17), (.p (.ext (.tmp 13) 0)), none⟩,
 ⟨(some 18), (.p (.ext (.tmp 13) 1)), none⟩,
 ⟨(some 5), (.w (.alloc [(.int .i64 0), (.int .i64 0), (.int .i64 0), (.int .i64 0)])), none⟩,
 ⟨none, (.w (.store 4 (.tmp 5) (.tmp 17))), none⟩,
 ⟨(some 6), (.p (.mov (.tmp 18))), none⟩])
 (.seq (.reg [⟨(some 7), (.p (.mov (.cst (.str [])))), none⟩])
 (.seq (.seq (.reg [⟨(some 19), (.p (.fieldA 2 (.tmp 5))), none⟩,
 ⟨(some 20), (.r (.load none (.tmp 19))), none⟩,
 ⟨(some 21), (.p (.ibin .gtr (.tmp 20) (.cst (.int .i64 0)))), none⟩])
 (.cond (.tmp 21) (.reg [⟨(some 23), (.p (.fieldA 1 (.tmp 1))), none⟩,
 ⟨(some 24), (.r (.load none (.tmp 23))), none⟩,
 ⟨(some 25), (.p (.len (.tmp 24))), none⟩,
 ⟨(some 26), (.p (.conv (.toInt .u64) (.tmp 25))), none⟩,
 ⟨(some 27), (.p (.fieldA 2 (.tmp 5))), none⟩,
 ⟨(some 28), (.r (.load none (.tmp 27))), none⟩,
 ⟨(some 29), (.r (.pcall (.cst (.fn 8 [] [])) [(.tmp 26), (.tmp 28)])), none⟩,
 ⟨(some 22), (.p (.mov (.tmp 29))), none⟩,
 ⟨(some 30), (.p (.ext (.tmp 22) 0)), none⟩,
 ⟨(some 31), (.p (.ext (.tmp 22) 1)), none⟩,
 ⟨(some 7), (.p (.mov (.tmp 30))), none⟩])
 .skip))
 (.seq (.reg [⟨(some 32), (.p (.mov (.tmp 7))), none⟩,
 ⟨(some 33), (.w (.strBytes (.tmp 32))), none⟩,
 ⟨(some 34), (.p (.fieldA 1 (.tmp 1))), none⟩,
 ⟨(some 35), (.r (.load none (.tmp 34))), none⟩,
 ⟨(some 36), (.w (.append 1 1 (.tmp 33) (.tmp 35))), none⟩,
 ⟨(some 37), (.p (.mov (.tmp 4))), none⟩,
 ⟨(some 2), (.p (.mov (.tmp 36))), none⟩,
 ⟨(some 3), (.p (.mov (.tmp 37))), none⟩])
 .ret)))))))
def f13 : VF := { body := b13, res := [(.tmp 2), (.tmp 3)] }
-- comptoir/iso.Parse
def b14 : VC := (.seq (.reg [⟨(some 2), (.w (.alloc [(.str []), .nilsl])), none⟩,
 ⟨(some 3), (.p (.mov (.cst (.int .i64 0)))), none⟩])
 (.seq (.seq (.reg [⟨(some 10), (.p (.mov (.tmp 0))), none⟩,
 ⟨(some 11), (.p (.len (.tmp 10))), none⟩,
 ⟨(some 12), (.p (.ibin .gtr (.tmp 11) (.cst (.int .i64 4096)))), none⟩])
 (.cond (.tmp 12) (.seq (.reg [⟨(some 13), (.p (.build [(.str []), .nilsl] [])), none⟩,
 ⟨none, (.w (.store 2 (.tmp 2) (.tmp 13))), none⟩,
 ⟨(some 3), (.p (.mov (.cst (.int .i64 4)))), none⟩])
 .ret)
 .skip))
 (.seq (.reg [⟨(some 14), (.p (.mov (.tmp 0))), none⟩,
 ⟨(some 15), (.w (.call (.cst (.fn 37 [] [])) [(.tmp 14)])), none⟩,
 ⟨(some 4), (.p (.mov (.tmp 15))), none⟩])
 (.seq (.reg [⟨(some 17), (.p (.mov (.tmp 4))), none⟩,
 ⟨(some 18), (.w (.call (.cst (.fn 38 [] [])) [(.tmp 17), (.cst (.int .i64 4))])), none⟩,
 ⟨(some 16), (.p (.mov (.tmp 18))), none⟩,
 ⟨(some 19), (.p (.ext (.tmp 16) 0)), none⟩,
 ⟨(some 20), (.p (.ext (.tmp 16) 1)), none⟩,
 ⟨(some 5), (.p (.mov (.tmp 19))), none⟩,
 ⟨(some 6), (.p (.mov (.tmp 20))), none⟩])
 (.seq (.block 0 (.seq (.reg [⟨(some 22), (.p (.mov (.tmp 6))), none⟩,
 ⟨(some 23), (.p (.ibin .neq (.tmp 22) (.cst (.int .i64 0)))), none⟩,
 ⟨(some 21), (.p (.mov (.tmp 23))), none⟩])
 (.cond (.tmp 21) (.seq (.reg [⟨(some 24), (.p (.build [(.str []), .nilsl] [])), none⟩,
 ⟨(some 25), (.p (.mov (.tmp 6))), none⟩,
 ⟨none, (.w (.store 2 (.tmp 2) (.tmp 24))), none⟩,
 ⟨(some 3), (.p (.mov (.tmp 25))), none⟩])
 .ret)
 (.seq (.reg [⟨(some 27), (.p (.mov (.tmp 5))), none⟩,
 ⟨(some 28), (.r (.pcall (.cst (.fn 39 [] [])) [(.tmp 27), (.cst (.int .i64 4)), (.cst (.int .i64 4))])), none⟩,
 ⟨(some 29), (.p (.un .not (.tmp 28))), none⟩,
 ⟨(some 26), (.p (.mov (.tmp 29))), none⟩])
 (.cond (.tmp 26) (.seq (.reg [⟨(some 30), (.p (.build [(.str []), .nilsl] [])), none⟩,
 ⟨none, (.w (.store 2 (.tmp 2) (.tmp 30))), none⟩,
 ⟨(some 3), (.p (.mov (.cst (.int .i64 5)))), none⟩])
 .ret)
 .skip)))))
 (.seq (.reg [⟨(some 32), (.p (.mov (.tmp 0))), none⟩,
 ⟨(some 33), (.p (.slice 1 (.tmp 32) (some (.cst (.int .i64 4))) none)), none⟩,
 ⟨(some 34), (.r (.pcall (.cst (.fn 40 [] [])) [(.tmp 33)])), none⟩,
 ⟨(some 31), (.p (.mov (.tmp 34))), none⟩,
 ⟨(some 35), (.p (.ext (.tmp 31) 0)), none⟩,
 ⟨(some 36), (.p (.ext (.tmp 31) 1)), none⟩,
 ⟨(some 37), (.p (.ext (.tmp 31) 2)), none⟩,
 ⟨(some 7), (.p (.mov (.tmp 35))), none⟩,
 ⟨(some 8), (.p (.mov (.tmp 36))), none⟩,
 ⟨(some 6), (.p (.mov (.tmp 37))), none⟩])
 (.seq (.seq (.reg [⟨(some 38), (.p (.mov (.tmp 6))), none⟩,
 ⟨(some 39), (.p (.ibin .neq (.tmp 38) (.cst (.int .i64 0)))), none⟩])
 (.cond (.tmp 39) (.seq (.reg [⟨(some 40), (.p (.build [(.str []), .nilsl] [])), none⟩,
 ⟨(some 41), (.p (.mov (.tmp 6))), none⟩,
 ⟨none, (.w (.store 2 (.tmp 2) (.tmp 40))), none⟩,
 ⟨(some 3), (.p (.mov (.tmp 41))), none⟩])
 .ret)
 .skip))
 (.seq (.reg [⟨(some 42), (.p (.mov (.tmp 0))), none⟩,
 ⟨(some 43), (.p (.mov (.tmp 8))), none⟩,
 ⟨(some 44), (.p (.ibin .add (.cst (.int .i64 4)) (.tmp 43))), none⟩,
 ⟨(some 45), (.p (.slice 1 (.tmp 42) (some (.tmp 44)) none)), none⟩,
 ⟨(some 46), (.p (.build [.nilsl, .nilsl] [(0, 1, (.tmp 45))])), none⟩,
 ⟨(some 47), (.w (.box 2 (.tmp 46))), none⟩,
 ⟨(some 9), (.p (.mov (.tmp 47))), none⟩])
 (.seq (.seq (.reg [⟨(some 48), (.p (.mov (.tmp 7))), none⟩,
 ⟨(some 49), (.p (.mov (.tmp 9))), none⟩,
 ⟨(some 50), (.p (.mkfn 42 [(.tmp 49)] [])), none⟩,
 ⟨(some 51), (.w (.call (.cst (.fn 41 [] [])) [(.tmp 48), (.tmp 50)])), none⟩,
 ⟨(some 6), (.p (.mov (.tmp 51))), none⟩])
 (.seq (.reg [⟨(some 52), (.p (.mov (.tmp 6))), none⟩,
 ⟨(some 53), (.p (.ibin .neq (.tmp 52) (.cst (.int .i64 0)))), none⟩])
 (.cond (.tmp 53) (.seq (.reg [⟨(some 54), (.p (.build [(.str []), .nilsl] [])), none⟩,
 ⟨(some 55), (.p (.mov (.tmp 6))), none⟩,
 ⟨none, (.w (.store 2 (.tmp 2) (.tmp 54))), none⟩,
 ⟨(some 3), (.p (.mov (.tmp 55))), none⟩])
 .ret)
 .skip)))
 (.seq (.seq (.reg [⟨(some 56), (.p (.mov (.tmp 9))), none⟩,
 ⟨(some 57), (.p (.nilck (.tmp 56))), none⟩,
 ⟨(some 58), (.p (.fieldA 0 (.tmp 57))), none⟩,
 ⟨(some 59), (.r (.load none (.tmp 58))), none⟩,
 ⟨(some 60), (.p (.len (.tmp 59))), none⟩,
 ⟨(some 61), (.p (.ibin .gtr (.tmp 60) (.cst (.int .i64 0)))), none⟩])
 (.cond (.tmp 61) (.seq (.reg [⟨(some 62), (.p (.build [(.str []), .nilsl] [])), none⟩,
 ⟨none, (.w (.store 2 (.tmp 2) (.tmp 62))), none⟩,
 ⟨(some 3), (.p (.mov (.cst (.int .i64 17)))), none⟩])
 .ret)
 .skip))
 (.seq (.reg [⟨(some 63), (.p (.mov (.tmp 5))), none⟩,
 ⟨(some 64), (.p (.mov (.tmp 9))), none⟩,
 ⟨(some 65), (.p (.nilck (.tmp 64))), none⟩,
 ⟨(some 66), (.p (.fieldA 1 (.tmp 65))), none⟩,
 ⟨(some 67), (.r (.load none (.tmp 66))), none⟩,
 ⟨(some 68), (.p (.build [(.str []), .nilsl] [(0, 1, (.tmp 63)), (1, 1, (.tmp 67))])), none⟩,
 ⟨none, (.w (.store 2 (.tmp 2) (.tmp 68))), none⟩,
 ⟨(some 3), (.p (.mov (.cst (.int .i64 0)))), none⟩])
 .ret)))))))))))
def f14 : VF := { body := b14, res := [(.cell 2 (some 2)), (.tmp 3)] }
-- comptoir/kinds.OfMti
def b15 : VC := (.seq (.reg [⟨(some 2), (.p (.mov (.cst (.int .i64 0)))), none⟩])
 (.seq (.reg [⟨(some 3), (.p (.mov (.tmp 0))), none⟩,
 ⟨(some 4), (.r (.pcall (.cst (.fn 43 [] [])) [(.tmp 3), (.cst (.fn 44 [] []))])), none⟩,
 ⟨(some 2), (.p (.mov (.tmp 4))), none⟩])
 .ret))
def f15 : VF := { body := b15, res := [(.tmp 2)] }
-- (comptoir/fields.set).there
def b16 : VC := (.seq (.reg [⟨(some 2), (.p (.mov (.cst (.int .i64 0)))), none⟩])
 (.seq (.seq (.reg [⟨(some 3), (.p (.mov (.tmp 0))), none⟩,
 ⟨(some 4), (.r (.pcall (.cst (.fn 26 [] [])) [(.tmp 3), (.cst (.int .i64 11))])), none⟩,
 ⟨(some 5), (.p (.un .not (.tmp 4))), none⟩,
 ⟨(some 6), (.p (.mov (.tmp 5))), none⟩,
 ⟨(some 7), (.p (.mov (.tmp 0))), (some (6, false))⟩,
 ⟨(some 8), (.r (.pcall (.cst (.fn 26 [] [])) [(.tmp 7), (.cst (.int .i64 12))])), (some (6, false))⟩,
 ⟨(some 9), (.p (.un .not (.tmp 8))), (some (6, false))⟩,
 ⟨(some 10), (.p (.pick (.tmp 6) (.cst (.bool true)) (.tmp 9))), none⟩,
 ⟨(some 11), (.p (.mov (.tmp 10))), none⟩,
 ⟨(some 12), (.p (.mov (.tmp 0))), (some (11, false))⟩,
 ⟨(some 13), (.r (.pcall (.cst (.fn 26 [] [])) [(.tmp 12), (.cst (.int .i64 32))])), (some (11, false))⟩,
 ⟨(some 14), (.p (.un .not (.tmp 13))), (some (11, false))⟩,
 ⟨(some 15), (.p (.pick (.tmp 11) (.cst (.bool true)) (.tmp 14))), none⟩,
 ⟨(some 16), (.p (.mov (.tmp 15))), none⟩,
 ⟨(some 17), (.p (.mov (.tmp 0))), (some (16, false))⟩,
 ⟨(some 18), (.r (.pcall (.cst (.fn 26 [] [])) [(.tmp 17), (.cst (.int .i64 4))])), (some (16, false))⟩,
 ⟨(some 19), (.p (.mov (.tmp 0))), (some (16, false))⟩,
 ⟨(some 20), (.r (.pcall (.cst (.fn 26 [] [])) [(.tmp 19), (.cst (.int .i64 49))])), (some (16, false))⟩,
 ⟨(some 21), (.p (.beq true (.tmp 18) (.tmp 20))), (some (16, false))⟩,
 ⟨(some 22), (.p (.pick (.tmp 16) (.cst (.bool true)) (.tmp 21))), none⟩,
 ⟨(some 23), (.p (.mov (.tmp 22))), none⟩,
 ⟨(some 24), (.p (.mov (.tmp 0))), (some (23, false))⟩,
 ⟨(some 25), (.r (.pcall (.cst (.fn 28 [] [])) [(.tmp 24), (.cst (.int .i64 22))])), (some (23, false))⟩,
 ⟨(some 26), (.p (.ibin .eql (.tmp 25) (.cst (.str [48, 48, 48])))), (some (23, false))⟩,
 ⟨(some 27), (.p (.pick (.tmp 23) (.cst (.bool true)) (.tmp 26))), none⟩])
 (.cond (.tmp 27) (.seq (.reg [⟨(some 2), (.p (.mov (.cst (.int .i64 19)))), none⟩])
 .ret)
 .skip))
 (.seq (.reg [⟨(some 2), (.p (.mov (.cst (.int .i64 0)))), none⟩])
 .ret)))
def f16 : VF := { body := b16, res := [(.tmp 2)] }
-- (comptoir/fields.set).right
def b17 : VC := (.seq (.reg [⟨(some 2), (.p (.mov (.cst (.int .i64 0)))), none⟩])
 (.seq (.reg [⟨(some 4), (.p (.mov (.tmp 0))), none⟩,
 ⟨(some 5), (.r (.pcall (.cst (.fn 28 [] [])) [(.tmp 4), (.cst (.int .i64 56))])), none⟩,
 ⟨(some 3), (.p (.mov (.tmp 5))), none⟩])
 (.seq (.seq (.reg [⟨(some 6), (.p (.mov (.tmp 0))), none⟩,
 ⟨(some 7), (.r (.pcall (.cst (.fn 28 [] [])) [(.tmp 6), (.cst (.int .i64 12))])), none⟩,
 ⟨(some 8), (.r (.pcall (.cst (.fn 27 [] [])) [(.tmp 7)])), none⟩,
 ⟨(some 9), (.p (.un .not (.tmp 8))), none⟩,
 ⟨(some 10), (.p (.mov (.tmp 9))), none⟩,
 ⟨(some 11), (.p (.mov (.tmp 3))), (some (10, false))⟩,
 ⟨(some 12), (.p (.ibin .neq (.tmp 11) (.cst (.str [])))), (some (10, false))⟩,
 ⟨(some 13), (.p (.mov (.tmp 12))), (some (10, false))⟩,
 ⟨(some 14), (.p (.mov (.tmp 3))), (some (13, true))⟩,
 ⟨(some 15), (.p (.sliceStr (.tmp 14) (some (.cst (.int .i64 6))) none)), (some (13, true))⟩,
 ⟨(some 16), (.r (.pcall (.cst (.fn 27 [] [])) [(.tmp 15)])), (some (13, true))⟩,
 ⟨(some 17), (.p (.un .not (.tmp 16))), (some (13, true))⟩,
 ⟨(some 18), (.p (.pick (.tmp 13) (.tmp 17) (.cst (.bool false)))), (some (10, false))⟩,
 ⟨(some 19), (.p (.pick (.tmp 10) (.cst (.bool true)) (.tmp 18))), none⟩,
 ⟨(some 20), (.p (.mov (.tmp 19))), none⟩,
 ⟨(some 21), (.p (.mov (.tmp 0))), (some (20, false))⟩,
 ⟨(some 22), (.r (.pcall (.cst (.fn 26 [] [])) [(.tmp 21), (.cst (.int .i64 41))])), (some (20, false))⟩,
 ⟨(some 23), (.p (.mov (.tmp 22))), (some (20, false))⟩,
 ⟨(some 24), (.p (.mov (.tmp 0))), (some (23, true))⟩,
 ⟨(some 25), (.r (.pcall (.cst (.fn 46 [] [])) [(.tmp 24), (.cst (.int .i64 41))])), (some (23, true))⟩,
 ⟨(some 26), (.r (.pcall (.cst (.fn 45 [] [])) [(.tmp 25), (.cst (.int .i64 8))])), (some (23, true))⟩,
 ⟨(some 27), (.p (.un .not (.tmp 26))), (some (23, true))⟩,
 ⟨(some 28), (.p (.pick (.tmp 23) (.tmp 27) (.cst (.bool false)))), (some (20, false))⟩,
 ⟨(some 29), (.p (.pick (.tmp 20) (.cst (.bool true)) (.tmp 28))), none⟩,
 ⟨(some 30), (.p (.mov (.tmp 29))), none⟩,
 ⟨(some 31), (.p (.mov (.tmp 0))), (some (30, false))⟩,
 ⟨(some 32), (.r (.pcall (.cst (.fn 26 [] [])) [(.tmp 31), (.cst (.int .i64 42))])), (some (30, false))⟩,
 ⟨(some 33), (.p (.mov (.tmp 32))), (some (30, false))⟩,
 ⟨(some 34), (.p (.mov (.tmp 0))), (some (33, true))⟩,
 ⟨(some 35), (.r (.pcall (.cst (.fn 46 [] [])) [(.tmp 34), (.cst (.int .i64 42))])), (some (33, true))⟩,
 ⟨(some 36), (.r (.pcall (.cst (.fn 45 [] [])) [(.tmp 35), (.cst (.int .i64 15))])), (some (33, true))⟩,
 ⟨(some 37), (.p (.un .not (.tmp 36))), (some (33, true))⟩,
 ⟨(some 38), (.p (.pick (.tmp 33) (.tmp 37) (.cst (.bool false)))), (some (30, false))⟩,
 ⟨(some 39), (.p (.pick (.tmp 30) (.cst (.bool true)) (.tmp 38))), none⟩,
 ⟨(some 40), (.p (.mov (.tmp 39))), none⟩,
 ⟨(some 41), (.p (.mov (.tmp 0))), (some (40, false))⟩,
 ⟨(some 42), (.r (.pcall (.cst (.fn 26 [] [])) [(.tmp 41), (.cst (.int .i64 48))])), (some (40, false))⟩,
 ⟨(some 43), (.p (.mov (.tmp 42))), (some (40, false))⟩,
 ⟨(some 44), (.p (.mov (.tmp 0))), (some (43, true))⟩,
 ⟨(some 45), (.r (.pcall (.cst (.fn 28 [] [])) [(.tmp 44), (.cst (.int .i64 48))])), (some (43, true))⟩,
 ⟨(some 46), (.r (.pcall (.cst (.fn 47 [] [])) [(.tmp 45)])), (some (43, true))⟩,
 ⟨(some 47), (.p (.un .not (.tmp 46))), (some (43, true))⟩,
 ⟨(some 48), (.p (.pick (.tmp 43) (.tmp 47) (.cst (.bool false)))), (some (40, false))⟩,
 ⟨(some 49), (.p (.pick (.tmp 40) (.cst (.bool true)) (.tmp 48))), none⟩,
 ⟨(some 50), (.p (.mov (.tmp 49))), none⟩,
 ⟨(some 51), (.p (.mov (.tmp 0))), (some (50, false))⟩,
 ⟨(some 52), (.r (.pcall (.cst (.fn 26 [] [])) [(.tmp 51), (.cst (.int .i64 2))])), (some (50, false))⟩,
 ⟨(some 53), (.p (.mov (.tmp 52))), (some (50, false))⟩,
 ⟨(some 54), (.p (.mov (.tmp 0))), (some (53, true))⟩,
 ⟨(some 55), (.r (.pcall (.cst (.fn 28 [] [])) [(.tmp 54), (.cst (.int .i64 2))])), (some (53, true))⟩,
 ⟨(some 56), (.p (.lenStr (.tmp 55))), (some (53, true))⟩,
 ⟨(some 57), (.p (.ibin .lss (.tmp 56) (.cst (.int .i64 12)))), (some (53, true))⟩,
 ⟨(some 58), (.p (.pick (.tmp 53) (.tmp 57) (.cst (.bool false)))), (some (50, false))⟩,
 ⟨(some 59), (.p (.pick (.tmp 50) (.cst (.bool true)) (.tmp 58))), none⟩])
 (.cond (.tmp 59) (.seq (.reg [⟨(some 2), (.p (.mov (.cst (.int .i64 14)))), none⟩])
 .ret)
 .skip))
 (.seq (.reg [⟨(some 2), (.p (.mov (.cst (.int .i64 0)))), none⟩])
 .ret))))
def f17 : VF := { body := b17, res := [(.tmp 2)] }
-- (comptoir/fields.set).decided
def b18 : VC := (.seq (.reg [⟨(some 2), (.p (.mov (.cst (.int .i64 0)))), none⟩])
 (.seq (.seq (.reg [⟨(some 3), (.p (.mov (.tmp 0))), none⟩,
 ⟨(some 4), (.r (.pcall (.cst (.fn 26 [] [])) [(.tmp 3), (.cst (.int .i64 39))])), none⟩,
 ⟨(some 5), (.p (.mov (.tmp 4))), none⟩,
 ⟨(some 6), (.p (.mov (.tmp 0))), (some (5, true))⟩,
 ⟨(some 7), (.r (.pcall (.cst (.fn 28 [] [])) [(.tmp 6), (.cst (.int .i64 39))])), (some (5, true))⟩,
 ⟨(some 8), (.r (.pcall (.cst (.fn 48 [] [])) [(.tmp 7)])), (some (5, true))⟩,
 ⟨(some 9), (.p (.un .not (.tmp 8))), (some (5, true))⟩,
 ⟨(some 10), (.p (.pick (.tmp 5) (.tmp 9) (.cst (.bool false)))), none⟩])
 (.cond (.tmp 10) (.seq (.reg [⟨(some 2), (.p (.mov (.cst (.int .i64 20)))), none⟩])
 .ret)
 .skip))
 (.seq (.reg [⟨(some 2), (.p (.mov (.cst (.int .i64 0)))), none⟩])
 .ret)))
def f18 : VF := { body := b18, res := [(.tmp 2)] }
-- (comptoir/fields.set).few
def b19 : VC := (.seq (.reg [⟨(some 2), (.p (.mov (.cst (.int .i64 0)))), none⟩])
 (.seq (.seq (.reg [⟨(some 3), (.p (.mov (.tmp 0))), none⟩,
 ⟨(some 4), (.r (.pcall (.cst (.fn 49 [] [])) [(.tmp 3)])), none⟩,
 ⟨(some 5), (.p (.len (.tmp 4))), none⟩,
 ⟨(some 6), (.p (.ibin .gtr (.tmp 5) (.cst (.int .i64 8)))), none⟩])
 (.cond (.tmp 6) (.seq (.reg [⟨(some 2), (.p (.mov (.cst (.int .i64 4)))), none⟩])
 .ret)
 .skip))
 (.seq (.reg [⟨(some 2), (.p (.mov (.cst (.int .i64 0)))), none⟩])
 .ret)))
def f19 : VF := { body := b19, res := [(.tmp 2)] }
-- (comptoir/fields.set).chip
def b20 : VC := (.seq (.reg [⟨(some 2), (.p (.mov (.cst (.int .i64 0)))), none⟩])
 (.seq (.seq (.reg [⟨(some 6), (.p (.mov (.tmp 0))), none⟩,
 ⟨(some 7), (.r (.pcall (.cst (.fn 28 [] [])) [(.tmp 6), (.cst (.int .i64 55))])), none⟩,
 ⟨(some 8), (.w (.strBytes (.tmp 7))), none⟩,
 ⟨(some 9), (.r (.pcall (.cst (.fn 50 [] [])) [(.tmp 8)])), none⟩,
 ⟨(some 5), (.p (.mov (.tmp 9))), none⟩,
 ⟨(some 10), (.p (.ext (.tmp 5) 0)), none⟩,
 ⟨(some 11), (.p (.ext (.tmp 5) 1)), none⟩,
 ⟨(some 3), (.p (.mov (.tmp 10))), none⟩,
 ⟨(some 4), (.p (.mov (.tmp 11))), none⟩])
 (.seq (.reg [⟨(some 12), (.p (.mov (.tmp 4))), none⟩,
 ⟨(some 13), (.p (.ibin .neq (.tmp 12) (.cst (.int .i64 0)))), none⟩])
 (.cond (.tmp 13) (.seq (.reg [⟨(some 2), (.p (.mov (.cst (.int .i64 18)))), none⟩])
 .ret)
 .skip)))
 (.seq (.reg [⟨(some 2), (.p (.mov (.cst (.int .i64 0)))), none⟩])
 .ret)))
def f20 : VF := { body := b20, res := [(.tmp 2)] }
-- (comptoir/fields.set).message
def b21 : VC := (.seq (.reg [⟨(some 4), (.w (.alloc [(.int .i64 0), (.int .i64 0), (.str []), (.str []), (.str []), (.str []), (.int .u64 0), (.str []), (.str []), (.str []), (.str []), (.int .i64 0), (.str []), (.str []), (.int .i64 0), (.str []), .nilsl, (.str []), (.str []), .nilsl, .nilsl])), none⟩])
 (.seq (.reg [⟨(some 9), (.p (.mov (.tmp 0))), none⟩,
 ⟨(some 10), (.r (.pcall (.cst (.fn 29 [] [])) [(.tmp 9)])), none⟩,
 ⟨(some 5), (.w (.alloc [(.int .i64 0), (.int .i64 0), (.str []), (.str []), (.str []), (.str []), (.int .u64 0), (.str []), (.str []), (.str []), (.str []), (.int .i64 0), (.str []), (.str []), (.int .i64 0), (.str []), .nilsl, (.str []), (.str []), .nilsl, .nilsl])), none⟩,
 ⟨none, (.w (.store 21 (.tmp 5) (.tmp 10))), none⟩])
 (.seq (.reg [⟨(some 11), (.p (.mov (.tmp 1))), none⟩,
 ⟨(some 12), (.p (.mov (.tmp 0))), none⟩,
 ⟨(some 13), (.r (.pcall (.cst (.fn 28 [] [])) [(.tmp 12), (.cst (.int .i64 2))])), none⟩,
 ⟨(some 14), (.p (.mov (.tmp 0))), none⟩,
 ⟨(some 15), (.r (.pcall (.cst (.fn 28 [] [])) [(.tmp 14), (.cst (.int .i64 49))])), none⟩,
 ⟨(some 16), (.p (.mov (.tmp 0))), none⟩,
 ⟨(some 17), (.r (.pcall (.cst (.fn 51 [] [])) [(.tmp 16), (.cst (.int .i64 4))])), none⟩,
 ⟨(some 18), (.p (.fieldA 0 (.tmp 5))), none⟩,
 ⟨none, (.w (.store 1 (.tmp 18) (.tmp 11))), none⟩,
 ⟨(some 19), (.p (.fieldA 4 (.tmp 5))), none⟩,
 ⟨none, (.w (.store 1 (.tmp 19) (.tmp 13))), none⟩,
 ⟨(some 20), (.p (.fieldA 5 (.tmp 5))), none⟩,
 ⟨none, (.w (.store 1 (.tmp 20) (.tmp 15))), none⟩,
 ⟨(some 21), (.p (.fieldA 6 (.tmp 5))), none⟩,
 ⟨none, (.w (.store 1 (.tmp 21) (.tmp 17))), none⟩])
 (.seq (.reg [⟨(some 22), (.p (.mov (.tmp 0))), none⟩,
 ⟨(some 23), (.r (.pcall (.cst (.fn 51 [] [])) [(.tmp 22), (.cst (.int .i64 22))])), none⟩,
 ⟨(some 24), (.p (.conv (.toInt .i64) (.tmp 23))), none⟩,
 ⟨(some 25), (.p (.mov (.tmp 0))), none⟩,
 ⟨(some 26), (.r (.pcall (.cst (.fn 28 [] [])) [(.tmp 25), (.cst (.int .i64 25))])), none⟩,
 ⟨(some 27), (.p (.mov (.tmp 0))), none⟩,
 ⟨(some 28), (.r (.pcall (.cst (.fn 28 [] [])) [(.tmp 27), (.cst (.int .i64 37))])), none⟩,
 ⟨(some 29), (.p (.mov (.tmp 0))), none⟩,
 ⟨(some 30), (.r (.pcall (.cst (.fn 28 [] [])) [(.tmp 29), (.cst (.int .i64 38))])), none⟩,
 ⟨(some 31), (.p (.mov (.tmp 0))), none⟩,
 ⟨(some 32), (.r (.pcall (.cst (.fn 28 [] [])) [(.tmp 31), (.cst (.int .i64 39))])), none⟩,
 ⟨(some 33), (.p (.fieldA 11 (.tmp 5))), none⟩,
 ⟨none, (.w (.store 1 (.tmp 33) (.tmp 24))), none⟩,
 ⟨(some 34), (.p (.fieldA 13 (.tmp 5))), none⟩,
 ⟨none, (.w (.store 1 (.tmp 34) (.tmp 26))), none⟩,
 ⟨(some 35), (.p (.fieldA 7 (.tmp 5))), none⟩,
 ⟨none, (.w (.store 1 (.tmp 35) (.tmp 28))), none⟩,
 ⟨(some 36), (.p (.fieldA 10 (.tmp 5))), none⟩,
 ⟨none, (.w (.store 1 (.tmp 36) (.tmp 30))), none⟩,
 ⟨(some 37), (.p (.fieldA 12 (.tmp 5))), none⟩,
 ⟨none, (.w (.store 1 (.tmp 37) (.tmp 32))), none⟩])
 (.seq (.reg [⟨(some 38), (.p (.mov (.tmp 0))), none⟩,
 ⟨(some 39), (.r (.pcall (.cst (.fn 46 [] [])) [(.tmp 38), (.cst (.int .i64 41))])), none⟩,
 ⟨(some 40), (.p (.mov (.tmp 0))), none⟩,
 ⟨(some 41), (.r (.pcall (.cst (.fn 46 [] [])) [(.tmp 40), (.cst (.int .i64 42))])), none⟩,
 ⟨(some 42), (.p (.mov (.tmp 0))), none⟩,
 ⟨(some 43), (.r (.pcall (.cst (.fn 28 [] [])) [(.tmp 42), (.cst (.int .i64 48))])), none⟩,
 ⟨(some 44), (.p (.mov (.tmp 0))), none⟩,
 ⟨(some 45), (.r (.pcall (.cst (.fn 49 [] [])) [(.tmp 44)])), none⟩,
 ⟨(some 46), (.p (.fieldA 9 (.tmp 5))), none⟩,
 ⟨none, (.w (.store 1 (.tmp 46) (.tmp 39))), none⟩,
 ⟨(some 47), (.p (.fieldA 8 (.tmp 5))), none⟩,
 ⟨none, (.w (.store 1 (.tmp 47) (.tmp 41))), none⟩,
 ⟨(some 48), (.p (.fieldA 17 (.tmp 5))), none⟩,
 ⟨none, (.w (.store 1 (.tmp 48) (.tmp 43))), none⟩,
 ⟨(some 49), (.p (.fieldA 20 (.tmp 5))), none⟩,
 ⟨none, (.w (.store 1 (.tmp 49) (.tmp 45))), none⟩])
 (.seq (.reg [⟨(some 51), (.p (.mov (.tmp 0))), none⟩,
 ⟨(some 52), (.r (.pcall (.cst (.fn 28 [] [])) [(.tmp 51), (.cst (.int .i64 55))])), none⟩,
 ⟨(some 53), (.w (.strBytes (.tmp 52))), none⟩,
 ⟨(some 54), (.r (.pcall (.cst (.fn 50 [] [])) [(.tmp 53)])), none⟩,
 ⟨(some 50), (.p (.mov (.tmp 54))), none⟩,
 ⟨(some 55), (.p (.ext (.tmp 50) 0)), none⟩,
 ⟨(some 56), (.p (.ext (.tmp 50) 1)), none⟩,
 ⟨(some 57), (.p (.fieldA 16 (.tmp 5))), none⟩,
 ⟨none, (.w (.store 1 (.tmp 57) (.tmp 55))), none⟩])
 (.seq (.seq (.reg [⟨(some 58), (.p (.mov (.tmp 0))), none⟩,
 ⟨(some 59), (.r (.pcall (.cst (.fn 28 [] [])) [(.tmp 58), (.cst (.int .i64 56))])), none⟩,
 ⟨(some 6), (.p (.mov (.tmp 59))), none⟩])
 (.seq (.reg [⟨(some 60), (.p (.mov (.tmp 6))), none⟩,
 ⟨(some 61), (.p (.ibin .neq (.tmp 60) (.cst (.str [])))), none⟩])
 (.cond (.tmp 61) (.seq (.reg [⟨(some 63), (.p (.mov (.tmp 6))), none⟩,
 ⟨(some 64), (.p (.sliceStr (.tmp 63) none (some (.cst (.int .i64 6))))), none⟩,
 ⟨(some 65), (.r (.pcall (.cst (.fn 52 [] [])) [(.tmp 64)])), none⟩,
 ⟨(some 62), (.p (.mov (.tmp 65))), none⟩,
 ⟨(some 66), (.p (.ext (.tmp 62) 0)), none⟩,
 ⟨(some 67), (.p (.ext (.tmp 62) 1)), none⟩,
 ⟨(some 7), (.p (.mov (.tmp 66))), none⟩,
 ⟨(some 8), (.p (.mov (.tmp 67))), none⟩])
 (.reg [⟨(some 68), (.p (.mov (.tmp 7))), none⟩,
 ⟨(some 69), (.p (.conv (.toInt .i64) (.tmp 68))), none⟩,
 ⟨(some 70), (.p (.mov (.tmp 6))), none⟩,
 ⟨(some 71), (.p (.sliceStr (.tmp 70) (some (.cst (.int .i64 6))) none)), none⟩,
 ⟨(some 72), (.p (.build [(.int .i64 0), (.str [])] [(0, 1, (.tmp 69)), (1, 1, (.tmp 71))])), none⟩,
 ⟨(some 73), (.p (.fieldA 14 (.tmp 5))), none⟩,
 ⟨none, (.w (.store 2 (.tmp 73) (.tmp 72))), none⟩]))
 .skip)))
 (.seq (.reg [⟨(some 74), (.r (.load (some 21) (.tmp 5))), none⟩,
 ⟨none, (.w (.store 21 (.tmp 4) (.tmp 74))), none⟩])
 .ret))))))))
def f21 : VF := { body := b21, res := [(.cell 4 (some 21))] }
-- comptoir/kinds.Fits
def b22 : VC := (.seq (.reg [⟨(some 1), (.w (.box 21 (.tmp 0))), none⟩,
 ⟨(some 2), (.p (.mov (.cst (.int .i64 0)))), none⟩])
 (.seq (.reg [⟨(some 5), (.p (.fieldA 0 (.tmp 1))), none⟩,
 ⟨(some 6), (.r (.load none (.tmp 5))), none⟩,
 ⟨(some 7), (.r (.pcall (.cst (.fn 53 [] [])) [(.tmp 6)])), none⟩,
 ⟨(some 3), (.w (.alloc [(.str []), (.str []), (.int .i64 0), (.int .i64 0)])), none⟩,
 ⟨none, (.w (.store 4 (.tmp 3) (.tmp 7))), none⟩])
 (.seq (.seq (.reg [⟨(some 8), (.p (.fieldA 1 (.tmp 3))), none⟩,
 ⟨(some 9), (.r (.load none (.tmp 8))), none⟩,
 ⟨(some 10), (.p (.ibin .eql (.tmp 9) (.cst (.str [])))), none⟩])
 (.cond (.tmp 10) (.seq (.reg [⟨(some 2), (.p (.mov (.cst (.int .i64 15)))), none⟩])
 .ret)
 .skip))
 (.seq (.reg [⟨(some 11), (.r (.load (some 4) (.tmp 3))), none⟩,
 ⟨(some 12), (.p (.mkfn 54 [(.tmp 11)] [])), none⟩,
 ⟨(some 4), (.p (.mov (.tmp 12))), none⟩])
 (.seq (.seq (.reg [⟨(some 13), (.p (.mov (.tmp 4))), none⟩,
 ⟨(some 14), (.r (.load (some 21) (.tmp 1))), none⟩,
 ⟨(some 15), (.r (.pcall (.cst (.fn 55 [] [])) [(.tmp 14)])), none⟩,
 ⟨(some 16), (.w (.call (.tmp 13) [(.tmp 15)])), none⟩,
 ⟨(some 17), (.p (.un .not (.tmp 16))), none⟩,
 ⟨(some 18), (.p (.mov (.tmp 17))), none⟩,
 ⟨(some 19), (.p (.fieldA 5 (.tmp 1))), (some (18, false))⟩,
 ⟨(some 20), (.r (.load none (.tmp 19))), (some (18, false))⟩,
 ⟨(some 21), (.p (.ibin .eql (.tmp 20) (.cst (.str [])))), (some (18, false))⟩,
 ⟨(some 22), (.p (.mov (.tmp 21))), (some (18, false))⟩,
 ⟨(some 23), (.p (.fieldA 6 (.tmp 1))), (some (22, true))⟩,
 ⟨(some 24), (.r (.load none (.tmp 23))), (some (22, true))⟩,
 ⟨(some 25), (.p (.ibin .neq (.tmp 24) (.cst (.int .u64 0)))), (some (22, true))⟩,
 ⟨(some 26), (.p (.pick (.tmp 22) (.tmp 25) (.cst (.bool false)))), (some (18, false))⟩,
 ⟨(some 27), (.p (.pick (.tmp 18) (.cst (.bool true)) (.tmp 26))), none⟩,
 ⟨(some 28), (.p (.mov (.tmp 27))), none⟩,
 ⟨(some 29), (.p (.fieldA 14 (.tmp 1))), (some (28, false))⟩,
 ⟨(some 30), (.p (.fieldA 1 (.tmp 29))), (some (28, false))⟩,
 ⟨(some 31), (.r (.load none (.tmp 30))), (some (28, false))⟩,
 ⟨(some 32), (.p (.ibin .eql (.tmp 31) (.cst (.str [])))), (some (28, false))⟩,
 ⟨(some 33), (.p (.mov (.tmp 32))), (some (28, false))⟩,
 ⟨(some 34), (.p (.fieldA 14 (.tmp 1))), (some (33, true))⟩,
 ⟨(some 35), (.p (.fieldA 0 (.tmp 34))), (some (33, true))⟩,
 ⟨(some 36), (.r (.load none (.tmp 35))), (some (33, true))⟩,
 ⟨(some 37), (.p (.ibin .neq (.tmp 36) (.cst (.int .i64 0)))), (some (33, true))⟩,
 ⟨(some 38), (.p (.pick (.tmp 33) (.tmp 37) (.cst (.bool false)))), (some (28, false))⟩,
 ⟨(some 39), (.p (.pick (.tmp 28) (.cst (.bool true)) (.tmp 38))), none⟩])
 (.cond (.tmp 39) (.seq (.reg [⟨(some 2), (.p (.mov (.cst (.int .i64 19)))), none⟩])
 .ret)
 .skip))
 (.seq (.reg [⟨(some 2), (.p (.mov (.cst (.int .i64 0)))), none⟩])
 .ret))))))
def f22 : VF := { body := b22, res := [(.tmp 2)] }
-- comptoir/fields.Encode
def b23 : VC := (.seq (.reg [⟨(some 1), (.w (.box 21 (.tmp 0))), none⟩,
 ⟨(some 2), (.p (.mov (.cst .nilsl))), none⟩,
 ⟨(some 3), (.p (.mov (.cst (.int .i64 0)))), none⟩])
 (.seq (.seq (.reg [⟨(some 7), (.r (.load (some 21) (.tmp 1))), none⟩,
 ⟨(some 8), (.r (.pcall (.cst (.fn 22 [] [])) [(.tmp 7)])), none⟩,
 ⟨(some 4), (.p (.mov (.tmp 8))), none⟩])
 (.seq (.reg [⟨(some 9), (.p (.mov (.tmp 4))), none⟩,
 ⟨(some 10), (.p (.ibin .neq (.tmp 9) (.cst (.int .i64 0)))), none⟩])
 (.cond (.tmp 10) (.seq (.reg [⟨(some 11), (.p (.mov (.tmp 4))), none⟩,
 ⟨(some 2), (.p (.mov (.cst .nilsl))), none⟩,
 ⟨(some 3), (.p (.mov (.tmp 11))), none⟩])
 .ret)
 .skip)))
 (.seq (.seq (.reg [⟨(some 12), (.p (.fieldA 18 (.tmp 1))), none⟩,
 ⟨(some 13), (.r (.load none (.tmp 12))), none⟩,
 ⟨(some 14), (.p (.ibin .neq (.tmp 13) (.cst (.str [])))), none⟩,
 ⟨(some 15), (.p (.mov (.tmp 14))), none⟩,
 ⟨(some 16), (.p (.fieldA 19 (.tmp 1))), (some (15, false))⟩,
 ⟨(some 17), (.r (.load none (.tmp 16))), (some (15, false))⟩,
 ⟨(some 18), (.p (.len (.tmp 17))), (some (15, false))⟩,
 ⟨(some 19), (.p (.ibin .gtr (.tmp 18) (.cst (.int .i64 0)))), (some (15, false))⟩,
 ⟨(some 20), (.p (.pick (.tmp 15) (.cst (.bool true)) (.tmp 19))), none⟩])
 (.cond (.tmp 20) (.seq (.reg [⟨(some 2), (.p (.mov (.cst .nilsl))), none⟩,
 ⟨(some 3), (.p (.mov (.cst (.int .i64 19)))), none⟩])
 .ret)
 .skip))
 (.seq (.seq (.reg [⟨(some 21), (.r (.load (some 21) (.tmp 1))), none⟩,
 ⟨(some 22), (.r (.pcall (.cst (.fn 56 [] [])) [(.tmp 21)])), none⟩,
 ⟨(some 23), (.p (.un .not (.tmp 22))), none⟩])
 (.cond (.tmp 23) (.seq (.reg [⟨(some 2), (.p (.mov (.cst .nilsl))), none⟩,
 ⟨(some 3), (.p (.mov (.cst (.int .i64 1)))), none⟩])
 .ret)
 .skip))
 (.seq (.draw [(⟨(some 25), (.p (.fieldA 0 (.tmp 1))), none⟩, 0, 0),
 (⟨(some 26), (.r (.load none (.tmp 25))), none⟩, 0, 0),
 (⟨(some 27), (.r (.pcall (.cst (.fn 58 [] [])) [(.tmp 26)])), none⟩, 0, 0),
 (⟨(some 28), (.r (.load (some 21) (.tmp 1))), none⟩, 0, 0),
 (⟨(some 29), (.r (.pcall (.cst (.fn 59 [] [])) [(.tmp 28)])), none⟩, 0, 0),
 (⟨(some 30), (.p (.build [(.str []), .nilsl] [(0, 1, (.tmp 27)), (1, 1, (.tmp 29))])), none⟩, 0, 0),
 (⟨(some 31), (.r (.pcall (.cst (.fn 57 [] [])) [(.tmp 30)])), none⟩, 0, 0),
 (⟨(some 24), (.p (.mov (.tmp 31))), none⟩, 0, 0),
 (⟨(some 32), (.p (.ext (.tmp 24) 0)), none⟩, 0, 0),
 (⟨(some 33), (.p (.ext (.tmp 24) 1)), none⟩, 0, 0),
 (⟨(some 5), (.p (.mov (.tmp 32))), none⟩, 0, 0),
 (⟨(some 6), (.p (.mov (.tmp 33))), none⟩, 0, 0)])
 (.seq (.seq (.reg [⟨(some 34), (.p (.mov (.tmp 6))), none⟩])
 (.block 0 (.seq (.reg [⟨(some 36), (.p (.ibin .eql (.tmp 34) (.cst (.int .i64 0)))), none⟩,
 ⟨(some 35), (.p (.mov (.tmp 36))), none⟩])
 (.cond (.tmp 35) (.seq (.reg [⟨(some 37), (.p (.mov (.tmp 5))), none⟩,
 ⟨(some 2), (.p (.mov (.tmp 37))), none⟩,
 ⟨(some 3), (.p (.mov (.cst (.int .i64 0)))), none⟩])
 .ret)
 (.seq (.reg [⟨(some 39), (.p (.ibin .eql (.tmp 34) (.cst (.int .i64 4)))), none⟩,
 ⟨(some 38), (.p (.mov (.tmp 39))), none⟩])
 (.cond (.tmp 38) (.seq (.reg [⟨(some 2), (.p (.mov (.cst .nilsl))), none⟩,
 ⟨(some 3), (.p (.mov (.cst (.int .i64 4)))), none⟩])
 .ret)
 .skip))))))
 (.seq (.reg [⟨(some 2), (.p (.mov (.cst .nilsl))), none⟩,
 ⟨(some 3), (.p (.mov (.cst (.int .i64 1)))), none⟩])
 .ret)))))))
def f23 : VF := { body := b23, res := [(.tmp 2), (.tmp 3)] }
-- comptoir/comptoirlaw18.ask
def b24 : VC := (.seq (.reg [⟨(some 0), (.w (.alloc [(.int .i64 0), (.int .i64 0), (.str []), (.str []), (.str []), (.str []), (.int .u64 0), (.str []), (.str []), (.str []), (.str []), (.int .i64 0), (.str []), (.str []), (.int .i64 0), (.str []), .nilsl, (.str []), (.str []), .nilsl, .nilsl])), none⟩])
 (.seq (.reg [⟨(some 1), (.p (.build [(.int .i64 0), (.int .i64 0), (.str []), (.str []), (.str []), (.str []), (.int .u64 0), (.str []), (.str []), (.str []), (.str []), (.int .i64 0), (.str []), (.str []), (.int .i64 0), (.str []), .nilsl, (.str []), (.str []), .nilsl, .nilsl] [(0, 1, (.cst (.int .i64 9))), (1, 1, (.cst (.int .i64 7))), (2, 1, (.cst (.str [50, 48, 50, 54, 48, 49, 48, 49, 49, 50, 48, 48, 48, 48]))), (3, 1, (.cst (.str [49])))])), none⟩,
 ⟨none, (.w (.store 21 (.tmp 0) (.tmp 1))), none⟩])
 .ret))
def f24 : VF := { body := b24, res := [(.cell 0 (some 21))] }
-- comptoir/comptoirhelp.Digits
def b25 : VC := (.seq (.reg [⟨(some 2), (.p (.mov (.cst (.str [])))), none⟩])
 (.seq (.seq (.reg [⟨(some 3), (.p (.mov (.tmp 0))), none⟩,
 ⟨(some 4), (.p (.ibin .lss (.tmp 3) (.cst (.int .u64 10)))), none⟩])
 (.cond (.tmp 4) (.seq (.reg [⟨(some 5), (.p (.mov (.tmp 0))), none⟩,
 ⟨(some 6), (.p (.ibin .add (.cst (.int .u64 48)) (.tmp 5))), none⟩,
 ⟨(some 7), (.p (.conv (.toInt .u8) (.tmp 6))), none⟩,
 ⟨(some 8), (.p (.lit 1 (.int .u8 0) 1 [(0, (.tmp 7))])), none⟩,
 ⟨(some 9), (.r (.bytesStr (.tmp 8))), none⟩,
 ⟨(some 2), (.p (.mov (.tmp 9))), none⟩])
 .ret)
 .skip))
 (.seq (.draw [(⟨(some 10), (.p (.mov (.tmp 0))), none⟩, 0, 0),
 (⟨(some 11), (.p (.ibin .quo (.tmp 10) (.cst (.int .u64 10)))), none⟩, 0, 0),
 (⟨(some 12), (.r (.pcall (.cst (.fn 25 [] [])) [(.tmp 11)])), none⟩, 0, 0),
 (⟨(some 13), (.p (.mov (.tmp 0))), none⟩, 0, 0),
 (⟨(some 14), (.p (.ibin .rem (.tmp 13) (.cst (.int .u64 10)))), none⟩, 0, 0),
 (⟨(some 15), (.p (.ibin .add (.cst (.int .u64 48)) (.tmp 14))), none⟩, 0, 0),
 (⟨(some 16), (.p (.conv (.toInt .u8) (.tmp 15))), none⟩, 0, 0),
 (⟨(some 17), (.p (.lit 1 (.int .u8 0) 1 [(0, (.tmp 16))])), none⟩, 0, 0),
 (⟨(some 18), (.r (.bytesStr (.tmp 17))), none⟩, 0, 0),
 (⟨(some 19), (.p (.ibin .add (.tmp 12) (.tmp 18))), none⟩, 0, 0),
 (⟨(some 2), (.p (.mov (.tmp 19))), none⟩, 0, 0)])
 .ret)))
def f25 : VF := { body := b25, res := [(.tmp 2)] }
-- (comptoir/fields.set).has
def b26 : VC := (.seq (.reg [⟨(some 3), (.w (.box 1 (.tmp 1))), none⟩,
 ⟨(some 4), (.p (.mov (.cst (.bool false)))), none⟩])
 (.seq (.reg [⟨(some 5), (.p (.mov (.tmp 0))), none⟩,
 ⟨(some 6), (.p (.mkfn 61 [] [(.tmp 3)])), none⟩,
 ⟨(some 7), (.r (.pcall (.cst (.fn 60 [] [])) [(.tmp 5), (.tmp 6)])), none⟩,
 ⟨(some 4), (.p (.mov (.tmp 7))), none⟩])
 .ret))
def f26 : VF := { body := b26, res := [(.tmp 4)] }
-- comptoir/simple.Time
def b27 : VC := (.seq (.reg [⟨(some 2), (.p (.mov (.cst (.bool false)))), none⟩])
 (.seq (.seq (.reg [⟨(some 6), (.p (.mov (.tmp 0))), none⟩,
 ⟨(some 7), (.r (.pcall (.cst (.fn 39 [] [])) [(.tmp 6), (.cst (.int .i64 14)), (.cst (.int .i64 14))])), none⟩,
 ⟨(some 8), (.p (.un .not (.tmp 7))), none⟩])
 (.cond (.tmp 8) (.seq (.reg [⟨(some 2), (.p (.mov (.cst (.bool false)))), none⟩])
 .ret)
 .skip))
 (.seq (.reg [⟨(some 9), (.p (.mov (.tmp 0))), none⟩,
 ⟨(some 10), (.r (.pcall (.cst (.fn 62 [] [])) [(.tmp 9), (.cst (.int .i64 0)), (.cst (.int .i64 4))])), none⟩,
 ⟨(some 11), (.p (.mov (.tmp 0))), none⟩,
 ⟨(some 12), (.r (.pcall (.cst (.fn 62 [] [])) [(.tmp 11), (.cst (.int .i64 4)), (.cst (.int .i64 6))])), none⟩,
 ⟨(some 13), (.p (.mov (.tmp 0))), none⟩,
 ⟨(some 14), (.r (.pcall (.cst (.fn 62 [] [])) [(.tmp 13), (.cst (.int .i64 6)), (.cst (.int .i64 8))])), none⟩,
 ⟨(some 3), (.p (.mov (.tmp 10))), none⟩,
 ⟨(some 4), (.p (.mov (.tmp 12))), none⟩,
 ⟨(some 5), (.p (.mov (.tmp 14))), none⟩])
 (.seq (.reg [⟨(some 15), (.p (.mov (.tmp 3))), none⟩,
 ⟨(some 16), (.p (.ibin .gtr (.tmp 15) (.cst (.int .i64 0)))), none⟩,
 ⟨(some 17), (.p (.mov (.tmp 16))), none⟩,
 ⟨(some 18), (.p (.mov (.tmp 4))), (some (17, true))⟩,
 ⟨(some 19), (.p (.ibin .geq (.tmp 18) (.cst (.int .i64 1)))), (some (17, true))⟩,
 ⟨(some 20), (.p (.pick (.tmp 17) (.tmp 19) (.cst (.bool false)))), none⟩,
 ⟨(some 21), (.p (.mov (.tmp 20))), none⟩,
 ⟨(some 22), (.p (.mov (.tmp 4))), (some (21, true))⟩,
 ⟨(some 23), (.p (.ibin .leq (.tmp 22) (.cst (.int .i64 12)))), (some (21, true))⟩,
 ⟨(some 24), (.p (.pick (.tmp 21) (.tmp 23) (.cst (.bool false)))), none⟩,
 ⟨(some 25), (.p (.mov (.tmp 24))), none⟩,
 ⟨(some 26), (.p (.mov (.tmp 5))), (some (25, true))⟩,
 ⟨(some 27), (.p (.ibin .geq (.tmp 26) (.cst (.int .i64 1)))), (some (25, true))⟩,
 ⟨(some 28), (.p (.pick (.tmp 25) (.tmp 27) (.cst (.bool false)))), none⟩,
 ⟨(some 29), (.p (.mov (.tmp 28))), none⟩,
 ⟨(some 30), (.p (.mov (.tmp 5))), (some (29, true))⟩,
 ⟨(some 31), (.p (.mov (.tmp 3))), (some (29, true))⟩,
 ⟨(some 32), (.p (.mov (.tmp 4))), (some (29, true))⟩,
 ⟨(some 33), (.r (.pcall (.cst (.fn 63 [] [])) [(.tmp 31), (.tmp 32)])), (some (29, true))⟩,
 ⟨(some 34), (.p (.ibin .leq (.tmp 30) (.tmp 33))), (some (29, true))⟩,
 ⟨(some 35), (.p (.pick (.tmp 29) (.tmp 34) (.cst (.bool false)))), none⟩,
 ⟨(some 36), (.p (.mov (.tmp 35))), none⟩,
 ⟨(some 37), (.p (.mov (.tmp 0))), (some (36, true))⟩,
 ⟨(some 38), (.r (.pcall (.cst (.fn 62 [] [])) [(.tmp 37), (.cst (.int .i64 8)), (.cst (.int .i64 10))])), (some (36, true))⟩,
 ⟨(some 39), (.p (.ibin .lss (.tmp 38) (.cst (.int .i64 24)))), (some (36, true))⟩,
 ⟨(some 40), (.p (.pick (.tmp 36) (.tmp 39) (.cst (.bool false)))), none⟩,
 ⟨(some 41), (.p (.mov (.tmp 40))), none⟩,
 ⟨(some 42), (.p (.mov (.tmp 0))), (some (41, true))⟩,
 ⟨(some 43), (.r (.pcall (.cst (.fn 62 [] [])) [(.tmp 42), (.cst (.int .i64 10)), (.cst (.int .i64 12))])), (some (41, true))⟩,
 ⟨(some 44), (.p (.ibin .lss (.tmp 43) (.cst (.int .i64 60)))), (some (41, true))⟩,
 ⟨(some 45), (.p (.pick (.tmp 41) (.tmp 44) (.cst (.bool false)))), none⟩,
 ⟨(some 46), (.p (.mov (.tmp 45))), none⟩,
 ⟨(some 47), (.p (.mov (.tmp 0))), (some (46, true))⟩,
 ⟨(some 48), (.r (.pcall (.cst (.fn 62 [] [])) [(.tmp 47), (.cst (.int .i64 12)), (.cst (.int .i64 14))])), (some (46, true))⟩,
 ⟨(some 49), (.p (.ibin .lss (.tmp 48) (.cst (.int .i64 60)))), (some (46, true))⟩,
 ⟨(some 50), (.p (.pick (.tmp 46) (.tmp 49) (.cst (.bool false)))), none⟩,
 ⟨(some 2), (.p (.mov (.tmp 50))), none⟩])
 .ret))))
def f27 : VF := { body := b27, res := [(.tmp 2)] }
-- (comptoir/fields.set).text
def b28 : VC := (.seq (.reg [⟨(some 4), (.p (.mov (.cst (.str [])))), none⟩])
 (.seq (.seq (.reg [⟨(some 7), (.p (.mov (.tmp 0))), none⟩,
 ⟨(some 8), (.p (.len (.tmp 7))), none⟩,
 ⟨(some 9), (.p (.mov (.cst (.int .i64 0)))), none⟩])
 (.block 0 (.loop (.seq (.reg [⟨(some 10), (.p (.ibin .lss (.tmp 9) (.tmp 8))), none⟩])
 (.seq (.cond (.tmp 10) .skip
 (.exit 0))
 (.seq (.block 1 (.seq (.reg [⟨(some 11), (.p (.idxA 2 (.tmp 7) (.tmp 9))), none⟩,
 ⟨(some 12), (.r (.load (some 2) (.tmp 11))), none⟩,
 ⟨(some 6), (.w (.alloc [(.int .i64 0), .nilsl])), none⟩,
 ⟨none, (.w (.store 2 (.tmp 6) (.tmp 12))), none⟩])
 (.seq (.reg [⟨(some 13), (.p (.fieldA 0 (.tmp 6))), none⟩,
 ⟨(some 14), (.r (.load none (.tmp 13))), none⟩,
 ⟨(some 15), (.p (.mov (.tmp 1))), none⟩,
 ⟨(some 16), (.p (.ibin .eql (.tmp 14) (.tmp 15))), none⟩])
 (.cond (.tmp 16) (.seq (.reg [⟨(some 17), (.p (.fieldA 1 (.tmp 6))), none⟩,
 ⟨(some 18), (.r (.load none (.tmp 17))), none⟩,
 ⟨(some 19), (.r (.bytesStr (.tmp 18))), none⟩,
 ⟨(some 4), (.p (.mov (.tmp 19))), none⟩])
 .ret)
 .skip))))
 (.reg [⟨(some 20), (.p (.ibin .add (.tmp 9) (.cst (.int .i64 1)))), none⟩,
 ⟨(some 9), (.p (.mov (.tmp 20))), none⟩])))))))
 (.seq (.reg [⟨(some 4), (.p (.mov (.cst (.str [])))), none⟩])
 .ret)))
def f28 : VF := { body := b28, res := [(.tmp 4)] }
-- (comptoir/fields.set).head
def b29 : VC := (.seq (.reg [⟨(some 2), (.w (.alloc [(.int .i64 0), (.int .i64 0), (.str []), (.str []), (.str []), (.str []), (.int .u64 0), (.str []), (.str []), (.str []), (.str []), (.int .i64 0), (.str []), (.str []), (.int .i64 0), (.str []), .nilsl, (.str []), (.str []), .nilsl, .nilsl])), none⟩])
 (.seq (.reg [⟨(some 3), (.p (.mov (.tmp 0))), none⟩,
 ⟨(some 4), (.r (.pcall (.cst (.fn 51 [] [])) [(.tmp 3), (.cst (.int .i64 11))])), none⟩,
 ⟨(some 5), (.p (.conv (.toInt .i64) (.tmp 4))), none⟩,
 ⟨(some 6), (.p (.mov (.tmp 0))), none⟩,
 ⟨(some 7), (.r (.pcall (.cst (.fn 28 [] [])) [(.tmp 6), (.cst (.int .i64 12))])), none⟩,
 ⟨(some 8), (.p (.mov (.tmp 0))), none⟩,
 ⟨(some 9), (.r (.pcall (.cst (.fn 28 [] [])) [(.tmp 8), (.cst (.int .i64 32))])), none⟩,
 ⟨(some 10), (.p (.build [(.int .i64 0), (.int .i64 0), (.str []), (.str []), (.str []), (.str []), (.int .u64 0), (.str []), (.str []), (.str []), (.str []), (.int .i64 0), (.str []), (.str []), (.int .i64 0), (.str []), .nilsl, (.str []), (.str []), .nilsl, .nilsl] [(1, 1, (.tmp 5)), (2, 1, (.tmp 7)), (3, 1, (.tmp 9))])), none⟩,
 ⟨none, (.w (.store 21 (.tmp 2) (.tmp 10))), none⟩])
 .ret))
def f29 : VF := { body := b29, res := [(.cell 2 (some 21))] }
-- comptoir/comptoirhelp.Same[comptoir/api.Tag]
def b30 : VC := (.seq (.reg [⟨(some 6), (.p (.mov (.cst (.bool false)))), none⟩])
 (.seq (.seq (.reg [⟨(some 8), (.p (.mov (.tmp 0))), none⟩,
 ⟨(some 9), (.p (.len (.tmp 8))), none⟩,
 ⟨(some 10), (.p (.mov (.tmp 1))), none⟩,
 ⟨(some 11), (.p (.len (.tmp 10))), none⟩,
 ⟨(some 12), (.p (.ibin .neq (.tmp 9) (.tmp 11))), none⟩])
 (.cond (.tmp 12) (.seq (.reg [⟨(some 6), (.p (.mov (.cst (.bool false)))), none⟩])
 .ret)
 .skip))
 (.seq (.seq (.reg [⟨(some 7), (.p (.mov (.cst (.int .i64 0)))), none⟩])
 (.block 0 (.loop (.seq (.seq (.reg [⟨(some 13), (.p (.mov (.tmp 7))), none⟩,
 ⟨(some 14), (.p (.mov (.tmp 0))), none⟩,
 ⟨(some 15), (.p (.len (.tmp 14))), none⟩,
 ⟨(some 16), (.p (.ibin .lss (.tmp 13) (.tmp 15))), none⟩])
 (.cond (.tmp 16) .skip
 (.exit 0)))
 (.seq (.block 1 (.seq (.draw [(⟨(some 19), (.p (.mov (.tmp 2))), none⟩, 0, 0),
 (⟨(some 20), (.p (.mov (.tmp 0))), none⟩, 0, 0),
 (⟨(some 21), (.p (.mov (.tmp 7))), none⟩, 0, 0),
 (⟨(some 22), (.p (.idxA 2 (.tmp 20) (.tmp 21))), none⟩, 0, 0),
 (⟨(some 23), (.r (.load (some 2) (.tmp 22))), none⟩, 0, 0),
 (⟨(some 24), (.p (.mov (.tmp 1))), none⟩, 0, 0),
 (⟨(some 25), (.p (.mov (.tmp 7))), none⟩, 0, 0),
 (⟨(some 26), (.p (.idxA 2 (.tmp 24) (.tmp 25))), none⟩, 0, 0),
 (⟨(some 27), (.r (.load (some 2) (.tmp 26))), none⟩, 0, 0),
 (⟨(some 28), (.w (.call (.tmp 19) [(.tmp 23), (.tmp 27)])), none⟩, 0, 0),
 (⟨(some 29), (.p (.un .not (.tmp 28))), none⟩, 1, 1)])
 (.cond (.tmp 29) (.seq (.reg [⟨(some 6), (.p (.mov (.cst (.bool false)))), none⟩])
 .ret)
 .skip)))
 (.reg [⟨(some 17), (.p (.mov (.tmp 7))), none⟩,
 ⟨(some 18), (.p (.ibin .add (.tmp 17) (.cst (.int .i64 1)))), none⟩,
 ⟨(some 7), (.p (.mov (.tmp 18))), none⟩]))))))
 (.seq (.reg [⟨(some 6), (.p (.mov (.cst (.bool true)))), none⟩])
 .ret))))
def f30 : VF := { body := b30, res := [(.tmp 6)] }
-- comptoir/comptoirhelp.Plain[comptoir/api.Pair]
def b32 : VC := (.seq (.reg [⟨(some 4), (.p (.mov (.cst (.bool false)))), none⟩])
 (.seq (.reg [⟨(some 5), (.p (.mov (.tmp 0))), none⟩,
 ⟨(some 6), (.p (.mov (.tmp 1))), none⟩,
 ⟨(some 7), (.r (.pcall (.cst (.fn 65 [] [])) [(.tmp 5), (.tmp 6), (.cst (.fn 66 [] []))])), none⟩,
 ⟨(some 4), (.p (.mov (.tmp 7))), none⟩])
 .ret))
def f32 : VF := { body := b32, res := [(.tmp 4)] }
-- comptoir/comptoirhelp.Same[comptoir/api.Element]
def b33 : VC := (.seq (.reg [⟨(some 6), (.p (.mov (.cst (.bool false)))), none⟩])
 (.seq (.seq (.reg [⟨(some 8), (.p (.mov (.tmp 0))), none⟩,
 ⟨(some 9), (.p (.len (.tmp 8))), none⟩,
 ⟨(some 10), (.p (.mov (.tmp 1))), none⟩,
 ⟨(some 11), (.p (.len (.tmp 10))), none⟩,
 ⟨(some 12), (.p (.ibin .neq (.tmp 9) (.tmp 11))), none⟩])
 (.cond (.tmp 12) (.seq (.reg [⟨(some 6), (.p (.mov (.cst (.bool false)))), none⟩])
 .ret)
 .skip))
 (.seq (.seq (.reg [⟨(some 7), (.p (.mov (.cst (.int .i64 0)))), none⟩])
 (.block 0 (.loop (.seq (.seq (.reg [⟨(some 13), (.p (.mov (.tmp 7))), none⟩,
 ⟨(some 14), (.p (.mov (.tmp 0))), none⟩,
 ⟨(some 15), (.p (.len (.tmp 14))), none⟩,
 ⟨(some 16), (.p (.ibin .lss (.tmp 13) (.tmp 15))), none⟩])
 (.cond (.tmp 16) .skip
 (.exit 0)))
 (.seq (.block 1 (.seq (.draw [(⟨(some 19), (.p (.mov (.tmp 2))), none⟩, 0, 0),
 (⟨(some 20), (.p (.mov (.tmp 0))), none⟩, 0, 0),
 (⟨(some 21), (.p (.mov (.tmp 7))), none⟩, 0, 0),
 (⟨(some 22), (.p (.idxA 2 (.tmp 20) (.tmp 21))), none⟩, 0, 0),
 (⟨(some 23), (.r (.load (some 2) (.tmp 22))), none⟩, 0, 0),
 (⟨(some 24), (.p (.mov (.tmp 1))), none⟩, 0, 0),
 (⟨(some 25), (.p (.mov (.tmp 7))), none⟩, 0, 0),
 (⟨(some 26), (.p (.idxA 2 (.tmp 24) (.tmp 25))), none⟩, 0, 0),
 (⟨(some 27), (.r (.load (some 2) (.tmp 26))), none⟩, 0, 0),
 (⟨(some 28), (.w (.call (.tmp 19) [(.tmp 23), (.tmp 27)])), none⟩, 0, 0),
 (⟨(some 29), (.p (.un .not (.tmp 28))), none⟩, 1, 1)])
 (.cond (.tmp 29) (.seq (.reg [⟨(some 6), (.p (.mov (.cst (.bool false)))), none⟩])
 .ret)
 .skip)))
 (.reg [⟨(some 17), (.p (.mov (.tmp 7))), none⟩,
 ⟨(some 18), (.p (.ibin .add (.tmp 17) (.cst (.int .i64 1)))), none⟩,
 ⟨(some 7), (.p (.mov (.tmp 18))), none⟩]))))))
 (.seq (.reg [⟨(some 6), (.p (.mov (.cst (.bool true)))), none⟩])
 .ret))))
def f33 : VF := { body := b33, res := [(.tmp 6)] }
-- comptoir/comptoirref16.CheckElement
def b35 : VC := (.seq (.reg [⟨(some 1), (.w (.box 2 (.tmp 0))), none⟩,
 ⟨(some 2), (.p (.mov (.cst (.int .i64 0)))), none⟩])
 (.seq (.reg [⟨(some 6), (.p (.fieldA 0 (.tmp 1))), none⟩,
 ⟨(some 7), (.r (.load none (.tmp 6))), none⟩,
 ⟨(some 8), (.r (.pcall (.cst (.fn 36 [] [])) [(.tmp 7)])), none⟩,
 ⟨(some 5), (.p (.mov (.tmp 8))), none⟩,
 ⟨(some 9), (.p (.ext (.tmp 5) 0)), none⟩,
 ⟨(some 10), (.p (.ext (.tmp 5) 1)), none⟩,
 ⟨(some 3), (.w (.alloc [(.int .i64 0), (.int .i64 0), (.int .i64 0), (.int .i64 0)])), none⟩,
 ⟨none, (.w (.store 4 (.tmp 3) (.tmp 9))), none⟩,
 ⟨(some 4), (.p (.mov (.tmp 10))), none⟩])
 (.seq (.block 0 (.seq (.reg [⟨(some 12), (.p (.mov (.tmp 4))), none⟩,
 ⟨(some 13), (.p (.un .not (.tmp 12))), none⟩,
 ⟨(some 11), (.p (.mov (.tmp 13))), none⟩])
 (.cond (.tmp 11) (.seq (.reg [⟨(some 2), (.p (.mov (.cst (.int .i64 16)))), none⟩])
 .ret)
 (.seq (.reg [⟨(some 15), (.p (.fieldA 2 (.tmp 3))), none⟩,
 ⟨(some 16), (.r (.load none (.tmp 15))), none⟩,
 ⟨(some 17), (.p (.ibin .eql (.tmp 16) (.cst (.int .i64 0)))), none⟩,
 ⟨(some 18), (.p (.mov (.tmp 17))), none⟩,
 ⟨(some 19), (.p (.fieldA 1 (.tmp 1))), (some (18, true))⟩,
 ⟨(some 20), (.r (.load none (.tmp 19))), (some (18, true))⟩,
 ⟨(some 21), (.p (.len (.tmp 20))), (some (18, true))⟩,
 ⟨(some 22), (.p (.fieldA 3 (.tmp 3))), (some (18, true))⟩,
 ⟨(some 23), (.r (.load none (.tmp 22))), (some (18, true))⟩,
 ⟨(some 24), (.p (.ibin .neq (.tmp 21) (.tmp 23))), (some (18, true))⟩,
 ⟨(some 25), (.p (.pick (.tmp 18) (.tmp 24) (.cst (.bool false)))), none⟩,
 ⟨(some 26), (.p (.mov (.tmp 25))), none⟩,
 ⟨(some 27), (.p (.fieldA 1 (.tmp 1))), (some (26, false))⟩,
 ⟨(some 28), (.r (.load none (.tmp 27))), (some (26, false))⟩,
 ⟨(some 29), (.p (.len (.tmp 28))), (some (26, false))⟩,
 ⟨(some 30), (.p (.ibin .lss (.tmp 29) (.cst (.int .i64 1)))), (some (26, false))⟩,
 ⟨(some 31), (.p (.pick (.tmp 26) (.cst (.bool true)) (.tmp 30))), none⟩,
 ⟨(some 32), (.p (.mov (.tmp 31))), none⟩,
 ⟨(some 33), (.p (.fieldA 1 (.tmp 1))), (some (32, false))⟩,
 ⟨(some 34), (.r (.load none (.tmp 33))), (some (32, false))⟩,
 ⟨(some 35), (.p (.len (.tmp 34))), (some (32, false))⟩,
 ⟨(some 36), (.p (.fieldA 3 (.tmp 3))), (some (32, false))⟩,
 ⟨(some 37), (.r (.load none (.tmp 36))), (some (32, false))⟩,
 ⟨(some 38), (.p (.ibin .gtr (.tmp 35) (.tmp 37))), (some (32, false))⟩,
 ⟨(some 39), (.p (.pick (.tmp 32) (.cst (.bool true)) (.tmp 38))), none⟩,
 ⟨(some 14), (.p (.mov (.tmp 39))), none⟩])
 (.cond (.tmp 14) (.seq (.reg [⟨(some 2), (.p (.mov (.cst (.int .i64 17)))), none⟩])
 .ret)
 (.seq (.reg [⟨(some 41), (.r (.load (some 4) (.tmp 3))), none⟩,
 ⟨(some 42), (.p (.fieldA 1 (.tmp 1))), none⟩,
 ⟨(some 43), (.r (.load none (.tmp 42))), none⟩,
 ⟨(some 44), (.r (.pcall (.cst (.fn 67 [] [])) [(.tmp 41), (.tmp 43)])), none⟩,
 ⟨(some 45), (.p (.un .not (.tmp 44))), none⟩,
 ⟨(some 40), (.p (.mov (.tmp 45))), none⟩])
 (.cond (.tmp 40) (.seq (.reg [⟨(some 2), (.p (.mov (.cst (.int .i64 14)))), none⟩])
 .ret)
 .skip)))))))
 (.seq (.reg [⟨(some 2), (.p (.mov (.cst (.int .i64 0)))), none⟩])
 .ret))))
def f35 : VF := { body := b35, res := [(.tmp 2)] }
-- comptoir/comptoirref16.Format
def b36 : VC := (.seq (.reg [⟨(some 2), (.w (.alloc [(.int .i64 0), (.int .i64 0), (.int .i64 0), (.int .i64 0)])), none⟩,
 ⟨(some 3), (.p (.mov (.cst (.bool false)))), none⟩])
 (.seq (.reg [⟨(some 6), (.r (.pcall (.cst (.fn 68 [] [])) [])), none⟩,
 ⟨(some 4), (.p (.mov (.tmp 6))), none⟩])
 (.seq (.seq (.reg [⟨(some 5), (.p (.mov (.cst (.int .i64 0)))), none⟩])
 (.block 0 (.loop (.seq (.seq (.reg [⟨(some 7), (.p (.mov (.tmp 5))), none⟩,
 ⟨(some 8), (.p (.mov (.tmp 4))), none⟩,
 ⟨(some 9), (.p (.len (.tmp 8))), none⟩,
 ⟨(some 10), (.p (.ibin .lss (.tmp 7) (.tmp 9))), none⟩])
 (.cond (.tmp 10) .skip
 (.exit 0)))
 (.seq (.block 1 (.seq (.reg [⟨(some 13), (.p (.mov (.tmp 4))), none⟩,
 ⟨(some 14), (.p (.mov (.tmp 5))), none⟩,
 ⟨(some 15), (.p (.idxA 4 (.tmp 13) (.tmp 14))), none⟩,
 ⟨(some 16), (.p (.fieldA 0 (.tmp 15))), none⟩,
 ⟨(some 17), (.r (.load none (.tmp 16))), none⟩,
 ⟨(some 18), (.p (.mov (.tmp 0))), none⟩,
 ⟨(some 19), (.p (.ibin .eql (.tmp 17) (.tmp 18))), none⟩])
 (.cond (.tmp 19) (.seq (.reg [⟨(some 20), (.p (.mov (.tmp 4))), none⟩,
 ⟨(some 21), (.p (.mov (.tmp 5))), none⟩,
 ⟨(some 22), (.p (.idxA 4 (.tmp 20) (.tmp 21))), none⟩,
 ⟨(some 23), (.r (.load (some 4) (.tmp 22))), none⟩,
 ⟨none, (.w (.store 4 (.tmp 2) (.tmp 23))), none⟩,
 ⟨(some 3), (.p (.mov (.cst (.bool true)))), none⟩])
 .ret)
 .skip)))
 (.reg [⟨(some 11), (.p (.mov (.tmp 5))), none⟩,
 ⟨(some 12), (.p (.ibin .add (.tmp 11) (.cst (.int .i64 1)))), none⟩,
 ⟨(some 5), (.p (.mov (.tmp 12))), none⟩]))))))
 (.seq (.reg [⟨(some 24), (.p (.build [(.int .i64 0), (.int .i64 0), (.int .i64 0), (.int .i64 0)] [])), none⟩,
 ⟨none, (.w (.store 4 (.tmp 2) (.tmp 24))), none⟩,
 ⟨(some 3), (.p (.mov (.cst (.bool false)))), none⟩])
 .ret))))
def f36 : VF := { body := b36, res := [(.cell 2 (some 4)), (.tmp 3)] }
-- comptoir/cursor.New
def b37 : VC := (.seq (.reg [⟨(some 2), (.p (.mov (.cst .nilp))), none⟩])
 (.seq (.reg [⟨(some 3), (.p (.mov (.tmp 0))), none⟩,
 ⟨(some 4), (.r (.pcall (.cst (.fn 69 [] [])) [(.tmp 3)])), none⟩,
 ⟨(some 5), (.p (.build [.nilsl, (.int .i64 0)] [(0, 1, (.tmp 4))])), none⟩,
 ⟨(some 6), (.w (.box 2 (.tmp 5))), none⟩,
 ⟨(some 2), (.p (.mov (.tmp 6))), none⟩])
 .ret))
def f37 : VF := { body := b37, res := [(.tmp 2)] }
-- (*comptoir/cursor.Cursor).Text
def b38 : VC := (.seq (.reg [⟨(some 4), (.p (.mov (.cst (.str [])))), none⟩,
 ⟨(some 5), (.p (.mov (.cst (.int .i64 0)))), none⟩])
 (.seq (.reg [⟨(some 9), (.p (.mov (.tmp 0))), none⟩,
 ⟨(some 10), (.p (.mkfn 71 [(.tmp 9)] [])), none⟩,
 ⟨(some 11), (.p (.mov (.tmp 1))), none⟩,
 ⟨(some 12), (.w (.call (.cst (.fn 70 [] [])) [(.tmp 10), (.tmp 11)])), none⟩,
 ⟨(some 8), (.p (.mov (.tmp 12))), none⟩,
 ⟨(some 13), (.p (.ext (.tmp 8) 0)), none⟩,
 ⟨(some 14), (.p (.ext (.tmp 8) 1)), none⟩,
 ⟨(some 6), (.p (.mov (.tmp 13))), none⟩,
 ⟨(some 7), (.p (.mov (.tmp 14))), none⟩])
 (.seq (.reg [⟨(some 15), (.p (.mov (.tmp 6))), none⟩,
 ⟨(some 16), (.r (.bytesStr (.tmp 15))), none⟩,
 ⟨(some 17), (.p (.mov (.tmp 7))), none⟩,
 ⟨(some 4), (.p (.mov (.tmp 16))), none⟩,
 ⟨(some 5), (.p (.mov (.tmp 17))), none⟩])
 .ret)))
def f38 : VF := { body := b38, res := [(.tmp 4), (.tmp 5)] }
-- comptoir/digits.Right
def b39 : VC := (.seq (.reg [⟨(some 6), (.p (.mov (.cst (.bool false)))), none⟩])
 (.seq (.reg [⟨(some 7), (.p (.mov (.tmp 0))), none⟩,
 ⟨(some 8), (.p (.lenStr (.tmp 7))), none⟩,
 ⟨(some 9), (.p (.mov (.tmp 1))), none⟩,
 ⟨(some 10), (.p (.ibin .geq (.tmp 8) (.tmp 9))), none⟩,
 ⟨(some 11), (.p (.mov (.tmp 10))), none⟩,
 ⟨(some 12), (.p (.mov (.tmp 0))), (some (11, true))⟩,
 ⟨(some 13), (.p (.lenStr (.tmp 12))), (some (11, true))⟩,
 ⟨(some 14), (.p (.mov (.tmp 2))), (some (11, true))⟩,
 ⟨(some 15), (.p (.ibin .leq (.tmp 13) (.tmp 14))), (some (11, true))⟩,
 ⟨(some 16), (.p (.pick (.tmp 11) (.tmp 15) (.cst (.bool false)))), none⟩,
 ⟨(some 17), (.p (.mov (.tmp 16))), none⟩,
 ⟨(some 18), (.p (.mov (.tmp 0))), (some (17, true))⟩,
 ⟨(some 19), (.p (.mkfn 73 [(.cst (.str [48, 49, 50, 51, 52, 53, 54, 55, 56, 57]))] [])), (some (17, true))⟩,
 ⟨(some 20), (.r (.pcall (.cst (.fn 72 [] [])) [(.tmp 18), (.tmp 19)])), (some (17, true))⟩,
 ⟨(some 21), (.p (.pick (.tmp 17) (.tmp 20) (.cst (.bool false)))), none⟩,
 ⟨(some 6), (.p (.mov (.tmp 21))), none⟩])
 .ret))
def f39 : VF := { body := b39, res := [(.tmp 6)] }
-- comptoir/bitmap.Parse
def b40 : VC := (.seq (.reg [⟨(some 2), (.p (.mov (.cst .nilsl))), none⟩,
 ⟨(some 3), (.p (.mov (.cst (.int .i64 0)))), none⟩,
 ⟨(some 4), (.p (.mov (.cst (.int .i64 0)))), none⟩])
 (.seq (.reg [⟨(some 10), (.p (.mov (.tmp 0))), none⟩,
 ⟨(some 11), (.w (.call (.cst (.fn 37 [] [])) [(.tmp 10)])), none⟩,
 ⟨(some 5), (.p (.mov (.tmp 11))), none⟩])
 (.seq (.reg [⟨(some 13), (.p (.mov (.tmp 5))), none⟩,
 ⟨(some 14), (.w (.call (.cst (.fn 71 [] [])) [(.tmp 13), (.cst (.int .i64 8))])), none⟩,
 ⟨(some 12), (.p (.mov (.tmp 14))), none⟩,
 ⟨(some 15), (.p (.ext (.tmp 12) 0)), none⟩,
 ⟨(some 16), (.p (.ext (.tmp 12) 1)), none⟩,
 ⟨(some 6), (.p (.mov (.tmp 15))), none⟩,
 ⟨(some 7), (.p (.mov (.tmp 16))), none⟩])
 (.seq (.seq (.reg [⟨(some 17), (.p (.mov (.tmp 7))), none⟩,
 ⟨(some 18), (.p (.ibin .neq (.tmp 17) (.cst (.int .i64 0)))), none⟩])
 (.cond (.tmp 18) (.seq (.reg [⟨(some 19), (.p (.mov (.tmp 7))), none⟩,
 ⟨(some 2), (.p (.mov (.cst .nilsl))), none⟩,
 ⟨(some 3), (.p (.mov (.cst (.int .i64 0)))), none⟩,
 ⟨(some 4), (.p (.mov (.tmp 19))), none⟩])
 .ret)
 .skip))
 (.seq (.seq (.reg [⟨(some 20), (.p (.mov (.tmp 6))), none⟩,
 ⟨(some 21), (.r (.pcall (.cst (.fn 74 [] [])) [(.tmp 20), (.cst (.int .i64 1))])), none⟩,
 ⟨(some 22), (.p (.un .not (.tmp 21))), none⟩])
 (.cond (.tmp 22) (.seq (.reg [⟨(some 23), (.p (.mov (.tmp 6))), none⟩,
 ⟨(some 24), (.p (.mkfn 74 [(.tmp 23)] [])), none⟩,
 ⟨(some 25), (.r (.pcall (.cst (.fn 75 [] [])) [(.cst (.int .i64 2)), (.cst (.int .i64 64)), (.tmp 24)])), none⟩,
 ⟨(some 2), (.p (.mov (.tmp 25))), none⟩,
 ⟨(some 3), (.p (.mov (.cst (.int .i64 8)))), none⟩,
 ⟨(some 4), (.p (.mov (.cst (.int .i64 0)))), none⟩])
 .ret)
 .skip))
 (.seq (.reg [⟨(some 27), (.p (.mov (.tmp 5))), none⟩,
 ⟨(some 28), (.w (.call (.cst (.fn 71 [] [])) [(.tmp 27), (.cst (.int .i64 8))])), none⟩,
 ⟨(some 26), (.p (.mov (.tmp 28))), none⟩,
 ⟨(some 29), (.p (.ext (.tmp 26) 0)), none⟩,
 ⟨(some 30), (.p (.ext (.tmp 26) 1)), none⟩,
 ⟨(some 8), (.p (.mov (.tmp 29))), none⟩,
 ⟨(some 7), (.p (.mov (.tmp 30))), none⟩])
 (.seq (.seq (.reg [⟨(some 31), (.p (.mov (.tmp 7))), none⟩,
 ⟨(some 32), (.p (.ibin .neq (.tmp 31) (.cst (.int .i64 0)))), none⟩])
 (.cond (.tmp 32) (.seq (.reg [⟨(some 33), (.p (.mov (.tmp 7))), none⟩,
 ⟨(some 2), (.p (.mov (.cst .nilsl))), none⟩,
 ⟨(some 3), (.p (.mov (.cst (.int .i64 0)))), none⟩,
 ⟨(some 4), (.p (.mov (.tmp 33))), none⟩])
 .ret)
 .skip))
 (.seq (.reg [⟨(some 34), (.p (.mov (.tmp 6))), none⟩,
 ⟨(some 35), (.p (.mov (.tmp 8))), none⟩,
 ⟨(some 36), (.w (.append 1 1 (.tmp 34) (.tmp 35))), none⟩,
 ⟨(some 9), (.p (.mov (.tmp 36))), none⟩])
 (.seq (.seq (.reg [⟨(some 37), (.p (.mov (.tmp 9))), none⟩,
 ⟨(some 38), (.r (.pcall (.cst (.fn 74 [] [])) [(.tmp 37), (.cst (.int .i64 65))])), none⟩,
 ⟨(some 39), (.p (.mov (.tmp 38))), none⟩,
 ⟨(some 40), (.p (.mov (.tmp 9))), (some (39, false))⟩,
 ⟨(some 41), (.p (.mkfn 74 [(.tmp 40)] [])), (some (39, false))⟩,
 ⟨(some 42), (.r (.pcall (.cst (.fn 75 [] [])) [(.cst (.int .i64 66)), (.cst (.int .i64 128)), (.tmp 41)])), (some (39, false))⟩,
 ⟨(some 43), (.p (.len (.tmp 42))), (some (39, false))⟩,
 ⟨(some 44), (.p (.ibin .eql (.tmp 43) (.cst (.int .i64 0)))), (some (39, false))⟩,
 ⟨(some 45), (.p (.pick (.tmp 39) (.cst (.bool true)) (.tmp 44))), none⟩])
 (.cond (.tmp 45) (.seq (.reg [⟨(some 2), (.p (.mov (.cst .nilsl))), none⟩,
 ⟨(some 3), (.p (.mov (.cst (.int .i64 0)))), none⟩,
 ⟨(some 4), (.p (.mov (.cst (.int .i64 6)))), none⟩])
 .ret)
 .skip))
 (.seq (.reg [⟨(some 46), (.p (.mov (.tmp 9))), none⟩,
 ⟨(some 47), (.p (.mkfn 74 [(.tmp 46)] [])), none⟩,
 ⟨(some 48), (.r (.pcall (.cst (.fn 75 [] [])) [(.cst (.int .i64 2)), (.cst (.int .i64 128)), (.tmp 47)])), none⟩,
 ⟨(some 2), (.p (.mov (.tmp 48))), none⟩,
 ⟨(some 3), (.p (.mov (.cst (.int .i64 16)))), none⟩,
 ⟨(some 4), (.p (.mov (.cst (.int .i64 0)))), none⟩])
 .ret))))))))))
def f40 : VF := { body := b40, res := [(.tmp 2), (.tmp 3), (.tmp 4)] }
-- comptoir/iso.each
def b41 : VC := (.seq (.reg [⟨(some 4), (.p (.mov (.cst (.int .i64 0)))), none⟩])
 (.seq (.seq (.reg [⟨(some 8), (.p (.mov (.tmp 0))), none⟩,
 ⟨(some 9), (.p (.len (.tmp 8))), none⟩,
 ⟨(some 10), (.p (.mov (.cst (.int .i64 0)))), none⟩])
 (.block 0 (.loop (.seq (.reg [⟨(some 11), (.p (.ibin .lss (.tmp 10) (.tmp 9))), none⟩])
 (.seq (.cond (.tmp 11) .skip
 (.exit 0))
 (.seq (.block 1 (.seq (.reg [⟨(some 12), (.p (.idxA 1 (.tmp 8) (.tmp 10))), none⟩,
 ⟨(some 13), (.r (.load none (.tmp 12))), none⟩,
 ⟨(some 6), (.p (.mov (.tmp 13))), none⟩])
 (.seq (.reg [⟨(some 14), (.p (.mov (.tmp 1))), none⟩,
 ⟨(some 15), (.p (.mov (.tmp 6))), none⟩,
 ⟨(some 16), (.w (.call (.tmp 14) [(.tmp 15)])), none⟩,
 ⟨(some 7), (.p (.mov (.tmp 16))), none⟩])
 (.seq (.reg [⟨(some 17), (.p (.mov (.tmp 7))), none⟩,
 ⟨(some 18), (.p (.ibin .neq (.tmp 17) (.cst (.int .i64 0)))), none⟩])
 (.cond (.tmp 18) (.seq (.reg [⟨(some 19), (.p (.mov (.tmp 7))), none⟩,
 ⟨(some 4), (.p (.mov (.tmp 19))), none⟩])
 .ret)
 .skip)))))
 (.reg [⟨(some 20), (.p (.ibin .add (.tmp 10) (.cst (.int .i64 1)))), none⟩,
 ⟨(some 10), (.p (.mov (.tmp 20))), none⟩])))))))
 (.seq (.reg [⟨(some 4), (.p (.mov (.cst (.int .i64 0)))), none⟩])
 .ret)))
def f41 : VF := { body := b41, res := [(.tmp 4)] }
-- (*comptoir/iso.walk).read
def b42 : VC := (.seq (.reg [⟨(some 4), (.p (.mov (.cst (.int .i64 0)))), none⟩])
 (.seq (.reg [⟨(some 9), (.p (.mov (.tmp 1))), none⟩,
 ⟨(some 10), (.p (.mov (.tmp 0))), none⟩,
 ⟨(some 11), (.p (.nilck (.tmp 10))), none⟩,
 ⟨(some 12), (.p (.fieldA 0 (.tmp 11))), none⟩,
 ⟨(some 13), (.r (.load none (.tmp 12))), none⟩,
 ⟨(some 14), (.r (.pcall (.cst (.fn 76 [] [])) [(.tmp 9), (.tmp 13)])), none⟩,
 ⟨(some 8), (.p (.mov (.tmp 14))), none⟩,
 ⟨(some 15), (.p (.ext (.tmp 8) 0)), none⟩,
 ⟨(some 16), (.p (.ext (.tmp 8) 1)), none⟩,
 ⟨(some 17), (.p (.ext (.tmp 8) 2)), none⟩,
 ⟨(some 5), (.p (.mov (.tmp 15))), none⟩,
 ⟨(some 6), (.p (.mov (.tmp 16))), none⟩,
 ⟨(some 7), (.p (.mov (.tmp 17))), none⟩])
 (.seq (.seq (.reg [⟨(some 18), (.p (.mov (.tmp 7))), none⟩,
 ⟨(some 19), (.p (.ibin .eql (.tmp 18) (.cst (.int .i64 0)))), none⟩])
 (.cond (.tmp 19) (.seq (.reg [⟨(some 20), (.p (.mov (.tmp 0))), none⟩,
 ⟨(some 21), (.p (.mov (.tmp 0))), none⟩,
 ⟨(some 22), (.p (.nilck (.tmp 21))), none⟩,
 ⟨(some 23), (.p (.fieldA 0 (.tmp 22))), none⟩,
 ⟨(some 24), (.r (.load none (.tmp 23))), none⟩,
 ⟨(some 25), (.p (.mov (.tmp 6))), none⟩,
 ⟨(some 26), (.p (.slice 1 (.tmp 24) (some (.tmp 25)) none)), none⟩,
 ⟨(some 27), (.p (.nilck (.tmp 20))), none⟩,
 ⟨(some 28), (.p (.fieldA 0 (.tmp 27))), none⟩,
 ⟨none, (.w (.store 1 (.tmp 28) (.tmp 26))), none⟩])
 (.reg [⟨(some 29), (.p (.mov (.tmp 0))), none⟩,
 ⟨(some 30), (.p (.mov (.tmp 0))), none⟩,
 ⟨(some 31), (.p (.nilck (.tmp 30))), none⟩,
 ⟨(some 32), (.p (.fieldA 1 (.tmp 31))), none⟩,
 ⟨(some 33), (.r (.load none (.tmp 32))), none⟩,
 ⟨(some 34), (.p (.mov (.tmp 1))), none⟩,
 ⟨(some 35), (.p (.mov (.tmp 5))), none⟩,
 ⟨(some 36), (.p (.build [(.int .i64 0), .nilsl] [(0, 1, (.tmp 34)), (1, 1, (.tmp 35))])), none⟩,
 ⟨(some 37), (.p (.lit 2 (.agg [(.int .i64 0), .nilsl]) 1 [(0, (.tmp 36))])), none⟩,
 ⟨(some 38), (.w (.append 2 32 (.tmp 33) (.tmp 37))), none⟩,
 ⟨(some 39), (.p (.nilck (.tmp 29))), none⟩,
 ⟨(some 40), (.p (.fieldA 1 (.tmp 39))), none⟩,
 ⟨none, (.w (.store 1 (.tmp 40) (.tmp 38))), none⟩]))
 .skip))
 (.seq (.reg [⟨(some 41), (.p (.mov (.tmp 7))), none⟩,
 ⟨(some 4), (.p (.mov (.tmp 41))), none⟩])
 .ret))))
def f42 : VF := { body := b42, res := [(.tmp 4)] }
-- comptoir/kinds.find
def b43 : VC := (.seq (.reg [⟨(some 2), (.w (.box 1 (.tmp 0))), none⟩,
 ⟨(some 3), (.w (.box 1 (.tmp 1))), none⟩,
 ⟨(some 4), (.p (.mov (.cst (.int .i64 0)))), none⟩])
 (.seq (.reg [⟨(some 5), (.r (.pcall (.cst (.fn 78 [] [])) [])), none⟩,
 ⟨(some 6), (.p (.mkfn 79 [] [(.tmp 3), (.tmp 2)])), none⟩,
 ⟨(some 7), (.r (.pcall (.cst (.fn 77 [] [])) [(.tmp 5), (.tmp 6)])), none⟩,
 ⟨(some 8), (.p (.ibin .add (.tmp 7) (.cst (.int .i64 1)))), none⟩,
 ⟨(some 4), (.p (.mov (.tmp 8))), none⟩])
 .ret))
def f43 : VF := { body := b43, res := [(.tmp 4)] }
-- (comptoir/kinds.row).byMti
def b44 : VC := (.seq (.reg [⟨(some 1), (.w (.box 4 (.tmp 0))), none⟩,
 ⟨(some 2), (.p (.mov (.cst (.str [])))), none⟩])
 (.seq (.reg [⟨(some 3), (.p (.fieldA 1 (.tmp 1))), none⟩,
 ⟨(some 4), (.r (.load none (.tmp 3))), none⟩,
 ⟨(some 2), (.p (.mov (.tmp 4))), none⟩])
 .ret))
def f44 : VF := { body := b44, res := [(.tmp 2)] }
-- (comptoir/fields.set).bare
def b46 : VC := (.seq (.reg [⟨(some 4), (.p (.mov (.cst (.str [])))), none⟩])
 (.seq (.reg [⟨(some 5), (.p (.mov (.tmp 0))), none⟩,
 ⟨(some 6), (.p (.mov (.tmp 1))), none⟩,
 ⟨(some 7), (.r (.pcall (.cst (.fn 28 [] [])) [(.tmp 5), (.tmp 6)])), none⟩,
 ⟨(some 8), (.r (.pcall (.cst (.fn 81 [] [])) [(.tmp 7), (.cst (.str [32]))])), none⟩,
 ⟨(some 4), (.p (.mov (.tmp 8))), none⟩])
 .ret))
def f46 : VF := { body := b46, res := [(.tmp 4)] }
-- comptoir/fields.hex
def b47 : VC := (.seq (.reg [⟨(some 2), (.p (.mov (.cst (.bool false)))), none⟩])
 (.seq (.reg [⟨(some 6), (.p (.mov (.tmp 0))), none⟩,
 ⟨(some 7), (.r (.pcall (.cst (.fn 82 [] [])) [(.tmp 6)])), none⟩,
 ⟨(some 5), (.p (.mov (.tmp 7))), none⟩,
 ⟨(some 8), (.p (.ext (.tmp 5) 0)), none⟩,
 ⟨(some 9), (.p (.ext (.tmp 5) 1)), none⟩,
 ⟨(some 3), (.p (.mov (.tmp 8))), none⟩,
 ⟨(some 4), (.p (.mov (.tmp 9))), none⟩])
 (.seq (.reg [⟨(some 10), (.p (.mov (.tmp 4))), none⟩,
 ⟨(some 11), (.p (.ibin .eql (.tmp 10) (.cst (.int .i64 0)))), none⟩,
 ⟨(some 12), (.p (.mov (.tmp 11))), none⟩,
 ⟨(some 13), (.p (.mov (.tmp 0))), (some (12, true))⟩,
 ⟨(some 14), (.p (.lenStr (.tmp 13))), (some (12, true))⟩,
 ⟨(some 15), (.p (.ibin .eql (.tmp 14) (.cst (.int .i64 8)))), (some (12, true))⟩,
 ⟨(some 16), (.p (.pick (.tmp 12) (.tmp 15) (.cst (.bool false)))), none⟩,
 ⟨(some 2), (.p (.mov (.tmp 16))), none⟩])
 .ret)))
def f47 : VF := { body := b47, res := [(.tmp 2)] }
-- comptoir/codes.Known
def b48 : VC := (.seq (.reg [⟨(some 2), (.p (.mov (.cst (.bool false)))), none⟩])
 (.seq (.reg [⟨(some 7), (.p (.mov (.tmp 0))), none⟩,
 ⟨(some 8), (.r (.pcall (.cst (.fn 83 [] [])) [(.tmp 7)])), none⟩,
 ⟨(some 6), (.p (.mov (.tmp 8))), none⟩,
 ⟨(some 9), (.p (.ext (.tmp 6) 0)), none⟩,
 ⟨(some 10), (.p (.ext (.tmp 6) 1)), none⟩,
 ⟨(some 11), (.p (.ext (.tmp 6) 2)), none⟩,
 ⟨(some 3), (.p (.mov (.tmp 9))), none⟩,
 ⟨(some 4), (.p (.mov (.tmp 10))), none⟩,
 ⟨(some 5), (.p (.mov (.tmp 11))), none⟩])
 (.seq (.reg [⟨(some 12), (.p (.mov (.tmp 5))), none⟩,
 ⟨(some 2), (.p (.mov (.tmp 12))), none⟩])
 .ret)))
def f48 : VF := { body := b48, res := [(.tmp 2)] }
-- (comptoir/fields.set).spare
def b49 : VC := (.seq (.reg [⟨(some 2), (.p (.mov (.cst .nilsl))), none⟩])
 (.seq (.reg [⟨(some 3), (.p (.mov (.cst .nilsl))), none⟩])
 (.seq (.seq (.reg [⟨(some 6), (.p (.mov (.tmp 0))), none⟩,
 ⟨(some 7), (.p (.len (.tmp 6))), none⟩,
 ⟨(some 8), (.p (.mov (.cst (.int .i64 0)))), none⟩])
 (.block 0 (.loop (.seq (.reg [⟨(some 9), (.p (.ibin .lss (.tmp 8) (.tmp 7))), none⟩])
 (.seq (.cond (.tmp 9) .skip
 (.exit 0))
 (.seq (.block 1 (.seq (.reg [⟨(some 10), (.p (.idxA 2 (.tmp 6) (.tmp 8))), none⟩,
 ⟨(some 11), (.r (.load (some 2) (.tmp 10))), none⟩,
 ⟨(some 5), (.w (.alloc [(.int .i64 0), .nilsl])), none⟩,
 ⟨none, (.w (.store 2 (.tmp 5) (.tmp 11))), none⟩])
 (.seq (.reg [⟨(some 12), (.p (.fieldA 0 (.tmp 5))), none⟩,
 ⟨(some 13), (.r (.load none (.tmp 12))), none⟩,
 ⟨(some 14), (.r (.pcall (.cst (.fn 84 [] [])) [(.tmp 13)])), none⟩])
 (.cond (.tmp 14) (.reg [⟨(some 15), (.p (.mov (.tmp 3))), none⟩,
 ⟨(some 16), (.r (.load (some 2) (.tmp 5))), none⟩,
 ⟨(some 17), (.p (.lit 2 (.agg [(.int .i64 0), .nilsl]) 1 [(0, (.tmp 16))])), none⟩,
 ⟨(some 18), (.w (.append 2 32 (.tmp 15) (.tmp 17))), none⟩,
 ⟨(some 3), (.p (.mov (.tmp 18))), none⟩])
 .skip))))
 (.reg [⟨(some 19), (.p (.ibin .add (.tmp 8) (.cst (.int .i64 1)))), none⟩,
 ⟨(some 8), (.p (.mov (.tmp 19))), none⟩])))))))
 (.seq (.reg [⟨(some 20), (.p (.mov (.tmp 3))), none⟩,
 ⟨(some 2), (.p (.mov (.tmp 20))), none⟩])
 .ret))))
def f49 : VF := { body := b49, res := [(.tmp 2)] }
-- comptoir/tlv.Parse
def b50 : VC := (.seq (.reg [⟨(some 2), (.p (.mov (.cst .nilsl))), none⟩,
 ⟨(some 3), (.p (.mov (.cst (.int .i64 0)))), none⟩])
 (.seq (.reg [⟨(some 6), (.p (.mov (.tmp 0))), none⟩,
 ⟨(some 7), (.w (.call (.cst (.fn 37 [] [])) [(.tmp 6)])), none⟩,
 ⟨(some 8), (.p (.build [.nilp, .nilsl] [(0, 1, (.tmp 7))])), none⟩,
 ⟨(some 9), (.w (.box 2 (.tmp 8))), none⟩,
 ⟨(some 4), (.p (.mov (.tmp 9))), none⟩])
 (.seq (.block 0 (.loop (.seq (.seq (.reg [⟨(some 10), (.p (.mov (.tmp 4))), none⟩,
 ⟨(some 11), (.p (.nilck (.tmp 10))), none⟩,
 ⟨(some 12), (.p (.fieldA 0 (.tmp 11))), none⟩,
 ⟨(some 13), (.r (.load none (.tmp 12))), none⟩,
 ⟨(some 14), (.w (.call (.cst (.fn 85 [] [])) [(.tmp 13)])), none⟩,
 ⟨(some 15), (.p (.ibin .gtr (.tmp 14) (.cst (.int .i64 0)))), none⟩])
 (.cond (.tmp 15) .skip
 (.exit 0)))
 (.block 1 (.seq (.reg [⟨(some 16), (.p (.mov (.tmp 4))), none⟩,
 ⟨(some 17), (.w (.call (.cst (.fn 86 [] [])) [(.tmp 16)])), none⟩,
 ⟨(some 5), (.p (.mov (.tmp 17))), none⟩])
 (.seq (.reg [⟨(some 18), (.p (.mov (.tmp 5))), none⟩,
 ⟨(some 19), (.p (.ibin .neq (.tmp 18) (.cst (.int .i64 0)))), none⟩])
 (.cond (.tmp 19) (.seq (.reg [⟨(some 20), (.p (.mov (.tmp 5))), none⟩,
 ⟨(some 2), (.p (.mov (.cst .nilsl))), none⟩,
 ⟨(some 3), (.p (.mov (.tmp 20))), none⟩])
 .ret)
 .skip)))))))
 (.seq (.reg [⟨(some 21), (.p (.mov (.tmp 4))), none⟩,
 ⟨(some 22), (.p (.nilck (.tmp 21))), none⟩,
 ⟨(some 23), (.p (.fieldA 1 (.tmp 22))), none⟩,
 ⟨(some 24), (.r (.load none (.tmp 23))), none⟩,
 ⟨(some 2), (.p (.mov (.tmp 24))), none⟩,
 ⟨(some 3), (.p (.mov (.cst (.int .i64 0)))), none⟩])
 .ret))))
def f50 : VF := { body := b50, res := [(.tmp 2), (.tmp 3)] }
-- (comptoir/fields.set).number
def b51 : VC := (.seq (.reg [⟨(some 4), (.p (.mov (.cst (.int .u64 0)))), none⟩])
 (.seq (.reg [⟨(some 8), (.p (.mov (.tmp 0))), none⟩,
 ⟨(some 9), (.p (.mov (.tmp 1))), none⟩,
 ⟨(some 10), (.r (.pcall (.cst (.fn 28 [] [])) [(.tmp 8), (.tmp 9)])), none⟩,
 ⟨(some 11), (.r (.pcall (.cst (.fn 52 [] [])) [(.tmp 10)])), none⟩,
 ⟨(some 7), (.p (.mov (.tmp 11))), none⟩,
 ⟨(some 12), (.p (.ext (.tmp 7) 0)), none⟩,
 ⟨(some 13), (.p (.ext (.tmp 7) 1)), none⟩,
 ⟨(some 5), (.p (.mov (.tmp 12))), none⟩,
 ⟨(some 6), (.p (.mov (.tmp 13))), none⟩])
 (.seq (.reg [⟨(some 14), (.p (.mov (.tmp 5))), none⟩,
 ⟨(some 4), (.p (.mov (.tmp 14))), none⟩])
 .ret)))
def f51 : VF := { body := b51, res := [(.tmp 4)] }
-- comptoir/digits.Number
def b52 : VC := (.seq (.reg [⟨(some 2), (.p (.mov (.cst (.int .u64 0)))), none⟩,
 ⟨(some 3), (.p (.mov (.cst (.int .i64 0)))), none⟩])
 (.seq (.seq (.reg [⟨(some 6), (.p (.mov (.tmp 0))), none⟩,
 ⟨(some 7), (.r (.pcall (.cst (.fn 39 [] [])) [(.tmp 6), (.cst (.int .i64 1)), (.cst (.int .i64 18))])), none⟩,
 ⟨(some 8), (.p (.un .not (.tmp 7))), none⟩])
 (.cond (.tmp 8) (.seq (.reg [⟨(some 2), (.p (.mov (.cst (.int .u64 0)))), none⟩,
 ⟨(some 3), (.p (.mov (.cst (.int .i64 5)))), none⟩])
 .ret)
 .skip))
 (.seq (.reg [⟨(some 4), (.p (.mov (.cst (.int .u64 0)))), none⟩])
 (.seq (.seq (.reg [⟨(some 9), (.p (.mov (.tmp 0))), none⟩,
 ⟨(some 10), (.p (.lenStr (.tmp 9))), none⟩,
 ⟨(some 11), (.p (.mov (.cst (.int .i64 0)))), none⟩])
 (.block 0 (.loop (.seq (.reg [⟨(some 12), (.p (.ibin .lss (.tmp 11) (.tmp 10))), none⟩])
 (.seq (.cond (.tmp 12) .skip
 (.exit 0))
 (.seq (.block 1 (.seq (.reg [⟨(some 13), (.p (.mov (.tmp 11))), none⟩,
 ⟨(some 5), (.p (.mov (.tmp 13))), none⟩])
 (.reg [⟨(some 14), (.p (.mov (.tmp 4))), none⟩,
 ⟨(some 15), (.p (.ibin .mul (.tmp 14) (.cst (.int .u64 10)))), none⟩,
 ⟨(some 16), (.p (.mov (.tmp 0))), none⟩,
 ⟨(some 17), (.p (.mov (.tmp 5))), none⟩,
 ⟨(some 18), (.p (.idxStr (.tmp 16) (.tmp 17))), none⟩,
 ⟨(some 19), (.p (.ibin .sub (.tmp 18) (.cst (.int .u8 48)))), none⟩,
 ⟨(some 20), (.p (.conv (.toInt .u64) (.tmp 19))), none⟩,
 ⟨(some 21), (.p (.ibin .add (.tmp 15) (.tmp 20))), none⟩,
 ⟨(some 4), (.p (.mov (.tmp 21))), none⟩])))
 (.reg [⟨(some 22), (.p (.ibin .add (.tmp 11) (.cst (.int .i64 1)))), none⟩,
 ⟨(some 11), (.p (.mov (.tmp 22))), none⟩])))))))
 (.seq (.reg [⟨(some 23), (.p (.mov (.tmp 4))), none⟩,
 ⟨(some 2), (.p (.mov (.tmp 23))), none⟩,
 ⟨(some 3), (.p (.mov (.cst (.int .i64 0)))), none⟩])
 .ret)))))
def f52 : VF := { body := b52, res := [(.tmp 2), (.tmp 3)] }
-- comptoir/kinds.of
def b53 : VC := (.seq (.reg [⟨(some 2), (.w (.alloc [(.str []), (.str []), (.int .i64 0), (.int .i64 0)])), none⟩])
 (.seq (.seq (.reg [⟨(some 3), (.p (.mov (.tmp 0))), none⟩,
 ⟨(some 4), (.p (.ibin .lss (.tmp 3) (.cst (.int .i64 1)))), none⟩,
 ⟨(some 5), (.p (.mov (.tmp 4))), none⟩,
 ⟨(some 6), (.p (.mov (.tmp 0))), (some (5, false))⟩,
 ⟨(some 7), (.p (.ibin .gtr (.tmp 6) (.cst (.int .i64 11)))), (some (5, false))⟩,
 ⟨(some 8), (.p (.pick (.tmp 5) (.cst (.bool true)) (.tmp 7))), none⟩])
 (.cond (.tmp 8) (.seq (.reg [⟨(some 9), (.p (.build [(.str []), (.str []), (.int .i64 0), (.int .i64 0)] [])), none⟩,
 ⟨none, (.w (.store 4 (.tmp 2) (.tmp 9))), none⟩])
 .ret)
 .skip))
 (.seq (.reg [⟨(some 10), (.r (.pcall (.cst (.fn 78 [] [])) [])), none⟩,
 ⟨(some 11), (.p (.mov (.tmp 0))), none⟩,
 ⟨(some 12), (.p (.ibin .sub (.tmp 11) (.cst (.int .i64 1)))), none⟩,
 ⟨(some 13), (.p (.idxA 4 (.tmp 10) (.tmp 12))), none⟩,
 ⟨(some 14), (.r (.load (some 4) (.tmp 13))), none⟩,
 ⟨none, (.w (.store 4 (.tmp 2) (.tmp 14))), none⟩])
 .ret)))
def f53 : VF := { body := b53, res := [(.cell 2 (some 4))] }
-- (comptoir/kinds.row).lets
def b54 : VC := (.seq (.reg [⟨(some 2), (.w (.box 4 (.tmp 0))), none⟩,
 ⟨(some 4), (.p (.mov (.cst (.bool false)))), none⟩])
 (.seq (.reg [⟨(some 5), (.p (.mov (.tmp 1))), none⟩,
 ⟨(some 6), (.p (.fieldA 2 (.tmp 2))), none⟩,
 ⟨(some 7), (.r (.load none (.tmp 6))), none⟩,
 ⟨(some 8), (.p (.ibin .and (.tmp 5) (.tmp 7))), none⟩,
 ⟨(some 9), (.p (.fieldA 2 (.tmp 2))), none⟩,
 ⟨(some 10), (.r (.load none (.tmp 9))), none⟩,
 ⟨(some 11), (.p (.ibin .eql (.tmp 8) (.tmp 10))), none⟩,
 ⟨(some 12), (.p (.mov (.tmp 11))), none⟩,
 ⟨(some 13), (.p (.mov (.tmp 1))), (some (12, true))⟩,
 ⟨(some 14), (.p (.fieldA 2 (.tmp 2))), (some (12, true))⟩,
 ⟨(some 15), (.r (.load none (.tmp 14))), (some (12, true))⟩,
 ⟨(some 16), (.p (.fieldA 3 (.tmp 2))), (some (12, true))⟩,
 ⟨(some 17), (.r (.load none (.tmp 16))), (some (12, true))⟩,
 ⟨(some 18), (.p (.ibin .or (.tmp 15) (.tmp 17))), (some (12, true))⟩,
 ⟨(some 19), (.p (.ibin .andNot (.tmp 13) (.tmp 18))), (some (12, true))⟩,
 ⟨(some 20), (.p (.ibin .eql (.tmp 19) (.cst (.int .i64 0)))), (some (12, true))⟩,
 ⟨(some 21), (.p (.pick (.tmp 12) (.tmp 20) (.cst (.bool false)))), none⟩,
 ⟨(some 4), (.p (.mov (.tmp 21))), none⟩])
 .ret))
def f54 : VF := { body := b54, res := [(.tmp 4)] }
-- comptoir/kinds.parts
def b55 : VC := (.seq (.reg [⟨(some 1), (.w (.box 21 (.tmp 0))), none⟩,
 ⟨(some 2), (.p (.mov (.cst (.int .i64 0)))), none⟩])
 (.seq (.reg [⟨(some 3), (.p (.mov (.cst (.int .i64 0)))), none⟩])
 (.seq (.seq (.reg [⟨(some 6), (.p (.fieldA 4 (.tmp 1))), none⟩,
 ⟨(some 7), (.r (.load none (.tmp 6))), none⟩,
 ⟨(some 8), (.p (.ibin .neq (.tmp 7) (.cst (.str [])))), none⟩,
 ⟨(some 9), (.p (.fieldA 5 (.tmp 1))), none⟩,
 ⟨(some 10), (.r (.load none (.tmp 9))), none⟩,
 ⟨(some 11), (.p (.ibin .neq (.tmp 10) (.cst (.str [])))), none⟩,
 ⟨(some 12), (.p (.fieldA 7 (.tmp 1))), none⟩,
 ⟨(some 13), (.r (.load none (.tmp 12))), none⟩,
 ⟨(some 14), (.p (.ibin .neq (.tmp 13) (.cst (.str [])))), none⟩,
 ⟨(some 15), (.p (.fieldA 8 (.tmp 1))), none⟩,
 ⟨(some 16), (.r (.load none (.tmp 15))), none⟩,
 ⟨(some 17), (.p (.ibin .neq (.tmp 16) (.cst (.str [])))), none⟩,
 ⟨(some 18), (.p (.fieldA 9 (.tmp 1))), none⟩,
 ⟨(some 19), (.r (.load none (.tmp 18))), none⟩,
 ⟨(some 20), (.p (.ibin .neq (.tmp 19) (.cst (.str [])))), none⟩,
 ⟨(some 21), (.p (.fieldA 10 (.tmp 1))), none⟩,
 ⟨(some 22), (.r (.load none (.tmp 21))), none⟩,
 ⟨(some 23), (.p (.ibin .neq (.tmp 22) (.cst (.str [])))), none⟩,
 ⟨(some 24), (.p (.fieldA 11 (.tmp 1))), none⟩,
 ⟨(some 25), (.r (.load none (.tmp 24))), none⟩,
 ⟨(some 26), (.p (.ibin .neq (.tmp 25) (.cst (.int .i64 0)))), none⟩,
 ⟨(some 27), (.p (.fieldA 12 (.tmp 1))), none⟩,
 ⟨(some 28), (.r (.load none (.tmp 27))), none⟩,
 ⟨(some 29), (.p (.ibin .neq (.tmp 28) (.cst (.str [])))), none⟩,
 ⟨(some 30), (.p (.fieldA 13 (.tmp 1))), none⟩,
 ⟨(some 31), (.r (.load none (.tmp 30))), none⟩,
 ⟨(some 32), (.p (.ibin .neq (.tmp 31) (.cst (.str [])))), none⟩,
 ⟨(some 33), (.p (.fieldA 14 (.tmp 1))), none⟩,
 ⟨(some 34), (.p (.fieldA 1 (.tmp 33))), none⟩,
 ⟨(some 35), (.r (.load none (.tmp 34))), none⟩,
 ⟨(some 36), (.p (.ibin .neq (.tmp 35) (.cst (.str [])))), none⟩,
 ⟨(some 37), (.p (.fieldA 16 (.tmp 1))), none⟩,
 ⟨(some 38), (.r (.load none (.tmp 37))), none⟩,
 ⟨(some 39), (.p (.len (.tmp 38))), none⟩,
 ⟨(some 40), (.p (.ibin .gtr (.tmp 39) (.cst (.int .i64 0)))), none⟩,
 ⟨(some 41), (.p (.lit 1 (.bool false) 11 [(0, (.tmp 8)), (1, (.tmp 11)), (2, (.tmp 14)), (3, (.tmp 17)), (4, (.tmp 20)), (5, (.tmp 23)), (6, (.tmp 26)), (7, (.tmp 29)), (8, (.tmp 32)), (9, (.tmp 36)), (10, (.tmp 40))])), none⟩,
 ⟨(some 42), (.p (.len (.tmp 41))), none⟩,
 ⟨(some 43), (.p (.mov (.cst (.int .i64 0)))), none⟩])
 (.block 0 (.loop (.seq (.reg [⟨(some 44), (.p (.ibin .lss (.tmp 43) (.tmp 42))), none⟩])
 (.seq (.cond (.tmp 44) .skip
 (.exit 0))
 (.seq (.block 1 (.seq (.reg [⟨(some 45), (.p (.mov (.tmp 43))), none⟩,
 ⟨(some 46), (.p (.idxA 1 (.tmp 41) (.tmp 43))), none⟩,
 ⟨(some 47), (.r (.load none (.tmp 46))), none⟩,
 ⟨(some 4), (.p (.mov (.tmp 45))), none⟩,
 ⟨(some 5), (.p (.mov (.tmp 47))), none⟩])
 (.seq (.reg [⟨(some 48), (.p (.mov (.tmp 5))), none⟩])
 (.cond (.tmp 48) (.reg [⟨(some 49), (.p (.mov (.tmp 3))), none⟩,
 ⟨(some 50), (.p (.mov (.tmp 4))), none⟩,
 ⟨(some 51), (.p (.ibin .shl (.cst (.int .i64 1)) (.tmp 50))), none⟩,
 ⟨(some 52), (.p (.ibin .or (.tmp 49) (.tmp 51))), none⟩,
 ⟨(some 3), (.p (.mov (.tmp 52))), none⟩])
 .skip))))
 (.reg [⟨(some 53), (.p (.ibin .add (.tmp 43) (.cst (.int .i64 1)))), none⟩,
 ⟨(some 43), (.p (.mov (.tmp 53))), none⟩])))))))
 (.seq (.reg [⟨(some 54), (.p (.mov (.tmp 3))), none⟩,
 ⟨(some 2), (.p (.mov (.tmp 54))), none⟩])
 .ret))))
def f55 : VF := { body := b55, res := [(.tmp 2)] }
-- comptoir/fields.may
def b56 : VC := (.seq (.reg [⟨(some 1), (.w (.box 21 (.tmp 0))), none⟩,
 ⟨(some 2), (.p (.mov (.cst (.bool false)))), none⟩])
 (.seq (.reg [⟨(some 6), (.p (.fieldA 16 (.tmp 1))), none⟩,
 ⟨(some 7), (.r (.load none (.tmp 6))), none⟩,
 ⟨(some 8), (.r (.pcall (.cst (.fn 87 [] [])) [(.tmp 7)])), none⟩,
 ⟨(some 5), (.p (.mov (.tmp 8))), none⟩,
 ⟨(some 9), (.p (.ext (.tmp 5) 0)), none⟩,
 ⟨(some 10), (.p (.ext (.tmp 5) 1)), none⟩,
 ⟨(some 3), (.p (.mov (.tmp 9))), none⟩,
 ⟨(some 4), (.p (.mov (.tmp 10))), none⟩])
 (.seq (.reg [⟨(some 11), (.p (.fieldA 1 (.tmp 1))), none⟩,
 ⟨(some 12), (.r (.load none (.tmp 11))), none⟩,
 ⟨(some 13), (.p (.ibin .geq (.tmp 12) (.cst (.int .i64 0)))), none⟩,
 ⟨(some 14), (.p (.mov (.tmp 13))), none⟩,
 ⟨(some 15), (.p (.fieldA 1 (.tmp 1))), (some (14, true))⟩,
 ⟨(some 16), (.r (.load none (.tmp 15))), (some (14, true))⟩,
 ⟨(some 17), (.p (.ibin .leq (.tmp 16) (.cst (.int .i64 999999)))), (some (14, true))⟩,
 ⟨(some 18), (.p (.pick (.tmp 14) (.tmp 17) (.cst (.bool false)))), none⟩,
 ⟨(some 19), (.p (.mov (.tmp 18))), none⟩,
 ⟨(some 20), (.p (.fieldA 11 (.tmp 1))), (some (19, true))⟩,
 ⟨(some 21), (.r (.load none (.tmp 20))), (some (19, true))⟩,
 ⟨(some 22), (.p (.ibin .geq (.tmp 21) (.cst (.int .i64 0)))), (some (19, true))⟩,
 ⟨(some 23), (.p (.pick (.tmp 19) (.tmp 22) (.cst (.bool false)))), none⟩,
 ⟨(some 24), (.p (.mov (.tmp 23))), none⟩,
 ⟨(some 25), (.p (.fieldA 11 (.tmp 1))), (some (24, true))⟩,
 ⟨(some 26), (.r (.load none (.tmp 25))), (some (24, true))⟩,
 ⟨(some 27), (.p (.ibin .leq (.tmp 26) (.cst (.int .i64 999)))), (some (24, true))⟩,
 ⟨(some 28), (.p (.pick (.tmp 24) (.tmp 27) (.cst (.bool false)))), none⟩,
 ⟨(some 29), (.p (.mov (.tmp 28))), none⟩,
 ⟨(some 30), (.p (.fieldA 14 (.tmp 1))), (some (29, true))⟩,
 ⟨(some 31), (.p (.fieldA 0 (.tmp 30))), (some (29, true))⟩,
 ⟨(some 32), (.r (.load none (.tmp 31))), (some (29, true))⟩,
 ⟨(some 33), (.p (.ibin .geq (.tmp 32) (.cst (.int .i64 0)))), (some (29, true))⟩,
 ⟨(some 34), (.p (.pick (.tmp 29) (.tmp 33) (.cst (.bool false)))), none⟩,
 ⟨(some 35), (.p (.mov (.tmp 34))), none⟩,
 ⟨(some 36), (.p (.fieldA 14 (.tmp 1))), (some (35, true))⟩,
 ⟨(some 37), (.p (.fieldA 0 (.tmp 36))), (some (35, true))⟩,
 ⟨(some 38), (.r (.load none (.tmp 37))), (some (35, true))⟩,
 ⟨(some 39), (.p (.ibin .leq (.tmp 38) (.cst (.int .i64 999999)))), (some (35, true))⟩,
 ⟨(some 40), (.p (.pick (.tmp 35) (.tmp 39) (.cst (.bool false)))), none⟩,
 ⟨(some 41), (.p (.mov (.tmp 40))), none⟩,
 ⟨(some 42), (.p (.fieldA 6 (.tmp 1))), (some (41, true))⟩,
 ⟨(some 43), (.r (.load none (.tmp 42))), (some (41, true))⟩,
 ⟨(some 44), (.p (.ibin .leq (.tmp 43) (.cst (.int .u64 999999999999)))), (some (41, true))⟩,
 ⟨(some 45), (.p (.pick (.tmp 41) (.tmp 44) (.cst (.bool false)))), none⟩,
 ⟨(some 46), (.p (.mov (.tmp 45))), none⟩,
 ⟨(some 47), (.p (.fieldA 2 (.tmp 1))), (some (46, true))⟩,
 ⟨(some 48), (.r (.load none (.tmp 47))), (some (46, true))⟩,
 ⟨(some 49), (.r (.pcall (.cst (.fn 27 [] [])) [(.tmp 48)])), (some (46, true))⟩,
 ⟨(some 50), (.p (.pick (.tmp 46) (.tmp 49) (.cst (.bool false)))), none⟩,
 ⟨(some 51), (.p (.mov (.tmp 50))), none⟩,
 ⟨(some 52), (.p (.fieldA 14 (.tmp 1))), (some (51, true))⟩,
 ⟨(some 53), (.p (.fieldA 1 (.tmp 52))), (some (51, true))⟩,
 ⟨(some 54), (.r (.load none (.tmp 53))), (some (51, true))⟩,
 ⟨(some 55), (.p (.ibin .eql (.tmp 54) (.cst (.str [])))), (some (51, true))⟩,
 ⟨(some 56), (.p (.mov (.tmp 55))), (some (51, true))⟩,
 ⟨(some 57), (.p (.fieldA 14 (.tmp 1))), (some (56, false))⟩,
 ⟨(some 58), (.p (.fieldA 1 (.tmp 57))), (some (56, false))⟩,
 ⟨(some 59), (.r (.load none (.tmp 58))), (some (56, false))⟩,
 ⟨(some 60), (.r (.pcall (.cst (.fn 27 [] [])) [(.tmp 59)])), (some (56, false))⟩,
 ⟨(some 61), (.p (.pick (.tmp 56) (.cst (.bool true)) (.tmp 60))), (some (51, true))⟩,
 ⟨(some 62), (.p (.pick (.tmp 51) (.tmp 61) (.cst (.bool false)))), none⟩,
 ⟨(some 63), (.p (.mov (.tmp 62))), none⟩,
 ⟨(some 64), (.p (.fieldA 12 (.tmp 1))), (some (63, true))⟩,
 ⟨(some 65), (.r (.load none (.tmp 64))), (some (63, true))⟩,
 ⟨(some 66), (.p (.ibin .eql (.tmp 65) (.cst (.str [])))), (some (63, true))⟩,
 ⟨(some 67), (.p (.mov (.tmp 66))), (some (63, true))⟩,
 ⟨(some 68), (.p (.fieldA 12 (.tmp 1))), (some (67, false))⟩,
 ⟨(some 69), (.r (.load none (.tmp 68))), (some (67, false))⟩,
 ⟨(some 70), (.r (.pcall (.cst (.fn 48 [] [])) [(.tmp 69)])), (some (67, false))⟩,
 ⟨(some 71), (.p (.pick (.tmp 67) (.cst (.bool true)) (.tmp 70))), (some (63, true))⟩,
 ⟨(some 72), (.p (.pick (.tmp 63) (.tmp 71) (.cst (.bool false)))), none⟩,
 ⟨(some 73), (.p (.mov (.tmp 72))), none⟩,
 ⟨(some 74), (.p (.fieldA 4 (.tmp 1))), (some (73, true))⟩,
 ⟨(some 75), (.r (.load none (.tmp 74))), (some (73, true))⟩,
 ⟨(some 76), (.p (.ibin .eql (.tmp 75) (.cst (.str [])))), (some (73, true))⟩,
 ⟨(some 77), (.p (.mov (.tmp 76))), (some (73, true))⟩,
 ⟨(some 78), (.p (.fieldA 4 (.tmp 1))), (some (77, false))⟩,
 ⟨(some 79), (.r (.load none (.tmp 78))), (some (77, false))⟩,
 ⟨(some 80), (.p (.lenStr (.tmp 79))), (some (77, false))⟩,
 ⟨(some 81), (.p (.ibin .geq (.tmp 80) (.cst (.int .i64 12)))), (some (77, false))⟩,
 ⟨(some 82), (.p (.pick (.tmp 77) (.cst (.bool true)) (.tmp 81))), (some (73, true))⟩,
 ⟨(some 83), (.p (.pick (.tmp 73) (.tmp 82) (.cst (.bool false)))), none⟩,
 ⟨(some 84), (.p (.mov (.tmp 83))), none⟩,
 ⟨(some 85), (.p (.fieldA 17 (.tmp 1))), (some (84, true))⟩,
 ⟨(some 86), (.r (.load none (.tmp 85))), (some (84, true))⟩,
 ⟨(some 87), (.p (.ibin .eql (.tmp 86) (.cst (.str [])))), (some (84, true))⟩,
 ⟨(some 88), (.p (.mov (.tmp 87))), (some (84, true))⟩,
 ⟨(some 89), (.p (.fieldA 17 (.tmp 1))), (some (88, false))⟩,
 ⟨(some 90), (.r (.load none (.tmp 89))), (some (88, false))⟩,
 ⟨(some 91), (.r (.pcall (.cst (.fn 47 [] [])) [(.tmp 90)])), (some (88, false))⟩,
 ⟨(some 92), (.p (.pick (.tmp 88) (.cst (.bool true)) (.tmp 91))), (some (84, true))⟩,
 ⟨(some 93), (.p (.pick (.tmp 84) (.tmp 92) (.cst (.bool false)))), none⟩,
 ⟨(some 94), (.p (.mov (.tmp 93))), none⟩,
 ⟨(some 95), (.p (.fieldA 9 (.tmp 1))), (some (94, true))⟩,
 ⟨(some 96), (.r (.load none (.tmp 95))), (some (94, true))⟩,
 ⟨(some 97), (.r (.pcall (.cst (.fn 88 [] [])) [(.tmp 96), (.cst (.int .i64 8))])), (some (94, true))⟩,
 ⟨(some 98), (.p (.pick (.tmp 94) (.tmp 97) (.cst (.bool false)))), none⟩,
 ⟨(some 99), (.p (.mov (.tmp 98))), none⟩,
 ⟨(some 100), (.p (.fieldA 8 (.tmp 1))), (some (99, true))⟩,
 ⟨(some 101), (.r (.load none (.tmp 100))), (some (99, true))⟩,
 ⟨(some 102), (.r (.pcall (.cst (.fn 88 [] [])) [(.tmp 101), (.cst (.int .i64 15))])), (some (99, true))⟩,
 ⟨(some 103), (.p (.pick (.tmp 99) (.tmp 102) (.cst (.bool false)))), none⟩,
 ⟨(some 104), (.p (.mov (.tmp 103))), none⟩,
 ⟨(some 105), (.p (.mov (.tmp 4))), (some (104, true))⟩,
 ⟨(some 106), (.p (.ibin .eql (.tmp 105) (.cst (.int .i64 0)))), (some (104, true))⟩,
 ⟨(some 107), (.p (.pick (.tmp 104) (.tmp 106) (.cst (.bool false)))), none⟩,
 ⟨(some 108), (.p (.mov (.tmp 107))), none⟩,
 ⟨(some 109), (.p (.fieldA 20 (.tmp 1))), (some (108, true))⟩,
 ⟨(some 110), (.r (.load none (.tmp 109))), (some (108, true))⟩,
 ⟨(some 111), (.r (.pcall (.cst (.fn 89 [] [])) [(.tmp 110)])), (some (108, true))⟩,
 ⟨(some 112), (.p (.pick (.tmp 108) (.tmp 111) (.cst (.bool false)))), none⟩,
 ⟨(some 2), (.p (.mov (.tmp 112))), none⟩])
 .ret)))
def f56 : VF := { body := b56, res := [(.tmp 2)] }
-- comptoir/iso.Pack
def b57 : VC := (.seq (.reg [⟨(some 1), (.w (.box 2 (.tmp 0))), none⟩,
 ⟨(some 2), (.p (.mov (.cst .nilsl))), none⟩,
 ⟨(some 3), (.p (.mov (.cst (.int .i64 0)))), none⟩])
 (.seq (.seq (.reg [⟨(some 14), (.p (.fieldA 0 (.tmp 1))), none⟩,
 ⟨(some 15), (.r (.load none (.tmp 14))), none⟩,
 ⟨(some 16), (.r (.pcall (.cst (.fn 39 [] [])) [(.tmp 15), (.cst (.int .i64 4)), (.cst (.int .i64 4))])), none⟩,
 ⟨(some 17), (.p (.un .not (.tmp 16))), none⟩])
 (.cond (.tmp 17) (.seq (.reg [⟨(some 2), (.p (.mov (.cst .nilsl))), none⟩,
 ⟨(some 3), (.p (.mov (.cst (.int .i64 5)))), none⟩])
 .ret)
 .skip))
 (.seq (.reg [⟨(some 4), (.p (.mov (.cst .nilsl))), none⟩])
 (.seq (.seq (.reg [⟨(some 18), (.p (.fieldA 1 (.tmp 1))), none⟩,
 ⟨(some 19), (.r (.load none (.tmp 18))), none⟩,
 ⟨(some 20), (.p (.len (.tmp 19))), none⟩,
 ⟨(some 21), (.p (.mov (.cst (.int .i64 0)))), none⟩])
 (.block 0 (.loop (.seq (.reg [⟨(some 22), (.p (.ibin .lss (.tmp 21) (.tmp 20))), none⟩])
 (.seq (.cond (.tmp 22) .skip
 (.exit 0))
 (.seq (.block 1 (.seq (.reg [⟨(some 23), (.p (.idxA 2 (.tmp 19) (.tmp 21))), none⟩,
 ⟨(some 24), (.r (.load (some 2) (.tmp 23))), none⟩,
 ⟨(some 6), (.w (.alloc [(.int .i64 0), .nilsl])), none⟩,
 ⟨none, (.w (.store 2 (.tmp 6) (.tmp 24))), none⟩])
 (.reg [⟨(some 25), (.p (.mov (.tmp 4))), none⟩,
 ⟨(some 26), (.p (.fieldA 0 (.tmp 6))), none⟩,
 ⟨(some 27), (.r (.load none (.tmp 26))), none⟩,
 ⟨(some 28), (.p (.lit 1 (.int .i64 0) 1 [(0, (.tmp 27))])), none⟩,
 ⟨(some 29), (.w (.append 1 8 (.tmp 25) (.tmp 28))), none⟩,
 ⟨(some 4), (.p (.mov (.tmp 29))), none⟩])))
 (.reg [⟨(some 30), (.p (.ibin .add (.tmp 21) (.cst (.int .i64 1)))), none⟩,
 ⟨(some 21), (.p (.mov (.tmp 30))), none⟩])))))))
 (.seq (.reg [⟨(some 32), (.p (.mov (.tmp 4))), none⟩,
 ⟨(some 33), (.r (.pcall (.cst (.fn 90 [] [])) [(.tmp 32)])), none⟩,
 ⟨(some 31), (.p (.mov (.tmp 33))), none⟩,
 ⟨(some 34), (.p (.ext (.tmp 31) 0)), none⟩,
 ⟨(some 35), (.p (.ext (.tmp 31) 1)), none⟩,
 ⟨(some 7), (.p (.mov (.tmp 34))), none⟩,
 ⟨(some 8), (.p (.mov (.tmp 35))), none⟩])
 (.seq (.seq (.reg [⟨(some 36), (.p (.mov (.tmp 8))), none⟩,
 ⟨(some 37), (.p (.ibin .neq (.tmp 36) (.cst (.int .i64 0)))), none⟩])
 (.cond (.tmp 37) (.seq (.reg [⟨(some 2), (.p (.mov (.cst .nilsl))), none⟩,
 ⟨(some 3), (.p (.mov (.cst (.int .i64 1)))), none⟩])
 .ret)
 .skip))
 (.seq (.reg [⟨(some 38), (.p (.fieldA 0 (.tmp 1))), none⟩,
 ⟨(some 39), (.r (.load none (.tmp 38))), none⟩,
 ⟨(some 40), (.w (.strBytes (.tmp 39))), none⟩,
 ⟨(some 41), (.p (.mov (.tmp 7))), none⟩,
 ⟨(some 42), (.p (.lit 1 .nilsl 2 [(0, (.tmp 40)), (1, (.tmp 41))])), none⟩,
 ⟨(some 43), (.w (.call (.cst (.fn 91 [] [])) [(.tmp 42)])), none⟩,
 ⟨(some 9), (.p (.mov (.tmp 43))), none⟩])
 (.seq (.seq (.reg [⟨(some 44), (.p (.fieldA 1 (.tmp 1))), none⟩,
 ⟨(some 45), (.r (.load none (.tmp 44))), none⟩,
 ⟨(some 46), (.p (.len (.tmp 45))), none⟩,
 ⟨(some 47), (.p (.mov (.cst (.int .i64 0)))), none⟩])
 (.block 2 (.loop (.seq (.reg [⟨(some 48), (.p (.ibin .lss (.tmp 47) (.tmp 46))), none⟩])
 (.seq (.cond (.tmp 48) .skip
 (.exit 2))
 (.seq (.block 3 (.seq (.reg [⟨(some 49), (.p (.idxA 2 (.tmp 45) (.tmp 47))), none⟩,
 ⟨(some 50), (.r (.load (some 2) (.tmp 49))), none⟩,
 ⟨(some 11), (.w (.alloc [(.int .i64 0), .nilsl])), none⟩,
 ⟨none, (.w (.store 2 (.tmp 11) (.tmp 50))), none⟩])
 (.seq (.reg [⟨(some 52), (.r (.load (some 2) (.tmp 11))), none⟩,
 ⟨(some 53), (.r (.pcall (.cst (.fn 92 [] [])) [(.tmp 52)])), none⟩,
 ⟨(some 51), (.p (.mov (.tmp 53))), none⟩,
 ⟨(some 54), (.p (.ext (.tmp 51) 0)), none⟩,
 ⟨(some 55), (.p (.ext (.tmp 51) 1)), none⟩,
 ⟨(some 12), (.p (.mov (.tmp 54))), none⟩,
 ⟨(some 13), (.p (.mov (.tmp 55))), none⟩])
 (.seq (.seq (.reg [⟨(some 56), (.p (.mov (.tmp 13))), none⟩,
 ⟨(some 57), (.p (.ibin .neq (.tmp 56) (.cst (.int .i64 0)))), none⟩])
 (.cond (.tmp 57) (.seq (.reg [⟨(some 58), (.p (.mov (.tmp 13))), none⟩,
 ⟨(some 2), (.p (.mov (.cst .nilsl))), none⟩,
 ⟨(some 3), (.p (.mov (.tmp 58))), none⟩])
 .ret)
 .skip))
 (.reg [⟨(some 59), (.p (.mov (.tmp 9))), none⟩,
 ⟨(some 60), (.p (.mov (.tmp 12))), none⟩,
 ⟨(some 61), (.w (.append 1 1 (.tmp 59) (.tmp 60))), none⟩,
 ⟨(some 9), (.p (.mov (.tmp 61))), none⟩])))))
 (.reg [⟨(some 62), (.p (.ibin .add (.tmp 47) (.cst (.int .i64 1)))), none⟩,
 ⟨(some 47), (.p (.mov (.tmp 62))), none⟩])))))))
 (.seq (.seq (.reg [⟨(some 63), (.p (.mov (.tmp 9))), none⟩,
 ⟨(some 64), (.p (.len (.tmp 63))), none⟩,
 ⟨(some 65), (.p (.ibin .gtr (.tmp 64) (.cst (.int .i64 4096)))), none⟩])
 (.cond (.tmp 65) (.seq (.reg [⟨(some 2), (.p (.mov (.cst .nilsl))), none⟩,
 ⟨(some 3), (.p (.mov (.cst (.int .i64 4)))), none⟩])
 .ret)
 .skip))
 (.seq (.reg [⟨(some 66), (.p (.mov (.tmp 9))), none⟩,
 ⟨(some 2), (.p (.mov (.tmp 66))), none⟩,
 ⟨(some 3), (.p (.mov (.cst (.int .i64 0)))), none⟩])
 .ret))))))))))
def f57 : VF := { body := b57, res := [(.tmp 2), (.tmp 3)] }
-- comptoir/kinds.Mti
def b58 : VC := (.seq (.reg [⟨(some 2), (.p (.mov (.cst (.str [])))), none⟩])
 (.seq (.reg [⟨(some 3), (.p (.mov (.tmp 0))), none⟩,
 ⟨(some 4), (.r (.pcall (.cst (.fn 53 [] [])) [(.tmp 3)])), none⟩,
 ⟨(some 5), (.p (.fieldV 1 none (.tmp 4))), none⟩,
 ⟨(some 2), (.p (.mov (.tmp 5))), none⟩])
 .ret))
def f58 : VF := { body := b58, res := [(.tmp 2)] }
-- comptoir/fields.all
def b59 : VC := (.seq (.reg [⟨(some 1), (.w (.box 21 (.tmp 0))), none⟩,
 ⟨(some 2), (.p (.mov (.cst .nilsl))), none⟩])
 (.seq (.reg [⟨(some 3), (.w (.alloc [.nilsl])), none⟩])
 (.seq (.reg [⟨(some 6), (.p (.fieldA 4 (.tmp 1))), none⟩,
 ⟨(some 7), (.r (.load none (.tmp 6))), none⟩,
 ⟨(some 8), (.w (.call (.cst (.fn 93 [] [])) [(.tmp 3), (.cst (.int .i64 2)), (.tmp 7)])), none⟩])
 (.seq (.seq (.reg [⟨(some 9), (.p (.fieldA 5 (.tmp 1))), none⟩,
 ⟨(some 10), (.r (.load none (.tmp 9))), none⟩,
 ⟨(some 11), (.p (.ibin .neq (.tmp 10) (.cst (.str [])))), none⟩])
 (.cond (.tmp 11) (.reg [⟨(some 12), (.p (.fieldA 6 (.tmp 1))), none⟩,
 ⟨(some 13), (.r (.load none (.tmp 12))), none⟩,
 ⟨(some 14), (.r (.pcall (.cst (.fn 94 [] [])) [(.tmp 13), (.cst (.int .i64 12))])), none⟩,
 ⟨(some 15), (.w (.call (.cst (.fn 93 [] [])) [(.tmp 3), (.cst (.int .i64 4)), (.tmp 14)])), none⟩])
 .skip))
 (.seq (.reg [⟨(some 16), (.p (.fieldA 1 (.tmp 1))), none⟩,
 ⟨(some 17), (.r (.load none (.tmp 16))), none⟩,
 ⟨(some 18), (.p (.conv (.toInt .u64) (.tmp 17))), none⟩,
 ⟨(some 19), (.r (.pcall (.cst (.fn 94 [] [])) [(.tmp 18), (.cst (.int .i64 6))])), none⟩,
 ⟨(some 20), (.w (.call (.cst (.fn 93 [] [])) [(.tmp 3), (.cst (.int .i64 11)), (.tmp 19)])), none⟩])
 (.seq (.reg [⟨(some 21), (.p (.fieldA 2 (.tmp 1))), none⟩,
 ⟨(some 22), (.r (.load none (.tmp 21))), none⟩,
 ⟨(some 23), (.w (.call (.cst (.fn 93 [] [])) [(.tmp 3), (.cst (.int .i64 12)), (.tmp 22)])), none⟩])
 (.seq (.seq (.reg [⟨(some 24), (.p (.fieldA 11 (.tmp 1))), none⟩,
 ⟨(some 25), (.r (.load none (.tmp 24))), none⟩,
 ⟨(some 26), (.p (.ibin .neq (.tmp 25) (.cst (.int .i64 0)))), none⟩])
 (.cond (.tmp 26) (.reg [⟨(some 27), (.p (.fieldA 11 (.tmp 1))), none⟩,
 ⟨(some 28), (.r (.load none (.tmp 27))), none⟩,
 ⟨(some 29), (.p (.conv (.toInt .u64) (.tmp 28))), none⟩,
 ⟨(some 30), (.r (.pcall (.cst (.fn 94 [] [])) [(.tmp 29), (.cst (.int .i64 3))])), none⟩,
 ⟨(some 31), (.w (.call (.cst (.fn 93 [] [])) [(.tmp 3), (.cst (.int .i64 22)), (.tmp 30)])), none⟩])
 .skip))
 (.seq (.reg [⟨(some 32), (.p (.fieldA 13 (.tmp 1))), none⟩,
 ⟨(some 33), (.r (.load none (.tmp 32))), none⟩,
 ⟨(some 34), (.w (.call (.cst (.fn 93 [] [])) [(.tmp 3), (.cst (.int .i64 25)), (.tmp 33)])), none⟩])
 (.seq (.reg [⟨(some 35), (.r (.load none (.tmp 3))), none⟩,
 ⟨(some 36), (.p (.fieldA 3 (.tmp 1))), none⟩,
 ⟨(some 37), (.r (.load none (.tmp 36))), none⟩,
 ⟨(some 38), (.w (.strBytes (.tmp 37))), none⟩,
 ⟨(some 39), (.p (.build [(.int .i64 0), .nilsl] [(0, 1, (.cst (.int .i64 32))), (1, 1, (.tmp 38))])), none⟩,
 ⟨(some 40), (.p (.lit 2 (.agg [(.int .i64 0), .nilsl]) 1 [(0, (.tmp 39))])), none⟩,
 ⟨(some 41), (.w (.append 2 32 (.tmp 35) (.tmp 40))), none⟩,
 ⟨none, (.w (.store 1 (.tmp 3) (.tmp 41))), none⟩])
 (.seq (.reg [⟨(some 42), (.p (.fieldA 7 (.tmp 1))), none⟩,
 ⟨(some 43), (.r (.load none (.tmp 42))), none⟩,
 ⟨(some 44), (.w (.call (.cst (.fn 93 [] [])) [(.tmp 3), (.cst (.int .i64 37)), (.tmp 43)])), none⟩])
 (.seq (.reg [⟨(some 45), (.p (.fieldA 10 (.tmp 1))), none⟩,
 ⟨(some 46), (.r (.load none (.tmp 45))), none⟩,
 ⟨(some 47), (.w (.call (.cst (.fn 93 [] [])) [(.tmp 3), (.cst (.int .i64 38)), (.tmp 46)])), none⟩])
 (.seq (.reg [⟨(some 48), (.p (.fieldA 12 (.tmp 1))), none⟩,
 ⟨(some 49), (.r (.load none (.tmp 48))), none⟩,
 ⟨(some 50), (.w (.call (.cst (.fn 93 [] [])) [(.tmp 3), (.cst (.int .i64 39)), (.tmp 49)])), none⟩])
 (.seq (.reg [⟨(some 51), (.p (.fieldA 9 (.tmp 1))), none⟩,
 ⟨(some 52), (.r (.load none (.tmp 51))), none⟩,
 ⟨(some 53), (.r (.pcall (.cst (.fn 95 [] [])) [(.tmp 52), (.cst (.int .i64 8))])), none⟩,
 ⟨(some 54), (.w (.call (.cst (.fn 93 [] [])) [(.tmp 3), (.cst (.int .i64 41)), (.tmp 53)])), none⟩])
 (.seq (.reg [⟨(some 55), (.p (.fieldA 8 (.tmp 1))), none⟩,
 ⟨(some 56), (.r (.load none (.tmp 55))), none⟩,
 ⟨(some 57), (.r (.pcall (.cst (.fn 95 [] [])) [(.tmp 56), (.cst (.int .i64 15))])), none⟩,
 ⟨(some 58), (.w (.call (.cst (.fn 93 [] [])) [(.tmp 3), (.cst (.int .i64 42)), (.tmp 57)])), none⟩])
 (.seq (.reg [⟨(some 59), (.p (.fieldA 17 (.tmp 1))), none⟩,
 ⟨(some 60), (.r (.load none (.tmp 59))), none⟩,
 ⟨(some 61), (.w (.call (.cst (.fn 93 [] [])) [(.tmp 3), (.cst (.int .i64 48)), (.tmp 60)])), none⟩])
 (.seq (.reg [⟨(some 62), (.p (.fieldA 5 (.tmp 1))), none⟩,
 ⟨(some 63), (.r (.load none (.tmp 62))), none⟩,
 ⟨(some 64), (.w (.call (.cst (.fn 93 [] [])) [(.tmp 3), (.cst (.int .i64 49)), (.tmp 63)])), none⟩])
 (.seq (.reg [⟨(some 66), (.p (.fieldA 16 (.tmp 1))), none⟩,
 ⟨(some 67), (.r (.load none (.tmp 66))), none⟩,
 ⟨(some 68), (.r (.pcall (.cst (.fn 87 [] [])) [(.tmp 67)])), none⟩,
 ⟨(some 65), (.p (.mov (.tmp 68))), none⟩,
 ⟨(some 69), (.p (.ext (.tmp 65) 0)), none⟩,
 ⟨(some 70), (.p (.ext (.tmp 65) 1)), none⟩,
 ⟨(some 4), (.p (.mov (.tmp 69))), none⟩,
 ⟨(some 5), (.p (.mov (.tmp 70))), none⟩])
 (.seq (.reg [⟨(some 71), (.p (.mov (.tmp 4))), none⟩,
 ⟨(some 72), (.r (.bytesStr (.tmp 71))), none⟩,
 ⟨(some 73), (.w (.call (.cst (.fn 93 [] [])) [(.tmp 3), (.cst (.int .i64 55)), (.tmp 72)])), none⟩])
 (.seq (.seq (.reg [⟨(some 74), (.p (.fieldA 14 (.tmp 1))), none⟩,
 ⟨(some 75), (.p (.fieldA 1 (.tmp 74))), none⟩,
 ⟨(some 76), (.r (.load none (.tmp 75))), none⟩,
 ⟨(some 77), (.p (.ibin .neq (.tmp 76) (.cst (.str [])))), none⟩])
 (.cond (.tmp 77) (.draw [(⟨(some 78), (.p (.fieldA 14 (.tmp 1))), none⟩, 0, 0),
 (⟨(some 79), (.p (.fieldA 0 (.tmp 78))), none⟩, 0, 0),
 (⟨(some 80), (.r (.load none (.tmp 79))), none⟩, 0, 0),
 (⟨(some 81), (.p (.conv (.toInt .u64) (.tmp 80))), none⟩, 0, 0),
 (⟨(some 82), (.r (.pcall (.cst (.fn 94 [] [])) [(.tmp 81), (.cst (.int .i64 6))])), none⟩, 0, 0),
 (⟨(some 83), (.p (.fieldA 14 (.tmp 1))), none⟩, 0, 0),
 (⟨(some 84), (.p (.fieldA 1 (.tmp 83))), none⟩, 0, 0),
 (⟨(some 85), (.r (.load none (.tmp 84))), none⟩, 0, 0),
 (⟨(some 86), (.p (.ibin .add (.tmp 82) (.tmp 85))), none⟩, 0, 0),
 (⟨(some 87), (.w (.call (.cst (.fn 93 [] [])) [(.tmp 3), (.cst (.int .i64 56)), (.tmp 86)])), none⟩, 0, 0)])
 .skip))
 (.seq (.reg [⟨(some 88), (.r (.load none (.tmp 3))), none⟩,
 ⟨(some 89), (.p (.fieldA 20 (.tmp 1))), none⟩,
 ⟨(some 90), (.r (.load none (.tmp 89))), none⟩,
 ⟨(some 91), (.w (.append 2 32 (.tmp 88) (.tmp 90))), none⟩,
 ⟨none, (.w (.store 1 (.tmp 3) (.tmp 91))), none⟩])
 (.seq (.reg [⟨(some 92), (.r (.load none (.tmp 3))), none⟩,
 ⟨(some 93), (.w (.call (.cst (.fn 96 [] [])) [(.tmp 92), (.cst (.fn 97 [] []))])), none⟩])
 (.seq (.reg [⟨(some 94), (.r (.load none (.tmp 3))), none⟩,
 ⟨(some 2), (.p (.mov (.tmp 94))), none⟩])
 .ret))))))))))))))))))))))
def f59 : VF := { body := b59, res := [(.tmp 2)] }
-- slices.ContainsFunc[comptoir/fields.set,comptoir/api.Element]
def b60 : VC := (.seq (.reg [⟨(some 4), (.p (.mov (.cst (.bool false)))), none⟩])
 (.seq (.reg [⟨(some 5), (.p (.mov (.tmp 0))), none⟩,
 ⟨(some 6), (.p (.mov (.tmp 1))), none⟩,
 ⟨(some 7), (.r (.pcall (.cst (.fn 99 [] [])) [(.tmp 5), (.tmp 6)])), none⟩,
 ⟨(some 8), (.p (.ibin .geq (.tmp 7) (.cst (.int .i64 0)))), none⟩,
 ⟨(some 4), (.p (.mov (.tmp 8))), none⟩])
 .ret))
def f60 : VF := { body := b60, res := [(.tmp 4)] }
-- (comptoir/fields.set).has$1
def b61 : VC := (.seq (.reg [⟨(some 2), (.w (.box 2 (.tmp 0))), none⟩,
 ⟨(some 3), (.p (.mov (.cst (.bool false)))), none⟩])
 (.seq (.reg [⟨(some 4), (.p (.fieldA 0 (.tmp 2))), none⟩,
 ⟨(some 5), (.r (.load none (.tmp 4))), none⟩,
 ⟨(some 6), (.r (.load none (.tmp 1))), none⟩,
 ⟨(some 7), (.p (.ibin .eql (.tmp 5) (.tmp 6))), none⟩,
 ⟨(some 3), (.p (.mov (.tmp 7))), none⟩])
 .ret))
def f61 : VF := { body := b61, res := [(.tmp 3)] }
-- comptoir/simple.part
def b62 : VC := (.seq (.reg [⟨(some 6), (.p (.mov (.cst (.int .i64 0)))), none⟩])
 (.seq (.reg [⟨(some 10), (.p (.mov (.tmp 0))), none⟩,
 ⟨(some 11), (.p (.mov (.tmp 1))), none⟩,
 ⟨(some 12), (.p (.mov (.tmp 2))), none⟩,
 ⟨(some 13), (.p (.sliceStr (.tmp 10) (some (.tmp 11)) (some (.tmp 12)))), none⟩,
 ⟨(some 14), (.r (.pcall (.cst (.fn 52 [] [])) [(.tmp 13)])), none⟩,
 ⟨(some 9), (.p (.mov (.tmp 14))), none⟩,
 ⟨(some 15), (.p (.ext (.tmp 9) 0)), none⟩,
 ⟨(some 16), (.p (.ext (.tmp 9) 1)), none⟩,
 ⟨(some 7), (.p (.mov (.tmp 15))), none⟩,
 ⟨(some 8), (.p (.mov (.tmp 16))), none⟩])
 (.seq (.reg [⟨(some 17), (.p (.mov (.tmp 7))), none⟩,
 ⟨(some 18), (.p (.conv (.toInt .i64) (.tmp 17))), none⟩,
 ⟨(some 6), (.p (.mov (.tmp 18))), none⟩])
 .ret)))
def f62 : VF := { body := b62, res := [(.tmp 6)] }
-- comptoir/simple.days
def b63 : VC := (.seq (.reg [⟨(some 4), (.p (.mov (.cst (.int .i64 0)))), none⟩])
 (.seq (.seq (.reg [⟨(some 5), (.p (.mov (.tmp 1))), none⟩])
 (.block 0 (.seq (.seq (.reg [⟨(some 7), (.p (.ibin .eql (.tmp 5) (.cst (.int .i64 4)))), none⟩,
 ⟨(some 6), (.p (.mov (.tmp 7))), none⟩])
 (.cond (.tmp 6) .skip
 (.seq (.reg [⟨(some 8), (.p (.ibin .eql (.tmp 5) (.cst (.int .i64 6)))), none⟩,
 ⟨(some 6), (.p (.mov (.tmp 8))), none⟩])
 (.cond (.tmp 6) .skip
 (.seq (.reg [⟨(some 9), (.p (.ibin .eql (.tmp 5) (.cst (.int .i64 9)))), none⟩,
 ⟨(some 6), (.p (.mov (.tmp 9))), none⟩])
 (.cond (.tmp 6) .skip
 (.reg [⟨(some 10), (.p (.ibin .eql (.tmp 5) (.cst (.int .i64 11)))), none⟩,
 ⟨(some 6), (.p (.mov (.tmp 10))), none⟩])))))))
 (.cond (.tmp 6) (.seq (.reg [⟨(some 4), (.p (.mov (.cst (.int .i64 30)))), none⟩])
 .ret)
 (.seq (.reg [⟨(some 12), (.p (.ibin .eql (.tmp 5) (.cst (.int .i64 2)))), none⟩,
 ⟨(some 11), (.p (.mov (.tmp 12))), none⟩])
 (.cond (.tmp 11) (.seq (.seq (.reg [⟨(some 13), (.p (.mov (.tmp 0))), none⟩,
 ⟨(some 14), (.p (.ibin .rem (.tmp 13) (.cst (.int .i64 4)))), none⟩,
 ⟨(some 15), (.p (.ibin .eql (.tmp 14) (.cst (.int .i64 0)))), none⟩,
 ⟨(some 16), (.p (.mov (.tmp 15))), none⟩,
 ⟨(some 17), (.p (.mov (.tmp 0))), (some (16, true))⟩,
 ⟨(some 18), (.p (.ibin .rem (.tmp 17) (.cst (.int .i64 100)))), (some (16, true))⟩,
 ⟨(some 19), (.p (.ibin .neq (.tmp 18) (.cst (.int .i64 0)))), (some (16, true))⟩,
 ⟨(some 20), (.p (.mov (.tmp 19))), (some (16, true))⟩,
 ⟨(some 21), (.p (.mov (.tmp 0))), (some (20, false))⟩,
 ⟨(some 22), (.p (.ibin .rem (.tmp 21) (.cst (.int .i64 400)))), (some (20, false))⟩,
 ⟨(some 23), (.p (.ibin .eql (.tmp 22) (.cst (.int .i64 0)))), (some (20, false))⟩,
 ⟨(some 24), (.p (.pick (.tmp 20) (.cst (.bool true)) (.tmp 23))), (some (16, true))⟩,
 ⟨(some 25), (.p (.pick (.tmp 16) (.tmp 24) (.cst (.bool false)))), none⟩])
 (.cond (.tmp 25) (.seq (.reg [⟨(some 4), (.p (.mov (.cst (.int .i64 29)))), none⟩])
 .ret)
 .skip))
 (.seq (.reg [⟨(some 4), (.p (.mov (.cst (.int .i64 28)))), none⟩])
 .ret))
 .skip))))))
 (.seq (.reg [⟨(some 4), (.p (.mov (.cst (.int .i64 31)))), none⟩])
 .ret)))
def f63 : VF := { body := b63, res := [(.tmp 4)] }
-- comptoir/comptoirhelp.Same[comptoir/api.Pair]
def b65 : VC := (.seq (.reg [⟨(some 6), (.p (.mov (.cst (.bool false)))), none⟩])
 (.seq (.seq (.reg [⟨(some 8), (.p (.mov (.tmp 0))), none⟩,
 ⟨(some 9), (.p (.len (.tmp 8))), none⟩,
 ⟨(some 10), (.p (.mov (.tmp 1))), none⟩,
 ⟨(some 11), (.p (.len (.tmp 10))), none⟩,
 ⟨(some 12), (.p (.ibin .neq (.tmp 9) (.tmp 11))), none⟩])
 (.cond (.tmp 12) (.seq (.reg [⟨(some 6), (.p (.mov (.cst (.bool false)))), none⟩])
 .ret)
 .skip))
 (.seq (.seq (.reg [⟨(some 7), (.p (.mov (.cst (.int .i64 0)))), none⟩])
 (.block 0 (.loop (.seq (.seq (.reg [⟨(some 13), (.p (.mov (.tmp 7))), none⟩,
 ⟨(some 14), (.p (.mov (.tmp 0))), none⟩,
 ⟨(some 15), (.p (.len (.tmp 14))), none⟩,
 ⟨(some 16), (.p (.ibin .lss (.tmp 13) (.tmp 15))), none⟩])
 (.cond (.tmp 16) .skip
 (.exit 0)))
 (.seq (.block 1 (.seq (.draw [(⟨(some 19), (.p (.mov (.tmp 2))), none⟩, 0, 0),
 (⟨(some 20), (.p (.mov (.tmp 0))), none⟩, 0, 0),
 (⟨(some 21), (.p (.mov (.tmp 7))), none⟩, 0, 0),
 (⟨(some 22), (.p (.idxA 2 (.tmp 20) (.tmp 21))), none⟩, 0, 0),
 (⟨(some 23), (.r (.load (some 2) (.tmp 22))), none⟩, 0, 0),
 (⟨(some 24), (.p (.mov (.tmp 1))), none⟩, 0, 0),
 (⟨(some 25), (.p (.mov (.tmp 7))), none⟩, 0, 0),
 (⟨(some 26), (.p (.idxA 2 (.tmp 24) (.tmp 25))), none⟩, 0, 0),
 (⟨(some 27), (.r (.load (some 2) (.tmp 26))), none⟩, 0, 0),
 (⟨(some 28), (.w (.call (.tmp 19) [(.tmp 23), (.tmp 27)])), none⟩, 0, 0),
 (⟨(some 29), (.p (.un .not (.tmp 28))), none⟩, 1, 1)])
 (.cond (.tmp 29) (.seq (.reg [⟨(some 6), (.p (.mov (.cst (.bool false)))), none⟩])
 .ret)
 .skip)))
 (.reg [⟨(some 17), (.p (.mov (.tmp 7))), none⟩,
 ⟨(some 18), (.p (.ibin .add (.tmp 17) (.cst (.int .i64 1)))), none⟩,
 ⟨(some 7), (.p (.mov (.tmp 18))), none⟩]))))))
 (.seq (.reg [⟨(some 6), (.p (.mov (.cst (.bool true)))), none⟩])
 .ret))))
def f65 : VF := { body := b65, res := [(.tmp 6)] }
-- comptoir/comptoirref16.typed
def b67 : VC := (.seq (.reg [⟨(some 2), (.w (.box 4 (.tmp 0))), none⟩,
 ⟨(some 4), (.p (.mov (.cst (.bool false)))), none⟩])
 (.seq (.reg [⟨(some 6), (.p (.mov (.tmp 1))), none⟩,
 ⟨(some 7), (.r (.bytesStr (.tmp 6))), none⟩,
 ⟨(some 5), (.p (.mov (.tmp 7))), none⟩])
 (.seq (.seq (.reg [⟨(some 8), (.p (.fieldA 1 (.tmp 2))), none⟩,
 ⟨(some 9), (.r (.load none (.tmp 8))), none⟩])
 (.block 0 (.seq (.reg [⟨(some 11), (.p (.ibin .eql (.tmp 9) (.cst (.int .i64 1)))), none⟩,
 ⟨(some 10), (.p (.mov (.tmp 11))), none⟩])
 (.cond (.tmp 10) (.seq (.reg [⟨(some 12), (.p (.mov (.tmp 5))), none⟩,
 ⟨(some 13), (.p (.mov (.tmp 5))), none⟩,
 ⟨(some 14), (.p (.lenStr (.tmp 13))), none⟩,
 ⟨(some 15), (.r (.pcall (.cst (.fn 11 [] [])) [(.tmp 12), (.cst (.int .i64 0)), (.tmp 14)])), none⟩,
 ⟨(some 4), (.p (.mov (.tmp 15))), none⟩])
 .ret)
 (.seq (.reg [⟨(some 17), (.p (.ibin .eql (.tmp 9) (.cst (.int .i64 2)))), none⟩,
 ⟨(some 16), (.p (.mov (.tmp 17))), none⟩])
 (.cond (.tmp 16) (.seq (.reg [⟨(some 18), (.p (.mov (.tmp 5))), none⟩,
 ⟨(some 19), (.p (.mov (.tmp 5))), none⟩,
 ⟨(some 20), (.p (.lenStr (.tmp 19))), none⟩,
 ⟨(some 21), (.r (.pcall (.cst (.fn 100 [] [])) [(.tmp 18), (.cst (.int .i64 0)), (.tmp 20)])), none⟩,
 ⟨(some 4), (.p (.mov (.tmp 21))), none⟩])
 .ret)
 (.seq (.reg [⟨(some 23), (.p (.ibin .eql (.tmp 9) (.cst (.int .i64 3)))), none⟩,
 ⟨(some 22), (.p (.mov (.tmp 23))), none⟩])
 (.cond (.tmp 22) (.seq (.reg [⟨(some 24), (.p (.mov (.tmp 5))), none⟩,
 ⟨(some 25), (.p (.ibin .eql (.tmp 24) (.cst (.str [])))), none⟩,
 ⟨(some 26), (.p (.mov (.tmp 25))), none⟩,
 ⟨(some 27), (.p (.mov (.tmp 5))), (some (26, false))⟩,
 ⟨(some 28), (.p (.mov (.tmp 5))), (some (26, false))⟩,
 ⟨(some 29), (.p (.lenStr (.tmp 28))), (some (26, false))⟩,
 ⟨(some 30), (.r (.pcall (.cst (.fn 101 [] [])) [(.tmp 27), (.tmp 29)])), (some (26, false))⟩,
 ⟨(some 31), (.p (.pick (.tmp 26) (.cst (.bool true)) (.tmp 30))), none⟩,
 ⟨(some 4), (.p (.mov (.tmp 31))), none⟩])
 .ret)
 .skip))))))))
 (.seq (.reg [⟨(some 4), (.p (.mov (.cst (.bool true)))), none⟩])
 .ret))))
def f67 : VF := { body := b67, res := [(.tmp 4)] }
-- comptoir/comptoirref16.formats
def b68 : VC := (.seq (.reg [⟨(some 0), (.p (.mov (.cst .nilsl))), none⟩])
 (.seq (.reg [⟨(some 1), (.r (.pcall (.cst (.fn 102 [] [])) [(.cst (.int .i64 2)), (.cst (.int .i64 1)), (.cst (.int .i64 2)), (.cst (.int .i64 19))])), none⟩,
 ⟨(some 2), (.r (.pcall (.cst (.fn 102 [] [])) [(.cst (.int .i64 4)), (.cst (.int .i64 1)), (.cst (.int .i64 0)), (.cst (.int .i64 12))])), none⟩,
 ⟨(some 3), (.r (.pcall (.cst (.fn 102 [] [])) [(.cst (.int .i64 11)), (.cst (.int .i64 1)), (.cst (.int .i64 0)), (.cst (.int .i64 6))])), none⟩,
 ⟨(some 4), (.r (.pcall (.cst (.fn 102 [] [])) [(.cst (.int .i64 12)), (.cst (.int .i64 1)), (.cst (.int .i64 0)), (.cst (.int .i64 14))])), none⟩,
 ⟨(some 5), (.r (.pcall (.cst (.fn 102 [] [])) [(.cst (.int .i64 22)), (.cst (.int .i64 1)), (.cst (.int .i64 0)), (.cst (.int .i64 3))])), none⟩,
 ⟨(some 6), (.r (.pcall (.cst (.fn 102 [] [])) [(.cst (.int .i64 25)), (.cst (.int .i64 1)), (.cst (.int .i64 0)), (.cst (.int .i64 4))])), none⟩,
 ⟨(some 7), (.r (.pcall (.cst (.fn 102 [] [])) [(.cst (.int .i64 32)), (.cst (.int .i64 1)), (.cst (.int .i64 2)), (.cst (.int .i64 11))])), none⟩,
 ⟨(some 8), (.r (.pcall (.cst (.fn 102 [] [])) [(.cst (.int .i64 37)), (.cst (.int .i64 2)), (.cst (.int .i64 0)), (.cst (.int .i64 12))])), none⟩,
 ⟨(some 9), (.r (.pcall (.cst (.fn 102 [] [])) [(.cst (.int .i64 38)), (.cst (.int .i64 2)), (.cst (.int .i64 0)), (.cst (.int .i64 6))])), none⟩,
 ⟨(some 10), (.r (.pcall (.cst (.fn 102 [] [])) [(.cst (.int .i64 39)), (.cst (.int .i64 1)), (.cst (.int .i64 0)), (.cst (.int .i64 3))])), none⟩,
 ⟨(some 11), (.r (.pcall (.cst (.fn 102 [] [])) [(.cst (.int .i64 41)), (.cst (.int .i64 3)), (.cst (.int .i64 0)), (.cst (.int .i64 8))])), none⟩,
 ⟨(some 12), (.r (.pcall (.cst (.fn 102 [] [])) [(.cst (.int .i64 42)), (.cst (.int .i64 3)), (.cst (.int .i64 0)), (.cst (.int .i64 15))])), none⟩,
 ⟨(some 13), (.r (.pcall (.cst (.fn 102 [] [])) [(.cst (.int .i64 43)), (.cst (.int .i64 3)), (.cst (.int .i64 2)), (.cst (.int .i64 40))])), none⟩,
 ⟨(some 14), (.r (.pcall (.cst (.fn 102 [] [])) [(.cst (.int .i64 48)), (.cst (.int .i64 3)), (.cst (.int .i64 3)), (.cst (.int .i64 8))])), none⟩,
 ⟨(some 15), (.r (.pcall (.cst (.fn 102 [] [])) [(.cst (.int .i64 49)), (.cst (.int .i64 1)), (.cst (.int .i64 0)), (.cst (.int .i64 3))])), none⟩,
 ⟨(some 16), (.r (.pcall (.cst (.fn 102 [] [])) [(.cst (.int .i64 55)), (.cst (.int .i64 4)), (.cst (.int .i64 3)), (.cst (.int .i64 255))])), none⟩,
 ⟨(some 17), (.r (.pcall (.cst (.fn 102 [] [])) [(.cst (.int .i64 56)), (.cst (.int .i64 1)), (.cst (.int .i64 0)), (.cst (.int .i64 20))])), none⟩,
 ⟨(some 18), (.r (.pcall (.cst (.fn 102 [] [])) [(.cst (.int .i64 60)), (.cst (.int .i64 3)), (.cst (.int .i64 3)), (.cst (.int .i64 100))])), none⟩,
 ⟨(some 19), (.r (.pcall (.cst (.fn 102 [] [])) [(.cst (.int .i64 61)), (.cst (.int .i64 3)), (.cst (.int .i64 3)), (.cst (.int .i64 100))])), none⟩,
 ⟨(some 20), (.r (.pcall (.cst (.fn 102 [] [])) [(.cst (.int .i64 62)), (.cst (.int .i64 3)), (.cst (.int .i64 3)), (.cst (.int .i64 100))])), none⟩,
 ⟨(some 21), (.r (.pcall (.cst (.fn 102 [] [])) [(.cst (.int .i64 63)), (.cst (.int .i64 3)), (.cst (.int .i64 3)), (.cst (.int .i64 100))])), none⟩,
 ⟨(some 22), (.r (.pcall (.cst (.fn 102 [] [])) [(.cst (.int .i64 102)), (.cst (.int .i64 3)), (.cst (.int .i64 2)), (.cst (.int .i64 28))])), none⟩,
 ⟨(some 23), (.r (.pcall (.cst (.fn 102 [] [])) [(.cst (.int .i64 103)), (.cst (.int .i64 3)), (.cst (.int .i64 2)), (.cst (.int .i64 28))])), none⟩,
 ⟨(some 24), (.r (.pcall (.cst (.fn 102 [] [])) [(.cst (.int .i64 120)), (.cst (.int .i64 4)), (.cst (.int .i64 4)), (.cst (.int .i64 999))])), none⟩,
 ⟨(some 25), (.p (.lit 4 (.agg [(.int .i64 0), (.int .i64 0), (.int .i64 0), (.int .i64 0)]) 24 [(0, (.tmp 1)), (1, (.tmp 2)), (2, (.tmp 3)), (3, (.tmp 4)), (4, (.tmp 5)), (5, (.tmp 6)), (6, (.tmp 7)), (7, (.tmp 8)), (8, (.tmp 9)), (9, (.tmp 10)), (10, (.tmp 11)), (11, (.tmp 12)), (12, (.tmp 13)), (13, (.tmp 14)), (14, (.tmp 15)), (15, (.tmp 16)), (16, (.tmp 17)), (17, (.tmp 18)), (18, (.tmp 19)), (19, (.tmp 20)), (20, (.tmp 21)), (21, (.tmp 22)), (22, (.tmp 23)), (23, (.tmp 24))])), none⟩,
 ⟨(some 0), (.p (.mov (.tmp 25))), none⟩])
 .ret))
def f68 : VF := { body := b68, res := [(.tmp 0)] }
-- slices.Clone[[]byte,byte]
def b69 : VC := (.seq (.reg [⟨(some 2), (.p (.mov (.cst .nilsl))), none⟩])
 (.seq (.seq (.reg [⟨(some 3), (.p (.mov (.tmp 0))), none⟩,
 ⟨(some 4), (.p (.nileq 1 false (.tmp 3) (.cst .nilsl))), none⟩])
 (.cond (.tmp 4) (.seq (.reg [⟨(some 2), (.p (.mov (.cst .nilsl))), none⟩])
 .ret)
 .skip))
 (.seq (.reg [⟨(some 5), (.p (.lit 1 (.int .u8 0) 0 [])), none⟩,
 ⟨(some 6), (.p (.mov (.tmp 0))), none⟩,
 ⟨(some 7), (.w (.append 1 1 (.tmp 5) (.tmp 6))), none⟩,
 ⟨(some 2), (.p (.mov (.tmp 7))), none⟩])
 .ret)))
def f69 : VF := { body := b69, res := [(.tmp 2)] }
-- comptoir/cursor.read
def b70 : VC := (.seq (.reg [⟨(some 4), (.p (.mov (.cst .nilsl))), none⟩,
 ⟨(some 5), (.p (.mov (.cst (.int .i64 0)))), none⟩])
 (.seq (.reg [⟨(some 6), (.p (.mov (.tmp 0))), none⟩,
 ⟨(some 7), (.p (.mov (.tmp 1))), none⟩,
 ⟨(some 8), (.w (.call (.tmp 6) [(.tmp 7)])), none⟩,
 ⟨(some 9), (.p (.ext (.tmp 8) 0)), none⟩,
 ⟨(some 10), (.p (.ext (.tmp 8) 1)), none⟩,
 ⟨(some 4), (.p (.mov (.tmp 9))), none⟩,
 ⟨(some 5), (.p (.mov (.tmp 10))), none⟩])
 .ret))
def f70 : VF := { body := b70, res := [(.tmp 4), (.tmp 5)] }
-- (*comptoir/cursor.Cursor).Take
def b71 : VC := (.seq (.reg [⟨(some 4), (.p (.mov (.cst .nilsl))), none⟩,
 ⟨(some 5), (.p (.mov (.cst (.int .i64 0)))), none⟩])
 (.seq (.seq (.reg [⟨(some 8), (.p (.mov (.tmp 0))), none⟩,
 ⟨(some 9), (.p (.nileq 0 false (.tmp 8) (.cst .nilp))), none⟩])
 (.cond (.tmp 9) (.seq (.reg [⟨(some 4), (.p (.mov (.cst .nilsl))), none⟩,
 ⟨(some 5), (.p (.mov (.cst (.int .i64 2)))), none⟩])
 .ret)
 .skip))
 (.seq (.reg [⟨(some 11), (.p (.mov (.tmp 0))), none⟩,
 ⟨(some 12), (.p (.mkfn 103 [(.tmp 11)] [])), none⟩,
 ⟨(some 13), (.p (.mov (.tmp 1))), none⟩,
 ⟨(some 14), (.w (.call (.cst (.fn 70 [] [])) [(.tmp 12), (.tmp 13)])), none⟩,
 ⟨(some 10), (.p (.mov (.tmp 14))), none⟩,
 ⟨(some 15), (.p (.ext (.tmp 10) 0)), none⟩,
 ⟨(some 16), (.p (.ext (.tmp 10) 1)), none⟩,
 ⟨(some 6), (.p (.mov (.tmp 15))), none⟩,
 ⟨(some 7), (.p (.mov (.tmp 16))), none⟩])
 (.seq (.reg [⟨(some 17), (.p (.mov (.tmp 6))), none⟩,
 ⟨(some 18), (.r (.pcall (.cst (.fn 69 [] [])) [(.tmp 17)])), none⟩,
 ⟨(some 19), (.p (.mov (.tmp 7))), none⟩,
 ⟨(some 4), (.p (.mov (.tmp 18))), none⟩,
 ⟨(some 5), (.p (.mov (.tmp 19))), none⟩])
 .ret))))
def f71 : VF := { body := b71, res := [(.tmp 4), (.tmp 5)] }
-- comptoir/digits.all
def b72 : VC := (.seq (.reg [⟨(some 4), (.p (.mov (.cst (.bool false)))), none⟩])
 (.seq (.seq (.reg [⟨(some 6), (.p (.mov (.tmp 0))), none⟩,
 ⟨(some 7), (.p (.lenStr (.tmp 6))), none⟩,
 ⟨(some 8), (.p (.mov (.cst (.int .i64 0)))), none⟩])
 (.block 0 (.loop (.seq (.reg [⟨(some 9), (.p (.ibin .lss (.tmp 8) (.tmp 7))), none⟩])
 (.seq (.cond (.tmp 9) .skip
 (.exit 0))
 (.seq (.block 1 (.seq (.reg [⟨(some 10), (.p (.mov (.tmp 8))), none⟩,
 ⟨(some 5), (.p (.mov (.tmp 10))), none⟩])
 (.seq (.reg [⟨(some 11), (.p (.mov (.tmp 1))), none⟩,
 ⟨(some 12), (.p (.mov (.tmp 0))), none⟩,
 ⟨(some 13), (.p (.mov (.tmp 5))), none⟩,
 ⟨(some 14), (.p (.idxStr (.tmp 12) (.tmp 13))), none⟩,
 ⟨(some 15), (.w (.call (.tmp 11) [(.tmp 14)])), none⟩,
 ⟨(some 16), (.p (.un .not (.tmp 15))), none⟩])
 (.cond (.tmp 16) (.seq (.reg [⟨(some 4), (.p (.mov (.cst (.bool false)))), none⟩])
 .ret)
 .skip))))
 (.reg [⟨(some 17), (.p (.ibin .add (.tmp 8) (.cst (.int .i64 1)))), none⟩,
 ⟨(some 8), (.p (.mov (.tmp 17))), none⟩])))))))
 (.seq (.reg [⟨(some 4), (.p (.mov (.cst (.bool true)))), none⟩])
 .ret)))
def f72 : VF := { body := b72, res := [(.tmp 4)] }
-- (comptoir/digits.signs).has
def b73 : VC := (.seq (.reg [⟨(some 4), (.p (.mov (.cst (.bool false)))), none⟩])
 (.seq (.reg [⟨(some 5), (.p (.mov (.tmp 0))), none⟩,
 ⟨(some 6), (.p (.mov (.tmp 1))), none⟩,
 ⟨(some 7), (.r (.pcall (.cst (.fn 104 [] [])) [(.tmp 5), (.tmp 6)])), none⟩,
 ⟨(some 8), (.p (.ibin .geq (.tmp 7) (.cst (.int .i64 0)))), none⟩,
 ⟨(some 4), (.p (.mov (.tmp 8))), none⟩])
 .ret))
def f73 : VF := { body := b73, res := [(.tmp 4)] }
-- (comptoir/bitmap.bits).has
def b74 : VC := (.seq (.reg [⟨(some 4), (.p (.mov (.cst (.bool false)))), none⟩])
 (.seq (.reg [⟨(some 5), (.p (.mov (.tmp 0))), none⟩,
 ⟨(some 6), (.p (.mov (.tmp 1))), none⟩,
 ⟨(some 7), (.p (.ibin .sub (.tmp 6) (.cst (.int .i64 1)))), none⟩,
 ⟨(some 8), (.p (.ibin .quo (.tmp 7) (.cst (.int .i64 8)))), none⟩,
 ⟨(some 9), (.p (.idxA 1 (.tmp 5) (.tmp 8))), none⟩,
 ⟨(some 10), (.r (.load none (.tmp 9))), none⟩,
 ⟨(some 11), (.p (.mov (.tmp 1))), none⟩,
 ⟨(some 12), (.p (.ibin .sub (.tmp 11) (.cst (.int .i64 1)))), none⟩,
 ⟨(some 13), (.p (.ibin .rem (.tmp 12) (.cst (.int .i64 8)))), none⟩,
 ⟨(some 14), (.p (.ibin .sub (.cst (.int .i64 7)) (.tmp 13))), none⟩,
 ⟨(some 15), (.p (.ibin .shr (.tmp 10) (.tmp 14))), none⟩,
 ⟨(some 16), (.p (.ibin .and (.tmp 15) (.cst (.int .u8 1)))), none⟩,
 ⟨(some 17), (.p (.ibin .eql (.tmp 16) (.cst (.int .u8 1)))), none⟩,
 ⟨(some 4), (.p (.mov (.tmp 17))), none⟩])
 .ret))
def f74 : VF := { body := b74, res := [(.tmp 4)] }
-- comptoir/bitmap.which
def b75 : VC := (.seq (.reg [⟨(some 6), (.p (.mov (.cst .nilsl))), none⟩])
 (.seq (.reg [⟨(some 7), (.p (.mov (.cst .nilsl))), none⟩])
 (.seq (.seq (.reg [⟨(some 9), (.p (.mov (.tmp 0))), none⟩,
 ⟨(some 8), (.p (.mov (.tmp 9))), none⟩])
 (.block 0 (.loop (.seq (.seq (.reg [⟨(some 10), (.p (.mov (.tmp 8))), none⟩,
 ⟨(some 11), (.p (.mov (.tmp 1))), none⟩,
 ⟨(some 12), (.p (.ibin .leq (.tmp 10) (.tmp 11))), none⟩])
 (.cond (.tmp 12) .skip
 (.exit 0)))
 (.seq (.block 1 (.seq (.reg [⟨(some 15), (.p (.mov (.tmp 2))), none⟩,
 ⟨(some 16), (.p (.mov (.tmp 8))), none⟩,
 ⟨(some 17), (.w (.call (.tmp 15) [(.tmp 16)])), none⟩])
 (.cond (.tmp 17) (.reg [⟨(some 18), (.p (.mov (.tmp 7))), none⟩,
 ⟨(some 19), (.p (.mov (.tmp 8))), none⟩,
 ⟨(some 20), (.p (.lit 1 (.int .i64 0) 1 [(0, (.tmp 19))])), none⟩,
 ⟨(some 21), (.w (.append 1 8 (.tmp 18) (.tmp 20))), none⟩,
 ⟨(some 7), (.p (.mov (.tmp 21))), none⟩])
 .skip)))
 (.reg [⟨(some 13), (.p (.mov (.tmp 8))), none⟩,
 ⟨(some 14), (.p (.ibin .add (.tmp 13) (.cst (.int .i64 1)))), none⟩,
 ⟨(some 8), (.p (.mov (.tmp 14))), none⟩]))))))
 (.seq (.reg [⟨(some 22), (.p (.mov (.tmp 7))), none⟩,
 ⟨(some 6), (.p (.mov (.tmp 22))), none⟩])
 .ret))))
def f75 : VF := { body := b75, res := [(.tmp 6)] }
-- comptoir/element.Read
def b76 : VC := (.seq (.reg [⟨(some 4), (.p (.mov (.cst .nilsl))), none⟩,
 ⟨(some 5), (.p (.mov (.cst (.int .i64 0)))), none⟩,
 ⟨(some 6), (.p (.mov (.cst (.int .i64 0)))), none⟩])
 (.seq (.reg [⟨(some 13), (.p (.mov (.tmp 0))), none⟩,
 ⟨(some 14), (.r (.pcall (.cst (.fn 105 [] [])) [(.tmp 13)])), none⟩,
 ⟨(some 12), (.p (.mov (.tmp 14))), none⟩,
 ⟨(some 15), (.p (.ext (.tmp 12) 0)), none⟩,
 ⟨(some 16), (.p (.ext (.tmp 12) 1)), none⟩,
 ⟨(some 7), (.w (.alloc [(.int .i64 0), (.int .i64 0), (.int .i64 0), (.int .i64 0)])), none⟩,
 ⟨none, (.w (.store 4 (.tmp 7) (.tmp 15))), none⟩,
 ⟨(some 8), (.p (.mov (.tmp 16))), none⟩])
 (.seq (.seq (.reg [⟨(some 17), (.p (.mov (.tmp 8))), none⟩,
 ⟨(some 18), (.p (.un .not (.tmp 17))), none⟩])
 (.cond (.tmp 18) (.seq (.reg [⟨(some 4), (.p (.mov (.cst .nilsl))), none⟩,
 ⟨(some 5), (.p (.mov (.cst (.int .i64 0)))), none⟩,
 ⟨(some 6), (.p (.mov (.cst (.int .i64 16)))), none⟩])
 .ret)
 .skip))
 (.seq (.reg [⟨(some 20), (.r (.load (some 4) (.tmp 7))), none⟩,
 ⟨(some 21), (.p (.mov (.tmp 1))), none⟩,
 ⟨(some 22), (.r (.pcall (.cst (.fn 106 [] [])) [(.tmp 20), (.tmp 21)])), none⟩,
 ⟨(some 19), (.p (.mov (.tmp 22))), none⟩,
 ⟨(some 23), (.p (.ext (.tmp 19) 0)), none⟩,
 ⟨(some 24), (.p (.ext (.tmp 19) 1)), none⟩,
 ⟨(some 9), (.p (.mov (.tmp 23))), none⟩,
 ⟨(some 10), (.p (.mov (.tmp 24))), none⟩])
 (.seq (.seq (.reg [⟨(some 25), (.p (.mov (.tmp 10))), none⟩,
 ⟨(some 26), (.p (.ibin .neq (.tmp 25) (.cst (.int .i64 0)))), none⟩])
 (.cond (.tmp 26) (.seq (.reg [⟨(some 27), (.p (.mov (.tmp 10))), none⟩,
 ⟨(some 4), (.p (.mov (.cst .nilsl))), none⟩,
 ⟨(some 5), (.p (.mov (.cst (.int .i64 0)))), none⟩,
 ⟨(some 6), (.p (.mov (.tmp 27))), none⟩])
 .ret)
 .skip))
 (.seq (.reg [⟨(some 28), (.p (.fieldA 2 (.tmp 7))), none⟩,
 ⟨(some 29), (.r (.load none (.tmp 28))), none⟩,
 ⟨(some 30), (.p (.mov (.tmp 9))), none⟩,
 ⟨(some 31), (.p (.ibin .add (.tmp 29) (.tmp 30))), none⟩,
 ⟨(some 11), (.p (.mov (.tmp 31))), none⟩])
 (.seq (.seq (.reg [⟨(some 32), (.p (.mov (.tmp 1))), none⟩,
 ⟨(some 33), (.p (.len (.tmp 32))), none⟩,
 ⟨(some 34), (.p (.mov (.tmp 11))), none⟩,
 ⟨(some 35), (.p (.ibin .lss (.tmp 33) (.tmp 34))), none⟩])
 (.cond (.tmp 35) (.seq (.reg [⟨(some 4), (.p (.mov (.cst .nilsl))), none⟩,
 ⟨(some 5), (.p (.mov (.cst (.int .i64 0)))), none⟩,
 ⟨(some 6), (.p (.mov (.cst (.int .i64 3)))), none⟩])
 .ret)
 .skip))
 (.seq (.seq (.draw [(⟨(some 36), (.r (.load (some 4) (.tmp 7))), none⟩, 0, 0),
 (⟨(some 37), (.p (.mov (.tmp 1))), none⟩, 0, 0),
 (⟨(some 38), (.p (.fieldA 2 (.tmp 7))), none⟩, 0, 0),
 (⟨(some 39), (.r (.load none (.tmp 38))), none⟩, 0, 0),
 (⟨(some 40), (.p (.mov (.tmp 11))), none⟩, 0, 0),
 (⟨(some 41), (.p (.slice 1 (.tmp 37) (some (.tmp 39)) (some (.tmp 40)))), none⟩, 0, 0),
 (⟨(some 42), (.r (.pcall (.cst (.fn 107 [] [])) [(.tmp 36), (.tmp 41)])), none⟩, 0, 0),
 (⟨(some 10), (.p (.mov (.tmp 42))), none⟩, 0, 0)])
 (.seq (.reg [⟨(some 43), (.p (.mov (.tmp 10))), none⟩,
 ⟨(some 44), (.p (.ibin .neq (.tmp 43) (.cst (.int .i64 0)))), none⟩])
 (.cond (.tmp 44) (.seq (.reg [⟨(some 45), (.p (.mov (.tmp 10))), none⟩,
 ⟨(some 4), (.p (.mov (.cst .nilsl))), none⟩,
 ⟨(some 5), (.p (.mov (.cst (.int .i64 0)))), none⟩,
 ⟨(some 6), (.p (.mov (.tmp 45))), none⟩])
 .ret)
 .skip)))
 (.seq (.reg [⟨(some 46), (.p (.mov (.tmp 1))), none⟩,
 ⟨(some 47), (.p (.fieldA 2 (.tmp 7))), none⟩,
 ⟨(some 48), (.r (.load none (.tmp 47))), none⟩,
 ⟨(some 49), (.p (.mov (.tmp 11))), none⟩,
 ⟨(some 50), (.p (.slice 1 (.tmp 46) (some (.tmp 48)) (some (.tmp 49)))), none⟩,
 ⟨(some 51), (.w (.append 1 1 (.cst .nilsl) (.tmp 50))), none⟩,
 ⟨(some 52), (.p (.mov (.tmp 11))), none⟩,
 ⟨(some 4), (.p (.mov (.tmp 51))), none⟩,
 ⟨(some 5), (.p (.mov (.tmp 52))), none⟩,
 ⟨(some 6), (.p (.mov (.cst (.int .i64 0)))), none⟩])
 .ret)))))))))
def f76 : VF := { body := b76, res := [(.tmp 4), (.tmp 5), (.tmp 6)] }
-- slices.IndexFunc[[]comptoir/kinds.row,comptoir/kinds.row]
def b77 : VC := (.seq (.reg [⟨(some 4), (.p (.mov (.cst (.int .i64 0)))), none⟩])
 (.seq (.seq (.reg [⟨(some 6), (.p (.mov (.tmp 0))), none⟩,
 ⟨(some 7), (.p (.len (.tmp 6))), none⟩,
 ⟨(some 8), (.p (.mov (.cst (.int .i64 0)))), none⟩])
 (.block 0 (.loop (.seq (.reg [⟨(some 9), (.p (.ibin .lss (.tmp 8) (.tmp 7))), none⟩])
 (.seq (.cond (.tmp 9) .skip
 (.exit 0))
 (.seq (.block 1 (.seq (.reg [⟨(some 10), (.p (.mov (.tmp 8))), none⟩,
 ⟨(some 5), (.p (.mov (.tmp 10))), none⟩])
 (.seq (.reg [⟨(some 11), (.p (.mov (.tmp 1))), none⟩,
 ⟨(some 12), (.p (.mov (.tmp 0))), none⟩,
 ⟨(some 13), (.p (.mov (.tmp 5))), none⟩,
 ⟨(some 14), (.p (.idxA 4 (.tmp 12) (.tmp 13))), none⟩,
 ⟨(some 15), (.r (.load (some 4) (.tmp 14))), none⟩,
 ⟨(some 16), (.w (.call (.tmp 11) [(.tmp 15)])), none⟩])
 (.cond (.tmp 16) (.seq (.reg [⟨(some 17), (.p (.mov (.tmp 5))), none⟩,
 ⟨(some 4), (.p (.mov (.tmp 17))), none⟩])
 .ret)
 .skip))))
 (.reg [⟨(some 18), (.p (.ibin .add (.tmp 8) (.cst (.int .i64 1)))), none⟩,
 ⟨(some 8), (.p (.mov (.tmp 18))), none⟩])))))))
 (.seq (.reg [⟨(some 4), (.p (.mov (.cst (.int .i64 (-1))))), none⟩])
 .ret)))
def f77 : VF := { body := b77, res := [(.tmp 4)] }
-- comptoir/kinds.rows
def b78 : VC := (.seq (.reg [⟨(some 0), (.p (.mov (.cst .nilsl))), none⟩])
 (.seq (.reg [⟨(some 1), (.p (.build [(.str []), (.str []), (.int .i64 0), (.int .i64 0)] [(0, 1, (.cst (.str [65, 85, 84, 81]))), (1, 1, (.cst (.str [50, 49, 48, 48]))), (2, 1, (.cst (.int .i64 27))), (3, 1, (.cst (.int .i64 1092)))])), none⟩,
 ⟨(some 2), (.p (.build [(.str []), (.str []), (.int .i64 0), (.int .i64 0)] [(0, 1, (.cst (.str [65, 85, 84, 80]))), (1, 1, (.cst (.str [50, 49, 49, 48]))), (2, 1, (.cst (.int .i64 128))), (3, 1, (.cst (.int .i64 1063)))])), none⟩,
 ⟨(some 3), (.p (.build [(.str []), (.str []), (.int .i64 0), (.int .i64 0)] [(0, 1, (.cst (.str [67, 77, 80, 86]))), (1, 1, (.cst (.str [50, 50, 50, 48]))), (2, 1, (.cst (.int .i64 27))), (3, 1, (.cst (.int .i64 740)))])), none⟩,
 ⟨(some 4), (.p (.build [(.str []), (.str []), (.int .i64 0), (.int .i64 0)] [(0, 1, (.cst (.str [67, 77, 80, 75]))), (1, 1, (.cst (.str [50, 50, 51, 48]))), (2, 1, (.cst (.int .i64 128))), (3, 1, (.cst (.int .i64 4)))])), none⟩,
 ⟨(some 5), (.p (.build [(.str []), (.str []), (.int .i64 0), (.int .i64 0)] [(0, 1, (.cst (.str [82, 86, 82, 65]))), (1, 1, (.cst (.str [50, 52, 50, 48]))), (2, 1, (.cst (.int .i64 771))), (3, 1, (.cst (.int .i64 28)))])), none⟩,
 ⟨(some 6), (.p (.build [(.str []), (.str []), (.int .i64 0), (.int .i64 0)] [(0, 1, (.cst (.str [82, 86, 82, 82]))), (1, 1, (.cst (.str [50, 52, 51, 48]))), (2, 1, (.cst (.int .i64 128))), (3, 1, (.cst (.int .i64 4)))])), none⟩,
 ⟨(some 7), (.p (.build [(.str []), (.str []), (.int .i64 0), (.int .i64 0)] [(0, 1, (.cst (.str [82, 67, 76, 81]))), (1, 1, (.cst (.str [50, 53, 50, 48]))), (2, 1, (.cst (.int .i64 2))), (3, 1, (.cst (.int .i64 0)))])), none⟩,
 ⟨(some 8), (.p (.build [(.str []), (.str []), (.int .i64 0), (.int .i64 0)] [(0, 1, (.cst (.str [82, 67, 76, 80]))), (1, 1, (.cst (.str [50, 53, 51, 48]))), (2, 1, (.cst (.int .i64 128))), (3, 1, (.cst (.int .i64 2)))])), none⟩,
 ⟨(some 9), (.p (.build [(.str []), (.str []), (.int .i64 0), (.int .i64 0)] [(0, 1, (.cst (.str [68, 71, 78, 81]))), (1, 1, (.cst (.str [50, 56, 48, 48]))), (2, 1, (.cst (.int .i64 0))), (3, 1, (.cst (.int .i64 0)))])), none⟩,
 ⟨(some 10), (.p (.build [(.str []), (.str []), (.int .i64 0), (.int .i64 0)] [(0, 1, (.cst (.str [68, 71, 78, 80]))), (1, 1, (.cst (.str [50, 56, 49, 48]))), (2, 1, (.cst (.int .i64 128))), (3, 1, (.cst (.int .i64 0)))])), none⟩,
 ⟨(some 11), (.p (.build [(.str []), (.str []), (.int .i64 0), (.int .i64 0)] [(0, 1, (.cst (.str [82, 74, 67, 84]))), (1, 1, (.cst (.str [50, 54, 52, 52]))), (2, 1, (.cst (.int .i64 256))), (3, 1, (.cst (.int .i64 0)))])), none⟩,
 ⟨(some 12), (.p (.lit 4 (.agg [(.str []), (.str []), (.int .i64 0), (.int .i64 0)]) 11 [(0, (.tmp 1)), (1, (.tmp 2)), (2, (.tmp 3)), (3, (.tmp 4)), (4, (.tmp 5)), (5, (.tmp 6)), (6, (.tmp 7)), (7, (.tmp 8)), (8, (.tmp 9)), (9, (.tmp 10)), (10, (.tmp 11))])), none⟩,
 ⟨(some 0), (.p (.mov (.tmp 12))), none⟩])
 .ret))
def f78 : VF := { body := b78, res := [(.tmp 0)] }
-- comptoir/kinds.find$1
def b79 : VC := (.seq (.reg [⟨(some 3), (.w (.box 4 (.tmp 0))), none⟩,
 ⟨(some 4), (.p (.mov (.cst (.bool false)))), none⟩])
 (.seq (.draw [(⟨(some 5), (.r (.load none (.tmp 1))), none⟩, 0, 0),
 (⟨(some 6), (.r (.load (some 4) (.tmp 3))), none⟩, 0, 0),
 (⟨(some 7), (.w (.call (.tmp 5) [(.tmp 6)])), none⟩, 0, 0),
 (⟨(some 8), (.r (.load none (.tmp 2))), none⟩, 0, 1),
 (⟨(some 9), (.p (.ibin .eql (.tmp 7) (.tmp 8))), none⟩, 1, 1),
 (⟨(some 4), (.p (.mov (.tmp 9))), none⟩, 1, 1)])
 .ret))
def f79 : VF := { body := b79, res := [(.tmp 4)] }
-- strings.TrimRight
def b81 : VC := (.seq (.reg [⟨(some 4), (.p (.mov (.cst (.str [])))), none⟩])
 (.seq (.seq (.reg [⟨(some 7), (.p (.mov (.tmp 0))), none⟩,
 ⟨(some 8), (.p (.ibin .eql (.tmp 7) (.cst (.str [])))), none⟩,
 ⟨(some 9), (.p (.mov (.tmp 8))), none⟩,
 ⟨(some 10), (.p (.mov (.tmp 1))), (some (9, false))⟩,
 ⟨(some 11), (.p (.ibin .eql (.tmp 10) (.cst (.str [])))), (some (9, false))⟩,
 ⟨(some 12), (.p (.pick (.tmp 9) (.cst (.bool true)) (.tmp 11))), none⟩])
 (.cond (.tmp 12) (.seq (.reg [⟨(some 13), (.p (.mov (.tmp 0))), none⟩,
 ⟨(some 4), (.p (.mov (.tmp 13))), none⟩])
 .ret)
 .skip))
 (.seq (.seq (.reg [⟨(some 14), (.p (.mov (.tmp 1))), none⟩,
 ⟨(some 15), (.p (.lenStr (.tmp 14))), none⟩,
 ⟨(some 16), (.p (.ibin .eql (.tmp 15) (.cst (.int .i64 1)))), none⟩,
 ⟨(some 17), (.p (.mov (.tmp 16))), none⟩,
 ⟨(some 18), (.p (.mov (.tmp 1))), (some (17, true))⟩,
 ⟨(some 19), (.p (.idxStr (.tmp 18) (.cst (.int .i64 0)))), (some (17, true))⟩,
 ⟨(some 20), (.p (.ibin .lss (.tmp 19) (.cst (.int .u8 128)))), (some (17, true))⟩,
 ⟨(some 21), (.p (.pick (.tmp 17) (.tmp 20) (.cst (.bool false)))), none⟩])
 (.cond (.tmp 21) (.seq (.reg [⟨(some 22), (.p (.mov (.tmp 0))), none⟩,
 ⟨(some 23), (.p (.mov (.tmp 1))), none⟩,
 ⟨(some 24), (.p (.idxStr (.tmp 23) (.cst (.int .i64 0)))), none⟩,
 ⟨(some 25), (.r (.pcall (.cst (.fn 114 [] [])) [(.tmp 22), (.tmp 24)])), none⟩,
 ⟨(some 4), (.p (.mov (.tmp 25))), none⟩])
 .ret)
 .skip))
 (.seq (.seq (.reg [⟨(some 27), (.p (.mov (.tmp 1))), none⟩,
 ⟨(some 28), (.r (.pcall (.cst (.fn 115 [] [])) [(.tmp 27)])), none⟩,
 ⟨(some 26), (.p (.mov (.tmp 28))), none⟩,
 ⟨(some 29), (.p (.ext (.tmp 26) 0)), none⟩,
 ⟨(some 30), (.p (.ext (.tmp 26) 1)), none⟩,
 ⟨(some 5), (.w (.alloc [(.bool false), (.bool false), (.bool false), (.bool false), (.bool false), (.bool false), (.bool false), (.bool false), (.bool false), (.bool false), (.bool false), (.bool false), (.bool false), (.bool false), (.bool false), (.bool false), (.bool false), (.bool false), (.bool false), (.bool false), (.bool false), (.bool false), (.bool false), (.bool false), (.bool false), (.bool false), (.bool false), (.bool false), (.bool false), (.bool false), (.bool false), (.bool false), (.bool false), (.bool false), (.bool false), (.bool false), (.bool false), (.bool false), (.bool false), (.bool false), (.bool false), (.bool false), (.bool false), (.bool false), (.bool false), (.bool false), (.bool false), (.bool false), (.bool false), (.bool false), (.bool false), (.bool false), (.bool false), (.bool false), (.bool false), (.bool false), (.bool false), (.bool false), (.bool false), (.bool false), (.bool false), (.bool false), (.bool false), (.bool false), (.bool false), (.bool false), (.bool false), (.bool false), (.bool false), (.bool false), (.bool false), (.bool false), (.bool false), (.bool false), (.bool false), (.bool false), (.bool false), (.bool false), (.bool false), (.bool false), (.bool false), (.bool false), (.bool false), (.bool false), (.bool false), (.bool false), (.bool false), (.bool false), (.bool false), (.bool false), (.bool false), (.bool false), (.bool false), (.bool false), (.bool false), (.bool false), (.bool false), (.bool false), (.bool false), (.bool false), (.bool false), (.bool false), (.bool false), (.bool false), (.bool false), (.bool false), (.bool false), (.bool false), (.bool false), (.bool false), (.bool false), (.bool false), (.bool false), (.bool false), (.bool false), (.bool false), (.bool false), (.bool false), (.bool false), (.bool false), (.bool false), (.bool false), (.bool false), (.bool false), (.bool false), (.bool false), (.bool false), (.bool false), (.bool false), (.bool false), (.bool false), (.bool false), (.bool false), (.bool false), (.bool false), (.bool false), (.bool false), (.bool false), (.bool false), (.bool false), (.bool false), (.bool false), (.bool false), (.bool false), (.bool false), (.bool false), (.bool false), (.bool false), (.bool false), (.bool false), (.bool false), (.bool false), (.bool false), (.bool false), (.bool false), (.bool false), (.bool false), (.bool false), (.bool false), (.bool false), (.bool false), (.bool false), (.bool false), (.bool false), (.bool false), (.bool false), (.bool false), (.bool false), (.bool false), (.bool false), (.bool false), (.bool false), (.bool false), (.bool false), (.bool false), (.bool false), (.bool false), (.bool false), (.bool false), (.bool false), (.bool false), (.bool false), (.bool false), (.bool false), (.bool false), (.bool false), (.bool false), (.bool false), (.bool false), (.bool false), (.bool false), (.bool false), (.bool false), (.bool false), (.bool false), (.bool false), (.bool false), (.bool false), (.bool false), (.bool false), (.bool false), (.bool false), (.bool false), (.bool false), (.bool false), (.bool false), (.bool false), (.bool false), (.bool false), (.bool false), (.bool false), (.bool false), (.bool false), (.bool false), (.bool false), (.bool false), (.bool false), (.bool false), (.bool false), (.bool false), (.bool false), (.bool false), (.bool false), (.bool false), (.bool false), (.bool false), (.bool false), (.bool false), (.bool false), (.bool false), (.bool false), (.bool false), (.bool false), (.bool false), (.bool false), (.bool false), (.bool false), (.bool false), (.bool false), (.bool false), (.bool false), (.bool false), (.bool false), (.bool false), (.bool false), (.bool false), (.bool false), (.bool false), (.bool false), (.bool false), (.bool false), (.bool false), (.bool false), (.bool false), (.bool false), (.bool false)])), none⟩,
 ⟨none, (.w (.store 256 (.tmp 5) (.tmp 29))), none⟩,
 ⟨(some 6), (.p (.mov (.tmp 30))), none⟩])
 (.seq (.reg [⟨(some 31), (.p (.mov (.tmp 6))), none⟩])
 (.cond (.tmp 31) (.seq (.reg [⟨(some 32), (.p (.mov (.tmp 0))), none⟩,
 ⟨(some 33), (.w (.call (.cst (.fn 116 [] [])) [(.tmp 32), (.tmp 5)])), none⟩,
 ⟨(some 4), (.p (.mov (.tmp 33))), none⟩])
 .ret)
 .skip)))
 (.seq (.reg [⟨(some 34), (.p (.mov (.tmp 0))), none⟩,
 ⟨(some 35), (.p (.mov (.tmp 1))), none⟩,
 ⟨(some 36), (.r (.pcall (.cst (.fn 117 [] [])) [(.tmp 34), (.tmp 35)])), none⟩,
 ⟨(some 4), (.p (.mov (.tmp 36))), none⟩])
 .ret)))))
def f81 : VF := { body := b81, res := [(.tmp 4)] }
-- comptoir/digits.UnHex
def b82 : VC := (.seq (.reg [⟨(some 2), (.p (.mov (.cst .nilsl))), none⟩,
 ⟨(some 3), (.p (.mov (.cst (.int .i64 0)))), none⟩])
 (.seq (.reg [⟨(some 4), (.w (.alloc [.nilfn])), none⟩,
 ⟨none, (.w (.store 1 (.tmp 4) (.cst (.fn 73 [] [])))), none⟩])
 (.seq (.seq (.reg [⟨(some 7), (.p (.mov (.tmp 0))), none⟩,
 ⟨(some 8), (.p (.lenStr (.tmp 7))), none⟩,
 ⟨(some 9), (.p (.ibin .rem (.tmp 8) (.cst (.int .i64 2)))), none⟩,
 ⟨(some 10), (.p (.ibin .eql (.tmp 9) (.cst (.int .i64 1)))), none⟩,
 ⟨(some 11), (.p (.mov (.tmp 10))), none⟩,
 ⟨(some 12), (.p (.mov (.tmp 0))), (some (11, false))⟩,
 ⟨(some 13), (.p (.mkfn 118 [] [(.tmp 4)])), (some (11, false))⟩,
 ⟨(some 14), (.r (.pcall (.cst (.fn 72 [] [])) [(.tmp 12), (.tmp 13)])), (some (11, false))⟩,
 ⟨(some 15), (.p (.un .not (.tmp 14))), (some (11, false))⟩,
 ⟨(some 16), (.p (.pick (.tmp 11) (.cst (.bool true)) (.tmp 15))), none⟩])
 (.cond (.tmp 16) (.seq (.reg [⟨(some 2), (.p (.mov (.cst .nilsl))), none⟩,
 ⟨(some 3), (.p (.mov (.cst (.int .i64 5)))), none⟩])
 .ret)
 .skip))
 (.seq (.reg [⟨(some 5), (.p (.mov (.cst .nilsl))), none⟩])
 (.seq (.seq (.reg [⟨(some 6), (.p (.mov (.cst (.int .i64 0)))), none⟩])
 (.block 0 (.loop (.seq (.seq (.reg [⟨(some 17), (.p (.mov (.tmp 6))), none⟩,
 ⟨(some 18), (.p (.mov (.tmp 0))), none⟩,
 ⟨(some 19), (.p (.lenStr (.tmp 18))), none⟩,
 ⟨(some 20), (.p (.ibin .lss (.tmp 17) (.tmp 19))), none⟩])
 (.cond (.tmp 20) .skip
 (.exit 0)))
 (.seq (.block 1 (.draw [(⟨(some 23), (.p (.mov (.tmp 5))), none⟩, 0, 0),
 (⟨(some 24), (.p (.mov (.tmp 0))), none⟩, 0, 0),
 (⟨(some 25), (.p (.mov (.tmp 6))), none⟩, 0, 0),
 (⟨(some 26), (.p (.idxStr (.tmp 24) (.tmp 25))), none⟩, 0, 0),
 (⟨(some 27), (.r (.pcall (.cst (.fn 104 [] [])) [(.cst (.str [48, 49, 50, 51, 52, 53, 54, 55, 56, 57, 65, 66, 67, 68, 69, 70])), (.tmp 26)])), none⟩, 0, 0),
 (⟨(some 28), (.p (.ibin .shl (.tmp 27) (.cst (.int .u64 4)))), none⟩, 0, 0),
 (⟨(some 29), (.p (.mov (.tmp 0))), none⟩, 0, 0),
 (⟨(some 30), (.p (.mov (.tmp 6))), none⟩, 0, 0),
 (⟨(some 31), (.p (.ibin .add (.tmp 30) (.cst (.int .i64 1)))), none⟩, 0, 0),
 (⟨(some 32), (.p (.idxStr (.tmp 29) (.tmp 31))), none⟩, 0, 0),
 (⟨(some 33), (.r (.pcall (.cst (.fn 104 [] [])) [(.cst (.str [48, 49, 50, 51, 52, 53, 54, 55, 56, 57, 65, 66, 67, 68, 69, 70])), (.tmp 32)])), none⟩, 0, 0),
 (⟨(some 34), (.p (.ibin .or (.tmp 28) (.tmp 33))), none⟩, 0, 0),
 (⟨(some 35), (.p (.conv (.toInt .u8) (.tmp 34))), none⟩, 0, 0),
 (⟨(some 36), (.p (.lit 1 (.int .u8 0) 1 [(0, (.tmp 35))])), none⟩, 0, 0),
 (⟨(some 37), (.w (.append 1 1 (.tmp 23) (.tmp 36))), none⟩, 0, 0),
 (⟨(some 5), (.p (.mov (.tmp 37))), none⟩, 1, 1)]))
 (.reg [⟨(some 21), (.p (.mov (.tmp 6))), none⟩,
 ⟨(some 22), (.p (.ibin .add (.tmp 21) (.cst (.int .i64 2)))), none⟩,
 ⟨(some 6), (.p (.mov (.tmp 22))), none⟩]))))))
 (.seq (.reg [⟨(some 38), (.p (.mov (.tmp 5))), none⟩,
 ⟨(some 2), (.p (.mov (.tmp 38))), none⟩,
 ⟨(some 3), (.p (.mov (.cst (.int .i64 0)))), none⟩])
 .ret))))))
def f82 : VF := { body := b82, res := [(.tmp 2), (.tmp 3)] }
-- comptoir/codes.Words
def b83 : VC := (.seq (.reg [⟨(some 2), (.p (.mov (.cst (.str [])))), none⟩,
 ⟨(some 3), (.p (.mov (.cst (.str [])))), none⟩,
 ⟨(some 4), (.p (.mov (.cst (.bool false)))), none⟩])
 (.seq (.reg [⟨(some 8), (.p (.mov (.tmp 0))), none⟩,
 ⟨(some 9), (.p (.build [(.str []), (.str []), (.str [])] [(0, 1, (.tmp 8))])), none⟩,
 ⟨(some 10), (.p (.mkfn 120 [(.tmp 9)] [])), none⟩,
 ⟨(some 11), (.r (.pcall (.cst (.fn 119 [] [])) [(.tmp 10)])), none⟩,
 ⟨(some 7), (.p (.mov (.tmp 11))), none⟩,
 ⟨(some 12), (.p (.ext (.tmp 7) 0)), none⟩,
 ⟨(some 13), (.p (.ext (.tmp 7) 1)), none⟩,
 ⟨(some 5), (.w (.alloc [(.str []), (.str []), (.str [])])), none⟩,
 ⟨none, (.w (.store 3 (.tmp 5) (.tmp 12))), none⟩,
 ⟨(some 6), (.p (.mov (.tmp 13))), none⟩])
 (.seq (.draw [(⟨(some 14), (.p (.fieldA 1 (.tmp 5))), none⟩, 0, 0),
 (⟨(some 15), (.r (.load none (.tmp 14))), none⟩, 0, 0),
 (⟨(some 16), (.p (.fieldA 2 (.tmp 5))), none⟩, 0, 0),
 (⟨(some 17), (.r (.load none (.tmp 16))), none⟩, 0, 0),
 (⟨(some 18), (.p (.mov (.tmp 6))), none⟩, 0, 0),
 (⟨(some 2), (.p (.mov (.tmp 15))), none⟩, 0, 0),
 (⟨(some 3), (.p (.mov (.tmp 17))), none⟩, 0, 0),
 (⟨(some 4), (.p (.mov (.tmp 18))), none⟩, 0, 0)])
 .ret)))
def f83 : VF := { body := b83, res := [(.tmp 2), (.tmp 3), (.tmp 4)] }
-- comptoir/element.Spare
def b84 : VC := (.seq (.reg [⟨(some 2), (.p (.mov (.cst (.bool false)))), none⟩])
 (.seq (.seq (.reg [⟨(some 3), (.p (.mov (.tmp 0))), none⟩])
 (.block 0 (.seq (.seq (.reg [⟨(some 5), (.p (.ibin .eql (.tmp 3) (.cst (.int .i64 43)))), none⟩,
 ⟨(some 4), (.p (.mov (.tmp 5))), none⟩])
 (.cond (.tmp 4) .skip
 (.seq (.reg [⟨(some 6), (.p (.ibin .eql (.tmp 3) (.cst (.int .i64 60)))), none⟩,
 ⟨(some 4), (.p (.mov (.tmp 6))), none⟩])
 (.cond (.tmp 4) .skip
 (.seq (.reg [⟨(some 7), (.p (.ibin .eql (.tmp 3) (.cst (.int .i64 61)))), none⟩,
 ⟨(some 4), (.p (.mov (.tmp 7))), none⟩])
 (.cond (.tmp 4) .skip
 (.seq (.reg [⟨(some 8), (.p (.ibin .eql (.tmp 3) (.cst (.int .i64 62)))), none⟩,
 ⟨(some 4), (.p (.mov (.tmp 8))), none⟩])
 (.cond (.tmp 4) .skip
 (.seq (.reg [⟨(some 9), (.p (.ibin .eql (.tmp 3) (.cst (.int .i64 63)))), none⟩,
 ⟨(some 4), (.p (.mov (.tmp 9))), none⟩])
 (.cond (.tmp 4) .skip
 (.seq (.reg [⟨(some 10), (.p (.ibin .eql (.tmp 3) (.cst (.int .i64 102)))), none⟩,
 ⟨(some 4), (.p (.mov (.tmp 10))), none⟩])
 (.cond (.tmp 4) .skip
 (.seq (.reg [⟨(some 11), (.p (.ibin .eql (.tmp 3) (.cst (.int .i64 103)))), none⟩,
 ⟨(some 4), (.p (.mov (.tmp 11))), none⟩])
 (.cond (.tmp 4) .skip
 (.reg [⟨(some 12), (.p (.ibin .eql (.tmp 3) (.cst (.int .i64 120)))), none⟩,
 ⟨(some 4), (.p (.mov (.tmp 12))), none⟩])))))))))))))))
 (.cond (.tmp 4) (.seq (.reg [⟨(some 2), (.p (.mov (.cst (.bool true)))), none⟩])
 .ret)
 .skip))))
 (.seq (.reg [⟨(some 2), (.p (.mov (.cst (.bool false)))), none⟩])
 .ret)))
def f84 : VF := { body := b84, res := [(.tmp 2)] }
-- (*comptoir/cursor.Cursor).Left
def b85 : VC := (.seq (.reg [⟨(some 2), (.p (.mov (.cst (.int .i64 0)))), none⟩])
 (.seq (.seq (.reg [⟨(some 3), (.p (.mov (.tmp 0))), none⟩,
 ⟨(some 4), (.p (.nileq 0 false (.tmp 3) (.cst .nilp))), none⟩])
 (.cond (.tmp 4) (.seq (.reg [⟨(some 2), (.p (.mov (.cst (.int .i64 0)))), none⟩])
 .ret)
 .skip))
 (.seq (.draw [(⟨(some 5), (.p (.mov (.tmp 0))), none⟩, 0, 0),
 (⟨(some 6), (.p (.nilck (.tmp 5))), none⟩, 0, 0),
 (⟨(some 7), (.p (.fieldA 0 (.tmp 6))), none⟩, 0, 0),
 (⟨(some 8), (.r (.load none (.tmp 7))), none⟩, 0, 0),
 (⟨(some 9), (.p (.len (.tmp 8))), none⟩, 0, 0),
 (⟨(some 10), (.p (.mov (.tmp 0))), none⟩, 0, 0),
 (⟨(some 11), (.p (.nilck (.tmp 10))), none⟩, 0, 0),
 (⟨(some 12), (.p (.fieldA 1 (.tmp 11))), none⟩, 0, 0),
 (⟨(some 13), (.r (.load none (.tmp 12))), none⟩, 0, 0),
 (⟨(some 14), (.p (.ibin .sub (.tmp 9) (.tmp 13))), none⟩, 0, 0),
 (⟨(some 2), (.p (.mov (.tmp 14))), none⟩, 0, 0)])
 .ret)))
def f85 : VF := { body := b85, res := [(.tmp 2)] }
-- (*comptoir/tlv.walk).step
def b86 : VC := (.seq (.reg [⟨(some 2), (.p (.mov (.cst (.int .i64 0)))), none⟩])
 (.seq (.seq (.reg [⟨(some 10), (.p (.mov (.tmp 0))), none⟩,
 ⟨(some 11), (.p (.nilck (.tmp 10))), none⟩,
 ⟨(some 12), (.p (.fieldA 1 (.tmp 11))), none⟩,
 ⟨(some 13), (.r (.load none (.tmp 12))), none⟩,
 ⟨(some 14), (.p (.len (.tmp 13))), none⟩,
 ⟨(some 15), (.p (.ibin .geq (.tmp 14) (.cst (.int .i64 20)))), none⟩])
 (.cond (.tmp 15) (.seq (.reg [⟨(some 2), (.p (.mov (.cst (.int .i64 4)))), none⟩])
 .ret)
 .skip))
 (.seq (.reg [⟨(some 3), (.w (.alloc [(.int .i64 0), (.int .i64 0)])), none⟩])
 (.seq (.seq (.reg [⟨(some 16), (.p (.mov (.tmp 0))), none⟩,
 ⟨(some 17), (.p (.mkfn 121 [(.tmp 16)] [])), none⟩,
 ⟨(some 18), (.p (.mov (.tmp 0))), none⟩,
 ⟨(some 19), (.p (.mkfn 122 [(.tmp 18)] [])), none⟩,
 ⟨(some 20), (.p (.build [.nilfn, .nilfn] [(0, 1, (.tmp 17)), (1, 1, (.tmp 19))])), none⟩,
 ⟨(some 21), (.p (.mov (.cst (.int .i64 0)))), none⟩])
 (.block 0 (.loop (.seq (.reg [⟨(some 22), (.p (.ibin .lss (.tmp 21) (.cst (.int .i64 2)))), none⟩])
 (.seq (.cond (.tmp 22) .skip
 (.exit 0))
 (.seq (.block 1 (.seq (.reg [⟨(some 23), (.p (.mov (.tmp 21))), none⟩,
 ⟨(some 24), (.p (.idxAgg 2 1 false (.tmp 20) (.tmp 21))), none⟩,
 ⟨(some 4), (.p (.mov (.tmp 23))), none⟩,
 ⟨(some 5), (.p (.mov (.tmp 24))), none⟩])
 (.seq (.reg [⟨(some 26), (.p (.mov (.tmp 5))), none⟩,
 ⟨(some 27), (.w (.call (.tmp 26) [])), none⟩,
 ⟨(some 25), (.p (.mov (.tmp 27))), none⟩,
 ⟨(some 28), (.p (.ext (.tmp 25) 0)), none⟩,
 ⟨(some 29), (.p (.ext (.tmp 25) 1)), none⟩,
 ⟨(some 6), (.p (.mov (.tmp 28))), none⟩,
 ⟨(some 7), (.p (.mov (.tmp 29))), none⟩])
 (.seq (.seq (.reg [⟨(some 30), (.p (.mov (.tmp 7))), none⟩,
 ⟨(some 31), (.p (.ibin .neq (.tmp 30) (.cst (.int .i64 0)))), none⟩])
 (.cond (.tmp 31) (.seq (.reg [⟨(some 32), (.p (.mov (.tmp 7))), none⟩,
 ⟨(some 2), (.p (.mov (.tmp 32))), none⟩])
 .ret)
 .skip))
 (.reg [⟨(some 33), (.p (.mov (.tmp 4))), none⟩,
 ⟨(some 34), (.p (.mov (.tmp 6))), none⟩,
 ⟨(some 35), (.p (.idxArr 2 1 (.tmp 3) (.tmp 33))), none⟩,
 ⟨none, (.w (.store 1 (.tmp 35) (.tmp 34))), none⟩])))))
 (.reg [⟨(some 36), (.p (.ibin .add (.tmp 21) (.cst (.int .i64 1)))), none⟩,
 ⟨(some 21), (.p (.mov (.tmp 36))), none⟩])))))))
 (.seq (.draw [(⟨(some 38), (.p (.mov (.tmp 0))), none⟩, 0, 0),
 (⟨(some 39), (.p (.nilck (.tmp 38))), none⟩, 0, 0),
 (⟨(some 40), (.p (.fieldA 0 (.tmp 39))), none⟩, 0, 0),
 (⟨(some 41), (.r (.load none (.tmp 40))), none⟩, 0, 0),
 (⟨(some 42), (.p (.idxArr 2 1 (.tmp 3) (.cst (.int .i64 1)))), none⟩, 0, 0),
 (⟨(some 43), (.r (.load none (.tmp 42))), none⟩, 0, 0),
 (⟨(some 44), (.w (.call (.cst (.fn 71 [] [])) [(.tmp 41), (.tmp 43)])), none⟩, 0, 0),
 (⟨(some 37), (.p (.mov (.tmp 44))), none⟩, 1, 1),
 (⟨(some 45), (.p (.ext (.tmp 37) 0)), none⟩, 1, 1),
 (⟨(some 46), (.p (.ext (.tmp 37) 1)), none⟩, 1, 1),
 (⟨(some 8), (.p (.mov (.tmp 45))), none⟩, 1, 1),
 (⟨(some 9), (.p (.mov (.tmp 46))), none⟩, 1, 1)])
 (.seq (.seq (.reg [⟨(some 47), (.p (.mov (.tmp 9))), none⟩,
 ⟨(some 48), (.p (.ibin .neq (.tmp 47) (.cst (.int .i64 0)))), none⟩])
 (.cond (.tmp 48) (.seq (.reg [⟨(some 49), (.p (.mov (.tmp 9))), none⟩,
 ⟨(some 2), (.p (.mov (.tmp 49))), none⟩])
 .ret)
 .skip))
 (.seq (.draw [(⟨(some 50), (.p (.mov (.tmp 0))), none⟩, 0, 1),
 (⟨(some 51), (.p (.mov (.tmp 0))), none⟩, 0, 0),
 (⟨(some 52), (.p (.nilck (.tmp 51))), none⟩, 0, 0),
 (⟨(some 53), (.p (.fieldA 1 (.tmp 52))), none⟩, 0, 0),
 (⟨(some 54), (.r (.load none (.tmp 53))), none⟩, 0, 0),
 (⟨(some 55), (.p (.idxArr 2 1 (.tmp 3) (.cst (.int .i64 0)))), none⟩, 0, 0),
 (⟨(some 56), (.r (.load none (.tmp 55))), none⟩, 0, 0),
 (⟨(some 57), (.p (.mov (.tmp 8))), none⟩, 0, 0),
 (⟨(some 58), (.p (.build [(.int .i64 0), .nilsl] [(0, 1, (.tmp 56)), (1, 1, (.tmp 57))])), none⟩, 0, 0),
 (⟨(some 59), (.p (.lit 2 (.agg [(.int .i64 0), .nilsl]) 1 [(0, (.tmp 58))])), none⟩, 0, 0),
 (⟨(some 60), (.w (.append 2 32 (.tmp 54) (.tmp 59))), none⟩, 0, 0),
 (⟨(some 61), (.p (.nilck (.tmp 50))), none⟩, 1, 1),
 (⟨(some 62), (.p (.fieldA 1 (.tmp 61))), none⟩, 1, 1),
 (⟨none, (.w (.store 1 (.tmp 62) (.tmp 60))), none⟩, 1, 1)])
 (.seq (.reg [⟨(some 2), (.p (.mov (.cst (.int .i64 0)))), none⟩])
 .ret))))))))
def f86 : VF := { body := b86, res := [(.tmp 2)] }
-- comptoir/tlv.Write
def b87 : VC := (.seq (.reg [⟨(some 2), (.p (.mov (.cst .nilsl))), none⟩,
 ⟨(some 3), (.p (.mov (.cst (.int .i64 0)))), none⟩])
 (.seq (.seq (.reg [⟨(some 9), (.p (.mov (.tmp 0))), none⟩,
 ⟨(some 10), (.p (.len (.tmp 9))), none⟩,
 ⟨(some 11), (.p (.ibin .gtr (.tmp 10) (.cst (.int .i64 20)))), none⟩])
 (.cond (.tmp 11) (.seq (.reg [⟨(some 2), (.p (.mov (.cst .nilsl))), none⟩,
 ⟨(some 3), (.p (.mov (.cst (.int .i64 4)))), none⟩])
 .ret)
 .skip))
 (.seq (.reg [⟨(some 4), (.p (.mov (.cst .nilsl))), none⟩])
 (.seq (.seq (.reg [⟨(some 12), (.p (.mov (.tmp 0))), none⟩,
 ⟨(some 13), (.p (.len (.tmp 12))), none⟩,
 ⟨(some 14), (.p (.mov (.cst (.int .i64 0)))), none⟩])
 (.block 0 (.loop (.seq (.reg [⟨(some 15), (.p (.ibin .lss (.tmp 14) (.tmp 13))), none⟩])
 (.seq (.cond (.tmp 15) .skip
 (.exit 0))
 (.seq (.block 1 (.seq (.reg [⟨(some 16), (.p (.mov (.tmp 14))), none⟩,
 ⟨(some 17), (.p (.idxA 2 (.tmp 12) (.tmp 14))), none⟩,
 ⟨(some 18), (.r (.load (some 2) (.tmp 17))), none⟩,
 ⟨(some 6), (.w (.alloc [(.int .i64 0), .nilsl])), none⟩,
 ⟨(some 5), (.p (.mov (.tmp 16))), none⟩,
 ⟨none, (.w (.store 2 (.tmp 6) (.tmp 18))), none⟩])
 (.seq (.seq (.draw [(⟨(some 19), (.p (.fieldA 0 (.tmp 6))), none⟩, 0, 0),
 (⟨(some 20), (.r (.load none (.tmp 19))), none⟩, 0, 0),
 (⟨(some 21), (.r (.pcall (.cst (.fn 123 [] [])) [(.tmp 20)])), none⟩, 0, 0),
 (⟨(some 22), (.p (.un .not (.tmp 21))), none⟩, 0, 0),
 (⟨(some 23), (.p (.mov (.tmp 22))), none⟩, 0, 0),
 (⟨(some 24), (.p (.mov (.tmp 0))), (some (23, false))⟩, 0, 0),
 (⟨(some 25), (.p (.mov (.tmp 5))), (some (23, false))⟩, 0, 0),
 (⟨(some 26), (.p (.slice 2 (.tmp 24) none (some (.tmp 25)))), (some (23, false))⟩, 0, 0),
 (⟨(some 27), (.p (.fieldA 0 (.tmp 6))), (some (23, false))⟩, 0, 0),
 (⟨(some 28), (.r (.load none (.tmp 27))), (some (23, false))⟩, 0, 0),
 (⟨(some 29), (.r (.pcall (.cst (.fn 124 [] [])) [(.tmp 26), (.tmp 28)])), (some (23, false))⟩, 0, 0),
 (⟨(some 30), (.p (.pick (.tmp 23) (.cst (.bool true)) (.tmp 29))), none⟩, 0, 0)])
 (.cond (.tmp 30) (.seq (.reg [⟨(some 2), (.p (.mov (.cst .nilsl))), none⟩,
 ⟨(some 3), (.p (.mov (.cst (.int .i64 18)))), none⟩])
 .ret)
 .skip))
 (.seq (.reg [⟨(some 31), (.p (.fieldA 1 (.tmp 6))), none⟩,
 ⟨(some 32), (.r (.load none (.tmp 31))), none⟩,
 ⟨(some 33), (.p (.len (.tmp 32))), none⟩,
 ⟨(some 7), (.p (.mov (.tmp 33))), none⟩])
 (.seq (.seq (.reg [⟨(some 34), (.p (.mov (.tmp 7))), none⟩,
 ⟨(some 35), (.p (.ibin .gtr (.tmp 34) (.cst (.int .i64 255)))), none⟩])
 (.cond (.tmp 35) (.seq (.reg [⟨(some 2), (.p (.mov (.cst .nilsl))), none⟩,
 ⟨(some 3), (.p (.mov (.cst (.int .i64 17)))), none⟩])
 .ret)
 .skip))
 (.seq (.reg [⟨(some 8), (.p (.mov (.cst (.int .i64 1)))), none⟩])
 (.seq (.seq (.reg [⟨(some 36), (.p (.fieldA 0 (.tmp 6))), none⟩,
 ⟨(some 37), (.r (.load none (.tmp 36))), none⟩,
 ⟨(some 38), (.p (.ibin .gtr (.tmp 37) (.cst (.int .i64 255)))), none⟩])
 (.cond (.tmp 38) (.reg [⟨(some 8), (.p (.mov (.cst (.int .i64 2)))), none⟩])
 .skip))
 (.seq (.reg [⟨(some 39), (.p (.mov (.tmp 4))), none⟩,
 ⟨(some 40), (.p (.fieldA 0 (.tmp 6))), none⟩,
 ⟨(some 41), (.r (.load none (.tmp 40))), none⟩,
 ⟨(some 42), (.p (.conv (.toInt .u64) (.tmp 41))), none⟩,
 ⟨(some 43), (.p (.mov (.tmp 8))), none⟩,
 ⟨(some 44), (.r (.pcall (.cst (.fn 125 [] [])) [(.tmp 39), (.tmp 42), (.tmp 43)])), none⟩,
 ⟨(some 4), (.p (.mov (.tmp 44))), none⟩])
 (.seq (.seq (.reg [⟨(some 45), (.p (.mov (.tmp 7))), none⟩,
 ⟨(some 46), (.p (.ibin .geq (.tmp 45) (.cst (.int .i64 128)))), none⟩])
 (.cond (.tmp 46) (.reg [⟨(some 47), (.p (.mov (.tmp 4))), none⟩,
 ⟨(some 48), (.p (.lit 1 (.int .u8 0) 1 [(0, (.cst (.int .u8 129)))])), none⟩,
 ⟨(some 49), (.w (.append 1 1 (.tmp 47) (.tmp 48))), none⟩,
 ⟨(some 4), (.p (.mov (.tmp 49))), none⟩])
 .skip))
 (.reg [⟨(some 50), (.p (.mov (.tmp 4))), none⟩,
 ⟨(some 51), (.p (.mov (.tmp 7))), none⟩,
 ⟨(some 52), (.p (.conv (.toInt .u8) (.tmp 51))), none⟩,
 ⟨(some 53), (.p (.lit 1 (.int .u8 0) 1 [(0, (.tmp 52))])), none⟩,
 ⟨(some 54), (.p (.fieldA 1 (.tmp 6))), none⟩,
 ⟨(some 55), (.r (.load none (.tmp 54))), none⟩,
 ⟨(some 56), (.p (.lit 1 .nilsl 3 [(0, (.tmp 50)), (1, (.tmp 53)), (2, (.tmp 55))])), none⟩,
 ⟨(some 57), (.r (.pcall (.cst (.fn 91 [] [])) [(.tmp 56)])), none⟩,
 ⟨(some 4), (.p (.mov (.tmp 57))), none⟩]))))))))))
 (.reg [⟨(some 58), (.p (.ibin .add (.tmp 14) (.cst (.int .i64 1)))), none⟩,
 ⟨(some 14), (.p (.mov (.tmp 58))), none⟩])))))))
 (.seq (.reg [⟨(some 59), (.p (.mov (.tmp 4))), none⟩,
 ⟨(some 2), (.p (.mov (.tmp 59))), none⟩,
 ⟨(some 3), (.p (.mov (.cst (.int .i64 0)))), none⟩])
 .ret)))))
def f87 : VF := { body := b87, res := [(.tmp 2), (.tmp 3)] }
-- comptoir/fields.signs
def b88 : VC := (.seq (.reg [⟨(some 4), (.p (.mov (.cst (.bool false)))), none⟩])
 (.seq (.reg [⟨(some 5), (.p (.mov (.tmp 0))), none⟩,
 ⟨(some 6), (.p (.ibin .eql (.tmp 5) (.cst (.str [])))), none⟩,
 ⟨(some 7), (.p (.mov (.tmp 6))), none⟩,
 ⟨(some 8), (.p (.mov (.tmp 0))), (some (7, false))⟩,
 ⟨(some 9), (.p (.mov (.tmp 1))), (some (7, false))⟩,
 ⟨(some 10), (.r (.pcall (.cst (.fn 45 [] [])) [(.tmp 8), (.tmp 9)])), (some (7, false))⟩,
 ⟨(some 11), (.p (.mov (.tmp 10))), (some (7, false))⟩,
 ⟨(some 12), (.p (.mov (.tmp 0))), (some (11, true))⟩,
 ⟨(some 13), (.p (.mov (.tmp 1))), (some (11, true))⟩,
 ⟨(some 14), (.r (.pcall (.cst (.fn 126 [] [])) [(.tmp 12), (.tmp 13)])), (some (11, true))⟩,
 ⟨(some 15), (.p (.pick (.tmp 11) (.tmp 14) (.cst (.bool false)))), (some (7, false))⟩,
 ⟨(some 16), (.p (.pick (.tmp 7) (.cst (.bool true)) (.tmp 15))), none⟩,
 ⟨(some 4), (.p (.mov (.tmp 16))), none⟩])
 .ret))
def f88 : VF := { body := b88, res := [(.tmp 4)] }
-- comptoir/fields.others
def b89 : VC := (.seq (.reg [⟨(some 2), (.p (.mov (.cst (.bool false)))), none⟩])
 (.seq (.seq (.reg [⟨(some 5), (.p (.mov (.tmp 0))), none⟩,
 ⟨(some 6), (.p (.len (.tmp 5))), none⟩,
 ⟨(some 7), (.p (.mov (.cst (.int .i64 0)))), none⟩])
 (.block 0 (.loop (.seq (.reg [⟨(some 8), (.p (.ibin .lss (.tmp 7) (.tmp 6))), none⟩])
 (.seq (.cond (.tmp 8) .skip
 (.exit 0))
 (.seq (.block 1 (.seq (.reg [⟨(some 9), (.p (.mov (.tmp 7))), none⟩,
 ⟨(some 10), (.p (.idxA 2 (.tmp 5) (.tmp 7))), none⟩,
 ⟨(some 11), (.r (.load (some 2) (.tmp 10))), none⟩,
 ⟨(some 4), (.w (.alloc [(.int .i64 0), .nilsl])), none⟩,
 ⟨(some 3), (.p (.mov (.tmp 9))), none⟩,
 ⟨none, (.w (.store 2 (.tmp 4) (.tmp 11))), none⟩])
 (.seq (.draw [(⟨(some 12), (.p (.fieldA 0 (.tmp 4))), none⟩, 0, 0),
 (⟨(some 13), (.r (.load none (.tmp 12))), none⟩, 0, 0),
 (⟨(some 14), (.r (.pcall (.cst (.fn 84 [] [])) [(.tmp 13)])), none⟩, 0, 0),
 (⟨(some 15), (.p (.un .not (.tmp 14))), none⟩, 0, 0),
 (⟨(some 16), (.p (.mov (.tmp 15))), none⟩, 0, 0),
 (⟨(some 17), (.p (.mov (.tmp 3))), (some (16, false))⟩, 0, 0),
 (⟨(some 18), (.p (.ibin .gtr (.tmp 17) (.cst (.int .i64 0)))), (some (16, false))⟩, 0, 0),
 (⟨(some 19), (.p (.mov (.tmp 18))), (some (16, false))⟩, 0, 0),
 (⟨(some 20), (.p (.fieldA 0 (.tmp 4))), (some (19, true))⟩, 0, 0),
 (⟨(some 21), (.r (.load none (.tmp 20))), (some (19, true))⟩, 0, 0),
 (⟨(some 22), (.p (.mov (.tmp 0))), (some (19, true))⟩, 0, 0),
 (⟨(some 23), (.p (.mov (.tmp 3))), (some (19, true))⟩, 0, 0),
 (⟨(some 24), (.p (.ibin .sub (.tmp 23) (.cst (.int .i64 1)))), (some (19, true))⟩, 0, 0),
 (⟨(some 25), (.p (.idxA 2 (.tmp 22) (.tmp 24))), (some (19, true))⟩, 0, 0),
 (⟨(some 26), (.p (.fieldA 0 (.tmp 25))), (some (19, true))⟩, 0, 0),
 (⟨(some 27), (.r (.load none (.tmp 26))), (some (19, true))⟩, 0, 0),
 (⟨(some 28), (.p (.ibin .leq (.tmp 21) (.tmp 27))), (some (19, true))⟩, 0, 0),
 (⟨(some 29), (.p (.pick (.tmp 19) (.tmp 28) (.cst (.bool false)))), (some (16, false))⟩, 0, 0),
 (⟨(some 30), (.p (.pick (.tmp 16) (.cst (.bool true)) (.tmp 29))), none⟩, 0, 0)])
 (.cond (.tmp 30) (.seq (.reg [⟨(some 2), (.p (.mov (.cst (.bool false)))), none⟩])
 .ret)
 .skip))))
 (.reg [⟨(some 31), (.p (.ibin .add (.tmp 7) (.cst (.int .i64 1)))), none⟩,
 ⟨(some 7), (.p (.mov (.tmp 31))), none⟩])))))))
 (.seq (.reg [⟨(some 32), (.p (.mov (.tmp 0))), none⟩,
 ⟨(some 33), (.p (.len (.tmp 32))), none⟩,
 ⟨(some 34), (.p (.ibin .leq (.tmp 33) (.cst (.int .i64 8)))), none⟩,
 ⟨(some 2), (.p (.mov (.tmp 34))), none⟩])
 .ret)))
def f89 : VF := { body := b89, res := [(.tmp 2)] }
-- comptoir/bitmap.Write
def b90 : VC := (.seq (.reg [⟨(some 2), (.p (.mov (.cst .nilsl))), none⟩,
 ⟨(some 3), (.p (.mov (.cst (.int .i64 0)))), none⟩])
 (.seq (.reg [⟨(some 4), (.p (.mov (.cst (.int .i64 1)))), none⟩])
 (.seq (.seq (.reg [⟨(some 11), (.p (.mov (.tmp 0))), none⟩,
 ⟨(some 12), (.p (.len (.tmp 11))), none⟩,
 ⟨(some 13), (.p (.mov (.cst (.int .i64 0)))), none⟩])
 (.block 0 (.loop (.seq (.reg [⟨(some 14), (.p (.ibin .lss (.tmp 13) (.tmp 12))), none⟩])
 (.seq (.cond (.tmp 14) .skip
 (.exit 0))
 (.seq (.block 1 (.seq (.reg [⟨(some 15), (.p (.idxA 1 (.tmp 11) (.tmp 13))), none⟩,
 ⟨(some 16), (.r (.load none (.tmp 15))), none⟩,
 ⟨(some 6), (.p (.mov (.tmp 16))), none⟩])
 (.seq (.seq (.reg [⟨(some 17), (.p (.mov (.tmp 6))), none⟩,
 ⟨(some 18), (.p (.mov (.tmp 4))), none⟩,
 ⟨(some 19), (.p (.ibin .leq (.tmp 17) (.tmp 18))), none⟩,
 ⟨(some 20), (.p (.mov (.tmp 19))), none⟩,
 ⟨(some 21), (.p (.mov (.tmp 6))), (some (20, false))⟩,
 ⟨(some 22), (.p (.ibin .gtr (.tmp 21) (.cst (.int .i64 128)))), (some (20, false))⟩,
 ⟨(some 23), (.p (.pick (.tmp 20) (.cst (.bool true)) (.tmp 22))), none⟩,
 ⟨(some 24), (.p (.mov (.tmp 23))), none⟩,
 ⟨(some 25), (.p (.mov (.tmp 6))), (some (24, false))⟩,
 ⟨(some 26), (.p (.ibin .eql (.tmp 25) (.cst (.int .i64 65)))), (some (24, false))⟩,
 ⟨(some 27), (.p (.pick (.tmp 24) (.cst (.bool true)) (.tmp 26))), none⟩])
 (.cond (.tmp 27) (.seq (.reg [⟨(some 2), (.p (.mov (.cst .nilsl))), none⟩,
 ⟨(some 3), (.p (.mov (.cst (.int .i64 1)))), none⟩])
 .ret)
 .skip))
 (.reg [⟨(some 28), (.p (.mov (.tmp 6))), none⟩,
 ⟨(some 4), (.p (.mov (.tmp 28))), none⟩]))))
 (.reg [⟨(some 29), (.p (.ibin .add (.tmp 13) (.cst (.int .i64 1)))), none⟩,
 ⟨(some 13), (.p (.mov (.tmp 29))), none⟩])))))))
 (.seq (.reg [⟨(some 30), (.w (.mksl 1 1 (.int .u8 0) (.cst (.int .i64 8)) (.cst (.int .i64 8)))), none⟩,
 ⟨(some 7), (.p (.mov (.tmp 30))), none⟩])
 (.seq (.reg [⟨(some 31), (.p (.mov (.tmp 7))), none⟩,
 ⟨(some 32), (.p (.mkfn 127 [(.tmp 31)] [])), none⟩,
 ⟨(some 8), (.p (.mov (.tmp 32))), none⟩])
 (.seq (.seq (.reg [⟨(some 33), (.p (.mov (.tmp 4))), none⟩,
 ⟨(some 34), (.p (.ibin .gtr (.tmp 33) (.cst (.int .i64 64)))), none⟩])
 (.cond (.tmp 34) (.seq (.reg [⟨(some 35), (.w (.mksl 1 1 (.int .u8 0) (.cst (.int .i64 16)) (.cst (.int .i64 16)))), none⟩,
 ⟨(some 7), (.p (.mov (.tmp 35))), none⟩])
 (.seq (.reg [⟨(some 36), (.p (.mov (.tmp 7))), none⟩,
 ⟨(some 37), (.p (.mkfn 127 [(.tmp 36)] [])), none⟩,
 ⟨(some 8), (.p (.mov (.tmp 37))), none⟩])
 (.reg [⟨(some 38), (.p (.mov (.tmp 8))), none⟩,
 ⟨(some 39), (.w (.call (.tmp 38) [(.cst (.int .i64 1))])), none⟩])))
 .skip))
 (.seq (.seq (.reg [⟨(some 40), (.p (.mov (.tmp 0))), none⟩,
 ⟨(some 41), (.p (.len (.tmp 40))), none⟩,
 ⟨(some 42), (.p (.mov (.cst (.int .i64 0)))), none⟩])
 (.block 2 (.loop (.seq (.reg [⟨(some 43), (.p (.ibin .lss (.tmp 42) (.tmp 41))), none⟩])
 (.seq (.cond (.tmp 43) .skip
 (.exit 2))
 (.seq (.block 3 (.seq (.reg [⟨(some 44), (.p (.idxA 1 (.tmp 40) (.tmp 42))), none⟩,
 ⟨(some 45), (.r (.load none (.tmp 44))), none⟩,
 ⟨(some 10), (.p (.mov (.tmp 45))), none⟩])
 (.reg [⟨(some 46), (.p (.mov (.tmp 8))), none⟩,
 ⟨(some 47), (.p (.mov (.tmp 10))), none⟩,
 ⟨(some 48), (.w (.call (.tmp 46) [(.tmp 47)])), none⟩])))
 (.reg [⟨(some 49), (.p (.ibin .add (.tmp 42) (.cst (.int .i64 1)))), none⟩,
 ⟨(some 42), (.p (.mov (.tmp 49))), none⟩])))))))
 (.seq (.reg [⟨(some 50), (.p (.mov (.tmp 7))), none⟩,
 ⟨(some 2), (.p (.mov (.tmp 50))), none⟩,
 ⟨(some 3), (.p (.mov (.cst (.int .i64 0)))), none⟩])
 .ret))))))))
def f90 : VF := { body := b90, res := [(.tmp 2), (.tmp 3)] }
-- slices.Concat[[]byte,byte]
def b91 : VC := (.seq (.reg [⟨(some 2), (.p (.mov (.cst .nilsl))), none⟩])
 (.seq (.reg [⟨(some 3), (.p (.mov (.cst (.int .i64 0)))), none⟩])
 (.seq (.seq (.reg [⟨(some 9), (.p (.mov (.tmp 0))), none⟩,
 ⟨(some 10), (.p (.len (.tmp 9))), none⟩,
 ⟨(some 11), (.p (.mov (.cst (.int .i64 0)))), none⟩])
 (.block 0 (.loop (.seq (.reg [⟨(some 12), (.p (.ibin .lss (.tmp 11) (.tmp 10))), none⟩])
 (.seq (.cond (.tmp 12) .skip
 (.exit 0))
 (.seq (.block 1 (.seq (.reg [⟨(some 13), (.p (.idxA 1 (.tmp 9) (.tmp 11))), none⟩,
 ⟨(some 14), (.r (.load none (.tmp 13))), none⟩,
 ⟨(some 5), (.p (.mov (.tmp 14))), none⟩])
 (.seq (.reg [⟨(some 15), (.p (.mov (.tmp 3))), none⟩,
 ⟨(some 16), (.p (.mov (.tmp 5))), none⟩,
 ⟨(some 17), (.p (.len (.tmp 16))), none⟩,
 ⟨(some 18), (.p (.ibin .add (.tmp 15) (.tmp 17))), none⟩,
 ⟨(some 3), (.p (.mov (.tmp 18))), none⟩])
 (.seq (.reg [⟨(some 19), (.p (.mov (.tmp 3))), none⟩,
 ⟨(some 20), (.p (.ibin .lss (.tmp 19) (.cst (.int .i64 0)))), none⟩])
 (.cond (.tmp 20) (.reg [⟨(some 21), (.w .bad), none⟩,
 ⟨none, (.w .bad), none⟩])
 .skip)))))
 (.reg [⟨(some 22), (.p (.ibin .add (.tmp 11) (.cst (.int .i64 1)))), none⟩,
 ⟨(some 11), (.p (.mov (.tmp 22))), none⟩])))))))
 (.seq (.reg [⟨(some 23), (.p (.mov (.tmp 3))), none⟩,
 ⟨(some 24), (.w (.call (.cst (.fn 128 [] [])) [(.cst .nilsl), (.tmp 23)])), none⟩,
 ⟨(some 6), (.p (.mov (.tmp 24))), none⟩])
 (.seq (.seq (.reg [⟨(some 25), (.p (.mov (.tmp 0))), none⟩,
 ⟨(some 26), (.p (.len (.tmp 25))), none⟩,
 ⟨(some 27), (.p (.mov (.cst (.int .i64 0)))), none⟩])
 (.block 2 (.loop (.seq (.reg [⟨(some 28), (.p (.ibin .lss (.tmp 27) (.tmp 26))), none⟩])
 (.seq (.cond (.tmp 28) .skip
 (.exit 2))
 (.seq (.block 3 (.seq (.reg [⟨(some 29), (.p (.idxA 1 (.tmp 25) (.tmp 27))), none⟩,
 ⟨(some 30), (.r (.load none (.tmp 29))), none⟩,
 ⟨(some 8), (.p (.mov (.tmp 30))), none⟩])
 (.reg [⟨(some 31), (.p (.mov (.tmp 6))), none⟩,
 ⟨(some 32), (.p (.mov (.tmp 8))), none⟩,
 ⟨(some 33), (.w (.append 1 1 (.tmp 31) (.tmp 32))), none⟩,
 ⟨(some 6), (.p (.mov (.tmp 33))), none⟩])))
 (.reg [⟨(some 34), (.p (.ibin .add (.tmp 27) (.cst (.int .i64 1)))), none⟩,
 ⟨(some 27), (.p (.mov (.tmp 34))), none⟩])))))))
 (.seq (.reg [⟨(some 35), (.p (.mov (.tmp 6))), none⟩,
 ⟨(some 2), (.p (.mov (.tmp 35))), none⟩])
 .ret))))))
def f91 : VF := { body := b91, res := [(.tmp 2)] }
-- comptoir/element.Write
def b92 : VC := (.seq (.reg [⟨(some 1), (.w (.box 2 (.tmp 0))), none⟩,
 ⟨(some 2), (.p (.mov (.cst .nilsl))), none⟩,
 ⟨(some 3), (.p (.mov (.cst (.int .i64 0)))), none⟩])
 (.seq (.seq (.reg [⟨(some 8), (.r (.load (some 2) (.tmp 1))), none⟩,
 ⟨(some 9), (.r (.pcall (.cst (.fn 129 [] [])) [(.tmp 8)])), none⟩,
 ⟨(some 4), (.p (.mov (.tmp 9))), none⟩])
 (.seq (.reg [⟨(some 10), (.p (.mov (.tmp 4))), none⟩,
 ⟨(some 11), (.p (.ibin .neq (.tmp 10) (.cst (.int .i64 0)))), none⟩])
 (.cond (.tmp 11) (.seq (.reg [⟨(some 12), (.p (.mov (.tmp 4))), none⟩,
 ⟨(some 2), (.p (.mov (.cst .nilsl))), none⟩,
 ⟨(some 3), (.p (.mov (.tmp 12))), none⟩])
 .ret)
 .skip)))
 (.seq (.reg [⟨(some 14), (.p (.fieldA 0 (.tmp 1))), none⟩,
 ⟨(some 15), (.r (.load none (.tmp 14))), none⟩,
 ⟨(some 16), (.r (.pcall (.cst (.fn 105 [] [])) [(.tmp 15)])), none⟩,
 ⟨(some 13), (.p (.mov (.tmp 16))), none⟩,
 ⟨(some 17), (.p (.ext (.tmp 13) 0)), none⟩,
 ⟨(some 18), (.p (.ext (.tmp 13) 1)), none⟩,
 ⟨(some 5), (.w (.alloc [(.int .i64 0), (.int .i64 0), (.int .i64 0), (.int .i64 0)])), none⟩,
 ⟨none, (.w (.store 4 (.tmp 5) (.tmp 17))), none⟩,
 ⟨(some 6), (.p (.mov (.tmp 18))), none⟩])
 (.seq (.reg [⟨(some 7), (.p (.mov (.cst (.str [])))), none⟩])
 (.seq (.seq (.reg [⟨(some 19), (.p (.fieldA 2 (.tmp 5))), none⟩,
 ⟨(some 20), (.r (.load none (.tmp 19))), none⟩,
 ⟨(some 21), (.p (.ibin .gtr (.tmp 20) (.cst (.int .i64 0)))), none⟩])
 (.cond (.tmp 21) (.reg [⟨(some 23), (.p (.fieldA 1 (.tmp 1))), none⟩,
 ⟨(some 24), (.r (.load none (.tmp 23))), none⟩,
 ⟨(some 25), (.p (.len (.tmp 24))), none⟩,
 ⟨(some 26), (.p (.conv (.toInt .u64) (.tmp 25))), none⟩,
 ⟨(some 27), (.p (.fieldA 2 (.tmp 5))), none⟩,
 ⟨(some 28), (.r (.load none (.tmp 27))), none⟩,
 ⟨(some 29), (.r (.pcall (.cst (.fn 130 [] [])) [(.tmp 26), (.tmp 28)])), none⟩,
 ⟨(some 22), (.p (.mov (.tmp 29))), none⟩,
 ⟨(some 30), (.p (.ext (.tmp 22) 0)), none⟩,
 ⟨(some 31), (.p (.ext (.tmp 22) 1)), none⟩,
 ⟨(some 7), (.p (.mov (.tmp 30))), none⟩])
 .skip))
 (.seq (.reg [⟨(some 32), (.p (.mov (.tmp 7))), none⟩,
 ⟨(some 33), (.w (.strBytes (.tmp 32))), none⟩,
 ⟨(some 34), (.p (.fieldA 1 (.tmp 1))), none⟩,
 ⟨(some 35), (.r (.load none (.tmp 34))), none⟩,
 ⟨(some 36), (.w (.append 1 1 (.tmp 33) (.tmp 35))), none⟩,
 ⟨(some 2), (.p (.mov (.tmp 36))), none⟩,
 ⟨(some 3), (.p (.mov (.cst (.int .i64 0)))), none⟩])
 .ret))))))
def f92 : VF := { body := b92, res := [(.tmp 2), (.tmp 3)] }
-- (*comptoir/fields.set).put
def b93 : VC := (.seq (.reg [⟨(some 6), (.p (.mov (.tmp 2))), none⟩,
 ⟨(some 7), (.p (.ibin .neq (.tmp 6) (.cst (.str [])))), none⟩])
 (.cond (.tmp 7) (.reg [⟨(some 8), (.p (.mov (.tmp 0))), none⟩,
 ⟨(some 9), (.p (.mov (.tmp 0))), none⟩,
 ⟨(some 10), (.p (.nilck (.tmp 9))), none⟩,
 ⟨(some 11), (.r (.load none (.tmp 10))), none⟩,
 ⟨(some 12), (.p (.mov (.tmp 1))), none⟩,
 ⟨(some 13), (.p (.mov (.tmp 2))), none⟩,
 ⟨(some 14), (.w (.strBytes (.tmp 13))), none⟩,
 ⟨(some 15), (.p (.build [(.int .i64 0), .nilsl] [(0, 1, (.tmp 12)), (1, 1, (.tmp 14))])), none⟩,
 ⟨(some 16), (.p (.lit 2 (.agg [(.int .i64 0), .nilsl]) 1 [(0, (.tmp 15))])), none⟩,
 ⟨(some 17), (.w (.append 2 32 (.tmp 11) (.tmp 16))), none⟩,
 ⟨(some 18), (.p (.nilck (.tmp 8))), none⟩,
 ⟨none, (.w (.store 1 (.tmp 18) (.tmp 17))), none⟩])
 .skip))
def f93 : VF := { body := b93, res := [] }
-- comptoir/fields.wide
def b94 : VC := (.seq (.reg [⟨(some 4), (.p (.mov (.cst (.str [])))), none⟩])
 (.seq (.reg [⟨(some 8), (.p (.mov (.tmp 0))), none⟩,
 ⟨(some 9), (.p (.mov (.tmp 1))), none⟩,
 ⟨(some 10), (.r (.pcall (.cst (.fn 130 [] [])) [(.tmp 8), (.tmp 9)])), none⟩,
 ⟨(some 7), (.p (.mov (.tmp 10))), none⟩,
 ⟨(some 11), (.p (.ext (.tmp 7) 0)), none⟩,
 ⟨(some 12), (.p (.ext (.tmp 7) 1)), none⟩,
 ⟨(some 5), (.p (.mov (.tmp 11))), none⟩,
 ⟨(some 6), (.p (.mov (.tmp 12))), none⟩])
 (.seq (.reg [⟨(some 13), (.p (.mov (.tmp 5))), none⟩,
 ⟨(some 4), (.p (.mov (.tmp 13))), none⟩])
 .ret)))
def f94 : VF := { body := b94, res := [(.tmp 4)] }
-- comptoir/fields.filled
def b95 : VC := (.seq (.reg [⟨(some 4), (.p (.mov (.cst (.str [])))), none⟩])
 (.seq (.seq (.reg [⟨(some 5), (.p (.mov (.tmp 0))), none⟩,
 ⟨(some 6), (.p (.ibin .eql (.tmp 5) (.cst (.str [])))), none⟩])
 (.cond (.tmp 6) (.seq (.reg [⟨(some 4), (.p (.mov (.cst (.str [])))), none⟩])
 .ret)
 .skip))
 (.seq (.reg [⟨(some 7), (.p (.mov (.tmp 0))), none⟩,
 ⟨(some 8), (.p (.mov (.tmp 1))), none⟩,
 ⟨(some 9), (.p (.mov (.tmp 0))), none⟩,
 ⟨(some 10), (.p (.lenStr (.tmp 9))), none⟩,
 ⟨(some 11), (.p (.ibin .sub (.tmp 8) (.tmp 10))), none⟩,
 ⟨(some 12), (.p (.mm true (.tmp 11) (.cst (.int .i64 0)))), none⟩,
 ⟨(some 13), (.r (.pcall (.cst (.fn 131 [] [])) [(.cst (.str [32])), (.tmp 12)])), none⟩,
 ⟨(some 14), (.p (.ibin .add (.tmp 7) (.tmp 13))), none⟩,
 ⟨(some 4), (.p (.mov (.tmp 14))), none⟩])
 .ret)))
def f95 : VF := { body := b95, res := [(.tmp 4)] }
-- slices.SortStableFunc[comptoir/fields.set,comptoir/api.Element]
def b96 : VC := (.reg [⟨(some 4), (.p (.mov (.tmp 0))), none⟩,
 ⟨(some 5), (.p (.mov (.tmp 0))), none⟩,
 ⟨(some 6), (.p (.len (.tmp 5))), none⟩,
 ⟨(some 7), (.p (.mov (.tmp 1))), none⟩,
 ⟨(some 8), (.w (.call (.cst (.fn 132 [] [])) [(.tmp 4), (.tmp 6), (.tmp 7)])), none⟩])
def f96 : VF := { body := b96, res := [] }
-- comptoir/fields.all$1
def b97 : VC := (.seq (.reg [⟨(some 2), (.w (.box 2 (.tmp 0))), none⟩,
 ⟨(some 3), (.w (.box 2 (.tmp 1))), none⟩,
 ⟨(some 4), (.p (.mov (.cst (.int .i64 0)))), none⟩])
 (.seq (.reg [⟨(some 5), (.p (.fieldA 0 (.tmp 2))), none⟩,
 ⟨(some 6), (.r (.load none (.tmp 5))), none⟩,
 ⟨(some 7), (.p (.fieldA 0 (.tmp 3))), none⟩,
 ⟨(some 8), (.r (.load none (.tmp 7))), none⟩,
 ⟨(some 9), (.r (.pcall (.cst (.fn 98 [] [])) [(.tmp 6), (.tmp 8)])), none⟩,
 ⟨(some 4), (.p (.mov (.tmp 9))), none⟩])
 .ret))
def f97 : VF := { body := b97, res := [(.tmp 4)] }
-- cmp.Compare[int]
def b98 : VC := (.seq (.reg [⟨(some 4), (.p (.mov (.cst (.int .i64 0)))), none⟩])
 (.seq (.reg [⟨(some 7), (.p (.mov (.tmp 0))), none⟩,
 ⟨(some 8), (.r (.pcall (.cst (.fn 133 [] [])) [(.tmp 7)])), none⟩,
 ⟨(some 5), (.p (.mov (.tmp 8))), none⟩])
 (.seq (.reg [⟨(some 9), (.p (.mov (.tmp 1))), none⟩,
 ⟨(some 10), (.r (.pcall (.cst (.fn 133 [] [])) [(.tmp 9)])), none⟩,
 ⟨(some 6), (.p (.mov (.tmp 10))), none⟩])
 (.seq (.seq (.reg [⟨(some 11), (.p (.mov (.tmp 5))), none⟩])
 (.cond (.tmp 11) (.seq (.seq (.reg [⟨(some 12), (.p (.mov (.tmp 6))), none⟩])
 (.cond (.tmp 12) (.seq (.reg [⟨(some 4), (.p (.mov (.cst (.int .i64 0)))), none⟩])
 .ret)
 .skip))
 (.seq (.reg [⟨(some 4), (.p (.mov (.cst (.int .i64 (-1))))), none⟩])
 .ret))
 .skip))
 (.seq (.seq (.reg [⟨(some 13), (.p (.mov (.tmp 6))), none⟩])
 (.cond (.tmp 13) (.seq (.reg [⟨(some 4), (.p (.mov (.cst (.int .i64 1)))), none⟩])
 .ret)
 .skip))
 (.seq (.seq (.reg [⟨(some 14), (.p (.mov (.tmp 0))), none⟩,
 ⟨(some 15), (.p (.mov (.tmp 1))), none⟩,
 ⟨(some 16), (.p (.ibin .lss (.tmp 14) (.tmp 15))), none⟩])
 (.cond (.tmp 16) (.seq (.reg [⟨(some 4), (.p (.mov (.cst (.int .i64 (-1))))), none⟩])
 .ret)
 .skip))
 (.seq (.seq (.reg [⟨(some 17), (.p (.mov (.tmp 0))), none⟩,
 ⟨(some 18), (.p (.mov (.tmp 1))), none⟩,
 ⟨(some 19), (.p (.ibin .gtr (.tmp 17) (.tmp 18))), none⟩])
 (.cond (.tmp 19) (.seq (.reg [⟨(some 4), (.p (.mov (.cst (.int .i64 1)))), none⟩])
 .ret)
 .skip))
 (.seq (.reg [⟨(some 4), (.p (.mov (.cst (.int .i64 0)))), none⟩])
 .ret))))))))
def f98 : VF := { body := b98, res := [(.tmp 4)] }
-- slices.IndexFunc[comptoir/fields.set,comptoir/api.Element]
def b99 : VC := (.seq (.reg [⟨(some 4), (.p (.mov (.cst (.int .i64 0)))), none⟩])
 (.seq (.seq (.reg [⟨(some 6), (.p (.mov (.tmp 0))), none⟩,
 ⟨(some 7), (.p (.len (.tmp 6))), none⟩,
 ⟨(some 8), (.p (.mov (.cst (.int .i64 0)))), none⟩])
 (.block 0 (.loop (.seq (.reg [⟨(some 9), (.p (.ibin .lss (.tmp 8) (.tmp 7))), none⟩])
 (.seq (.cond (.tmp 9) .skip
 (.exit 0))
 (.seq (.block 1 (.seq (.reg [⟨(some 10), (.p (.mov (.tmp 8))), none⟩,
 ⟨(some 5), (.p (.mov (.tmp 10))), none⟩])
 (.seq (.reg [⟨(some 11), (.p (.mov (.tmp 1))), none⟩,
 ⟨(some 12), (.p (.mov (.tmp 0))), none⟩,
 ⟨(some 13), (.p (.mov (.tmp 5))), none⟩,
 ⟨(some 14), (.p (.idxA 2 (.tmp 12) (.tmp 13))), none⟩,
 ⟨(some 15), (.r (.load (some 2) (.tmp 14))), none⟩,
 ⟨(some 16), (.w (.call (.tmp 11) [(.tmp 15)])), none⟩])
 (.cond (.tmp 16) (.seq (.reg [⟨(some 17), (.p (.mov (.tmp 5))), none⟩,
 ⟨(some 4), (.p (.mov (.tmp 17))), none⟩])
 .ret)
 .skip))))
 (.reg [⟨(some 18), (.p (.ibin .add (.tmp 8) (.cst (.int .i64 1)))), none⟩,
 ⟨(some 8), (.p (.mov (.tmp 18))), none⟩])))))))
 (.seq (.reg [⟨(some 4), (.p (.mov (.cst (.int .i64 (-1))))), none⟩])
 .ret)))
def f99 : VF := { body := b99, res := [(.tmp 4)] }
-- comptoir/comptoirref01.Ans
def b101 : VC := (.seq (.reg [⟨(some 4), (.p (.mov (.cst (.bool false)))), none⟩])
 (.seq (.seq (.reg [⟨(some 5), (.p (.mov (.cst (.int .i64 0)))), none⟩])
 (.block 0 (.loop (.seq (.seq (.reg [⟨(some 6), (.p (.mov (.tmp 5))), none⟩,
 ⟨(some 7), (.p (.mov (.tmp 0))), none⟩,
 ⟨(some 8), (.p (.lenStr (.tmp 7))), none⟩,
 ⟨(some 9), (.p (.ibin .lss (.tmp 6) (.tmp 8))), none⟩])
 (.cond (.tmp 9) .skip
 (.exit 0)))
 (.seq (.block 1 (.seq (.reg [⟨(some 12), (.p (.mov (.tmp 0))), none⟩,
 ⟨(some 13), (.p (.mov (.tmp 5))), none⟩,
 ⟨(some 14), (.p (.idxStr (.tmp 12) (.tmp 13))), none⟩,
 ⟨(some 15), (.p (.ibin .lss (.tmp 14) (.cst (.int .u8 32)))), none⟩,
 ⟨(some 16), (.p (.mov (.tmp 15))), none⟩,
 ⟨(some 17), (.p (.mov (.tmp 0))), (some (16, false))⟩,
 ⟨(some 18), (.p (.mov (.tmp 5))), (some (16, false))⟩,
 ⟨(some 19), (.p (.idxStr (.tmp 17) (.tmp 18))), (some (16, false))⟩,
 ⟨(some 20), (.p (.ibin .gtr (.tmp 19) (.cst (.int .u8 126)))), (some (16, false))⟩,
 ⟨(some 21), (.p (.pick (.tmp 16) (.cst (.bool true)) (.tmp 20))), none⟩])
 (.cond (.tmp 21) (.seq (.reg [⟨(some 4), (.p (.mov (.cst (.bool false)))), none⟩])
 .ret)
 .skip)))
 (.reg [⟨(some 10), (.p (.mov (.tmp 5))), none⟩,
 ⟨(some 11), (.p (.ibin .add (.tmp 10) (.cst (.int .i64 1)))), none⟩,
 ⟨(some 5), (.p (.mov (.tmp 11))), none⟩]))))))
 (.seq (.reg [⟨(some 22), (.p (.mov (.tmp 0))), none⟩,
 ⟨(some 23), (.p (.lenStr (.tmp 22))), none⟩,
 ⟨(some 24), (.p (.ibin .geq (.tmp 23) (.cst (.int .i64 1)))), none⟩,
 ⟨(some 25), (.p (.mov (.tmp 24))), none⟩,
 ⟨(some 26), (.p (.mov (.tmp 0))), (some (25, true))⟩,
 ⟨(some 27), (.p (.lenStr (.tmp 26))), (some (25, true))⟩,
 ⟨(some 28), (.p (.mov (.tmp 1))), (some (25, true))⟩,
 ⟨(some 29), (.p (.ibin .leq (.tmp 27) (.tmp 28))), (some (25, true))⟩,
 ⟨(some 30), (.p (.pick (.tmp 25) (.tmp 29) (.cst (.bool false)))), none⟩,
 ⟨(some 4), (.p (.mov (.tmp 30))), none⟩])
 .ret)))
def f101 : VF := { body := b101, res := [(.tmp 4)] }
-- comptoir/comptoirref16.form
def b102 : VC := (.seq (.reg [⟨(some 8), (.w (.alloc [(.int .i64 0), (.int .i64 0), (.int .i64 0), (.int .i64 0)])), none⟩])
 (.seq (.reg [⟨(some 9), (.p (.mov (.tmp 0))), none⟩,
 ⟨(some 10), (.p (.mov (.tmp 1))), none⟩,
 ⟨(some 11), (.p (.mov (.tmp 2))), none⟩,
 ⟨(some 12), (.p (.mov (.tmp 3))), none⟩,
 ⟨(some 13), (.p (.build [(.int .i64 0), (.int .i64 0), (.int .i64 0), (.int .i64 0)] [(0, 1, (.tmp 9)), (1, 1, (.tmp 10)), (2, 1, (.tmp 11)), (3, 1, (.tmp 12))])), none⟩,
 ⟨none, (.w (.store 4 (.tmp 8) (.tmp 13))), none⟩])
 .ret))
def f102 : VF := { body := b102, res := [(.cell 8 (some 4))] }
-- (*comptoir/cursor.Cursor).take
def b103 : VC := (.seq (.reg [⟨(some 4), (.p (.mov (.cst .nilsl))), none⟩,
 ⟨(some 5), (.p (.mov (.cst (.int .i64 0)))), none⟩])
 (.seq (.block 0 (.seq (.reg [⟨(some 7), (.p (.mov (.tmp 1))), none⟩,
 ⟨(some 8), (.p (.ibin .lss (.tmp 7) (.cst (.int .i64 0)))), none⟩,
 ⟨(some 6), (.p (.mov (.tmp 8))), none⟩])
 (.cond (.tmp 6) (.seq (.reg [⟨(some 4), (.p (.mov (.cst .nilsl))), none⟩,
 ⟨(some 5), (.p (.mov (.cst (.int .i64 1)))), none⟩])
 .ret)
 (.seq (.reg [⟨(some 10), (.p (.mov (.tmp 1))), none⟩,
 ⟨(some 11), (.p (.mov (.tmp 0))), none⟩,
 ⟨(some 12), (.w (.call (.cst (.fn 85 [] [])) [(.tmp 11)])), none⟩,
 ⟨(some 13), (.p (.ibin .gtr (.tmp 10) (.tmp 12))), none⟩,
 ⟨(some 9), (.p (.mov (.tmp 13))), none⟩])
 (.cond (.tmp 9) (.seq (.reg [⟨(some 4), (.p (.mov (.cst .nilsl))), none⟩,
 ⟨(some 5), (.p (.mov (.cst (.int .i64 3)))), none⟩])
 .ret)
 .skip)))))
 (.seq (.reg [⟨(some 14), (.p (.mov (.tmp 0))), none⟩,
 ⟨(some 15), (.p (.nilck (.tmp 14))), none⟩,
 ⟨(some 16), (.p (.fieldA 1 (.tmp 15))), none⟩,
 ⟨(some 17), (.r (.load none (.tmp 16))), none⟩,
 ⟨(some 18), (.p (.mov (.tmp 1))), none⟩,
 ⟨(some 19), (.p (.ibin .add (.tmp 17) (.tmp 18))), none⟩,
 ⟨(some 20), (.p (.nilck (.tmp 14))), none⟩,
 ⟨(some 21), (.p (.fieldA 1 (.tmp 20))), none⟩,
 ⟨none, (.w (.store 1 (.tmp 21) (.tmp 19))), none⟩])
 (.seq (.draw [(⟨(some 22), (.p (.mov (.tmp 0))), none⟩, 0, 0),
 (⟨(some 23), (.p (.nilck (.tmp 22))), none⟩, 0, 0),
 (⟨(some 24), (.p (.fieldA 0 (.tmp 23))), none⟩, 0, 0),
 (⟨(some 25), (.r (.load none (.tmp 24))), none⟩, 0, 0),
 (⟨(some 26), (.p (.mov (.tmp 0))), none⟩, 0, 0),
 (⟨(some 27), (.p (.nilck (.tmp 26))), none⟩, 0, 0),
 (⟨(some 28), (.p (.fieldA 1 (.tmp 27))), none⟩, 0, 0),
 (⟨(some 29), (.r (.load none (.tmp 28))), none⟩, 0, 0),
 (⟨(some 30), (.p (.mov (.tmp 1))), none⟩, 0, 0),
 (⟨(some 31), (.p (.ibin .sub (.tmp 29) (.tmp 30))), none⟩, 0, 0),
 (⟨(some 32), (.p (.mov (.tmp 0))), none⟩, 0, 0),
 (⟨(some 33), (.p (.nilck (.tmp 32))), none⟩, 0, 0),
 (⟨(some 34), (.p (.fieldA 1 (.tmp 33))), none⟩, 0, 0),
 (⟨(some 35), (.r (.load none (.tmp 34))), none⟩, 0, 0),
 (⟨(some 36), (.p (.slice 1 (.tmp 25) (some (.tmp 31)) (some (.tmp 35)))), none⟩, 0, 0),
 (⟨(some 4), (.p (.mov (.tmp 36))), none⟩, 0, 0),
 (⟨(some 5), (.p (.mov (.cst (.int .i64 0)))), none⟩, 0, 0)])
 .ret))))
def f103 : VF := { body := b103, res := [(.tmp 4), (.tmp 5)] }
-- comptoir/element.Of
def b105 : VC := (.seq (.reg [⟨(some 2), (.w (.alloc [(.int .i64 0), (.int .i64 0), (.int .i64 0), (.int .i64 0)])), none⟩,
 ⟨(some 3), (.p (.mov (.cst (.bool false)))), none⟩])
 (.seq (.reg [⟨(some 4), (.p (.mov (.cst (.int .i64 0)))), none⟩,
 ⟨(some 5), (.p (.mov (.cst (.int .i64 0)))), none⟩,
 ⟨(some 6), (.p (.mov (.cst (.int .i64 0)))), none⟩])
 (.seq (.seq (.reg [⟨(some 7), (.p (.mov (.tmp 0))), none⟩])
 (.block 0 (.seq (.reg [⟨(some 10), (.p (.ibin .eql (.tmp 7) (.cst (.int .i64 2)))), none⟩,
 ⟨(some 9), (.p (.mov (.tmp 10))), none⟩])
 (.cond (.tmp 9) (.reg [⟨(some 4), (.p (.mov (.cst (.int .i64 1)))), none⟩,
 ⟨(some 5), (.p (.mov (.cst (.int .i64 2)))), none⟩,
 ⟨(some 6), (.p (.mov (.cst (.int .i64 19)))), none⟩])
 (.seq (.reg [⟨(some 12), (.p (.ibin .eql (.tmp 7) (.cst (.int .i64 4)))), none⟩,
 ⟨(some 11), (.p (.mov (.tmp 12))), none⟩])
 (.cond (.tmp 11) (.reg [⟨(some 4), (.p (.mov (.cst (.int .i64 1)))), none⟩,
 ⟨(some 6), (.p (.mov (.cst (.int .i64 12)))), none⟩])
 (.seq (.reg [⟨(some 14), (.p (.ibin .eql (.tmp 7) (.cst (.int .i64 11)))), none⟩,
 ⟨(some 13), (.p (.mov (.tmp 14))), none⟩])
 (.cond (.tmp 13) (.reg [⟨(some 4), (.p (.mov (.cst (.int .i64 1)))), none⟩,
 ⟨(some 6), (.p (.mov (.cst (.int .i64 6)))), none⟩])
 (.seq (.reg [⟨(some 16), (.p (.ibin .eql (.tmp 7) (.cst (.int .i64 12)))), none⟩,
 ⟨(some 15), (.p (.mov (.tmp 16))), none⟩])
 (.cond (.tmp 15) (.reg [⟨(some 4), (.p (.mov (.cst (.int .i64 1)))), none⟩,
 ⟨(some 6), (.p (.mov (.cst (.int .i64 14)))), none⟩])
 (.seq (.seq (.reg [⟨(some 18), (.p (.ibin .eql (.tmp 7) (.cst (.int .i64 22)))), none⟩,
 ⟨(some 17), (.p (.mov (.tmp 18))), none⟩])
 (.cond (.tmp 17) .skip
 (.seq (.reg [⟨(some 19), (.p (.ibin .eql (.tmp 7) (.cst (.int .i64 39)))), none⟩,
 ⟨(some 17), (.p (.mov (.tmp 19))), none⟩])
 (.cond (.tmp 17) .skip
 (.reg [⟨(some 20), (.p (.ibin .eql (.tmp 7) (.cst (.int .i64 49)))), none⟩,
 ⟨(some 17), (.p (.mov (.tmp 20))), none⟩])))))
 (.cond (.tmp 17) (.reg [⟨(some 4), (.p (.mov (.cst (.int .i64 1)))), none⟩,
 ⟨(some 6), (.p (.mov (.cst (.int .i64 3)))), none⟩])
 (.seq (.reg [⟨(some 22), (.p (.ibin .eql (.tmp 7) (.cst (.int .i64 25)))), none⟩,
 ⟨(some 21), (.p (.mov (.tmp 22))), none⟩])
 (.cond (.tmp 21) (.reg [⟨(some 4), (.p (.mov (.cst (.int .i64 1)))), none⟩,
 ⟨(some 6), (.p (.mov (.cst (.int .i64 4)))), none⟩])
 (.seq (.reg [⟨(some 24), (.p (.ibin .eql (.tmp 7) (.cst (.int .i64 32)))), none⟩,
 ⟨(some 23), (.p (.mov (.tmp 24))), none⟩])
 (.cond (.tmp 23) (.reg [⟨(some 4), (.p (.mov (.cst (.int .i64 1)))), none⟩,
 ⟨(some 5), (.p (.mov (.cst (.int .i64 2)))), none⟩,
 ⟨(some 6), (.p (.mov (.cst (.int .i64 11)))), none⟩])
 (.seq (.reg [⟨(some 26), (.p (.ibin .eql (.tmp 7) (.cst (.int .i64 37)))), none⟩,
 ⟨(some 25), (.p (.mov (.tmp 26))), none⟩])
 (.cond (.tmp 25) (.reg [⟨(some 4), (.p (.mov (.cst (.int .i64 2)))), none⟩,
 ⟨(some 6), (.p (.mov (.cst (.int .i64 12)))), none⟩])
 (.seq (.reg [⟨(some 28), (.p (.ibin .eql (.tmp 7) (.cst (.int .i64 38)))), none⟩,
 ⟨(some 27), (.p (.mov (.tmp 28))), none⟩])
 (.cond (.tmp 27) (.reg [⟨(some 4), (.p (.mov (.cst (.int .i64 2)))), none⟩,
 ⟨(some 6), (.p (.mov (.cst (.int .i64 6)))), none⟩])
 (.seq (.reg [⟨(some 30), (.p (.ibin .eql (.tmp 7) (.cst (.int .i64 41)))), none⟩,
 ⟨(some 29), (.p (.mov (.tmp 30))), none⟩])
 (.cond (.tmp 29) (.reg [⟨(some 4), (.p (.mov (.cst (.int .i64 3)))), none⟩,
 ⟨(some 6), (.p (.mov (.cst (.int .i64 8)))), none⟩])
 (.seq (.reg [⟨(some 32), (.p (.ibin .eql (.tmp 7) (.cst (.int .i64 42)))), none⟩,
 ⟨(some 31), (.p (.mov (.tmp 32))), none⟩])
 (.cond (.tmp 31) (.reg [⟨(some 4), (.p (.mov (.cst (.int .i64 3)))), none⟩,
 ⟨(some 6), (.p (.mov (.cst (.int .i64 15)))), none⟩])
 (.seq (.reg [⟨(some 34), (.p (.ibin .eql (.tmp 7) (.cst (.int .i64 43)))), none⟩,
 ⟨(some 33), (.p (.mov (.tmp 34))), none⟩])
 (.cond (.tmp 33) (.reg [⟨(some 4), (.p (.mov (.cst (.int .i64 3)))), none⟩,
 ⟨(some 5), (.p (.mov (.cst (.int .i64 2)))), none⟩,
 ⟨(some 6), (.p (.mov (.cst (.int .i64 40)))), none⟩])
 (.seq (.reg [⟨(some 36), (.p (.ibin .eql (.tmp 7) (.cst (.int .i64 48)))), none⟩,
 ⟨(some 35), (.p (.mov (.tmp 36))), none⟩])
 (.cond (.tmp 35) (.reg [⟨(some 4), (.p (.mov (.cst (.int .i64 3)))), none⟩,
 ⟨(some 5), (.p (.mov (.cst (.int .i64 3)))), none⟩,
 ⟨(some 6), (.p (.mov (.cst (.int .i64 8)))), none⟩])
 (.seq (.reg [⟨(some 38), (.p (.ibin .eql (.tmp 7) (.cst (.int .i64 55)))), none⟩,
 ⟨(some 37), (.p (.mov (.tmp 38))), none⟩])
 (.cond (.tmp 37) (.reg [⟨(some 4), (.p (.mov (.cst (.int .i64 4)))), none⟩,
 ⟨(some 5), (.p (.mov (.cst (.int .i64 3)))), none⟩,
 ⟨(some 6), (.p (.mov (.cst (.int .i64 255)))), none⟩])
 (.seq (.reg [⟨(some 40), (.p (.ibin .eql (.tmp 7) (.cst (.int .i64 56)))), none⟩,
 ⟨(some 39), (.p (.mov (.tmp 40))), none⟩])
 (.cond (.tmp 39) (.reg [⟨(some 4), (.p (.mov (.cst (.int .i64 1)))), none⟩,
 ⟨(some 6), (.p (.mov (.cst (.int .i64 20)))), none⟩])
 (.seq (.seq (.reg [⟨(some 42), (.p (.ibin .eql (.tmp 7) (.cst (.int .i64 60)))), none⟩,
 ⟨(some 41), (.p (.mov (.tmp 42))), none⟩])
 (.cond (.tmp 41) .skip
 (.seq (.reg [⟨(some 43), (.p (.ibin .eql (.tmp 7) (.cst (.int .i64 61)))), none⟩,
 ⟨(some 41), (.p (.mov (.tmp 43))), none⟩])
 (.cond (.tmp 41) .skip
 (.seq (.reg [⟨(some 44), (.p (.ibin .eql (.tmp 7) (.cst (.int .i64 62)))), none⟩,
 ⟨(some 41), (.p (.mov (.tmp 44))), none⟩])
 (.cond (.tmp 41) .skip
 (.reg [⟨(some 45), (.p (.ibin .eql (.tmp 7) (.cst (.int .i64 63)))), none⟩,
 ⟨(some 41), (.p (.mov (.tmp 45))), none⟩])))))))
 (.cond (.tmp 41) (.reg [⟨(some 4), (.p (.mov (.cst (.int .i64 3)))), none⟩,
 ⟨(some 5), (.p (.mov (.cst (.int .i64 3)))), none⟩,
 ⟨(some 6), (.p (.mov (.cst (.int .i64 100)))), none⟩])
 (.seq (.seq (.reg [⟨(some 47), (.p (.ibin .eql (.tmp 7) (.cst (.int .i64 102)))), none⟩,
 ⟨(some 46), (.p (.mov (.tmp 47))), none⟩])
 (.cond (.tmp 46) .skip
 (.reg [⟨(some 48), (.p (.ibin .eql (.tmp 7) (.cst (.int .i64 103)))), none⟩,
 ⟨(some 46), (.p (.mov (.tmp 48))), none⟩])))
 (.cond (.tmp 46) (.reg [⟨(some 4), (.p (.mov (.cst (.int .i64 3)))), none⟩,
 ⟨(some 5), (.p (.mov (.cst (.int .i64 2)))), none⟩,
 ⟨(some 6), (.p (.mov (.cst (.int .i64 28)))), none⟩])
 (.seq (.reg [⟨(some 50), (.p (.ibin .eql (.tmp 7) (.cst (.int .i64 120)))), none⟩,
 ⟨(some 49), (.p (.mov (.tmp 50))), none⟩])
 (.cond (.tmp 49) (.reg [⟨(some 4), (.p (.mov (.cst (.int .i64 4)))), none⟩,
 ⟨(some 5), (.p (.mov (.cst (.int .i64 4)))), none⟩,
 ⟨(some 6), (.p (.mov (.cst (.int .i64 999)))), none⟩])
 (.seq (.reg [⟨(some 8), (.p (.build [(.int .i64 0), (.int .i64 0), (.int .i64 0), (.int .i64 0)] [])), none⟩,
 ⟨none, (.w (.store 4 (.tmp 2) (.tmp 8))), none⟩,
 ⟨(some 3), (.p (.mov (.cst (.bool false)))), none⟩])
 .ret)))))))))))))))))))))))))))))))))))))))
 (.seq (.reg [⟨(some 51), (.p (.mov (.tmp 0))), none⟩,
 ⟨(some 52), (.p (.mov (.tmp 4))), none⟩,
 ⟨(some 53), (.p (.mov (.tmp 5))), none⟩,
 ⟨(some 54), (.p (.mov (.tmp 6))), none⟩,
 ⟨(some 55), (.p (.build [(.int .i64 0), (.int .i64 0), (.int .i64 0), (.int .i64 0)] [(0, 1, (.tmp 51)), (1, 1, (.tmp 52)), (2, 1, (.tmp 53)), (3, 1, (.tmp 54))])), none⟩,
 ⟨none, (.w (.store 4 (.tmp 2) (.tmp 55))), none⟩,
 ⟨(some 3), (.p (.mov (.cst (.bool true)))), none⟩])
 .ret))))
def f105 : VF := { body := b105, res := [(.cell 2 (some 4)), (.tmp 3)] }
-- comptoir/element.size
def b106 : VC := (.seq (.reg [⟨(some 2), (.w (.box 4 (.tmp 0))), none⟩,
 ⟨(some 4), (.p (.mov (.cst (.int .i64 0)))), none⟩,
 ⟨(some 5), (.p (.mov (.cst (.int .i64 0)))), none⟩])
 (.seq (.seq (.reg [⟨(some 8), (.p (.fieldA 2 (.tmp 2))), none⟩,
 ⟨(some 9), (.r (.load none (.tmp 8))), none⟩,
 ⟨(some 10), (.p (.ibin .eql (.tmp 9) (.cst (.int .i64 0)))), none⟩])
 (.cond (.tmp 10) (.seq (.reg [⟨(some 11), (.p (.fieldA 3 (.tmp 2))), none⟩,
 ⟨(some 12), (.r (.load none (.tmp 11))), none⟩,
 ⟨(some 4), (.p (.mov (.tmp 12))), none⟩,
 ⟨(some 5), (.p (.mov (.cst (.int .i64 0)))), none⟩])
 .ret)
 .skip))
 (.seq (.seq (.reg [⟨(some 13), (.p (.mov (.tmp 1))), none⟩,
 ⟨(some 14), (.p (.len (.tmp 13))), none⟩,
 ⟨(some 15), (.p (.fieldA 2 (.tmp 2))), none⟩,
 ⟨(some 16), (.r (.load none (.tmp 15))), none⟩,
 ⟨(some 17), (.p (.ibin .lss (.tmp 14) (.tmp 16))), none⟩])
 (.cond (.tmp 17) (.seq (.reg [⟨(some 4), (.p (.mov (.cst (.int .i64 0)))), none⟩,
 ⟨(some 5), (.p (.mov (.cst (.int .i64 3)))), none⟩])
 .ret)
 .skip))
 (.seq (.reg [⟨(some 19), (.p (.mov (.tmp 1))), none⟩,
 ⟨(some 20), (.p (.fieldA 2 (.tmp 2))), none⟩,
 ⟨(some 21), (.r (.load none (.tmp 20))), none⟩,
 ⟨(some 22), (.p (.slice 1 (.tmp 19) none (some (.tmp 21)))), none⟩,
 ⟨(some 23), (.r (.bytesStr (.tmp 22))), none⟩,
 ⟨(some 24), (.r (.pcall (.cst (.fn 52 [] [])) [(.tmp 23)])), none⟩,
 ⟨(some 18), (.p (.mov (.tmp 24))), none⟩,
 ⟨(some 25), (.p (.ext (.tmp 18) 0)), none⟩,
 ⟨(some 26), (.p (.ext (.tmp 18) 1)), none⟩,
 ⟨(some 6), (.p (.mov (.tmp 25))), none⟩,
 ⟨(some 7), (.p (.mov (.tmp 26))), none⟩])
 (.seq (.block 0 (.seq (.reg [⟨(some 28), (.p (.mov (.tmp 7))), none⟩,
 ⟨(some 29), (.p (.ibin .neq (.tmp 28) (.cst (.int .i64 0)))), none⟩,
 ⟨(some 27), (.p (.mov (.tmp 29))), none⟩])
 (.cond (.tmp 27) (.seq (.reg [⟨(some 30), (.p (.mov (.tmp 7))), none⟩,
 ⟨(some 4), (.p (.mov (.cst (.int .i64 0)))), none⟩,
 ⟨(some 5), (.p (.mov (.tmp 30))), none⟩])
 .ret)
 (.seq (.reg [⟨(some 32), (.r (.load (some 4) (.tmp 2))), none⟩,
 ⟨(some 33), (.p (.mov (.tmp 6))), none⟩,
 ⟨(some 34), (.p (.conv (.toInt .i64) (.tmp 33))), none⟩,
 ⟨(some 35), (.r (.pcall (.cst (.fn 135 [] [])) [(.tmp 32), (.tmp 34)])), none⟩,
 ⟨(some 36), (.p (.un .not (.tmp 35))), none⟩,
 ⟨(some 31), (.p (.mov (.tmp 36))), none⟩])
 (.cond (.tmp 31) (.seq (.reg [⟨(some 4), (.p (.mov (.cst (.int .i64 0)))), none⟩,
 ⟨(some 5), (.p (.mov (.cst (.int .i64 17)))), none⟩])
 .ret)
 .skip)))))
 (.seq (.reg [⟨(some 37), (.p (.mov (.tmp 6))), none⟩,
 ⟨(some 38), (.p (.conv (.toInt .i64) (.tmp 37))), none⟩,
 ⟨(some 4), (.p (.mov (.tmp 38))), none⟩,
 ⟨(some 5), (.p (.mov (.cst (.int .i64 0)))), none⟩])
 .ret))))))
def f106 : VF := { body := b106, res := [(.tmp 4), (.tmp 5)] }
-- comptoir/element.right
def b107 : VC := (.seq (.reg [⟨(some 2), (.w (.box 4 (.tmp 0))), none⟩,
 ⟨(some 4), (.p (.mov (.cst (.int .i64 0)))), none⟩])
 (.seq (.seq (.draw [(⟨(some 5), (.p (.fieldA 1 (.tmp 2))), none⟩, 0, 0),
 (⟨(some 6), (.r (.load none (.tmp 5))), none⟩, 0, 0),
 (⟨(some 7), (.r (.pcall (.cst (.fn 136 [] [])) [(.tmp 6)])), none⟩, 0, 0),
 (⟨(some 8), (.p (.mov (.tmp 1))), none⟩, 0, 0),
 (⟨(some 9), (.r (.bytesStr (.tmp 8))), none⟩, 0, 0),
 (⟨(some 10), (.p (.fieldA 3 (.tmp 2))), none⟩, 0, 0),
 (⟨(some 11), (.r (.load none (.tmp 10))), none⟩, 0, 0),
 (⟨(some 12), (.w (.call (.tmp 7) [(.tmp 9), (.tmp 11)])), none⟩, 0, 0),
 (⟨(some 13), (.p (.un .not (.tmp 12))), none⟩, 1, 1)])
 (.cond (.tmp 13) (.seq (.reg [⟨(some 4), (.p (.mov (.cst (.int .i64 14)))), none⟩])
 .ret)
 .skip))
 (.seq (.reg [⟨(some 4), (.p (.mov (.cst (.int .i64 0)))), none⟩])
 .ret)))
def f107 : VF := { body := b107, res := [(.tmp 4)] }
-- comptoir/text.all
def b110 : VC := (.seq (.reg [⟨(some 4), (.p (.mov (.cst (.bool false)))), none⟩])
 (.seq (.seq (.reg [⟨(some 9), (.p (.mov (.tmp 0))), none⟩,
 ⟨(some 10), (.p (.lenStr (.tmp 9))), none⟩,
 ⟨(some 11), (.p (.mov (.cst (.int .i64 0)))), none⟩])
 (.block 0 (.loop (.seq (.reg [⟨(some 12), (.p (.ibin .lss (.tmp 11) (.tmp 10))), none⟩])
 (.seq (.cond (.tmp 12) .skip
 (.exit 0))
 (.seq (.block 1 (.seq (.reg [⟨(some 13), (.p (.mov (.tmp 11))), none⟩,
 ⟨(some 5), (.p (.mov (.tmp 13))), none⟩])
 (.seq (.reg [⟨(some 6), (.p (.mov (.cst (.bool false)))), none⟩])
 (.seq (.seq (.reg [⟨(some 14), (.p (.mov (.tmp 1))), none⟩,
 ⟨(some 15), (.p (.len (.tmp 14))), none⟩,
 ⟨(some 16), (.p (.mov (.cst (.int .i64 0)))), none⟩])
 (.block 2 (.loop (.seq (.reg [⟨(some 17), (.p (.ibin .lss (.tmp 16) (.tmp 15))), none⟩])
 (.seq (.cond (.tmp 17) .skip
 (.exit 2))
 (.seq (.block 3 (.seq (.reg [⟨(some 18), (.p (.idxA 1 (.tmp 14) (.tmp 16))), none⟩,
 ⟨(some 19), (.r (.load none (.tmp 18))), none⟩,
 ⟨(some 8), (.p (.mov (.tmp 19))), none⟩])
 (.reg [⟨(some 20), (.p (.mov (.tmp 6))), none⟩,
 ⟨(some 21), (.p (.mov (.tmp 20))), none⟩,
 ⟨(some 22), (.p (.mov (.tmp 8))), (some (21, false))⟩,
 ⟨(some 23), (.p (.mov (.tmp 0))), (some (21, false))⟩,
 ⟨(some 24), (.p (.mov (.tmp 5))), (some (21, false))⟩,
 ⟨(some 25), (.p (.idxStr (.tmp 23) (.tmp 24))), (some (21, false))⟩,
 ⟨(some 26), (.w (.call (.tmp 22) [(.tmp 25)])), (some (21, false))⟩,
 ⟨(some 27), (.p (.pick (.tmp 21) (.cst (.bool true)) (.tmp 26))), none⟩,
 ⟨(some 6), (.p (.mov (.tmp 27))), none⟩])))
 (.reg [⟨(some 28), (.p (.ibin .add (.tmp 16) (.cst (.int .i64 1)))), none⟩,
 ⟨(some 16), (.p (.mov (.tmp 28))), none⟩])))))))
 (.seq (.reg [⟨(some 29), (.p (.mov (.tmp 6))), none⟩,
 ⟨(some 30), (.p (.un .not (.tmp 29))), none⟩])
 (.cond (.tmp 30) (.seq (.reg [⟨(some 4), (.p (.mov (.cst (.bool false)))), none⟩])
 .ret)
 .skip))))))
 (.reg [⟨(some 31), (.p (.ibin .add (.tmp 11) (.cst (.int .i64 1)))), none⟩,
 ⟨(some 11), (.p (.mov (.tmp 31))), none⟩])))))))
 (.seq (.reg [⟨(some 4), (.p (.mov (.cst (.bool true)))), none⟩])
 .ret)))
def f110 : VF := { body := b110, res := [(.tmp 4)] }
-- (comptoir/text.span).has
def b111 : VC := (.seq (.reg [⟨(some 2), (.w (.box 2 (.tmp 0))), none⟩,
 ⟨(some 4), (.p (.mov (.cst (.bool false)))), none⟩])
 (.seq (.reg [⟨(some 5), (.p (.mov (.tmp 1))), none⟩,
 ⟨(some 6), (.p (.fieldA 0 (.tmp 2))), none⟩,
 ⟨(some 7), (.r (.load none (.tmp 6))), none⟩,
 ⟨(some 8), (.p (.ibin .geq (.tmp 5) (.tmp 7))), none⟩,
 ⟨(some 9), (.p (.mov (.tmp 8))), none⟩,
 ⟨(some 10), (.p (.mov (.tmp 1))), (some (9, true))⟩,
 ⟨(some 11), (.p (.fieldA 1 (.tmp 2))), (some (9, true))⟩,
 ⟨(some 12), (.r (.load none (.tmp 11))), (some (9, true))⟩,
 ⟨(some 13), (.p (.ibin .leq (.tmp 10) (.tmp 12))), (some (9, true))⟩,
 ⟨(some 14), (.p (.pick (.tmp 9) (.tmp 13) (.cst (.bool false)))), none⟩,
 ⟨(some 4), (.p (.mov (.tmp 14))), none⟩])
 .ret))
def f111 : VF := { body := b111, res := [(.tmp 4)] }
-- comptoir/digits.UnHex$1
def b118 : VC := (.seq (.reg [⟨(some 3), (.p (.mov (.cst (.bool false)))), none⟩])
 (.seq (.reg [⟨(some 4), (.r (.load none (.tmp 1))), none⟩,
 ⟨(some 5), (.p (.mov (.tmp 0))), none⟩,
 ⟨(some 6), (.w (.call (.tmp 4) [(.cst (.str [48, 49, 50, 51, 52, 53, 54, 55, 56, 57, 65, 66, 67, 68, 69, 70])), (.tmp 5)])), none⟩,
 ⟨(some 3), (.p (.mov (.tmp 6))), none⟩])
 .ret))
def f118 : VF := { body := b118, res := [(.tmp 3)] }
-- comptoir/codes.find
def b119 : VC := (.seq (.reg [⟨(some 2), (.w (.alloc [(.str []), (.str []), (.str [])])), none⟩,
 ⟨(some 3), (.p (.mov (.cst (.bool false)))), none⟩])
 (.seq (.reg [⟨(some 6), (.r (.pcall (.cst (.fn 147 [] [])) [])), none⟩,
 ⟨(some 4), (.p (.mov (.tmp 6))), none⟩])
 (.seq (.reg [⟨(some 7), (.p (.mov (.tmp 4))), none⟩,
 ⟨(some 8), (.p (.mov (.tmp 0))), none⟩,
 ⟨(some 9), (.r (.pcall (.cst (.fn 148 [] [])) [(.tmp 7), (.tmp 8)])), none⟩,
 ⟨(some 5), (.p (.mov (.tmp 9))), none⟩])
 (.seq (.seq (.reg [⟨(some 10), (.p (.mov (.tmp 5))), none⟩,
 ⟨(some 11), (.p (.ibin .lss (.tmp 10) (.cst (.int .i64 0)))), none⟩])
 (.cond (.tmp 11) (.seq (.reg [⟨(some 12), (.p (.build [(.str []), (.str []), (.str [])] [])), none⟩,
 ⟨none, (.w (.store 3 (.tmp 2) (.tmp 12))), none⟩,
 ⟨(some 3), (.p (.mov (.cst (.bool false)))), none⟩])
 .ret)
 .skip))
 (.seq (.reg [⟨(some 13), (.p (.mov (.tmp 4))), none⟩,
 ⟨(some 14), (.p (.mov (.tmp 5))), none⟩,
 ⟨(some 15), (.p (.idxA 3 (.tmp 13) (.tmp 14))), none⟩,
 ⟨(some 16), (.r (.load (some 3) (.tmp 15))), none⟩,
 ⟨none, (.w (.store 3 (.tmp 2) (.tmp 16))), none⟩,
 ⟨(some 3), (.p (.mov (.cst (.bool true)))), none⟩])
 .ret)))))
def f119 : VF := { body := b119, res := [(.cell 2 (some 3)), (.tmp 3)] }
-- (comptoir/codes.key).byAction
def b120 : VC := (.seq (.reg [⟨(some 2), (.w (.box 3 (.tmp 0))), none⟩,
 ⟨(some 3), (.w (.box 3 (.tmp 1))), none⟩,
 ⟨(some 4), (.p (.mov (.cst (.bool false)))), none⟩])
 (.seq (.reg [⟨(some 5), (.p (.fieldA 0 (.tmp 3))), none⟩,
 ⟨(some 6), (.r (.load none (.tmp 5))), none⟩,
 ⟨(some 7), (.p (.fieldA 0 (.tmp 2))), none⟩,
 ⟨(some 8), (.r (.load none (.tmp 7))), none⟩,
 ⟨(some 9), (.p (.ibin .eql (.tmp 6) (.tmp 8))), none⟩,
 ⟨(some 4), (.p (.mov (.tmp 9))), none⟩])
 .ret))
def f120 : VF := { body := b120, res := [(.tmp 4)] }
-- (*comptoir/tlv.walk).tag
def b121 : VC := (.seq (.reg [⟨(some 2), (.p (.mov (.cst (.int .i64 0)))), none⟩,
 ⟨(some 3), (.p (.mov (.cst (.int .i64 0)))), none⟩])
 (.seq (.reg [⟨(some 8), (.p (.mov (.tmp 0))), none⟩,
 ⟨(some 9), (.p (.nilck (.tmp 8))), none⟩,
 ⟨(some 10), (.p (.fieldA 0 (.tmp 9))), none⟩,
 ⟨(some 11), (.r (.load none (.tmp 10))), none⟩,
 ⟨(some 12), (.w (.call (.cst (.fn 149 [] [])) [(.tmp 11), (.cst (.int .i64 1))])), none⟩,
 ⟨(some 7), (.p (.mov (.tmp 12))), none⟩,
 ⟨(some 13), (.p (.ext (.tmp 7) 0)), none⟩,
 ⟨(some 14), (.p (.ext (.tmp 7) 1)), none⟩,
 ⟨(some 4), (.p (.mov (.tmp 13))), none⟩,
 ⟨(some 5), (.p (.mov (.tmp 14))), none⟩])
 (.seq (.seq (.reg [⟨(some 15), (.p (.mov (.tmp 5))), none⟩,
 ⟨(some 16), (.p (.ibin .neq (.tmp 15) (.cst (.int .i64 0)))), none⟩])
 (.cond (.tmp 16) (.seq (.reg [⟨(some 17), (.p (.mov (.tmp 5))), none⟩,
 ⟨(some 2), (.p (.mov (.cst (.int .i64 0)))), none⟩,
 ⟨(some 3), (.p (.mov (.tmp 17))), none⟩])
 .ret)
 .skip))
 (.seq (.reg [⟨(some 18), (.p (.mov (.tmp 4))), none⟩,
 ⟨(some 19), (.p (.conv (.toInt .i64) (.tmp 18))), none⟩,
 ⟨(some 6), (.p (.mov (.tmp 19))), none⟩])
 (.seq (.seq (.reg [⟨(some 20), (.p (.mov (.tmp 6))), none⟩,
 ⟨(some 21), (.r (.pcall (.cst (.fn 150 [] [])) [(.tmp 20)])), none⟩])
 (.cond (.tmp 21) (.seq (.reg [⟨(some 23), (.p (.mov (.tmp 0))), none⟩,
 ⟨(some 24), (.p (.nilck (.tmp 23))), none⟩,
 ⟨(some 25), (.p (.fieldA 0 (.tmp 24))), none⟩,
 ⟨(some 26), (.r (.load none (.tmp 25))), none⟩,
 ⟨(some 27), (.w (.call (.cst (.fn 149 [] [])) [(.tmp 26), (.cst (.int .i64 1))])), none⟩,
 ⟨(some 22), (.p (.mov (.tmp 27))), none⟩,
 ⟨(some 28), (.p (.ext (.tmp 22) 0)), none⟩,
 ⟨(some 29), (.p (.ext (.tmp 22) 1)), none⟩,
 ⟨(some 4), (.p (.mov (.tmp 28))), none⟩,
 ⟨(some 5), (.p (.mov (.tmp 29))), none⟩])
 (.seq (.seq (.reg [⟨(some 30), (.p (.mov (.tmp 5))), none⟩,
 ⟨(some 31), (.p (.ibin .neq (.tmp 30) (.cst (.int .i64 0)))), none⟩])
 (.cond (.tmp 31) (.seq (.reg [⟨(some 32), (.p (.mov (.tmp 5))), none⟩,
 ⟨(some 2), (.p (.mov (.cst (.int .i64 0)))), none⟩,
 ⟨(some 3), (.p (.mov (.tmp 32))), none⟩])
 .ret)
 .skip))
 (.reg [⟨(some 33), (.p (.mov (.tmp 6))), none⟩,
 ⟨(some 34), (.p (.ibin .shl (.tmp 33) (.cst (.int .u64 8)))), none⟩,
 ⟨(some 35), (.p (.mov (.tmp 4))), none⟩,
 ⟨(some 36), (.p (.conv (.toInt .i64) (.tmp 35))), none⟩,
 ⟨(some 37), (.p (.ibin .or (.tmp 34) (.tmp 36))), none⟩,
 ⟨(some 6), (.p (.mov (.tmp 37))), none⟩])))
 .skip))
 (.seq (.seq (.reg [⟨(some 38), (.p (.mov (.tmp 6))), none⟩,
 ⟨(some 39), (.r (.pcall (.cst (.fn 123 [] [])) [(.tmp 38)])), none⟩,
 ⟨(some 40), (.p (.un .not (.tmp 39))), none⟩,
 ⟨(some 41), (.p (.mov (.tmp 40))), none⟩,
 ⟨(some 42), (.p (.mov (.tmp 0))), (some (41, false))⟩,
 ⟨(some 43), (.p (.nilck (.tmp 42))), (some (41, false))⟩,
 ⟨(some 44), (.p (.fieldA 1 (.tmp 43))), (some (41, false))⟩,
 ⟨(some 45), (.r (.load none (.tmp 44))), (some (41, false))⟩,
 ⟨(some 46), (.p (.mov (.tmp 6))), (some (41, false))⟩,
 ⟨(some 47), (.r (.pcall (.cst (.fn 124 [] [])) [(.tmp 45), (.tmp 46)])), (some (41, false))⟩,
 ⟨(some 48), (.p (.pick (.tmp 41) (.cst (.bool true)) (.tmp 47))), none⟩])
 (.cond (.tmp 48) (.seq (.reg [⟨(some 2), (.p (.mov (.cst (.int .i64 0)))), none⟩,
 ⟨(some 3), (.p (.mov (.cst (.int .i64 18)))), none⟩])
 .ret)
 .skip))
 (.seq (.reg [⟨(some 49), (.p (.mov (.tmp 6))), none⟩,
 ⟨(some 2), (.p (.mov (.tmp 49))), none⟩,
 ⟨(some 3), (.p (.mov (.cst (.int .i64 0)))), none⟩])
 .ret)))))))
def f121 : VF := { body := b121, res := [(.tmp 2), (.tmp 3)] }
-- comptoir/tlv.right
def b123 : VC := (.seq (.reg [⟨(some 2), (.p (.mov (.cst (.bool false)))), none⟩])
 (.seq (.seq (.reg [⟨(some 3), (.p (.mov (.tmp 0))), none⟩,
 ⟨(some 4), (.p (.ibin .gtr (.tmp 3) (.cst (.int .i64 0)))), none⟩,
 ⟨(some 5), (.p (.mov (.tmp 4))), none⟩,
 ⟨(some 6), (.p (.mov (.tmp 0))), (some (5, true))⟩,
 ⟨(some 7), (.p (.ibin .lss (.tmp 6) (.cst (.int .i64 255)))), (some (5, true))⟩,
 ⟨(some 8), (.p (.pick (.tmp 5) (.tmp 7) (.cst (.bool false)))), none⟩])
 (.cond (.tmp 8) (.seq (.reg [⟨(some 9), (.p (.mov (.tmp 0))), none⟩,
 ⟨(some 10), (.p (.ibin .and (.tmp 9) (.cst (.int .i64 31)))), none⟩,
 ⟨(some 11), (.p (.ibin .neq (.tmp 10) (.cst (.int .i64 31)))), none⟩,
 ⟨(some 2), (.p (.mov (.tmp 11))), none⟩])
 .ret)
 .skip))
 (.seq (.reg [⟨(some 12), (.p (.mov (.tmp 0))), none⟩,
 ⟨(some 13), (.p (.ibin .shr (.tmp 12) (.cst (.int .u64 8)))), none⟩,
 ⟨(some 14), (.p (.ibin .lss (.tmp 13) (.cst (.int .i64 255)))), none⟩,
 ⟨(some 15), (.p (.mov (.tmp 14))), none⟩,
 ⟨(some 16), (.p (.mov (.tmp 0))), (some (15, true))⟩,
 ⟨(some 17), (.p (.ibin .gtr (.tmp 16) (.cst (.int .i64 255)))), (some (15, true))⟩,
 ⟨(some 18), (.p (.pick (.tmp 15) (.tmp 17) (.cst (.bool false)))), none⟩,
 ⟨(some 19), (.p (.mov (.tmp 18))), none⟩,
 ⟨(some 20), (.p (.mov (.tmp 0))), (some (19, true))⟩,
 ⟨(some 21), (.p (.ibin .shr (.tmp 20) (.cst (.int .u64 8)))), (some (19, true))⟩,
 ⟨(some 22), (.r (.pcall (.cst (.fn 150 [] [])) [(.tmp 21)])), (some (19, true))⟩,
 ⟨(some 23), (.p (.pick (.tmp 19) (.tmp 22) (.cst (.bool false)))), none⟩,
 ⟨(some 24), (.p (.mov (.tmp 23))), none⟩,
 ⟨(some 25), (.p (.mov (.tmp 0))), (some (24, true))⟩,
 ⟨(some 26), (.p (.ibin .and (.tmp 25) (.cst (.int .i64 255)))), (some (24, true))⟩,
 ⟨(some 27), (.p (.ibin .lss (.tmp 26) (.cst (.int .i64 128)))), (some (24, true))⟩,
 ⟨(some 28), (.p (.pick (.tmp 24) (.tmp 27) (.cst (.bool false)))), none⟩,
 ⟨(some 2), (.p (.mov (.tmp 28))), none⟩])
 .ret)))
def f123 : VF := { body := b123, res := [(.tmp 2)] }
-- comptoir/text.Ans
def b126 : VC := (.seq (.reg [⟨(some 4), (.p (.mov (.cst (.bool false)))), none⟩])
 (.seq (.reg [⟨(some 5), (.p (.mov (.tmp 0))), none⟩,
 ⟨(some 6), (.p (.lenStr (.tmp 5))), none⟩,
 ⟨(some 7), (.p (.ibin .geq (.tmp 6) (.cst (.int .i64 1)))), none⟩,
 ⟨(some 8), (.p (.mov (.tmp 7))), none⟩,
 ⟨(some 9), (.p (.mov (.tmp 0))), (some (8, true))⟩,
 ⟨(some 10), (.p (.lenStr (.tmp 9))), (some (8, true))⟩,
 ⟨(some 11), (.p (.mov (.tmp 1))), (some (8, true))⟩,
 ⟨(some 12), (.p (.ibin .leq (.tmp 10) (.tmp 11))), (some (8, true))⟩,
 ⟨(some 13), (.p (.pick (.tmp 8) (.tmp 12) (.cst (.bool false)))), none⟩,
 ⟨(some 14), (.p (.mov (.tmp 13))), none⟩,
 ⟨(some 15), (.p (.mov (.tmp 0))), (some (14, true))⟩,
 ⟨(some 16), (.p (.build [(.int .u8 0), (.int .u8 0)] [(0, 1, (.cst (.int .u8 32))), (1, 1, (.cst (.int .u8 126)))])), (some (14, true))⟩,
 ⟨(some 17), (.p (.mkfn 111 [(.tmp 16)] [])), (some (14, true))⟩,
 ⟨(some 18), (.p (.lit 1 .nilfn 1 [(0, (.tmp 17))])), (some (14, true))⟩,
 ⟨(some 19), (.w (.call (.cst (.fn 110 [] [])) [(.tmp 15), (.tmp 18)])), (some (14, true))⟩,
 ⟨(some 20), (.p (.pick (.tmp 14) (.tmp 19) (.cst (.bool false)))), none⟩,
 ⟨(some 4), (.p (.mov (.tmp 20))), none⟩])
 .ret))
def f126 : VF := { body := b126, res := [(.tmp 4)] }
-- (comptoir/bitmap.bits).set
def b127 : VC := (.draw [(⟨(some 4), (.p (.mov (.tmp 0))), none⟩, 0, 0),
 (⟨(some 5), (.p (.mov (.tmp 1))), none⟩, 0, 0),
 (⟨(some 6), (.p (.ibin .sub (.tmp 5) (.cst (.int .i64 1)))), none⟩, 0, 0),
 (⟨(some 7), (.p (.ibin .quo (.tmp 6) (.cst (.int .i64 8)))), none⟩, 0, 0),
 (⟨(some 8), (.p (.idxA 1 (.tmp 4) (.tmp 7))), none⟩, 0, 0),
 (⟨(some 9), (.r (.load none (.tmp 8))), none⟩, 0, 0),
 (⟨(some 10), (.p (.mov (.tmp 1))), none⟩, 0, 0),
 (⟨(some 11), (.p (.ibin .sub (.tmp 10) (.cst (.int .i64 1)))), none⟩, 0, 0),
 (⟨(some 12), (.p (.ibin .rem (.tmp 11) (.cst (.int .i64 8)))), none⟩, 0, 0),
 (⟨(some 13), (.p (.ibin .sub (.cst (.int .i64 7)) (.tmp 12))), none⟩, 0, 0),
 (⟨(some 14), (.p (.ibin .shl (.cst (.int .u8 1)) (.tmp 13))), none⟩, 0, 0),
 (⟨(some 15), (.p (.ibin .or (.tmp 9) (.tmp 14))), none⟩, 0, 0),
 (⟨(some 16), (.p (.idxA 1 (.tmp 4) (.tmp 7))), none⟩, 0, 0),
 (⟨none, (.w (.store 1 (.tmp 16) (.tmp 15))), none⟩, 0, 0)])
def f127 : VF := { body := b127, res := [] }
-- slices.Grow[[]byte,byte]
def b128 : VC := (.seq (.reg [⟨(some 4), (.p (.mov (.cst .nilsl))), none⟩])
 (.seq (.seq (.reg [⟨(some 5), (.p (.mov (.tmp 1))), none⟩,
 ⟨(some 6), (.p (.ibin .lss (.tmp 5) (.cst (.int .i64 0)))), none⟩])
 (.cond (.tmp 6) (.reg [⟨(some 7), (.w .bad), none⟩,
 ⟨none, (.w .bad), none⟩])
 .skip))
 (.seq (.seq (.reg [⟨(some 8), (.p (.mov (.tmp 1))), none⟩,
 ⟨(some 9), (.p (.mov (.tmp 0))), none⟩,
 ⟨(some 10), (.p (.cap (.tmp 9))), none⟩,
 ⟨(some 11), (.p (.mov (.tmp 0))), none⟩,
 ⟨(some 12), (.p (.len (.tmp 11))), none⟩,
 ⟨(some 13), (.p (.ibin .sub (.tmp 10) (.tmp 12))), none⟩,
 ⟨(some 14), (.p (.ibin .sub (.tmp 8) (.tmp 13))), none⟩,
 ⟨(some 1), (.p (.mov (.tmp 14))), none⟩])
 (.seq (.reg [⟨(some 15), (.p (.mov (.tmp 1))), none⟩,
 ⟨(some 16), (.p (.ibin .gtr (.tmp 15) (.cst (.int .i64 0)))), none⟩])
 (.cond (.tmp 16) (.reg [⟨(some 17), (.p (.mov (.tmp 0))), none⟩,
 ⟨(some 18), (.p (.mov (.tmp 0))), none⟩,
 ⟨(some 19), (.p (.cap (.tmp 18))), none⟩,
 ⟨(some 20), (.p (.slice 1 (.tmp 17) none (some (.tmp 19)))), none⟩,
 ⟨(some 21), (.p (.mov (.tmp 1))), none⟩,
 ⟨(some 22), (.w (.appendN 1 1 (.int .u8 0) (.tmp 20) (.tmp 21))), none⟩,
 ⟨(some 23), (.p (.mov (.tmp 0))), none⟩,
 ⟨(some 24), (.p (.len (.tmp 23))), none⟩,
 ⟨(some 25), (.p (.slice 1 (.tmp 22) none (some (.tmp 24)))), none⟩,
 ⟨(some 0), (.p (.mov (.tmp 25))), none⟩])
 .skip)))
 (.seq (.reg [⟨(some 26), (.p (.mov (.tmp 0))), none⟩,
 ⟨(some 4), (.p (.mov (.tmp 26))), none⟩])
 .ret))))
def f128 : VF := { body := b128, res := [(.tmp 4)] }
-- comptoir/element.Check
def b129 : VC := (.seq (.reg [⟨(some 1), (.w (.box 2 (.tmp 0))), none⟩,
 ⟨(some 2), (.p (.mov (.cst (.int .i64 0)))), none⟩])
 (.seq (.reg [⟨(some 6), (.p (.fieldA 0 (.tmp 1))), none⟩,
 ⟨(some 7), (.r (.load none (.tmp 6))), none⟩,
 ⟨(some 8), (.r (.pcall (.cst (.fn 105 [] [])) [(.tmp 7)])), none⟩,
 ⟨(some 5), (.p (.mov (.tmp 8))), none⟩,
 ⟨(some 9), (.p (.ext (.tmp 5) 0)), none⟩,
 ⟨(some 10), (.p (.ext (.tmp 5) 1)), none⟩,
 ⟨(some 3), (.w (.alloc [(.int .i64 0), (.int .i64 0), (.int .i64 0), (.int .i64 0)])), none⟩,
 ⟨none, (.w (.store 4 (.tmp 3) (.tmp 9))), none⟩,
 ⟨(some 4), (.p (.mov (.tmp 10))), none⟩])
 (.seq (.block 0 (.seq (.reg [⟨(some 12), (.p (.mov (.tmp 4))), none⟩,
 ⟨(some 13), (.p (.un .not (.tmp 12))), none⟩,
 ⟨(some 11), (.p (.mov (.tmp 13))), none⟩])
 (.cond (.tmp 11) (.seq (.reg [⟨(some 2), (.p (.mov (.cst (.int .i64 16)))), none⟩])
 .ret)
 (.seq (.reg [⟨(some 15), (.r (.load (some 4) (.tmp 3))), none⟩,
 ⟨(some 16), (.p (.fieldA 1 (.tmp 1))), none⟩,
 ⟨(some 17), (.r (.load none (.tmp 16))), none⟩,
 ⟨(some 18), (.p (.len (.tmp 17))), none⟩,
 ⟨(some 19), (.r (.pcall (.cst (.fn 135 [] [])) [(.tmp 15), (.tmp 18)])), none⟩,
 ⟨(some 20), (.p (.un .not (.tmp 19))), none⟩,
 ⟨(some 14), (.p (.mov (.tmp 20))), none⟩])
 (.cond (.tmp 14) (.seq (.reg [⟨(some 2), (.p (.mov (.cst (.int .i64 17)))), none⟩])
 .ret)
 .skip)))))
 (.seq (.reg [⟨(some 21), (.r (.load (some 4) (.tmp 3))), none⟩,
 ⟨(some 22), (.p (.fieldA 1 (.tmp 1))), none⟩,
 ⟨(some 23), (.r (.load none (.tmp 22))), none⟩,
 ⟨(some 24), (.r (.pcall (.cst (.fn 107 [] [])) [(.tmp 21), (.tmp 23)])), none⟩,
 ⟨(some 2), (.p (.mov (.tmp 24))), none⟩])
 .ret))))
def f129 : VF := { body := b129, res := [(.tmp 2)] }
-- comptoir/digits.Text
def b130 : VC := (.seq (.reg [⟨(some 4), (.p (.mov (.cst (.str [])))), none⟩,
 ⟨(some 5), (.p (.mov (.cst (.int .i64 0)))), none⟩])
 (.seq (.seq (.reg [⟨(some 7), (.p (.mov (.tmp 1))), none⟩,
 ⟨(some 8), (.p (.ibin .lss (.tmp 7) (.cst (.int .i64 1)))), none⟩,
 ⟨(some 9), (.p (.mov (.tmp 8))), none⟩,
 ⟨(some 10), (.p (.mov (.tmp 1))), (some (9, false))⟩,
 ⟨(some 11), (.p (.ibin .gtr (.tmp 10) (.cst (.int .i64 20)))), (some (9, false))⟩,
 ⟨(some 12), (.p (.pick (.tmp 9) (.cst (.bool true)) (.tmp 11))), none⟩])
 (.cond (.tmp 12) (.seq (.reg [⟨(some 4), (.p (.mov (.cst (.str [])))), none⟩,
 ⟨(some 5), (.p (.mov (.cst (.int .i64 1)))), none⟩])
 .ret)
 .skip))
 (.seq (.reg [⟨(some 13), (.p (.mov (.tmp 0))), none⟩,
 ⟨(some 14), (.r (.pcall (.cst (.fn 153 [] [])) [(.tmp 13), (.cst (.int .i64 10))])), none⟩,
 ⟨(some 6), (.p (.mov (.tmp 14))), none⟩])
 (.seq (.seq (.reg [⟨(some 15), (.p (.mov (.tmp 6))), none⟩,
 ⟨(some 16), (.p (.lenStr (.tmp 15))), none⟩,
 ⟨(some 17), (.p (.mov (.tmp 1))), none⟩,
 ⟨(some 18), (.p (.ibin .gtr (.tmp 16) (.tmp 17))), none⟩])
 (.cond (.tmp 18) (.seq (.reg [⟨(some 4), (.p (.mov (.cst (.str [])))), none⟩,
 ⟨(some 5), (.p (.mov (.cst (.int .i64 4)))), none⟩])
 .ret)
 .skip))
 (.seq (.reg [⟨(some 19), (.p (.mov (.tmp 1))), none⟩,
 ⟨(some 20), (.p (.mov (.tmp 6))), none⟩,
 ⟨(some 21), (.p (.lenStr (.tmp 20))), none⟩,
 ⟨(some 22), (.p (.ibin .sub (.tmp 19) (.tmp 21))), none⟩,
 ⟨(some 23), (.r (.pcall (.cst (.fn 131 [] [])) [(.cst (.str [48])), (.tmp 22)])), none⟩,
 ⟨(some 24), (.p (.mov (.tmp 6))), none⟩,
 ⟨(some 25), (.p (.ibin .add (.tmp 23) (.tmp 24))), none⟩,
 ⟨(some 4), (.p (.mov (.tmp 25))), none⟩,
 ⟨(some 5), (.p (.mov (.cst (.int .i64 0)))), none⟩])
 .ret)))))
def f130 : VF := { body := b130, res := [(.tmp 4), (.tmp 5)] }
-- slices.stableCmpFunc[comptoir/api.Element]
def b132 : VC := (.seq (.reg [⟨(some 6), (.p (.mov (.cst (.int .i64 20)))), none⟩])
 (.seq (.reg [⟨(some 10), (.p (.mov (.tmp 6))), none⟩,
 ⟨(some 7), (.p (.mov (.cst (.int .i64 0)))), none⟩,
 ⟨(some 8), (.p (.mov (.tmp 10))), none⟩])
 (.seq (.block 0 (.loop (.seq (.seq (.reg [⟨(some 11), (.p (.mov (.tmp 8))), none⟩,
 ⟨(some 12), (.p (.mov (.tmp 1))), none⟩,
 ⟨(some 13), (.p (.ibin .leq (.tmp 11) (.tmp 12))), none⟩])
 (.cond (.tmp 13) .skip
 (.exit 0)))
 (.block 1 (.seq (.reg [⟨(some 14), (.p (.mov (.tmp 0))), none⟩,
 ⟨(some 15), (.p (.mov (.tmp 7))), none⟩,
 ⟨(some 16), (.p (.mov (.tmp 8))), none⟩,
 ⟨(some 17), (.p (.mov (.tmp 2))), none⟩,
 ⟨(some 18), (.w (.call (.cst (.fn 159 [] [])) [(.tmp 14), (.tmp 15), (.tmp 16), (.tmp 17)])), none⟩])
 (.seq (.reg [⟨(some 19), (.p (.mov (.tmp 8))), none⟩,
 ⟨(some 7), (.p (.mov (.tmp 19))), none⟩])
 (.reg [⟨(some 20), (.p (.mov (.tmp 8))), none⟩,
 ⟨(some 21), (.p (.mov (.tmp 6))), none⟩,
 ⟨(some 22), (.p (.ibin .add (.tmp 20) (.tmp 21))), none⟩,
 ⟨(some 8), (.p (.mov (.tmp 22))), none⟩])))))))
 (.seq (.reg [⟨(some 23), (.p (.mov (.tmp 0))), none⟩,
 ⟨(some 24), (.p (.mov (.tmp 7))), none⟩,
 ⟨(some 25), (.p (.mov (.tmp 1))), none⟩,
 ⟨(some 26), (.p (.mov (.tmp 2))), none⟩,
 ⟨(some 27), (.w (.call (.cst (.fn 159 [] [])) [(.tmp 23), (.tmp 24), (.tmp 25), (.tmp 26)])), none⟩])
 (.block 2 (.loop (.seq (.seq (.reg [⟨(some 28), (.p (.mov (.tmp 6))), none⟩,
 ⟨(some 29), (.p (.mov (.tmp 1))), none⟩,
 ⟨(some 30), (.p (.ibin .lss (.tmp 28) (.tmp 29))), none⟩])
 (.cond (.tmp 30) .skip
 (.exit 2)))
 (.block 3 (.seq (.reg [⟨(some 31), (.p (.mov (.tmp 6))), none⟩,
 ⟨(some 32), (.p (.ibin .mul (.cst (.int .i64 2)) (.tmp 31))), none⟩,
 ⟨(some 7), (.p (.mov (.cst (.int .i64 0)))), none⟩,
 ⟨(some 8), (.p (.mov (.tmp 32))), none⟩])
 (.seq (.block 4 (.loop (.seq (.seq (.reg [⟨(some 33), (.p (.mov (.tmp 8))), none⟩,
 ⟨(some 34), (.p (.mov (.tmp 1))), none⟩,
 ⟨(some 35), (.p (.ibin .leq (.tmp 33) (.tmp 34))), none⟩])
 (.cond (.tmp 35) .skip
 (.exit 4)))
 (.block 5 (.seq (.reg [⟨(some 36), (.p (.mov (.tmp 0))), none⟩,
 ⟨(some 37), (.p (.mov (.tmp 7))), none⟩,
 ⟨(some 38), (.p (.mov (.tmp 7))), none⟩,
 ⟨(some 39), (.p (.mov (.tmp 6))), none⟩,
 ⟨(some 40), (.p (.ibin .add (.tmp 38) (.tmp 39))), none⟩,
 ⟨(some 41), (.p (.mov (.tmp 8))), none⟩,
 ⟨(some 42), (.p (.mov (.tmp 2))), none⟩,
 ⟨(some 43), (.w (.call (.cst (.fn 160 [] [])) [(.tmp 36), (.tmp 37), (.tmp 40), (.tmp 41), (.tmp 42)])), none⟩])
 (.seq (.reg [⟨(some 44), (.p (.mov (.tmp 8))), none⟩,
 ⟨(some 7), (.p (.mov (.tmp 44))), none⟩])
 (.reg [⟨(some 45), (.p (.mov (.tmp 8))), none⟩,
 ⟨(some 46), (.p (.mov (.tmp 6))), none⟩,
 ⟨(some 47), (.p (.ibin .mul (.cst (.int .i64 2)) (.tmp 46))), none⟩,
 ⟨(some 48), (.p (.ibin .add (.tmp 45) (.tmp 47))), none⟩,
 ⟨(some 8), (.p (.mov (.tmp 48))), none⟩])))))))
 (.seq (.seq (.reg [⟨(some 49), (.p (.mov (.tmp 7))), none⟩,
 ⟨(some 50), (.p (.mov (.tmp 6))), none⟩,
 ⟨(some 51), (.p (.ibin .add (.tmp 49) (.tmp 50))), none⟩,
 ⟨(some 9), (.p (.mov (.tmp 51))), none⟩])
 (.seq (.reg [⟨(some 52), (.p (.mov (.tmp 9))), none⟩,
 ⟨(some 53), (.p (.mov (.tmp 1))), none⟩,
 ⟨(some 54), (.p (.ibin .lss (.tmp 52) (.tmp 53))), none⟩])
 (.cond (.tmp 54) (.reg [⟨(some 55), (.p (.mov (.tmp 0))), none⟩,
 ⟨(some 56), (.p (.mov (.tmp 7))), none⟩,
 ⟨(some 57), (.p (.mov (.tmp 9))), none⟩,
 ⟨(some 58), (.p (.mov (.tmp 1))), none⟩,
 ⟨(some 59), (.p (.mov (.tmp 2))), none⟩,
 ⟨(some 60), (.w (.call (.cst (.fn 160 [] [])) [(.tmp 55), (.tmp 56), (.tmp 57), (.tmp 58), (.tmp 59)])), none⟩])
 .skip)))
 (.reg [⟨(some 61), (.p (.mov (.tmp 6))), none⟩,
 ⟨(some 62), (.p (.ibin .mul (.tmp 61) (.cst (.int .i64 2)))), none⟩,
 ⟨(some 6), (.p (.mov (.tmp 62))), none⟩]))))))))))))
def f132 : VF := { body := b132, res := [] }
-- cmp.isNaN[int]
def b133 : VC := (.seq (.reg [⟨(some 2), (.p (.mov (.cst (.bool false)))), none⟩])
 (.seq (.reg [⟨(some 3), (.p (.mov (.tmp 0))), none⟩,
 ⟨(some 4), (.p (.mov (.tmp 0))), none⟩,
 ⟨(some 5), (.p (.ibin .neq (.tmp 3) (.tmp 4))), none⟩,
 ⟨(some 2), (.p (.mov (.tmp 5))), none⟩])
 .ret))
def f133 : VF := { body := b133, res := [(.tmp 2)] }
-- comptoir/element.long
def b135 : VC := (.seq (.reg [⟨(some 2), (.w (.box 4 (.tmp 0))), none⟩,
 ⟨(some 4), (.p (.mov (.cst (.bool false)))), none⟩])
 (.seq (.reg [⟨(some 5), (.p (.mov (.tmp 1))), none⟩,
 ⟨(some 6), (.p (.fieldA 3 (.tmp 2))), none⟩,
 ⟨(some 7), (.r (.load none (.tmp 6))), none⟩,
 ⟨(some 8), (.p (.ibin .eql (.tmp 5) (.tmp 7))), none⟩,
 ⟨(some 9), (.p (.mov (.tmp 8))), none⟩,
 ⟨(some 10), (.p (.fieldA 2 (.tmp 2))), (some (9, false))⟩,
 ⟨(some 11), (.r (.load none (.tmp 10))), (some (9, false))⟩,
 ⟨(some 12), (.p (.ibin .gtr (.tmp 11) (.cst (.int .i64 0)))), (some (9, false))⟩,
 ⟨(some 13), (.p (.mov (.tmp 12))), (some (9, false))⟩,
 ⟨(some 14), (.p (.mov (.tmp 1))), (some (13, true))⟩,
 ⟨(some 15), (.p (.ibin .geq (.tmp 14) (.cst (.int .i64 1)))), (some (13, true))⟩,
 ⟨(some 16), (.p (.pick (.tmp 13) (.tmp 15) (.cst (.bool false)))), (some (9, false))⟩,
 ⟨(some 17), (.p (.mov (.tmp 16))), (some (9, false))⟩,
 ⟨(some 18), (.p (.mov (.tmp 1))), (some (17, true))⟩,
 ⟨(some 19), (.p (.fieldA 3 (.tmp 2))), (some (17, true))⟩,
 ⟨(some 20), (.r (.load none (.tmp 19))), (some (17, true))⟩,
 ⟨(some 21), (.p (.ibin .leq (.tmp 18) (.tmp 20))), (some (17, true))⟩,
 ⟨(some 22), (.p (.pick (.tmp 17) (.tmp 21) (.cst (.bool false)))), (some (9, false))⟩,
 ⟨(some 23), (.p (.pick (.tmp 9) (.cst (.bool true)) (.tmp 22))), none⟩,
 ⟨(some 4), (.p (.mov (.tmp 23))), none⟩])
 .ret))
def f135 : VF := { body := b135, res := [(.tmp 4)] }
-- comptoir/element.test
def b136 : VC := (.seq (.reg [⟨(some 2), (.p (.mov (.cst .nilfn))), none⟩])
 (.seq (.seq (.reg [⟨(some 3), (.p (.mov (.tmp 0))), none⟩])
 (.block 0 (.seq (.reg [⟨(some 5), (.p (.ibin .eql (.tmp 3) (.cst (.int .i64 1)))), none⟩,
 ⟨(some 4), (.p (.mov (.tmp 5))), none⟩])
 (.cond (.tmp 4) (.seq (.reg [⟨(some 2), (.p (.mov (.cst (.fn 162 [] [])))), none⟩])
 .ret)
 (.seq (.reg [⟨(some 7), (.p (.ibin .eql (.tmp 3) (.cst (.int .i64 2)))), none⟩,
 ⟨(some 6), (.p (.mov (.tmp 7))), none⟩])
 (.cond (.tmp 6) (.seq (.reg [⟨(some 2), (.p (.mov (.cst (.fn 163 [] [])))), none⟩])
 .ret)
 (.seq (.reg [⟨(some 9), (.p (.ibin .eql (.tmp 3) (.cst (.int .i64 3)))), none⟩,
 ⟨(some 8), (.p (.mov (.tmp 9))), none⟩])
 (.cond (.tmp 8) (.seq (.reg [⟨(some 2), (.p (.mov (.cst (.fn 164 [] [])))), none⟩])
 .ret)
 .skip))))))))
 (.seq (.reg [⟨(some 2), (.p (.mov (.cst (.fn 165 [] [])))), none⟩])
 .ret)))
def f136 : VF := { body := b136, res := [(.tmp 2)] }
-- comptoir/codes.table
def b147 : VC := (.seq (.reg [⟨(some 0), (.p (.mov (.cst .nilsl))), none⟩])
 (.seq (.reg [⟨(some 1), (.p (.build [(.str []), (.str []), (.str [])] [(0, 1, (.cst (.str [48, 48, 48]))), (1, 1, (.cst (.str [65, 80, 80, 82]))), (2, 1, (.cst (.str [78, 79, 82, 77])))])), none⟩,
 ⟨(some 2), (.p (.build [(.str []), (.str []), (.str [])] [(0, 1, (.cst (.str [48, 48, 49]))), (1, 1, (.cst (.str [65, 80, 80, 82]))), (2, 1, (.cst (.str [73, 68, 69, 78])))])), none⟩,
 ⟨(some 3), (.p (.build [(.str []), (.str []), (.str [])] [(0, 1, (.cst (.str [48, 48, 50]))), (1, 1, (.cst (.str [80, 65, 82, 84]))), (2, 1, (.cst (.str [78, 79, 82, 77])))])), none⟩,
 ⟨(some 4), (.p (.build [(.str []), (.str []), (.str [])] [(0, 1, (.cst (.str [49, 48, 48]))), (1, 1, (.cst (.str [68, 69, 67, 76]))), (2, 1, (.cst (.str [78, 79, 82, 77])))])), none⟩,
 ⟨(some 5), (.p (.build [(.str []), (.str []), (.str [])] [(0, 1, (.cst (.str [49, 48, 49]))), (1, 1, (.cst (.str [68, 69, 67, 76]))), (2, 1, (.cst (.str [69, 88, 80, 68])))])), none⟩,
 ⟨(some 6), (.p (.build [(.str []), (.str []), (.str [])] [(0, 1, (.cst (.str [49, 48, 50]))), (1, 1, (.cst (.str [68, 69, 67, 76]))), (2, 1, (.cst (.str [70, 82, 65, 85])))])), none⟩,
 ⟨(some 7), (.p (.build [(.str []), (.str []), (.str [])] [(0, 1, (.cst (.str [49, 48, 52]))), (1, 1, (.cst (.str [68, 69, 67, 76]))), (2, 1, (.cst (.str [82, 69, 83, 84])))])), none⟩,
 ⟨(some 8), (.p (.build [(.str []), (.str []), (.str [])] [(0, 1, (.cst (.str [49, 48, 57]))), (1, 1, (.cst (.str [68, 69, 67, 76]))), (2, 1, (.cst (.str [77, 82, 67, 72])))])), none⟩,
 ⟨(some 9), (.p (.build [(.str []), (.str []), (.str [])] [(0, 1, (.cst (.str [49, 49, 48]))), (1, 1, (.cst (.str [68, 69, 67, 76]))), (2, 1, (.cst (.str [65, 77, 78, 84])))])), none⟩,
 ⟨(some 10), (.p (.build [(.str []), (.str []), (.str [])] [(0, 1, (.cst (.str [49, 49, 54]))), (1, 1, (.cst (.str [68, 69, 67, 76]))), (2, 1, (.cst (.str [73, 78, 83, 70])))])), none⟩,
 ⟨(some 11), (.p (.build [(.str []), (.str []), (.str [])] [(0, 1, (.cst (.str [49, 49, 55]))), (1, 1, (.cst (.str [68, 69, 67, 76]))), (2, 1, (.cst (.str [80, 73, 78, 86])))])), none⟩,
 ⟨(some 12), (.p (.build [(.str []), (.str []), (.str [])] [(0, 1, (.cst (.str [49, 49, 56]))), (1, 1, (.cst (.str [68, 69, 67, 76]))), (2, 1, (.cst (.str [78, 79, 67, 68])))])), none⟩,
 ⟨(some 13), (.p (.build [(.str []), (.str []), (.str [])] [(0, 1, (.cst (.str [49, 50, 49]))), (1, 1, (.cst (.str [68, 69, 67, 76]))), (2, 1, (.cst (.str [76, 73, 77, 84])))])), none⟩,
 ⟨(some 14), (.p (.build [(.str []), (.str []), (.str [])] [(0, 1, (.cst (.str [50, 48, 48]))), (1, 1, (.cst (.str [80, 73, 67, 75]))), (2, 1, (.cst (.str [78, 79, 82, 77])))])), none⟩,
 ⟨(some 15), (.p (.build [(.str []), (.str []), (.str [])] [(0, 1, (.cst (.str [52, 48, 48]))), (1, 1, (.cst (.str [82, 86, 83, 76]))), (2, 1, (.cst (.str [78, 79, 82, 77])))])), none⟩,
 ⟨(some 16), (.p (.build [(.str []), (.str []), (.str [])] [(0, 1, (.cst (.str [53, 48, 48]))), (1, 1, (.cst (.str [82, 69, 67, 78]))), (2, 1, (.cst (.str [78, 79, 82, 77])))])), none⟩,
 ⟨(some 17), (.p (.build [(.str []), (.str []), (.str [])] [(0, 1, (.cst (.str [56, 48, 48]))), (1, 1, (.cst (.str [78, 69, 84, 87]))), (2, 1, (.cst (.str [78, 79, 82, 77])))])), none⟩,
 ⟨(some 18), (.p (.build [(.str []), (.str []), (.str [])] [(0, 1, (.cst (.str [57, 48, 52]))), (1, 1, (.cst (.str [84, 69, 67, 72]))), (2, 1, (.cst (.str [70, 79, 82, 77])))])), none⟩,
 ⟨(some 19), (.p (.build [(.str []), (.str []), (.str [])] [(0, 1, (.cst (.str [57, 48, 55]))), (1, 1, (.cst (.str [84, 69, 67, 72]))), (2, 1, (.cst (.str [73, 83, 83, 82])))])), none⟩,
 ⟨(some 20), (.p (.build [(.str []), (.str []), (.str [])] [(0, 1, (.cst (.str [57, 48, 57]))), (1, 1, (.cst (.str [84, 69, 67, 72]))), (2, 1, (.cst (.str [66, 85, 83, 89])))])), none⟩,
 ⟨(some 21), (.p (.build [(.str []), (.str []), (.str [])] [(0, 1, (.cst (.str [57, 49, 49]))), (1, 1, (.cst (.str [84, 69, 67, 72]))), (2, 1, (.cst (.str [84, 73, 77, 79])))])), none⟩,
 ⟨(some 22), (.p (.build [(.str []), (.str []), (.str [])] [(0, 1, (.cst (.str [57, 49, 50]))), (1, 1, (.cst (.str [84, 69, 67, 72]))), (2, 1, (.cst (.str [68, 79, 87, 78])))])), none⟩,
 ⟨(some 23), (.p (.lit 3 (.agg [(.str []), (.str []), (.str [])]) 22 [(0, (.tmp 1)), (1, (.tmp 2)), (2, (.tmp 3)), (3, (.tmp 4)), (4, (.tmp 5)), (5, (.tmp 6)), (6, (.tmp 7)), (7, (.tmp 8)), (8, (.tmp 9)), (9, (.tmp 10)), (10, (.tmp 11)), (11, (.tmp 12)), (12, (.tmp 13)), (13, (.tmp 14)), (14, (.tmp 15)), (15, (.tmp 16)), (16, (.tmp 17)), (17, (.tmp 18)), (18, (.tmp 19)), (19, (.tmp 20)), (20, (.tmp 21)), (21, (.tmp 22))])), none⟩,
 ⟨(some 0), (.p (.mov (.tmp 23))), none⟩])
 .ret))
def f147 : VF := { body := b147, res := [(.tmp 0)] }
-- slices.IndexFunc[[]comptoir/codes.row,comptoir/codes.row]
def b148 : VC := (.seq (.reg [⟨(some 4), (.p (.mov (.cst (.int .i64 0)))), none⟩])
 (.seq (.seq (.reg [⟨(some 6), (.p (.mov (.tmp 0))), none⟩,
 ⟨(some 7), (.p (.len (.tmp 6))), none⟩,
 ⟨(some 8), (.p (.mov (.cst (.int .i64 0)))), none⟩])
 (.block 0 (.loop (.seq (.reg [⟨(some 9), (.p (.ibin .lss (.tmp 8) (.tmp 7))), none⟩])
 (.seq (.cond (.tmp 9) .skip
 (.exit 0))
 (.seq (.block 1 (.seq (.reg [⟨(some 10), (.p (.mov (.tmp 8))), none⟩,
 ⟨(some 5), (.p (.mov (.tmp 10))), none⟩])
 (.seq (.reg [⟨(some 11), (.p (.mov (.tmp 1))), none⟩,
 ⟨(some 12), (.p (.mov (.tmp 0))), none⟩,
 ⟨(some 13), (.p (.mov (.tmp 5))), none⟩,
 ⟨(some 14), (.p (.idxA 3 (.tmp 12) (.tmp 13))), none⟩,
 ⟨(some 15), (.r (.load (some 3) (.tmp 14))), none⟩,
 ⟨(some 16), (.w (.call (.tmp 11) [(.tmp 15)])), none⟩])
 (.cond (.tmp 16) (.seq (.reg [⟨(some 17), (.p (.mov (.tmp 5))), none⟩,
 ⟨(some 4), (.p (.mov (.tmp 17))), none⟩])
 .ret)
 .skip))))
 (.reg [⟨(some 18), (.p (.ibin .add (.tmp 8) (.cst (.int .i64 1)))), none⟩,
 ⟨(some 8), (.p (.mov (.tmp 18))), none⟩])))))))
 (.seq (.reg [⟨(some 4), (.p (.mov (.cst (.int .i64 (-1))))), none⟩])
 .ret)))
def f148 : VF := { body := b148, res := [(.tmp 4)] }
-- (*comptoir/cursor.Cursor).Number
def b149 : VC := (.seq (.reg [⟨(some 4), (.p (.mov (.cst (.int .u64 0)))), none⟩,
 ⟨(some 5), (.p (.mov (.cst (.int .i64 0)))), none⟩])
 (.seq (.block 0 (.seq (.reg [⟨(some 12), (.p (.mov (.tmp 0))), none⟩,
 ⟨(some 13), (.p (.nileq 0 false (.tmp 12) (.cst .nilp))), none⟩,
 ⟨(some 11), (.p (.mov (.tmp 13))), none⟩])
 (.cond (.tmp 11) (.seq (.reg [⟨(some 4), (.p (.mov (.cst (.int .u64 0)))), none⟩,
 ⟨(some 5), (.p (.mov (.cst (.int .i64 2)))), none⟩])
 .ret)
 (.seq (.reg [⟨(some 15), (.p (.mov (.tmp 1))), none⟩,
 ⟨(some 16), (.p (.ibin .lss (.tmp 15) (.cst (.int .i64 1)))), none⟩,
 ⟨(some 17), (.p (.mov (.tmp 16))), none⟩,
 ⟨(some 18), (.p (.mov (.tmp 1))), (some (17, false))⟩,
 ⟨(some 19), (.p (.ibin .gtr (.tmp 18) (.cst (.int .i64 8)))), (some (17, false))⟩,
 ⟨(some 20), (.p (.pick (.tmp 17) (.cst (.bool true)) (.tmp 19))), none⟩,
 ⟨(some 14), (.p (.mov (.tmp 20))), none⟩])
 (.cond (.tmp 14) (.seq (.reg [⟨(some 4), (.p (.mov (.cst (.int .u64 0)))), none⟩,
 ⟨(some 5), (.p (.mov (.cst (.int .i64 1)))), none⟩])
 .ret)
 .skip)))))
 (.seq (.reg [⟨(some 22), (.p (.mov (.tmp 0))), none⟩,
 ⟨(some 23), (.p (.mkfn 103 [(.tmp 22)] [])), none⟩,
 ⟨(some 24), (.p (.mov (.tmp 1))), none⟩,
 ⟨(some 25), (.w (.call (.cst (.fn 70 [] [])) [(.tmp 23), (.tmp 24)])), none⟩,
 ⟨(some 21), (.p (.mov (.tmp 25))), none⟩,
 ⟨(some 26), (.p (.ext (.tmp 21) 0)), none⟩,
 ⟨(some 27), (.p (.ext (.tmp 21) 1)), none⟩,
 ⟨(some 6), (.p (.mov (.tmp 26))), none⟩,
 ⟨(some 7), (.p (.mov (.tmp 27))), none⟩])
 (.seq (.reg [⟨(some 8), (.p (.mov (.cst (.int .u64 0)))), none⟩])
 (.seq (.seq (.reg [⟨(some 28), (.p (.mov (.tmp 6))), none⟩,
 ⟨(some 29), (.p (.len (.tmp 28))), none⟩,
 ⟨(some 30), (.p (.mov (.cst (.int .i64 0)))), none⟩])
 (.block 1 (.loop (.seq (.reg [⟨(some 31), (.p (.ibin .lss (.tmp 30) (.tmp 29))), none⟩])
 (.seq (.cond (.tmp 31) .skip
 (.exit 1))
 (.seq (.block 2 (.seq (.reg [⟨(some 32), (.p (.idxA 1 (.tmp 28) (.tmp 30))), none⟩,
 ⟨(some 33), (.r (.load none (.tmp 32))), none⟩,
 ⟨(some 10), (.p (.mov (.tmp 33))), none⟩])
 (.reg [⟨(some 34), (.p (.mov (.tmp 8))), none⟩,
 ⟨(some 35), (.p (.ibin .shl (.tmp 34) (.cst (.int .u64 8)))), none⟩,
 ⟨(some 36), (.p (.mov (.tmp 10))), none⟩,
 ⟨(some 37), (.p (.conv (.toInt .u64) (.tmp 36))), none⟩,
 ⟨(some 38), (.p (.ibin .or (.tmp 35) (.tmp 37))), none⟩,
 ⟨(some 8), (.p (.mov (.tmp 38))), none⟩])))
 (.reg [⟨(some 39), (.p (.ibin .add (.tmp 30) (.cst (.int .i64 1)))), none⟩,
 ⟨(some 30), (.p (.mov (.tmp 39))), none⟩])))))))
 (.seq (.reg [⟨(some 40), (.p (.mov (.tmp 8))), none⟩,
 ⟨(some 41), (.p (.mov (.tmp 7))), none⟩,
 ⟨(some 4), (.p (.mov (.tmp 40))), none⟩,
 ⟨(some 5), (.p (.mov (.tmp 41))), none⟩])
 .ret))))))
def f149 : VF := { body := b149, res := [(.tmp 4), (.tmp 5)] }
-- comptoir/tlv.more
def b150 : VC := (.seq (.reg [⟨(some 2), (.p (.mov (.cst (.bool false)))), none⟩])
 (.seq (.reg [⟨(some 3), (.p (.mov (.tmp 0))), none⟩,
 ⟨(some 4), (.p (.ibin .and (.tmp 3) (.cst (.int .i64 31)))), none⟩,
 ⟨(some 5), (.p (.ibin .eql (.tmp 4) (.cst (.int .i64 31)))), none⟩,
 ⟨(some 6), (.p (.mov (.tmp 5))), none⟩,
 ⟨(some 7), (.p (.mov (.tmp 0))), (some (6, true))⟩,
 ⟨(some 8), (.p (.ibin .neq (.tmp 7) (.cst (.int .i64 255)))), (some (6, true))⟩,
 ⟨(some 9), (.p (.pick (.tmp 6) (.tmp 8) (.cst (.bool false)))), none⟩,
 ⟨(some 2), (.p (.mov (.tmp 9))), none⟩])
 .ret))
def f150 : VF := { body := b150, res := [(.tmp 2)] }
-- strconv.FormatUint
def b153 : VC := (.seq (.reg [⟨(some 4), (.p (.mov (.cst (.str [])))), none⟩])
 (.seq (.reg [⟨(some 5), (.p (.mov (.tmp 0))), none⟩,
 ⟨(some 6), (.p (.mov (.tmp 1))), none⟩,
 ⟨(some 7), (.r (.pcall (.cst (.fn 172 [] [])) [(.tmp 5), (.tmp 6)])), none⟩,
 ⟨(some 4), (.p (.mov (.tmp 7))), none⟩])
 .ret))
def f153 : VF := { body := b153, res := [(.tmp 4)] }
-- slices.insertionSortCmpFunc[comptoir/api.Element]
def b159 : VC := (.seq (.reg [⟨(some 10), (.p (.mov (.tmp 1))), none⟩,
 ⟨(some 11), (.p (.ibin .add (.tmp 10) (.cst (.int .i64 1)))), none⟩,
 ⟨(some 8), (.p (.mov (.tmp 11))), none⟩])
 (.block 0 (.loop (.seq (.seq (.reg [⟨(some 12), (.p (.mov (.tmp 8))), none⟩,
 ⟨(some 13), (.p (.mov (.tmp 2))), none⟩,
 ⟨(some 14), (.p (.ibin .lss (.tmp 12) (.tmp 13))), none⟩])
 (.cond (.tmp 14) .skip
 (.exit 0)))
 (.seq (.block 1 (.seq (.reg [⟨(some 17), (.p (.mov (.tmp 8))), none⟩,
 ⟨(some 9), (.p (.mov (.tmp 17))), none⟩])
 (.block 2 (.loop (.seq (.seq (.draw [(⟨(some 18), (.p (.mov (.tmp 9))), none⟩, 0, 0),
 (⟨(some 19), (.p (.mov (.tmp 1))), none⟩, 0, 0),
 (⟨(some 20), (.p (.ibin .gtr (.tmp 18) (.tmp 19))), none⟩, 0, 0),
 (⟨(some 21), (.p (.mov (.tmp 20))), none⟩, 0, 0),
 (⟨(some 22), (.p (.mov (.tmp 3))), (some (21, true))⟩, 0, 0),
 (⟨(some 23), (.p (.mov (.tmp 0))), (some (21, true))⟩, 0, 0),
 (⟨(some 24), (.p (.mov (.tmp 9))), (some (21, true))⟩, 0, 0),
 (⟨(some 25), (.p (.idxA 2 (.tmp 23) (.tmp 24))), (some (21, true))⟩, 0, 0),
 (⟨(some 26), (.r (.load (some 2) (.tmp 25))), (some (21, true))⟩, 0, 0),
 (⟨(some 27), (.p (.mov (.tmp 0))), (some (21, true))⟩, 0, 0),
 (⟨(some 28), (.p (.mov (.tmp 9))), (some (21, true))⟩, 0, 0),
 (⟨(some 29), (.p (.ibin .sub (.tmp 28) (.cst (.int .i64 1)))), (some (21, true))⟩, 0, 0),
 (⟨(some 30), (.p (.idxA 2 (.tmp 27) (.tmp 29))), (some (21, true))⟩, 0, 0),
 (⟨(some 31), (.r (.load (some 2) (.tmp 30))), (some (21, true))⟩, 0, 0),
 (⟨(some 32), (.w (.call (.tmp 22) [(.tmp 26), (.tmp 31)])), (some (21, true))⟩, 0, 0),
 (⟨(some 33), (.p (.ibin .lss (.tmp 32) (.cst (.int .i64 0)))), (some (21, true))⟩, 1, 1),
 (⟨(some 34), (.p (.pick (.tmp 21) (.tmp 33) (.cst (.bool false)))), none⟩, 1, 1)])
 (.cond (.tmp 34) .skip
 (.exit 2)))
 (.seq (.block 3 (.draw [(⟨(some 37), (.p (.mov (.tmp 0))), none⟩, 0, 0),
 (⟨(some 38), (.p (.mov (.tmp 9))), none⟩, 0, 0),
 (⟨(some 39), (.p (.mov (.tmp 0))), none⟩, 0, 1),
 (⟨(some 40), (.p (.mov (.tmp 9))), none⟩, 0, 1),
 (⟨(some 41), (.p (.ibin .sub (.tmp 40) (.cst (.int .i64 1)))), none⟩, 0, 1),
 (⟨(some 42), (.p (.mov (.tmp 0))), none⟩, 0, 0),
 (⟨(some 43), (.p (.mov (.tmp 9))), none⟩, 0, 0),
 (⟨(some 44), (.p (.ibin .sub (.tmp 43) (.cst (.int .i64 1)))), none⟩, 0, 0),
 (⟨(some 45), (.p (.idxA 2 (.tmp 42) (.tmp 44))), none⟩, 0, 0),
 (⟨(some 46), (.r (.load (some 2) (.tmp 45))), none⟩, 0, 0),
 (⟨(some 47), (.p (.mov (.tmp 0))), none⟩, 0, 0),
 (⟨(some 48), (.p (.mov (.tmp 9))), none⟩, 0, 0),
 (⟨(some 49), (.p (.idxA 2 (.tmp 47) (.tmp 48))), none⟩, 0, 0),
 (⟨(some 50), (.r (.load (some 2) (.tmp 49))), none⟩, 0, 0),
 (⟨(some 51), (.p (.idxA 2 (.tmp 37) (.tmp 38))), none⟩, 0, 0),
 (⟨none, (.w (.store 2 (.tmp 51) (.tmp 46))), none⟩, 0, 0),
 (⟨(some 52), (.p (.idxA 2 (.tmp 39) (.tmp 41))), none⟩, 1, 1),
 (⟨none, (.w (.store 2 (.tmp 52) (.tmp 50))), none⟩, 1, 1)]))
 (.reg [⟨(some 35), (.p (.mov (.tmp 9))), none⟩,
 ⟨(some 36), (.p (.ibin .sub (.tmp 35) (.cst (.int .i64 1)))), none⟩,
 ⟨(some 9), (.p (.mov (.tmp 36))), none⟩])))))))
 (.reg [⟨(some 15), (.p (.mov (.tmp 8))), none⟩,
 ⟨(some 16), (.p (.ibin .add (.tmp 15) (.cst (.int .i64 1)))), none⟩,
 ⟨(some 8), (.p (.mov (.tmp 16))), none⟩]))))))
def f159 : VF := { body := b159, res := [] }
-- (comptoir/element.data).numbers
def b162 : VC := (.seq (.reg [⟨(some 4), (.p (.mov (.cst (.bool false)))), none⟩])
 (.seq (.reg [⟨(some 5), (.p (.mov (.tmp 0))), none⟩,
 ⟨(some 6), (.p (.mov (.tmp 1))), none⟩,
 ⟨(some 7), (.r (.pcall (.cst (.fn 39 [] [])) [(.tmp 5), (.cst (.int .i64 0)), (.tmp 6)])), none⟩,
 ⟨(some 4), (.p (.mov (.tmp 7))), none⟩])
 .ret))
def f162 : VF := { body := b162, res := [(.tmp 4)] }
-- (comptoir/element.data).signs
def b164 : VC := (.seq (.reg [⟨(some 4), (.p (.mov (.cst (.bool false)))), none⟩])
 (.seq (.reg [⟨(some 5), (.p (.mov (.tmp 0))), none⟩,
 ⟨(some 6), (.p (.mov (.tmp 1))), none⟩,
 ⟨(some 7), (.r (.pcall (.cst (.fn 126 [] [])) [(.tmp 5), (.tmp 6)])), none⟩,
 ⟨(some 4), (.p (.mov (.tmp 7))), none⟩])
 .ret))
def f164 : VF := { body := b164, res := [(.tmp 4)] }
-- (comptoir/element.data).any
def b165 : VC := (.seq (.reg [⟨(some 4), (.p (.mov (.cst (.bool false)))), none⟩])
 (.seq (.reg [⟨(some 4), (.p (.mov (.cst (.bool true)))), none⟩])
 .ret))
def f165 : VF := { body := b165, res := [(.tmp 4)] }
-- internal/strconv.FormatUint
def b172 : VC := (.seq (.reg [⟨(some 4), (.p (.mov (.cst (.str [])))), none⟩])
 (.seq (.seq (.reg [⟨(some 9), (.p (.mov (.tmp 1))), none⟩,
 ⟨(some 10), (.p (.ibin .eql (.tmp 9) (.cst (.int .i64 10)))), none⟩])
 (.cond (.tmp 10) (.seq (.seq (.reg [⟨(some 11), (.p (.mov (.tmp 0))), none⟩,
 ⟨(some 12), (.p (.ibin .lss (.tmp 11) (.cst (.int .u64 100)))), none⟩])
 (.cond (.tmp 12) (.seq (.reg [⟨(some 13), (.p (.mov (.tmp 0))), none⟩,
 ⟨(some 14), (.p (.conv (.toInt .i64) (.tmp 13))), none⟩,
 ⟨(some 15), (.r (.pcall (.cst (.fn 183 [] [])) [(.tmp 14)])), none⟩,
 ⟨(some 4), (.p (.mov (.tmp 15))), none⟩])
 .ret)
 .skip))
 (.seq (.reg [⟨(some 5), (.w (.alloc [(.int .u8 0), (.int .u8 0), (.int .u8 0), (.int .u8 0), (.int .u8 0), (.int .u8 0), (.int .u8 0), (.int .u8 0), (.int .u8 0), (.int .u8 0), (.int .u8 0), (.int .u8 0), (.int .u8 0), (.int .u8 0), (.int .u8 0), (.int .u8 0), (.int .u8 0), (.int .u8 0), (.int .u8 0), (.int .u8 0), (.int .u8 0), (.int .u8 0), (.int .u8 0), (.int .u8 0)])), none⟩])
 (.seq (.reg [⟨(some 16), (.p (.mov (.tmp 0))), none⟩,
 ⟨(some 17), (.r (.pcall (.cst (.fn 184 [] [])) [(.tmp 16)])), none⟩,
 ⟨(some 6), (.p (.mov (.tmp 17))), none⟩])
 (.seq (.reg [⟨(some 18), (.p (.mov (.tmp 6))), none⟩,
 ⟨(some 19), (.w .bad), none⟩,
 ⟨(some 20), (.p (.mov (.tmp 0))), none⟩,
 ⟨(some 21), (.w (.call (.cst (.fn 185 [] [])) [(.tmp 19), (.tmp 20)])), none⟩])
 (.seq (.reg [⟨(some 22), (.p (.mov (.tmp 6))), none⟩,
 ⟨(some 23), (.w .bad), none⟩,
 ⟨(some 24), (.r (.bytesStr (.tmp 23))), none⟩,
 ⟨(some 4), (.p (.mov (.tmp 24))), none⟩])
 .ret)))))
 .skip))
 (.seq (.reg [⟨(some 26), (.p (.mov (.tmp 0))), none⟩,
 ⟨(some 27), (.p (.mov (.tmp 1))), none⟩,
 ⟨(some 28), (.r (.pcall (.cst (.fn 186 [] [])) [(.cst .nilsl), (.tmp 26), (.tmp 27), (.cst (.bool false)), (.cst (.bool false))])), none⟩,
 ⟨(some 25), (.p (.mov (.tmp 28))), none⟩,
 ⟨(some 29), (.p (.ext (.tmp 25) 0)), none⟩,
 ⟨(some 30), (.p (.ext (.tmp 25) 1)), none⟩,
 ⟨(some 7), (.p (.mov (.tmp 29))), none⟩,
 ⟨(some 8), (.p (.mov (.tmp 30))), none⟩])
 (.seq (.reg [⟨(some 31), (.p (.mov (.tmp 8))), none⟩,
 ⟨(some 4), (.p (.mov (.tmp 31))), none⟩])
 .ret))))
def f172 : VF := { body := b172, res := [(.tmp 4)] }
-- internal/strconv.small
def b183 : VC := (.seq (.reg [⟨(some 2), (.p (.mov (.cst (.str [])))), none⟩])
 (.seq (.seq (.reg [⟨(some 3), (.p (.mov (.tmp 0))), none⟩,
 ⟨(some 4), (.p (.ibin .lss (.tmp 3) (.cst (.int .i64 10)))), none⟩])
 (.cond (.tmp 4) (.seq (.reg [⟨(some 5), (.p (.mov (.tmp 0))), none⟩,
 ⟨(some 6), (.p (.mov (.tmp 0))), none⟩,
 ⟨(some 7), (.p (.ibin .add (.tmp 6) (.cst (.int .i64 1)))), none⟩,
 ⟨(some 8), (.p (.sliceStr (.cst (.str [48, 49, 50, 51, 52, 53, 54, 55, 56, 57, 97, 98, 99, 100, 101, 102, 103, 104, 105, 106, 107, 108, 109, 110, 111, 112, 113, 114, 115, 116, 117, 118, 119, 120, 121, 122])) (some (.tmp 5)) (some (.tmp 7)))), none⟩,
 ⟨(some 2), (.p (.mov (.tmp 8))), none⟩])
 .ret)
 .skip))
 (.seq (.reg [⟨(some 9), (.p (.mov (.tmp 0))), none⟩,
 ⟨(some 10), (.p (.ibin .mul (.tmp 9) (.cst (.int .i64 2)))), none⟩,
 ⟨(some 11), (.p (.mov (.tmp 0))), none⟩,
 ⟨(some 12), (.p (.ibin .mul (.tmp 11) (.cst (.int .i64 2)))), none⟩,
 ⟨(some 13), (.p (.ibin .add (.tmp 12) (.cst (.int .i64 2)))), none⟩,
 ⟨(some 14), (.p (.sliceStr (.cst (.str [48, 48, 48, 49, 48, 50, 48, 51, 48, 52, 48, 53, 48, 54, 48, 55, 48, 56, 48, 57, 49, 48, 49, 49, 49, 50, 49, 51, 49, 52, 49, 53, 49, 54, 49, 55, 49, 56, 49, 57, 50, 48, 50, 49, 50, 50, 50, 51, 50, 52, 50, 53, 50, 54, 50, 55, 50, 56, 50, 57, 51, 48, 51, 49, 51, 50, 51, 51, 51, 52, 51, 53, 51, 54, 51, 55, 51, 56, 51, 57, 52, 48, 52, 49, 52, 50, 52, 51, 52, 52, 52, 53, 52, 54, 52, 55, 52, 56, 52, 57, 53, 48, 53, 49, 53, 50, 53, 51, 53, 52, 53, 53, 53, 54, 53, 55, 53, 56, 53, 57, 54, 48, 54, 49, 54, 50, 54, 51, 54, 52, 54, 53, 54, 54, 54, 55, 54, 56, 54, 57, 55, 48, 55, 49, 55, 50, 55, 51, 55, 52, 55, 53, 55, 54, 55, 55, 55, 56, 55, 57, 56, 48, 56, 49, 56, 50, 56, 51, 56, 52, 56, 53, 56, 54, 56, 55, 56, 56, 56, 57, 57, 48, 57, 49, 57, 50, 57, 51, 57, 52, 57, 53, 57, 54, 57, 55, 57, 56, 57, 57])) (some (.tmp 10)) (some (.tmp 13)))), none⟩,
 ⟨(some 2), (.p (.mov (.tmp 14))), none⟩])
 .ret)))
def f183 : VF := { body := b183, res := [(.tmp 2)] }
def tbl : List (Nat × VFn) := [(3, .code f3), (4, .code f4), (5, .code f5), (6, .code f6), (7, .code f7), (8, .code f8), (9, .code f9), (10, .code f10), (11, .code f11), (12, .code f12), (13, .code f13), (14, .code f14), (15, .code f15), (16, .code f16), (17, .code f17), (18, .code f18), (19, .code f19), (20, .code f20), (21, .code f21), (22, .code f22), (23, .code f23), (24, .code f24), (25, .code f25), (26, .code f26), (27, .code f27), (28, .code f28), (29, .code f29), (30, .code f30), (32, .code f32), (33, .code f33), (35, .code f35), (36, .code f36), (37, .code f37), (38, .code f38), (39, .code f39), (40, .code f40), (41, .code f41), (42, .code f42), (43, .code f43), (44, .code f44), (46, .code f46), (47, .code f47), (48, .code f48), (49, .code f49), (50, .code f50), (51, .code f51), (52, .code f52), (53, .code f53), (54, .code f54), (55, .code f55), (56, .code f56), (57, .code f57), (58, .code f58), (59, .code f59), (60, .code f60), (61, .code f61), (62, .code f62), (63, .code f63), (65, .code f65), (67, .code f67), (68, .code f68), (69, .code f69), (70, .code f70), (71, .code f71), (72, .code f72), (73, .code f73), (74, .code f74), (75, .code f75), (76, .code f76), (77, .code f77), (78, .code f78), (79, .code f79), (81, .code f81), (82, .code f82), (83, .code f83), (84, .code f84), (85, .code f85), (86, .code f86), (87, .code f87), (88, .code f88), (89, .code f89), (90, .code f90), (91, .code f91), (92, .code f92), (93, .code f93), (94, .code f94), (95, .code f95), (96, .code f96), (97, .code f97), (98, .code f98), (99, .code f99), (101, .code f101), (102, .code f102), (103, .code f103), (105, .code f105), (106, .code f106), (107, .code f107), (110, .code f110), (111, .code f111), (118, .code f118), (119, .code f119), (120, .code f120), (121, .code f121), (123, .code f123), (126, .code f126), (127, .code f127), (128, .code f128), (129, .code f129), (130, .code f130), (132, .code f132), (133, .code f133), (135, .code f135), (136, .code f136), (147, .code f147), (148, .code f148), (149, .code f149), (150, .code f150), (153, .code f153), (159, .code f159), (162, .code f162), (164, .code f164), (165, .code f165), (172, .code f172), (183, .code f183), (104, .ext indexByteV), (131, .ext repeatV)]
end Go.Vx.YtbainicckdjoaaaGreatDoor
