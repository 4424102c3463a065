/- V's code of the functions that the laws of this seat reach, printed by a program of mine out of the loaded program. -/
import Derived.Test.YtbjcimdflehfjaaVxDefs
set_option maxRecDepth 100000
namespace Go.Vx.Ytbjcimdflehfjaa
-- comptoir/comptoirlaw22.DiskPlays
def b3 : VC := (.seq (.reg [⟨(some 2), (.p (.mov (.cst (.bool false)))), none⟩])
  (.seq (.reg [⟨(some 9), (.w (.call (.cst (.fn 8 [] [])) [])), none⟩,
    ⟨(some 10), (.p (.build [.nilsl, .nilsl, (.int .i64 0), (.bool false), (.bool false)] [])), none⟩,
    ⟨(some 11), (.w (.box 5 (.tmp 10))), none⟩,
    ⟨(some 3), (.p (.mov (.tmp 9))), none⟩,
    ⟨(some 4), (.p (.mov (.tmp 11))), none⟩])
  (.seq (.seq (.reg [⟨(some 12), (.r (.pcall (.cst (.fn 9 [] [])) [])), none⟩,
    ⟨(some 13), (.p (.un .not (.tmp 12))), none⟩,
    ⟨(some 14), (.p (.mov (.tmp 13))), none⟩,
    ⟨(some 15), (.p (.mov (.tmp 3))), (some (14, false))⟩,
    ⟨(some 16), (.p (.nileq 0 false (.tmp 15) (.cst .nilp))), (some (14, false))⟩,
    ⟨(some 17), (.p (.pick (.tmp 14) (.cst (.bool true)) (.tmp 16))), none⟩])
  (.cond (.tmp 17) (.seq (.reg [⟨(some 2), (.p (.mov (.cst (.bool false)))), none⟩])
  .ret)
  .skip))
  (.seq (.seq (.reg [⟨(some 5), (.p (.mov (.cst (.int .i64 0)))), none⟩])
  (.block 0 (.loop (.seq (.seq (.reg [⟨(some 18), (.p (.mov (.tmp 5))), none⟩,
    ⟨(some 19), (.p (.mov (.tmp 0))), none⟩,
    ⟨(some 20), (.p (.len (.tmp 19))), none⟩,
    ⟨(some 21), (.p (.ibin .lss (.tmp 18) (.tmp 20))), none⟩,
    ⟨(some 22), (.p (.mov (.tmp 21))), none⟩,
    ⟨(some 23), (.p (.mov (.tmp 5))), (some (22, true))⟩,
    ⟨(some 24), (.p (.ibin .lss (.tmp 23) (.cst (.int .i64 80)))), (some (22, true))⟩,
    ⟨(some 25), (.p (.pick (.tmp 22) (.tmp 24) (.cst (.bool false)))), none⟩])
  (.cond (.tmp 25) .skip
  (.exit 0)))
  (.seq (.block 1 (.seq (.reg [⟨(some 28), (.p (.mov (.tmp 0))), none⟩,
    ⟨(some 29), (.p (.mov (.tmp 5))), none⟩,
    ⟨(some 30), (.p (.idxA 4 (.tmp 28) (.tmp 29))), none⟩,
    ⟨(some 31), (.r (.load (some 4) (.tmp 30))), none⟩,
    ⟨(some 6), (.w (.alloc [(.int .i64 0), (.int .i64 0), (.int .i64 0), .nilsl])), none⟩,
    ⟨none, (.w (.store 4 (.tmp 6) (.tmp 31))), none⟩])
  (.seq (.reg [⟨(some 7), (.p (.mov (.cst (.bool true)))), none⟩])
  (.seq (.seq (.reg [⟨(some 32), (.p (.fieldA 0 (.tmp 6))), none⟩,
    ⟨(some 33), (.r (.load none (.tmp 32))), none⟩])
  (.block 2 (.seq (.reg [⟨(some 60), (.p (.ibin .eql (.tmp 33) (.cst (.int .i64 1)))), none⟩,
    ⟨(some 59), (.p (.mov (.tmp 60))), none⟩])
  (.cond (.tmp 59) (.draw [(⟨(some 61), (.p (.mov (.tmp 3))), none⟩, 0, 0),
    (⟨(some 62), (.p (.fieldA 1 (.tmp 6))), none⟩, 0, 0),
    (⟨(some 63), (.r (.load none (.tmp 62))), none⟩, 0, 0),
    (⟨(some 64), (.w (.call (.cst (.fn 10 [] [])) [(.tmp 61), (.tmp 63)])), none⟩, 0, 0),
    (⟨(some 65), (.p (.mov (.tmp 4))), none⟩, 0, 1),
    (⟨(some 66), (.p (.fieldA 1 (.tmp 6))), none⟩, 0, 1),
    (⟨(some 67), (.r (.load none (.tmp 66))), none⟩, 0, 1),
    (⟨(some 68), (.w (.call (.cst (.fn 11 [] [])) [(.tmp 65), (.tmp 67)])), none⟩, 1, 1),
    (⟨(some 69), (.p (.ibin .eql (.tmp 64) (.tmp 68))), none⟩, 2, 2),
    (⟨(some 7), (.p (.mov (.tmp 69))), none⟩, 2, 2)])
  (.seq (.reg [⟨(some 71), (.p (.ibin .eql (.tmp 33) (.cst (.int .i64 2)))), none⟩,
    ⟨(some 70), (.p (.mov (.tmp 71))), none⟩])
  (.cond (.tmp 70) (.seq (.reg [⟨(some 72), (.p (.mov (.tmp 3))), none⟩,
    ⟨(some 73), (.p (.fieldA 2 (.tmp 6))), none⟩,
    ⟨(some 74), (.r (.load none (.tmp 73))), none⟩,
    ⟨(some 75), (.w (.call (.cst (.fn 12 [] [])) [(.tmp 72), (.tmp 74)])), none⟩])
  (.reg [⟨(some 76), (.p (.mov (.tmp 4))), none⟩,
    ⟨(some 77), (.p (.fieldA 2 (.tmp 6))), none⟩,
    ⟨(some 78), (.r (.load none (.tmp 77))), none⟩,
    ⟨(some 79), (.w (.call (.cst (.fn 13 [] [])) [(.tmp 76), (.tmp 78)])), none⟩]))
  (.seq (.reg [⟨(some 81), (.p (.ibin .eql (.tmp 33) (.cst (.int .i64 3)))), none⟩,
    ⟨(some 80), (.p (.mov (.tmp 81))), none⟩])
  (.cond (.tmp 80) (.seq (.reg [⟨(some 82), (.p (.mov (.tmp 3))), none⟩,
    ⟨(some 83), (.w (.call (.cst (.fn 14 [] [])) [(.tmp 82)])), none⟩])
  (.reg [⟨(some 84), (.p (.mov (.tmp 4))), none⟩,
    ⟨(some 85), (.w (.call (.cst (.fn 15 [] [])) [(.tmp 84)])), none⟩]))
  (.seq (.seq (.reg [⟨(some 34), (.p (.fieldA 3 (.tmp 6))), none⟩,
    ⟨(some 35), (.r (.load none (.tmp 34))), none⟩,
    ⟨(some 36), (.p (.len (.tmp 35))), none⟩,
    ⟨(some 37), (.p (.ibin .gtr (.tmp 36) (.cst (.int .i64 3000)))), none⟩])
  (.cond (.tmp 37) (.seq (.reg [⟨(some 2), (.p (.mov (.cst (.bool true)))), none⟩])
  .ret)
  .skip))
  (.seq (.reg [⟨(some 38), (.p (.fieldA 3 (.tmp 6))), none⟩,
    ⟨(some 39), (.r (.load none (.tmp 38))), none⟩,
    ⟨(some 40), (.w (.call (.cst (.fn 16 [] [])) [(.tmp 39), (.cst (.int .u8 71))])), none⟩,
    ⟨(some 8), (.p (.mov (.tmp 40))), none⟩])
  (.draw [(⟨(some 41), (.p (.mov (.tmp 3))), none⟩, 0, 0),
    (⟨(some 42), (.p (.fieldA 1 (.tmp 6))), none⟩, 0, 0),
    (⟨(some 43), (.r (.load none (.tmp 42))), none⟩, 0, 0),
    (⟨(some 44), (.p (.mov (.tmp 8))), none⟩, 0, 0),
    (⟨(some 45), (.w (.call (.cst (.fn 17 [] [])) [(.tmp 41), (.tmp 43), (.tmp 44)])), none⟩, 0, 0),
    (⟨(some 46), (.p (.mov (.tmp 4))), none⟩, 0, 1),
    (⟨(some 47), (.p (.fieldA 1 (.tmp 6))), none⟩, 0, 1),
    (⟨(some 48), (.r (.load none (.tmp 47))), none⟩, 0, 1),
    (⟨(some 49), (.p (.fieldA 3 (.tmp 6))), none⟩, 0, 1),
    (⟨(some 50), (.r (.load none (.tmp 49))), none⟩, 0, 1),
    (⟨(some 51), (.w (.call (.cst (.fn 18 [] [])) [(.tmp 46), (.tmp 48), (.tmp 50)])), none⟩, 1, 1),
    (⟨(some 52), (.p (.ibin .eql (.tmp 45) (.tmp 51))), none⟩, 2, 2),
    (⟨(some 53), (.p (.mov (.tmp 52))), none⟩, 2, 2),
    (⟨(some 54), (.p (.mov (.tmp 8))), (some (53, true))⟩, 2, 2),
    (⟨(some 55), (.p (.fieldA 3 (.tmp 6))), (some (53, true))⟩, 2, 2),
    (⟨(some 56), (.r (.load none (.tmp 55))), (some (53, true))⟩, 2, 2),
    (⟨(some 57), (.r (.pcall (.cst (.fn 19 [] [])) [(.tmp 54), (.tmp 56), (.cst (.int .u8 71))])), (some (53, true))⟩, 2, 2),
    (⟨(some 58), (.p (.pick (.tmp 53) (.tmp 57) (.cst (.bool false)))), none⟩, 2, 2),
    (⟨(some 7), (.p (.mov (.tmp 58))), none⟩, 2, 2)])))))))))))
  (.seq (.draw [(⟨(some 86), (.p (.mov (.tmp 7))), none⟩, 0, 0),
    (⟨(some 87), (.p (.un .not (.tmp 86))), none⟩, 0, 0),
    (⟨(some 88), (.p (.mov (.tmp 87))), none⟩, 0, 0),
    (⟨(some 89), (.p (.mov (.tmp 3))), (some (88, false))⟩, 0, 0),
    (⟨(some 90), (.r (.pcall (.cst (.fn 21 [] [])) [(.tmp 89), (.cst (.int .i64 0))])), (some (88, false))⟩, 0, 0),
    (⟨(some 91), (.p (.mov (.tmp 4))), (some (88, false))⟩, 0, 0),
    (⟨(some 92), (.p (.nilck (.tmp 91))), (some (88, false))⟩, 0, 0),
    (⟨(some 93), (.p (.fieldA 0 (.tmp 92))), (some (88, false))⟩, 0, 0),
    (⟨(some 94), (.p (.idxArr 2 1 (.tmp 93) (.cst (.int .i64 0)))), (some (88, false))⟩, 0, 0),
    (⟨(some 95), (.r (.load none (.tmp 94))), (some (88, false))⟩, 0, 0),
    (⟨(some 96), (.r (.pcall (.cst (.fn 20 [] [])) [(.tmp 90), (.tmp 95)])), (some (88, false))⟩, 0, 0),
    (⟨(some 97), (.p (.un .not (.tmp 96))), (some (88, false))⟩, 0, 0),
    (⟨(some 98), (.p (.pick (.tmp 88) (.cst (.bool true)) (.tmp 97))), none⟩, 0, 0),
    (⟨(some 99), (.p (.mov (.tmp 98))), none⟩, 0, 0),
    (⟨(some 100), (.p (.mov (.tmp 3))), (some (99, false))⟩, 0, 0),
    (⟨(some 101), (.r (.pcall (.cst (.fn 21 [] [])) [(.tmp 100), (.cst (.int .i64 1))])), (some (99, false))⟩, 0, 0),
    (⟨(some 102), (.p (.mov (.tmp 4))), (some (99, false))⟩, 0, 0),
    (⟨(some 103), (.p (.nilck (.tmp 102))), (some (99, false))⟩, 0, 0),
    (⟨(some 104), (.p (.fieldA 0 (.tmp 103))), (some (99, false))⟩, 0, 0),
    (⟨(some 105), (.p (.idxArr 2 1 (.tmp 104) (.cst (.int .i64 1)))), (some (99, false))⟩, 0, 0),
    (⟨(some 106), (.r (.load none (.tmp 105))), (some (99, false))⟩, 0, 0),
    (⟨(some 107), (.r (.pcall (.cst (.fn 20 [] [])) [(.tmp 101), (.tmp 106)])), (some (99, false))⟩, 0, 0),
    (⟨(some 108), (.p (.un .not (.tmp 107))), (some (99, false))⟩, 0, 0),
    (⟨(some 109), (.p (.pick (.tmp 99) (.cst (.bool true)) (.tmp 108))), none⟩, 0, 0),
    (⟨(some 110), (.p (.mov (.tmp 109))), none⟩, 0, 0),
    (⟨(some 111), (.p (.mov (.tmp 3))), (some (110, false))⟩, 0, 0),
    (⟨(some 112), (.r (.pcall (.cst (.fn 22 [] [])) [(.tmp 111)])), (some (110, false))⟩, 0, 0),
    (⟨(some 113), (.p (.mov (.tmp 4))), (some (110, false))⟩, 0, 0),
    (⟨(some 114), (.p (.nilck (.tmp 113))), (some (110, false))⟩, 0, 0),
    (⟨(some 115), (.p (.fieldA 4 (.tmp 114))), (some (110, false))⟩, 0, 0),
    (⟨(some 116), (.r (.load none (.tmp 115))), (some (110, false))⟩, 0, 0),
    (⟨(some 117), (.p (.beq true (.tmp 112) (.tmp 116))), (some (110, false))⟩, 0, 0),
    (⟨(some 118), (.p (.pick (.tmp 110) (.cst (.bool true)) (.tmp 117))), none⟩, 0, 0),
    (⟨(some 119), (.p (.mov (.tmp 118))), none⟩, 0, 0),
    (⟨(some 120), (.p (.mov (.tmp 3))), (some (119, false))⟩, 0, 0),
    (⟨(some 121), (.r (.pcall (.cst (.fn 21 [] [])) [(.tmp 120), (.cst (.int .i64 2))])), (some (119, false))⟩, 0, 0),
    (⟨(some 122), (.p (.len (.tmp 121))), (some (119, false))⟩, 0, 0),
    (⟨(some 123), (.p (.ibin .neq (.tmp 122) (.cst (.int .i64 0)))), (some (119, false))⟩, 0, 0),
    (⟨(some 124), (.p (.pick (.tmp 119) (.cst (.bool true)) (.tmp 123))), none⟩, 0, 0),
    (⟨(some 125), (.p (.mov (.tmp 124))), none⟩, 0, 0),
    (⟨(some 126), (.p (.mov (.tmp 3))), (some (125, false))⟩, 0, 0),
    (⟨(some 127), (.r (.pcall (.cst (.fn 21 [] [])) [(.tmp 126), (.cst (.int .i64 (-1)))])), (some (125, false))⟩, 0, 0),
    (⟨(some 128), (.p (.len (.tmp 127))), (some (125, false))⟩, 0, 0),
    (⟨(some 129), (.p (.ibin .neq (.tmp 128) (.cst (.int .i64 0)))), (some (125, false))⟩, 0, 0),
    (⟨(some 130), (.p (.pick (.tmp 125) (.cst (.bool true)) (.tmp 129))), none⟩, 0, 0)])
  (.cond (.tmp 130) (.seq (.reg [⟨(some 2), (.p (.mov (.cst (.bool false)))), none⟩])
  .ret)
  .skip))))))
  (.reg [⟨(some 26), (.p (.mov (.tmp 5))), none⟩,
    ⟨(some 27), (.p (.ibin .add (.tmp 26) (.cst (.int .i64 1)))), none⟩,
    ⟨(some 5), (.p (.mov (.tmp 27))), none⟩]))))))
  (.seq (.reg [⟨(some 2), (.p (.mov (.cst (.bool true)))), none⟩])
  .ret)))))
def f3 : VF := { body := b3, res := [(.tmp 2)] }
-- comptoir/comptoirlaw24.StateOnce
def b4 : VC := (.seq (.reg [⟨(some 4), (.p (.mov (.cst (.bool false)))), none⟩])
  (.seq (.reg [⟨(some 16), (.r (.pcall (.cst (.fn 23 [] [])) [])), none⟩,
    ⟨(some 5), (.w (.alloc [(.int .u64 0), (.int .i64 0), (.int .i64 0), .nilsl, .nilsl])), none⟩,
    ⟨none, (.w (.store 5 (.tmp 5) (.tmp 16))), none⟩])
  (.seq (.reg [⟨(some 17), (.p (.mov (.tmp 1))), none⟩,
    ⟨(some 18), (.p (.conv (.toInt .u64) (.tmp 17))), none⟩,
    ⟨(some 19), (.p (.ibin .rem (.tmp 18) (.cst (.int .u64 6)))), none⟩,
    ⟨(some 20), (.p (.conv (.toInt .i64) (.tmp 19))), none⟩,
    ⟨(some 1), (.p (.mov (.tmp 20))), none⟩])
  (.seq (.reg [⟨(some 6), (.p (.mov (.cst .nilsl))), none⟩])
  (.seq (.seq (.reg [⟨(some 7), (.p (.mov (.cst (.int .i64 0)))), none⟩])
  (.block 0 (.loop (.seq (.seq (.reg [⟨(some 21), (.p (.mov (.tmp 7))), none⟩,
    ⟨(some 22), (.p (.mov (.tmp 0))), none⟩,
    ⟨(some 23), (.p (.len (.tmp 22))), none⟩,
    ⟨(some 24), (.p (.ibin .lss (.tmp 21) (.tmp 23))), none⟩,
    ⟨(some 25), (.p (.mov (.tmp 24))), none⟩,
    ⟨(some 26), (.p (.mov (.tmp 7))), (some (25, true))⟩,
    ⟨(some 27), (.p (.ibin .lss (.tmp 26) (.cst (.int .i64 40)))), (some (25, true))⟩,
    ⟨(some 28), (.p (.pick (.tmp 25) (.tmp 27) (.cst (.bool false)))), none⟩])
  (.cond (.tmp 28) .skip
  (.exit 0)))
  (.seq (.block 1 (.seq (.reg [⟨(some 31), (.p (.mov (.tmp 0))), none⟩,
    ⟨(some 32), (.p (.mov (.tmp 7))), none⟩,
    ⟨(some 33), (.p (.idxA 1 (.tmp 31) (.tmp 32))), none⟩,
    ⟨(some 34), (.r (.load none (.tmp 33))), none⟩,
    ⟨(some 35), (.p (.conv (.toInt .u64) (.tmp 34))), none⟩,
    ⟨(some 36), (.p (.ibin .rem (.tmp 35) (.cst (.int .u64 6)))), none⟩,
    ⟨(some 37), (.p (.conv (.toInt .i64) (.tmp 36))), none⟩,
    ⟨(some 8), (.p (.mov (.tmp 37))), none⟩])
  (.seq (.reg [⟨(some 38), (.r (.load (some 5) (.tmp 5))), none⟩,
    ⟨(some 39), (.p (.mov (.tmp 8))), none⟩,
    ⟨(some 40), (.p (.mov (.tmp 7))), none⟩,
    ⟨(some 41), (.p (.build [(.int .i64 0), (.int .i64 0), (.int .i64 0), (.int .i64 0), (.int .i64 0), (.int .u64 0), (.int .i64 0), (.int .i64 0), (.str []), (.str []), (.str []), (.str []), (.int .u64 0), (.str []), (.str []), (.str []), (.str []), (.int .i64 0), (.str []), (.str []), (.int .i64 0), (.str []), .nilsl, (.str []), (.str []), .nilsl, .nilsl] [(0, 1, (.tmp 39)), (1, 1, (.tmp 40))])), none⟩,
    ⟨(some 42), (.p (.build [(.int .i64 0), (.int .u64 0), (.int .i64 0), (.int .i64 0), (.int .i64 0), (.int .i64 0), (.int .i64 0), (.int .i64 0), (.int .i64 0), (.int .u64 0), (.int .i64 0), (.int .i64 0), (.str []), (.str []), (.str []), (.str []), (.int .u64 0), (.str []), (.str []), (.str []), (.str []), (.int .i64 0), (.str []), (.str []), (.int .i64 0), (.str []), .nilsl, (.str []), (.str []), .nilsl, .nilsl, (.int .i64 0), (.int .u64 0), (.str []), (.str []), (.str []), .nilsl, .nilsl] [(0, 1, (.cst (.int .i64 3))), (4, 27, (.tmp 41))])), none⟩,
    ⟨(some 43), (.p (.mov (.tmp 8))), none⟩,
    ⟨(some 44), (.p (.mov (.tmp 7))), none⟩,
    ⟨(some 45), (.p (.conv (.toInt .u64) (.tmp 44))), none⟩,
    ⟨(some 46), (.p (.build [(.int .i64 0), (.int .u64 0), (.str []), (.str []), (.str []), .nilsl, .nilsl] [(0, 1, (.tmp 43)), (1, 1, (.tmp 45))])), none⟩,
    ⟨(some 47), (.p (.build [(.int .i64 0), (.int .u64 0), (.int .i64 0), (.int .i64 0), (.int .i64 0), (.int .i64 0), (.int .i64 0), (.int .i64 0), (.int .i64 0), (.int .u64 0), (.int .i64 0), (.int .i64 0), (.str []), (.str []), (.str []), (.str []), (.int .u64 0), (.str []), (.str []), (.str []), (.str []), (.int .i64 0), (.str []), (.str []), (.int .i64 0), (.str []), .nilsl, (.str []), (.str []), .nilsl, .nilsl, (.int .i64 0), (.int .u64 0), (.str []), (.str []), (.str []), .nilsl, .nilsl] [(0, 1, (.cst (.int .i64 5))), (31, 7, (.tmp 46))])), none⟩,
    ⟨(some 48), (.p (.lit 38 (.agg [(.int .i64 0), (.int .u64 0), (.int .i64 0), (.int .i64 0), (.int .i64 0), (.int .i64 0), (.int .i64 0), (.int .i64 0), (.int .i64 0), (.int .u64 0), (.int .i64 0), (.int .i64 0), (.str []), (.str []), (.str []), (.str []), (.int .u64 0), (.str []), (.str []), (.str []), (.str []), (.int .i64 0), (.str []), (.str []), (.int .i64 0), (.str []), .nilsl, (.str []), (.str []), .nilsl, .nilsl, (.int .i64 0), (.int .u64 0), (.str []), (.str []), (.str []), .nilsl, .nilsl]) 2 [(0, (.tmp 42)), (1, (.tmp 47))])), none⟩,
    ⟨(some 49), (.r (.pcall (.cst (.fn 24 [] [])) [(.tmp 38), (.tmp 48)])), none⟩,
    ⟨none, (.w (.store 5 (.tmp 5) (.tmp 49))), none⟩])
  (.seq (.seq (.reg [⟨(some 50), (.p (.mov (.tmp 6))), none⟩,
    ⟨(some 51), (.p (.mov (.tmp 8))), none⟩,
    ⟨(some 52), (.r (.pcall (.cst (.fn 25 [] [])) [(.tmp 50), (.tmp 51)])), none⟩,
    ⟨(some 53), (.p (.un .not (.tmp 52))), none⟩])
  (.cond (.tmp 53) (.reg [⟨(some 54), (.p (.mov (.tmp 6))), none⟩,
    ⟨(some 55), (.p (.mov (.tmp 8))), none⟩,
    ⟨(some 56), (.p (.lit 1 (.int .i64 0) 1 [(0, (.tmp 55))])), none⟩,
    ⟨(some 57), (.w (.append 1 8 (.tmp 54) (.tmp 56))), none⟩,
    ⟨(some 6), (.p (.mov (.tmp 57))), none⟩])
  .skip))
  (.seq (.reg [⟨(some 59), (.r (.load (some 5) (.tmp 5))), none⟩,
    ⟨(some 60), (.p (.mov (.tmp 8))), none⟩,
    ⟨(some 61), (.r (.pcall (.cst (.fn 26 [] [])) [(.tmp 59), (.tmp 60)])), none⟩,
    ⟨(some 58), (.p (.mov (.tmp 61))), none⟩,
    ⟨(some 62), (.p (.ext (.tmp 58) 0)), none⟩,
    ⟨(some 63), (.p (.ext (.tmp 58) 1)), none⟩,
    ⟨(some 9), (.w (.alloc [(.int .i64 0), (.int .i64 0), (.int .i64 0), (.int .i64 0), (.int .i64 0), (.int .u64 0), (.int .i64 0), (.int .i64 0), (.str []), (.str []), (.str []), (.str []), (.int .u64 0), (.str []), (.str []), (.str []), (.str []), (.int .i64 0), (.str []), (.str []), (.int .i64 0), (.str []), .nilsl, (.str []), (.str []), .nilsl, .nilsl])), none⟩,
    ⟨none, (.w (.store 27 (.tmp 9) (.tmp 62))), none⟩,
    ⟨(some 10), (.p (.mov (.tmp 63))), none⟩])
  (.seq (.reg [⟨(some 64), (.p (.mov (.tmp 10))), none⟩,
    ⟨(some 65), (.p (.un .not (.tmp 64))), none⟩,
    ⟨(some 66), (.p (.mov (.tmp 65))), none⟩,
    ⟨(some 67), (.p (.fieldA 1 (.tmp 9))), (some (66, false))⟩,
    ⟨(some 68), (.r (.load none (.tmp 67))), (some (66, false))⟩,
    ⟨(some 69), (.p (.mov (.tmp 7))), (some (66, false))⟩,
    ⟨(some 70), (.p (.ibin .neq (.tmp 68) (.tmp 69))), (some (66, false))⟩,
    ⟨(some 71), (.p (.pick (.tmp 66) (.cst (.bool true)) (.tmp 70))), none⟩])
  (.cond (.tmp 71) (.seq (.reg [⟨(some 4), (.p (.mov (.cst (.bool false)))), none⟩])
  .ret)
  .skip)))))))
  (.reg [⟨(some 29), (.p (.mov (.tmp 7))), none⟩,
    ⟨(some 30), (.p (.ibin .add (.tmp 29) (.cst (.int .i64 1)))), none⟩,
    ⟨(some 7), (.p (.mov (.tmp 30))), none⟩]))))))
  (.seq (.seq (.reg [⟨(some 72), (.p (.fieldA 3 (.tmp 5))), none⟩,
    ⟨(some 73), (.r (.load none (.tmp 72))), none⟩,
    ⟨(some 74), (.p (.len (.tmp 73))), none⟩,
    ⟨(some 75), (.p (.mov (.tmp 6))), none⟩,
    ⟨(some 76), (.p (.len (.tmp 75))), none⟩,
    ⟨(some 77), (.p (.ibin .neq (.tmp 74) (.tmp 76))), none⟩,
    ⟨(some 78), (.p (.mov (.tmp 77))), none⟩,
    ⟨(some 79), (.p (.fieldA 4 (.tmp 5))), (some (78, false))⟩,
    ⟨(some 80), (.r (.load none (.tmp 79))), (some (78, false))⟩,
    ⟨(some 81), (.p (.len (.tmp 80))), (some (78, false))⟩,
    ⟨(some 82), (.p (.mov (.tmp 6))), (some (78, false))⟩,
    ⟨(some 83), (.p (.len (.tmp 82))), (some (78, false))⟩,
    ⟨(some 84), (.p (.ibin .neq (.tmp 81) (.tmp 83))), (some (78, false))⟩,
    ⟨(some 85), (.p (.pick (.tmp 78) (.cst (.bool true)) (.tmp 84))), none⟩])
  (.cond (.tmp 85) (.seq (.reg [⟨(some 4), (.p (.mov (.cst (.bool false)))), none⟩])
  .ret)
  .skip))
  (.seq (.seq (.reg [⟨(some 11), (.p (.mov (.cst (.int .i64 0)))), none⟩])
  (.block 2 (.loop (.seq (.seq (.reg [⟨(some 86), (.p (.mov (.tmp 11))), none⟩,
    ⟨(some 87), (.p (.mov (.tmp 6))), none⟩,
    ⟨(some 88), (.p (.len (.tmp 87))), none⟩,
    ⟨(some 89), (.p (.ibin .lss (.tmp 86) (.tmp 88))), none⟩])
  (.cond (.tmp 89) .skip
  (.exit 2)))
  (.seq (.block 3 (.seq (.draw [(⟨(some 92), (.p (.fieldA 3 (.tmp 5))), none⟩, 0, 0),
    (⟨(some 93), (.r (.load none (.tmp 92))), none⟩, 0, 0),
    (⟨(some 94), (.p (.mov (.tmp 11))), none⟩, 0, 0),
    (⟨(some 95), (.p (.idxA 27 (.tmp 93) (.tmp 94))), none⟩, 0, 0),
    (⟨(some 96), (.p (.fieldA 0 (.tmp 95))), none⟩, 0, 0),
    (⟨(some 97), (.r (.load none (.tmp 96))), none⟩, 0, 0),
    (⟨(some 98), (.p (.mov (.tmp 6))), none⟩, 0, 0),
    (⟨(some 99), (.p (.mov (.tmp 11))), none⟩, 0, 0),
    (⟨(some 100), (.p (.idxA 1 (.tmp 98) (.tmp 99))), none⟩, 0, 0),
    (⟨(some 101), (.r (.load none (.tmp 100))), none⟩, 0, 0),
    (⟨(some 102), (.p (.ibin .neq (.tmp 97) (.tmp 101))), none⟩, 0, 0),
    (⟨(some 103), (.p (.mov (.tmp 102))), none⟩, 0, 0),
    (⟨(some 104), (.p (.fieldA 4 (.tmp 5))), (some (103, false))⟩, 0, 0),
    (⟨(some 105), (.r (.load none (.tmp 104))), (some (103, false))⟩, 0, 0),
    (⟨(some 106), (.p (.mov (.tmp 11))), (some (103, false))⟩, 0, 0),
    (⟨(some 107), (.p (.idxA 7 (.tmp 105) (.tmp 106))), (some (103, false))⟩, 0, 0),
    (⟨(some 108), (.p (.fieldA 0 (.tmp 107))), (some (103, false))⟩, 0, 0),
    (⟨(some 109), (.r (.load none (.tmp 108))), (some (103, false))⟩, 0, 0),
    (⟨(some 110), (.p (.mov (.tmp 6))), (some (103, false))⟩, 0, 0),
    (⟨(some 111), (.p (.mov (.tmp 11))), (some (103, false))⟩, 0, 0),
    (⟨(some 112), (.p (.idxA 1 (.tmp 110) (.tmp 111))), (some (103, false))⟩, 0, 0),
    (⟨(some 113), (.r (.load none (.tmp 112))), (some (103, false))⟩, 0, 0),
    (⟨(some 114), (.p (.ibin .neq (.tmp 109) (.tmp 113))), (some (103, false))⟩, 0, 0),
    (⟨(some 115), (.p (.pick (.tmp 103) (.cst (.bool true)) (.tmp 114))), none⟩, 0, 0)])
  (.cond (.tmp 115) (.seq (.reg [⟨(some 4), (.p (.mov (.cst (.bool false)))), none⟩])
  .ret)
  .skip)))
  (.reg [⟨(some 90), (.p (.mov (.tmp 11))), none⟩,
    ⟨(some 91), (.p (.ibin .add (.tmp 90) (.cst (.int .i64 1)))), none⟩,
    ⟨(some 11), (.p (.mov (.tmp 91))), none⟩]))))))
  (.seq (.reg [⟨(some 116), (.r (.load (some 5) (.tmp 5))), none⟩,
    ⟨(some 117), (.p (.mov (.tmp 1))), none⟩,
    ⟨(some 118), (.p (.build [(.int .i64 0), (.int .u64 0), (.int .i64 0), (.int .i64 0), (.int .i64 0), (.int .i64 0), (.int .i64 0), (.int .i64 0), (.int .i64 0), (.int .u64 0), (.int .i64 0), (.int .i64 0), (.str []), (.str []), (.str []), (.str []), (.int .u64 0), (.str []), (.str []), (.str []), (.str []), (.int .i64 0), (.str []), (.str []), (.int .i64 0), (.str []), .nilsl, (.str []), (.str []), .nilsl, .nilsl, (.int .i64 0), (.int .u64 0), (.str []), (.str []), (.str []), .nilsl, .nilsl] [(0, 1, (.cst (.int .i64 4))), (2, 1, (.tmp 117))])), none⟩,
    ⟨(some 119), (.p (.mov (.tmp 1))), none⟩,
    ⟨(some 120), (.p (.build [(.int .i64 0), (.int .u64 0), (.int .i64 0), (.int .i64 0), (.int .i64 0), (.int .i64 0), (.int .i64 0), (.int .i64 0), (.int .i64 0), (.int .u64 0), (.int .i64 0), (.int .i64 0), (.str []), (.str []), (.str []), (.str []), (.int .u64 0), (.str []), (.str []), (.str []), (.str []), (.int .i64 0), (.str []), (.str []), (.int .i64 0), (.str []), .nilsl, (.str []), (.str []), .nilsl, .nilsl, (.int .i64 0), (.int .u64 0), (.str []), (.str []), (.str []), .nilsl, .nilsl] [(0, 1, (.cst (.int .i64 6))), (2, 1, (.tmp 119))])), none⟩,
    ⟨(some 121), (.p (.lit 38 (.agg [(.int .i64 0), (.int .u64 0), (.int .i64 0), (.int .i64 0), (.int .i64 0), (.int .i64 0), (.int .i64 0), (.int .i64 0), (.int .i64 0), (.int .u64 0), (.int .i64 0), (.int .i64 0), (.str []), (.str []), (.str []), (.str []), (.int .u64 0), (.str []), (.str []), (.str []), (.str []), (.int .i64 0), (.str []), (.str []), (.int .i64 0), (.str []), .nilsl, (.str []), (.str []), .nilsl, .nilsl, (.int .i64 0), (.int .u64 0), (.str []), (.str []), (.str []), .nilsl, .nilsl]) 2 [(0, (.tmp 118)), (1, (.tmp 120))])), none⟩,
    ⟨(some 122), (.r (.pcall (.cst (.fn 24 [] [])) [(.tmp 116), (.tmp 121)])), none⟩,
    ⟨(some 12), (.w (.alloc [(.int .u64 0), (.int .i64 0), (.int .i64 0), .nilsl, .nilsl])), none⟩,
    ⟨none, (.w (.store 5 (.tmp 12) (.tmp 122))), none⟩])
  (.seq (.reg [⟨(some 124), (.r (.load (some 5) (.tmp 12))), none⟩,
    ⟨(some 125), (.p (.mov (.tmp 1))), none⟩,
    ⟨(some 126), (.r (.pcall (.cst (.fn 26 [] [])) [(.tmp 124), (.tmp 125)])), none⟩,
    ⟨(some 123), (.p (.mov (.tmp 126))), none⟩,
    ⟨(some 127), (.p (.ext (.tmp 123) 0)), none⟩,
    ⟨(some 128), (.p (.ext (.tmp 123) 1)), none⟩,
    ⟨(some 13), (.w (.alloc [(.int .i64 0), (.int .i64 0), (.int .i64 0), (.int .i64 0), (.int .i64 0), (.int .u64 0), (.int .i64 0), (.int .i64 0), (.str []), (.str []), (.str []), (.str []), (.int .u64 0), (.str []), (.str []), (.str []), (.str []), (.int .i64 0), (.str []), (.str []), (.int .i64 0), (.str []), .nilsl, (.str []), (.str []), .nilsl, .nilsl])), none⟩,
    ⟨none, (.w (.store 27 (.tmp 13) (.tmp 127))), none⟩,
    ⟨(some 14), (.p (.mov (.tmp 128))), none⟩])
  (.seq (.reg [⟨(some 129), (.p (.mov (.tmp 6))), none⟩,
    ⟨(some 130), (.p (.len (.tmp 129))), none⟩,
    ⟨(some 15), (.p (.mov (.tmp 130))), none⟩])
  (.seq (.seq (.reg [⟨(some 131), (.p (.mov (.tmp 6))), none⟩,
    ⟨(some 132), (.p (.mov (.tmp 1))), none⟩,
    ⟨(some 133), (.r (.pcall (.cst (.fn 25 [] [])) [(.tmp 131), (.tmp 132)])), none⟩])
  (.cond (.tmp 133) (.reg [⟨(some 134), (.p (.mov (.tmp 15))), none⟩,
    ⟨(some 135), (.p (.ibin .sub (.tmp 134) (.cst (.int .i64 1)))), none⟩,
    ⟨(some 15), (.p (.mov (.tmp 135))), none⟩])
  .skip))
  (.seq (.reg [⟨(some 136), (.r (.pcall (.cst (.fn 27 [] [])) [])), none⟩,
    ⟨(some 137), (.p (.mov (.tmp 136))), none⟩,
    ⟨(some 138), (.p (.mov (.tmp 14))), (some (137, true))⟩,
    ⟨(some 139), (.p (.un .not (.tmp 138))), (some (137, true))⟩,
    ⟨(some 140), (.p (.pick (.tmp 137) (.tmp 139) (.cst (.bool false)))), none⟩,
    ⟨(some 141), (.p (.mov (.tmp 140))), none⟩,
    ⟨(some 142), (.p (.fieldA 3 (.tmp 12))), (some (141, true))⟩,
    ⟨(some 143), (.r (.load none (.tmp 142))), (some (141, true))⟩,
    ⟨(some 144), (.p (.len (.tmp 143))), (some (141, true))⟩,
    ⟨(some 145), (.p (.mov (.tmp 15))), (some (141, true))⟩,
    ⟨(some 146), (.p (.ibin .eql (.tmp 144) (.tmp 145))), (some (141, true))⟩,
    ⟨(some 147), (.p (.pick (.tmp 141) (.tmp 146) (.cst (.bool false)))), none⟩,
    ⟨(some 148), (.p (.mov (.tmp 147))), none⟩,
    ⟨(some 149), (.p (.fieldA 4 (.tmp 12))), (some (148, true))⟩,
    ⟨(some 150), (.r (.load none (.tmp 149))), (some (148, true))⟩,
    ⟨(some 151), (.p (.len (.tmp 150))), (some (148, true))⟩,
    ⟨(some 152), (.p (.mov (.tmp 15))), (some (148, true))⟩,
    ⟨(some 153), (.p (.ibin .eql (.tmp 151) (.tmp 152))), (some (148, true))⟩,
    ⟨(some 154), (.p (.pick (.tmp 148) (.tmp 153) (.cst (.bool false)))), none⟩,
    ⟨(some 4), (.p (.mov (.tmp 154))), none⟩])
  .ret))))))))))))
def f4 : VF := { body := b4, res := [(.tmp 4)] }
-- comptoir/comptoirlaw24.StateWhole
def b5 : VC := (.seq (.reg [⟨(some 4), (.p (.mov (.cst (.bool false)))), none⟩])
  (.seq (.seq (.reg [⟨(some 7), (.p (.mov (.tmp 0))), none⟩,
    ⟨(some 8), (.p (.len (.tmp 7))), none⟩,
    ⟨(some 9), (.p (.ibin .gtr (.tmp 8) (.cst (.int .i64 40)))), none⟩])
  (.cond (.tmp 9) (.seq (.reg [⟨(some 10), (.r (.pcall (.cst (.fn 27 [] [])) [])), none⟩,
    ⟨(some 4), (.p (.mov (.tmp 10))), none⟩])
  .ret)
  .skip))
  (.seq (.reg [⟨(some 11), (.p (.mov (.tmp 1))), none⟩,
    ⟨(some 12), (.p (.conv (.toInt .u64) (.tmp 11))), none⟩,
    ⟨(some 13), (.p (.mov (.tmp 0))), none⟩,
    ⟨(some 14), (.p (.len (.tmp 13))), none⟩,
    ⟨(some 15), (.p (.ibin .add (.tmp 14) (.cst (.int .i64 1)))), none⟩,
    ⟨(some 16), (.p (.conv (.toInt .u64) (.tmp 15))), none⟩,
    ⟨(some 17), (.p (.ibin .rem (.tmp 12) (.tmp 16))), none⟩,
    ⟨(some 18), (.p (.conv (.toInt .i64) (.tmp 17))), none⟩,
    ⟨(some 1), (.p (.mov (.tmp 18))), none⟩])
  (.seq (.reg [⟨(some 19), (.r (.pcall (.cst (.fn 23 [] [])) [])), none⟩,
    ⟨(some 20), (.p (.mov (.tmp 0))), none⟩,
    ⟨(some 21), (.r (.pcall (.cst (.fn 24 [] [])) [(.tmp 19), (.tmp 20)])), none⟩,
    ⟨(some 5), (.w (.alloc [(.int .u64 0), (.int .i64 0), (.int .i64 0), .nilsl, .nilsl])), none⟩,
    ⟨none, (.w (.store 5 (.tmp 5) (.tmp 21))), none⟩])
  (.seq (.draw [(⟨(some 22), (.r (.pcall (.cst (.fn 23 [] [])) [])), none⟩, 0, 1),
    (⟨(some 23), (.p (.mov (.tmp 0))), none⟩, 0, 1),
    (⟨(some 24), (.p (.mov (.tmp 1))), none⟩, 0, 1),
    (⟨(some 25), (.p (.slice 38 (.tmp 23) none (some (.tmp 24)))), none⟩, 0, 1),
    (⟨(some 26), (.r (.pcall (.cst (.fn 24 [] [])) [(.tmp 22), (.tmp 25)])), none⟩, 0, 1),
    (⟨(some 27), (.p (.mov (.tmp 0))), none⟩, 0, 1),
    (⟨(some 28), (.p (.mov (.tmp 1))), none⟩, 0, 1),
    (⟨(some 29), (.p (.slice 38 (.tmp 27) (some (.tmp 28)) none)), none⟩, 0, 1),
    (⟨(some 30), (.r (.pcall (.cst (.fn 24 [] [])) [(.tmp 26), (.tmp 29)])), none⟩, 0, 1),
    (⟨(some 6), (.w (.alloc [(.int .u64 0), (.int .i64 0), (.int .i64 0), .nilsl, .nilsl])), none⟩, 0, 0),
    (⟨none, (.w (.store 5 (.tmp 6) (.tmp 30))), none⟩, 1, 1)])
  (.seq (.draw [(⟨(some 31), (.r (.pcall (.cst (.fn 27 [] [])) [])), none⟩, 0, 0),
    (⟨(some 32), (.p (.mov (.tmp 31))), none⟩, 0, 0),
    (⟨(some 33), (.r (.load (some 5) (.tmp 6))), (some (32, true))⟩, 0, 0),
    (⟨(some 34), (.r (.load (some 5) (.tmp 5))), (some (32, true))⟩, 0, 0),
    (⟨(some 35), (.r (.pcall (.cst (.fn 28 [] [])) [(.tmp 33), (.tmp 34)])), (some (32, true))⟩, 0, 0),
    (⟨(some 36), (.p (.pick (.tmp 32) (.tmp 35) (.cst (.bool false)))), none⟩, 0, 0),
    (⟨(some 37), (.p (.mov (.tmp 36))), none⟩, 0, 0),
    (⟨(some 38), (.r (.pcall (.cst (.fn 23 [] [])) [])), (some (37, true))⟩, 0, 0),
    (⟨(some 39), (.r (.load (some 5) (.tmp 5))), (some (37, true))⟩, 0, 0),
    (⟨(some 40), (.r (.pcall (.cst (.fn 29 [] [])) [(.tmp 39)])), (some (37, true))⟩, 0, 0),
    (⟨(some 41), (.r (.pcall (.cst (.fn 24 [] [])) [(.tmp 38), (.tmp 40)])), (some (37, true))⟩, 0, 0),
    (⟨(some 42), (.r (.load (some 5) (.tmp 5))), (some (37, true))⟩, 0, 0),
    (⟨(some 43), (.r (.pcall (.cst (.fn 28 [] [])) [(.tmp 41), (.tmp 42)])), (some (37, true))⟩, 0, 0),
    (⟨(some 44), (.p (.pick (.tmp 37) (.tmp 43) (.cst (.bool false)))), none⟩, 0, 0),
    (⟨(some 4), (.p (.mov (.tmp 44))), none⟩, 0, 0)])
  .ret))))))
def f5 : VF := { body := b5, res := [(.tmp 4)] }
-- comptoir/comptoirlaw06.LinkParts
def b6 : VC := (.seq (.reg [⟨(some 4), (.p (.mov (.cst (.bool false)))), none⟩])
  (.seq (.reg [⟨(some 5), (.p (.mov (.cst .nilsl))), none⟩])
  (.seq (.reg [⟨(some 6), (.p (.mov (.cst .nilsl))), none⟩])
  (.seq (.seq (.reg [⟨(some 7), (.p (.mov (.cst (.int .i64 0)))), none⟩])
  (.block 0 (.loop (.seq (.seq (.reg [⟨(some 19), (.p (.mov (.tmp 7))), none⟩,
    ⟨(some 20), (.p (.mov (.tmp 0))), none⟩,
    ⟨(some 21), (.p (.len (.tmp 20))), none⟩,
    ⟨(some 22), (.p (.ibin .lss (.tmp 19) (.tmp 21))), none⟩,
    ⟨(some 23), (.p (.mov (.tmp 22))), none⟩,
    ⟨(some 24), (.p (.mov (.tmp 7))), (some (23, true))⟩,
    ⟨(some 25), (.p (.ibin .lss (.tmp 24) (.cst (.int .i64 12)))), (some (23, true))⟩,
    ⟨(some 26), (.p (.pick (.tmp 23) (.tmp 25) (.cst (.bool false)))), none⟩])
  (.cond (.tmp 26) .skip
  (.exit 0)))
  (.seq (.block 1 (.seq (.reg [⟨(some 29), (.p (.mov (.tmp 0))), none⟩,
    ⟨(some 30), (.p (.mov (.tmp 7))), none⟩,
    ⟨(some 31), (.p (.idxA 1 (.tmp 29) (.tmp 30))), none⟩,
    ⟨(some 32), (.r (.load none (.tmp 31))), none⟩,
    ⟨(some 33), (.p (.conv (.toInt .u64) (.tmp 32))), none⟩,
    ⟨(some 34), (.p (.ibin .rem (.tmp 33) (.cst (.int .u64 300)))), none⟩,
    ⟨(some 35), (.p (.conv (.toInt .i64) (.tmp 34))), none⟩,
    ⟨(some 36), (.p (.ibin .add (.cst (.int .i64 1)) (.tmp 35))), none⟩,
    ⟨(some 37), (.w (.mksl 1 1 (.int .u8 0) (.tmp 36) (.tmp 36))), none⟩,
    ⟨(some 8), (.p (.mov (.tmp 37))), none⟩])
  (.seq (.seq (.reg [⟨(some 38), (.p (.mov (.tmp 8))), none⟩,
    ⟨(some 39), (.p (.len (.tmp 38))), none⟩,
    ⟨(some 40), (.p (.mov (.cst (.int .i64 0)))), none⟩])
  (.block 2 (.loop (.seq (.reg [⟨(some 41), (.p (.ibin .lss (.tmp 40) (.tmp 39))), none⟩])
  (.seq (.cond (.tmp 41) .skip
  (.exit 2))
  (.seq (.block 3 (.seq (.reg [⟨(some 42), (.p (.mov (.tmp 40))), none⟩,
    ⟨(some 9), (.p (.mov (.tmp 42))), none⟩])
  (.reg [⟨(some 43), (.p (.mov (.tmp 8))), none⟩,
    ⟨(some 44), (.p (.mov (.tmp 9))), none⟩,
    ⟨(some 45), (.p (.mov (.tmp 7))), none⟩,
    ⟨(some 46), (.p (.mov (.tmp 9))), none⟩,
    ⟨(some 47), (.p (.ibin .add (.tmp 45) (.tmp 46))), none⟩,
    ⟨(some 48), (.p (.conv (.toInt .u8) (.tmp 47))), none⟩,
    ⟨(some 49), (.p (.idxA 1 (.tmp 43) (.tmp 44))), none⟩,
    ⟨none, (.w (.store 1 (.tmp 49) (.tmp 48))), none⟩])))
  (.reg [⟨(some 50), (.p (.ibin .add (.tmp 40) (.cst (.int .i64 1)))), none⟩,
    ⟨(some 40), (.p (.mov (.tmp 50))), none⟩])))))))
  (.seq (.reg [⟨(some 52), (.p (.mov (.tmp 8))), none⟩,
    ⟨(some 53), (.r (.pcall (.cst (.fn 30 [] [])) [(.tmp 52)])), none⟩,
    ⟨(some 51), (.p (.mov (.tmp 53))), none⟩,
    ⟨(some 54), (.p (.ext (.tmp 51) 0)), none⟩,
    ⟨(some 55), (.p (.ext (.tmp 51) 1)), none⟩,
    ⟨(some 10), (.p (.mov (.tmp 54))), none⟩,
    ⟨(some 11), (.p (.mov (.tmp 55))), none⟩])
  (.seq (.seq (.reg [⟨(some 56), (.p (.mov (.tmp 11))), none⟩,
    ⟨(some 57), (.p (.ibin .neq (.tmp 56) (.cst (.int .i64 0)))), none⟩])
  (.cond (.tmp 57) (.seq (.reg [⟨(some 4), (.p (.mov (.cst (.bool false)))), none⟩])
  .ret)
  .skip))
  (.reg [⟨(some 58), (.p (.mov (.tmp 5))), none⟩,
    ⟨(some 59), (.p (.mov (.tmp 10))), none⟩,
    ⟨(some 60), (.w (.append 1 1 (.tmp 58) (.tmp 59))), none⟩,
    ⟨(some 61), (.p (.mov (.tmp 6))), none⟩,
    ⟨(some 62), (.p (.mov (.tmp 8))), none⟩,
    ⟨(some 63), (.p (.lit 1 .nilsl 1 [(0, (.tmp 62))])), none⟩,
    ⟨(some 64), (.w (.append 1 24 (.tmp 61) (.tmp 63))), none⟩,
    ⟨(some 5), (.p (.mov (.tmp 60))), none⟩,
    ⟨(some 6), (.p (.mov (.tmp 64))), none⟩]))))))
  (.reg [⟨(some 27), (.p (.mov (.tmp 7))), none⟩,
    ⟨(some 28), (.p (.ibin .add (.tmp 27) (.cst (.int .i64 1)))), none⟩,
    ⟨(some 7), (.p (.mov (.tmp 28))), none⟩]))))))
  (.seq (.reg [⟨(some 65), (.w (.call (.cst (.fn 31 [] [])) [])), none⟩,
    ⟨(some 12), (.p (.mov (.tmp 65))), none⟩])
  (.seq (.seq (.reg [⟨(some 66), (.r (.pcall (.cst (.fn 32 [] [])) [])), none⟩,
    ⟨(some 67), (.p (.un .not (.tmp 66))), none⟩,
    ⟨(some 68), (.p (.mov (.tmp 67))), none⟩,
    ⟨(some 69), (.p (.mov (.tmp 12))), (some (68, false))⟩,
    ⟨(some 70), (.p (.nileq 0 false (.tmp 69) (.cst .nilp))), (some (68, false))⟩,
    ⟨(some 71), (.p (.pick (.tmp 68) (.cst (.bool true)) (.tmp 70))), none⟩])
  (.cond (.tmp 71) (.seq (.reg [⟨(some 4), (.p (.mov (.cst (.bool false)))), none⟩])
  .ret)
  .skip))
  (.seq (.reg [⟨(some 13), (.p (.mov (.cst .nilsl))), none⟩])
  (.seq (.reg [⟨(some 14), (.p (.mov (.cst (.int .i64 0)))), none⟩])
  (.seq (.seq (.reg [⟨(some 15), (.p (.mov (.cst (.int .i64 0)))), none⟩])
  (.block 4 (.loop (.seq (.seq (.reg [⟨(some 72), (.p (.mov (.tmp 14))), none⟩,
    ⟨(some 73), (.p (.mov (.tmp 5))), none⟩,
    ⟨(some 74), (.p (.len (.tmp 73))), none⟩,
    ⟨(some 75), (.p (.ibin .lss (.tmp 72) (.tmp 74))), none⟩])
  (.cond (.tmp 75) .skip
  (.exit 4)))
  (.seq (.block 5 (.seq (.reg [⟨(some 78), (.p (.mov (.tmp 5))), none⟩,
    ⟨(some 79), (.p (.len (.tmp 78))), none⟩,
    ⟨(some 80), (.p (.mov (.tmp 14))), none⟩,
    ⟨(some 81), (.p (.ibin .sub (.tmp 79) (.tmp 80))), none⟩,
    ⟨(some 16), (.p (.mov (.tmp 81))), none⟩])
  (.seq (.seq (.reg [⟨(some 82), (.p (.mov (.tmp 15))), none⟩,
    ⟨(some 83), (.p (.mov (.tmp 1))), none⟩,
    ⟨(some 84), (.p (.len (.tmp 83))), none⟩,
    ⟨(some 85), (.p (.ibin .lss (.tmp 82) (.tmp 84))), none⟩,
    ⟨(some 86), (.p (.mov (.tmp 85))), none⟩,
    ⟨(some 87), (.p (.mov (.tmp 15))), (some (86, true))⟩,
    ⟨(some 88), (.p (.ibin .lss (.tmp 87) (.cst (.int .i64 80)))), (some (86, true))⟩,
    ⟨(some 89), (.p (.pick (.tmp 86) (.tmp 88) (.cst (.bool false)))), none⟩])
  (.cond (.tmp 89) (.reg [⟨(some 90), (.p (.mov (.tmp 16))), none⟩,
    ⟨(some 91), (.p (.mov (.tmp 1))), none⟩,
    ⟨(some 92), (.p (.mov (.tmp 15))), none⟩,
    ⟨(some 93), (.p (.idxA 1 (.tmp 91) (.tmp 92))), none⟩,
    ⟨(some 94), (.r (.load none (.tmp 93))), none⟩,
    ⟨(some 95), (.p (.conv (.toInt .u64) (.tmp 94))), none⟩,
    ⟨(some 96), (.p (.ibin .rem (.tmp 95) (.cst (.int .u64 200)))), none⟩,
    ⟨(some 97), (.p (.conv (.toInt .i64) (.tmp 96))), none⟩,
    ⟨(some 98), (.p (.mm false (.tmp 90) (.tmp 97))), none⟩,
    ⟨(some 16), (.p (.mov (.tmp 98))), none⟩])
  .skip))
  (.seq (.reg [⟨(some 100), (.p (.mov (.tmp 12))), none⟩,
    ⟨(some 101), (.p (.mov (.tmp 5))), none⟩,
    ⟨(some 102), (.p (.mov (.tmp 14))), none⟩,
    ⟨(some 103), (.p (.mov (.tmp 14))), none⟩,
    ⟨(some 104), (.p (.mov (.tmp 16))), none⟩,
    ⟨(some 105), (.p (.ibin .add (.tmp 103) (.tmp 104))), none⟩,
    ⟨(some 106), (.p (.slice 1 (.tmp 101) (some (.tmp 102)) (some (.tmp 105)))), none⟩,
    ⟨(some 107), (.w (.call (.cst (.fn 33 [] [])) [(.tmp 100), (.tmp 106)])), none⟩,
    ⟨(some 99), (.p (.mov (.tmp 107))), none⟩,
    ⟨(some 108), (.p (.ext (.tmp 99) 0)), none⟩,
    ⟨(some 109), (.p (.ext (.tmp 99) 1)), none⟩,
    ⟨(some 17), (.p (.mov (.tmp 108))), none⟩,
    ⟨(some 18), (.p (.mov (.tmp 109))), none⟩])
  (.seq (.seq (.reg [⟨(some 110), (.p (.mov (.tmp 18))), none⟩,
    ⟨(some 111), (.p (.ibin .neq (.tmp 110) (.cst (.int .i64 0)))), none⟩])
  (.cond (.tmp 111) (.seq (.reg [⟨(some 4), (.p (.mov (.cst (.bool false)))), none⟩])
  .ret)
  .skip))
  (.reg [⟨(some 112), (.p (.mov (.tmp 13))), none⟩,
    ⟨(some 113), (.p (.mov (.tmp 17))), none⟩,
    ⟨(some 114), (.w (.append 1 24 (.tmp 112) (.tmp 113))), none⟩,
    ⟨(some 115), (.p (.mov (.tmp 14))), none⟩,
    ⟨(some 116), (.p (.mov (.tmp 16))), none⟩,
    ⟨(some 117), (.p (.ibin .add (.tmp 115) (.tmp 116))), none⟩,
    ⟨(some 13), (.p (.mov (.tmp 114))), none⟩,
    ⟨(some 14), (.p (.mov (.tmp 117))), none⟩]))))))
  (.reg [⟨(some 76), (.p (.mov (.tmp 15))), none⟩,
    ⟨(some 77), (.p (.ibin .add (.tmp 76) (.cst (.int .i64 1)))), none⟩,
    ⟨(some 15), (.p (.mov (.tmp 77))), none⟩]))))))
  (.seq (.reg [⟨(some 118), (.p (.mov (.tmp 13))), none⟩,
    ⟨(some 119), (.p (.mov (.tmp 6))), none⟩,
    ⟨(some 120), (.r (.pcall (.cst (.fn 34 [] [])) [(.tmp 118), (.tmp 119), (.cst (.fn 20 [] []))])), none⟩,
    ⟨(some 4), (.p (.mov (.tmp 120))), none⟩])
  .ret))))))))))
def f6 : VF := { body := b6, res := [(.tmp 4)] }
-- comptoir/comptoirlaw14.TlvBack
def b7 : VC := (.seq (.reg [⟨(some 6), (.p (.mov (.cst (.bool false)))), none⟩])
  (.seq (.seq (.reg [⟨(some 17), (.p (.mov (.tmp 1))), none⟩,
    ⟨(some 18), (.p (.len (.tmp 17))), none⟩,
    ⟨(some 19), (.p (.ibin .gtr (.tmp 18) (.cst (.int .i64 600)))), none⟩,
    ⟨(some 20), (.p (.mov (.tmp 19))), none⟩,
    ⟨(some 21), (.p (.mov (.tmp 0))), (some (20, false))⟩,
    ⟨(some 22), (.p (.len (.tmp 21))), (some (20, false))⟩,
    ⟨(some 23), (.p (.ibin .gtr (.tmp 22) (.cst (.int .i64 40)))), (some (20, false))⟩,
    ⟨(some 24), (.p (.pick (.tmp 20) (.cst (.bool true)) (.tmp 23))), none⟩])
  (.cond (.tmp 24) (.seq (.reg [⟨(some 25), (.r (.pcall (.cst (.fn 35 [] [])) [])), none⟩,
    ⟨(some 6), (.p (.mov (.tmp 25))), none⟩])
  .ret)
  .skip))
  (.seq (.reg [⟨(some 26), (.p (.mov (.tmp 0))), none⟩,
    ⟨(some 27), (.r (.pcall (.cst (.fn 36 [] [])) [(.tmp 26)])), none⟩,
    ⟨(some 0), (.p (.mov (.tmp 27))), none⟩])
  (.seq (.reg [⟨(some 29), (.p (.mov (.tmp 0))), none⟩,
    ⟨(some 30), (.r (.pcall (.cst (.fn 37 [] [])) [(.tmp 29)])), none⟩,
    ⟨(some 28), (.p (.mov (.tmp 30))), none⟩,
    ⟨(some 31), (.p (.ext (.tmp 28) 0)), none⟩,
    ⟨(some 32), (.p (.ext (.tmp 28) 1)), none⟩,
    ⟨(some 7), (.p (.mov (.tmp 31))), none⟩,
    ⟨(some 8), (.p (.mov (.tmp 32))), none⟩])
  (.seq (.reg [⟨(some 34), (.p (.mov (.tmp 7))), none⟩,
    ⟨(some 35), (.r (.pcall (.cst (.fn 38 [] [])) [(.tmp 34)])), none⟩,
    ⟨(some 33), (.p (.mov (.tmp 35))), none⟩,
    ⟨(some 36), (.p (.ext (.tmp 33) 0)), none⟩,
    ⟨(some 37), (.p (.ext (.tmp 33) 1)), none⟩,
    ⟨(some 9), (.p (.mov (.tmp 36))), none⟩,
    ⟨(some 10), (.p (.mov (.tmp 37))), none⟩])
  (.seq (.reg [⟨(some 39), (.p (.mov (.tmp 1))), none⟩,
    ⟨(some 40), (.r (.pcall (.cst (.fn 38 [] [])) [(.tmp 39)])), none⟩,
    ⟨(some 38), (.p (.mov (.tmp 40))), none⟩,
    ⟨(some 41), (.p (.ext (.tmp 38) 0)), none⟩,
    ⟨(some 42), (.p (.ext (.tmp 38) 1)), none⟩,
    ⟨(some 11), (.p (.mov (.tmp 41))), none⟩,
    ⟨(some 12), (.p (.mov (.tmp 42))), none⟩])
  (.seq (.seq (.reg [⟨(some 43), (.r (.pcall (.cst (.fn 35 [] [])) [])), none⟩,
    ⟨(some 44), (.p (.un .not (.tmp 43))), none⟩,
    ⟨(some 45), (.p (.mov (.tmp 44))), none⟩,
    ⟨(some 46), (.p (.mov (.tmp 8))), (some (45, false))⟩,
    ⟨(some 47), (.p (.ibin .neq (.tmp 46) (.cst (.int .i64 0)))), (some (45, false))⟩,
    ⟨(some 48), (.p (.pick (.tmp 45) (.cst (.bool true)) (.tmp 47))), none⟩,
    ⟨(some 49), (.p (.mov (.tmp 48))), none⟩,
    ⟨(some 50), (.p (.mov (.tmp 10))), (some (49, false))⟩,
    ⟨(some 51), (.p (.ibin .neq (.tmp 50) (.cst (.int .i64 0)))), (some (49, false))⟩,
    ⟨(some 52), (.p (.pick (.tmp 49) (.cst (.bool true)) (.tmp 51))), none⟩,
    ⟨(some 53), (.p (.mov (.tmp 52))), none⟩,
    ⟨(some 54), (.p (.mov (.tmp 9))), (some (53, false))⟩,
    ⟨(some 55), (.p (.mov (.tmp 0))), (some (53, false))⟩,
    ⟨(some 56), (.r (.pcall (.cst (.fn 39 [] [])) [(.tmp 54), (.tmp 55), (.cst (.fn 40 [] []))])), (some (53, false))⟩,
    ⟨(some 57), (.p (.un .not (.tmp 56))), (some (53, false))⟩,
    ⟨(some 58), (.p (.pick (.tmp 53) (.cst (.bool true)) (.tmp 57))), none⟩])
  (.cond (.tmp 58) (.seq (.reg [⟨(some 6), (.p (.mov (.cst (.bool false)))), none⟩])
  .ret)
  .skip))
  (.seq (.reg [⟨(some 59), (.p (.mov (.tmp 2))), none⟩,
    ⟨(some 60), (.p (.conv (.toInt .u64) (.tmp 59))), none⟩,
    ⟨(some 61), (.p (.mov (.tmp 7))), none⟩,
    ⟨(some 62), (.p (.len (.tmp 61))), none⟩,
    ⟨(some 63), (.p (.conv (.toInt .u64) (.tmp 62))), none⟩,
    ⟨(some 64), (.p (.ibin .rem (.tmp 60) (.tmp 63))), none⟩,
    ⟨(some 65), (.p (.conv (.toInt .i64) (.tmp 64))), none⟩,
    ⟨(some 2), (.p (.mov (.tmp 65))), none⟩])
  (.seq (.reg [⟨(some 67), (.p (.mov (.tmp 7))), none⟩,
    ⟨(some 68), (.p (.mov (.tmp 2))), none⟩,
    ⟨(some 69), (.p (.slice 1 (.tmp 67) none (some (.tmp 68)))), none⟩,
    ⟨(some 70), (.r (.pcall (.cst (.fn 38 [] [])) [(.tmp 69)])), none⟩,
    ⟨(some 66), (.p (.mov (.tmp 70))), none⟩,
    ⟨(some 71), (.p (.ext (.tmp 66) 0)), none⟩,
    ⟨(some 72), (.p (.ext (.tmp 66) 1)), none⟩,
    ⟨(some 13), (.p (.mov (.tmp 71))), none⟩,
    ⟨(some 14), (.p (.mov (.tmp 72))), none⟩])
  (.seq (.seq (.reg [⟨(some 73), (.p (.mov (.tmp 14))), none⟩,
    ⟨(some 74), (.p (.ibin .neq (.tmp 73) (.cst (.int .i64 3)))), none⟩,
    ⟨(some 75), (.p (.mov (.tmp 74))), none⟩,
    ⟨(some 76), (.p (.mov (.tmp 14))), (some (75, true))⟩,
    ⟨(some 77), (.p (.ibin .neq (.tmp 76) (.cst (.int .i64 0)))), (some (75, true))⟩,
    ⟨(some 78), (.p (.mov (.tmp 77))), (some (75, true))⟩,
    ⟨(some 79), (.p (.mov (.tmp 13))), (some (78, false))⟩,
    ⟨(some 80), (.p (.len (.tmp 79))), (some (78, false))⟩,
    ⟨(some 81), (.p (.mov (.tmp 0))), (some (78, false))⟩,
    ⟨(some 82), (.p (.len (.tmp 81))), (some (78, false))⟩,
    ⟨(some 83), (.p (.ibin .geq (.tmp 80) (.tmp 82))), (some (78, false))⟩,
    ⟨(some 84), (.p (.pick (.tmp 78) (.cst (.bool true)) (.tmp 83))), (some (75, true))⟩,
    ⟨(some 85), (.p (.pick (.tmp 75) (.tmp 84) (.cst (.bool false)))), none⟩])
  (.cond (.tmp 85) (.seq (.reg [⟨(some 6), (.p (.mov (.cst (.bool false)))), none⟩])
  .ret)
  .skip))
  (.seq (.seq (.reg [⟨(some 86), (.p (.mov (.tmp 12))), none⟩,
    ⟨(some 87), (.p (.ibin .neq (.tmp 86) (.cst (.int .i64 0)))), none⟩])
  (.cond (.tmp 87) (.seq (.reg [⟨(some 6), (.p (.mov (.cst (.bool true)))), none⟩])
  .ret)
  .skip))
  (.seq (.reg [⟨(some 89), (.p (.mov (.tmp 11))), none⟩,
    ⟨(some 90), (.r (.pcall (.cst (.fn 37 [] [])) [(.tmp 89)])), none⟩,
    ⟨(some 88), (.p (.mov (.tmp 90))), none⟩,
    ⟨(some 91), (.p (.ext (.tmp 88) 0)), none⟩,
    ⟨(some 92), (.p (.ext (.tmp 88) 1)), none⟩,
    ⟨(some 15), (.p (.mov (.tmp 91))), none⟩,
    ⟨(some 16), (.p (.mov (.tmp 92))), none⟩])
  (.seq (.reg [⟨(some 93), (.p (.mov (.tmp 16))), none⟩,
    ⟨(some 94), (.p (.ibin .eql (.tmp 93) (.cst (.int .i64 0)))), none⟩,
    ⟨(some 95), (.p (.mov (.tmp 94))), none⟩,
    ⟨(some 96), (.p (.mov (.tmp 15))), (some (95, true))⟩,
    ⟨(some 97), (.p (.mov (.tmp 1))), (some (95, true))⟩,
    ⟨(some 98), (.r (.pcall (.cst (.fn 20 [] [])) [(.tmp 96), (.tmp 97)])), (some (95, true))⟩,
    ⟨(some 99), (.p (.pick (.tmp 95) (.tmp 98) (.cst (.bool false)))), none⟩,
    ⟨(some 6), (.p (.mov (.tmp 99))), none⟩])
  .ret)))))))))))))
def f7 : VF := { body := b7, res := [(.tmp 6)] }
-- comptoir/disk.New
def b8 : VC := (.seq (.reg [⟨(some 0), (.p (.mov (.cst .nilp))), none⟩])
  (.seq (.reg [⟨(some 1), (.p (.build [.nilsl, .nilsl, (.int .i64 0), (.bool false), (.bool false)] [])), none⟩,
    ⟨(some 2), (.w (.box 5 (.tmp 1))), none⟩,
    ⟨(some 0), (.p (.mov (.tmp 2))), none⟩])
  .ret))
def f8 : VF := { body := b8, res := [(.tmp 0)] }
-- comptoir/comptoirlaw22.awake
def b9 : VC := (.seq (.reg [⟨(some 0), (.p (.mov (.cst (.bool false)))), none⟩])
  (.seq (.reg [⟨(some 2), (.w (.call (.cst (.fn 8 [] [])) [])), none⟩,
    ⟨(some 1), (.p (.mov (.tmp 2))), none⟩])
  (.seq (.seq (.reg [⟨(some 3), (.p (.mov (.tmp 1))), none⟩,
    ⟨(some 4), (.p (.nileq 0 false (.tmp 3) (.cst .nilp))), none⟩])
  (.cond (.tmp 4) (.seq (.reg [⟨(some 0), (.p (.mov (.cst (.bool false)))), none⟩])
  .ret)
  .skip))
  (.seq (.reg [⟨(some 5), (.p (.mov (.tmp 1))), none⟩,
    ⟨(some 6), (.w (.call (.cst (.fn 12 [] [])) [(.tmp 5), (.cst (.int .i64 1))])), none⟩])
  (.seq (.reg [⟨(some 7), (.p (.mov (.tmp 1))), none⟩,
    ⟨(some 8), (.p (.lit 1 (.int .u8 0) 2 [(0, (.cst (.int .u8 1))), (1, (.cst (.int .u8 2)))])), none⟩,
    ⟨(some 9), (.w (.call (.cst (.fn 17 [] [])) [(.tmp 7), (.cst (.int .i64 0)), (.tmp 8)])), none⟩,
    ⟨(some 10), (.p (.ibin .eql (.tmp 9) (.cst (.int .i64 24)))), none⟩,
    ⟨(some 11), (.p (.mov (.tmp 10))), none⟩,
    ⟨(some 12), (.p (.mov (.tmp 1))), (some (11, true))⟩,
    ⟨(some 13), (.r (.pcall (.cst (.fn 22 [] [])) [(.tmp 12)])), (some (11, true))⟩,
    ⟨(some 14), (.p (.pick (.tmp 11) (.tmp 13) (.cst (.bool false)))), none⟩,
    ⟨(some 15), (.p (.mov (.tmp 14))), none⟩,
    ⟨(some 16), (.p (.mov (.tmp 1))), (some (15, true))⟩,
    ⟨(some 17), (.r (.pcall (.cst (.fn 21 [] [])) [(.tmp 16), (.cst (.int .i64 0))])), (some (15, true))⟩,
    ⟨(some 18), (.p (.lit 1 (.int .u8 0) 1 [(0, (.cst (.int .u8 1)))])), (some (15, true))⟩,
    ⟨(some 19), (.r (.pcall (.cst (.fn 20 [] [])) [(.tmp 17), (.tmp 18)])), (some (15, true))⟩,
    ⟨(some 20), (.p (.pick (.tmp 15) (.tmp 19) (.cst (.bool false)))), none⟩,
    ⟨(some 0), (.p (.mov (.tmp 20))), none⟩])
  .ret)))))
def f9 : VF := { body := b9, res := [(.tmp 0)] }
-- (*comptoir/disk.Disk).Erase
def b10 : VC := (.seq (.reg [⟨(some 4), (.p (.mov (.cst (.int .i64 0)))), none⟩])
  (.seq (.reg [⟨(some 6), (.p (.mov (.tmp 0))), none⟩,
    ⟨(some 7), (.p (.mov (.tmp 1))), none⟩,
    ⟨(some 8), (.r (.pcall (.cst (.fn 41 [] [])) [(.tmp 6), (.tmp 7)])), none⟩,
    ⟨(some 5), (.p (.mov (.tmp 8))), none⟩])
  (.seq (.seq (.reg [⟨(some 9), (.p (.mov (.tmp 5))), none⟩,
    ⟨(some 10), (.p (.ibin .eql (.tmp 9) (.cst (.int .i64 0)))), none⟩])
  (.cond (.tmp 10) (.reg [⟨(some 11), (.p (.mov (.tmp 0))), none⟩,
    ⟨(some 12), (.p (.mov (.tmp 1))), none⟩,
    ⟨(some 13), (.p (.nilck (.tmp 11))), none⟩,
    ⟨(some 14), (.p (.fieldA 0 (.tmp 13))), none⟩,
    ⟨(some 15), (.p (.idxArr 2 1 (.tmp 14) (.tmp 12))), none⟩,
    ⟨none, (.w (.store 1 (.tmp 15) (.cst .nilsl))), none⟩])
  .skip))
  (.seq (.reg [⟨(some 16), (.p (.mov (.tmp 5))), none⟩,
    ⟨(some 4), (.p (.mov (.tmp 16))), none⟩])
  .ret))))
def f10 : VF := { body := b10, res := [(.tmp 4)] }
-- (*comptoir/comptoirref21.Disk).Erase
def b11 : VC := (.seq (.reg [⟨(some 4), (.p (.mov (.cst (.int .i64 0)))), none⟩])
  (.seq (.seq (.reg [⟨(some 5), (.p (.mov (.tmp 1))), none⟩,
    ⟨(some 6), (.p (.ibin .neq (.tmp 5) (.cst (.int .i64 0)))), none⟩,
    ⟨(some 7), (.p (.mov (.tmp 6))), none⟩,
    ⟨(some 8), (.p (.mov (.tmp 1))), (some (7, true))⟩,
    ⟨(some 9), (.p (.ibin .neq (.tmp 8) (.cst (.int .i64 1)))), (some (7, true))⟩,
    ⟨(some 10), (.p (.pick (.tmp 7) (.tmp 9) (.cst (.bool false)))), none⟩])
  (.cond (.tmp 10) (.seq (.reg [⟨(some 4), (.p (.mov (.cst (.int .i64 1)))), none⟩])
  .ret)
  .skip))
  (.seq (.seq (.reg [⟨(some 11), (.p (.mov (.tmp 0))), none⟩,
    ⟨(some 12), (.p (.nilck (.tmp 11))), none⟩,
    ⟨(some 13), (.p (.fieldA 4 (.tmp 12))), none⟩,
    ⟨(some 14), (.r (.load none (.tmp 13))), none⟩])
  (.cond (.tmp 14) (.seq (.reg [⟨(some 4), (.p (.mov (.cst (.int .i64 24)))), none⟩])
  .ret)
  .skip))
  (.seq (.reg [⟨(some 15), (.p (.mov (.tmp 0))), none⟩,
    ⟨(some 16), (.p (.mov (.tmp 1))), none⟩,
    ⟨(some 17), (.p (.nilck (.tmp 15))), none⟩,
    ⟨(some 18), (.p (.fieldA 0 (.tmp 17))), none⟩,
    ⟨(some 19), (.p (.idxArr 2 1 (.tmp 18) (.tmp 16))), none⟩,
    ⟨none, (.w (.store 1 (.tmp 19) (.cst .nilsl))), none⟩])
  (.seq (.reg [⟨(some 4), (.p (.mov (.cst (.int .i64 0)))), none⟩])
  .ret)))))
def f11 : VF := { body := b11, res := [(.tmp 4)] }
-- (*comptoir/disk.Disk).Tear
def b12 : VC := (.seq (.reg [⟨(some 4), (.p (.mov (.tmp 0))), none⟩,
    ⟨(some 5), (.p (.nileq 0 true (.tmp 4) (.cst .nilp))), none⟩])
  (.cond (.tmp 5) (.reg [⟨(some 6), (.p (.mov (.tmp 0))), none⟩,
    ⟨(some 7), (.p (.mov (.tmp 0))), none⟩,
    ⟨(some 8), (.p (.mov (.tmp 1))), none⟩,
    ⟨(some 9), (.p (.mm true (.tmp 8) (.cst (.int .i64 0)))), none⟩,
    ⟨(some 10), (.p (.nilck (.tmp 6))), none⟩,
    ⟨(some 11), (.p (.fieldA 2 (.tmp 10))), none⟩,
    ⟨none, (.w (.store 1 (.tmp 11) (.tmp 9))), none⟩,
    ⟨(some 12), (.p (.nilck (.tmp 7))), none⟩,
    ⟨(some 13), (.p (.fieldA 3 (.tmp 12))), none⟩,
    ⟨none, (.w (.store 1 (.tmp 13) (.cst (.bool true)))), none⟩])
  .skip))
def f12 : VF := { body := b12, res := [] }
-- (*comptoir/comptoirref21.Disk).Tear
def b13 : VC := (.reg [⟨(some 4), (.p (.mov (.tmp 0))), none⟩,
    ⟨(some 5), (.p (.mov (.tmp 0))), none⟩,
    ⟨(some 6), (.p (.mov (.tmp 1))), none⟩,
    ⟨(some 7), (.p (.mm true (.cst (.int .i64 0)) (.tmp 6))), none⟩,
    ⟨(some 8), (.p (.nilck (.tmp 4))), none⟩,
    ⟨(some 9), (.p (.fieldA 3 (.tmp 8))), none⟩,
    ⟨none, (.w (.store 1 (.tmp 9) (.cst (.bool true)))), none⟩,
    ⟨(some 10), (.p (.nilck (.tmp 5))), none⟩,
    ⟨(some 11), (.p (.fieldA 2 (.tmp 10))), none⟩,
    ⟨none, (.w (.store 1 (.tmp 11) (.tmp 7))), none⟩])
def f13 : VF := { body := b13, res := [] }
-- (*comptoir/disk.Disk).Mend
def b14 : VC := (.seq (.reg [⟨(some 2), (.p (.mov (.tmp 0))), none⟩,
    ⟨(some 3), (.p (.nileq 0 true (.tmp 2) (.cst .nilp))), none⟩])
  (.cond (.tmp 3) (.reg [⟨(some 4), (.p (.mov (.tmp 0))), none⟩,
    ⟨(some 5), (.p (.mov (.tmp 0))), none⟩,
    ⟨(some 6), (.p (.mov (.tmp 0))), none⟩,
    ⟨(some 7), (.p (.nilck (.tmp 4))), none⟩,
    ⟨(some 8), (.p (.fieldA 2 (.tmp 7))), none⟩,
    ⟨none, (.w (.store 1 (.tmp 8) (.cst (.int .i64 0)))), none⟩,
    ⟨(some 9), (.p (.nilck (.tmp 5))), none⟩,
    ⟨(some 10), (.p (.fieldA 3 (.tmp 9))), none⟩,
    ⟨none, (.w (.store 1 (.tmp 10) (.cst (.bool false)))), none⟩,
    ⟨(some 11), (.p (.nilck (.tmp 6))), none⟩,
    ⟨(some 12), (.p (.fieldA 4 (.tmp 11))), none⟩,
    ⟨none, (.w (.store 1 (.tmp 12) (.cst (.bool false)))), none⟩])
  .skip))
def f14 : VF := { body := b14, res := [] }
-- (*comptoir/comptoirref21.Disk).Mend
def b15 : VC := (.reg [⟨(some 2), (.p (.mov (.tmp 0))), none⟩,
    ⟨(some 3), (.p (.mov (.tmp 0))), none⟩,
    ⟨(some 4), (.p (.mov (.tmp 0))), none⟩,
    ⟨(some 5), (.p (.nilck (.tmp 2))), none⟩,
    ⟨(some 6), (.p (.fieldA 3 (.tmp 5))), none⟩,
    ⟨none, (.w (.store 1 (.tmp 6) (.cst (.bool false)))), none⟩,
    ⟨(some 7), (.p (.nilck (.tmp 3))), none⟩,
    ⟨(some 8), (.p (.fieldA 2 (.tmp 7))), none⟩,
    ⟨none, (.w (.store 1 (.tmp 8) (.cst (.int .i64 0)))), none⟩,
    ⟨(some 9), (.p (.nilck (.tmp 4))), none⟩,
    ⟨(some 10), (.p (.fieldA 4 (.tmp 9))), none⟩,
    ⟨none, (.w (.store 1 (.tmp 10) (.cst (.bool false)))), none⟩])
def f15 : VF := { body := b15, res := [] }
-- comptoir/comptoirhelp.Own[byte]
def b16 : VC := (.seq (.reg [⟨(some 4), (.p (.mov (.cst .nilsl))), none⟩])
  (.seq (.reg [⟨(some 8), (.p (.mov (.tmp 0))), none⟩,
    ⟨(some 9), (.p (.len (.tmp 8))), none⟩,
    ⟨(some 10), (.p (.ibin .add (.tmp 9) (.cst (.int .i64 3)))), none⟩,
    ⟨(some 11), (.w (.mksl 1 1 (.int .u8 0) (.cst (.int .i64 0)) (.tmp 10))), none⟩,
    ⟨(some 5), (.p (.mov (.tmp 11))), none⟩])
  (.seq (.reg [⟨(some 12), (.p (.mov (.tmp 5))), none⟩,
    ⟨(some 13), (.p (.mov (.tmp 0))), none⟩,
    ⟨(some 14), (.w (.append 1 1 (.tmp 12) (.tmp 13))), none⟩,
    ⟨(some 5), (.p (.mov (.tmp 14))), none⟩])
  (.seq (.reg [⟨(some 15), (.p (.mov (.tmp 5))), none⟩,
    ⟨(some 16), (.p (.mov (.tmp 0))), none⟩,
    ⟨(some 17), (.p (.len (.tmp 16))), none⟩,
    ⟨(some 18), (.p (.ibin .add (.tmp 17) (.cst (.int .i64 3)))), none⟩,
    ⟨(some 19), (.p (.slice 1 (.tmp 15) none (some (.tmp 18)))), none⟩,
    ⟨(some 6), (.p (.mov (.tmp 19))), none⟩])
  (.seq (.seq (.reg [⟨(some 20), (.p (.mov (.tmp 0))), none⟩,
    ⟨(some 21), (.p (.len (.tmp 20))), none⟩,
    ⟨(some 7), (.p (.mov (.tmp 21))), none⟩])
  (.block 0 (.loop (.seq (.seq (.reg [⟨(some 22), (.p (.mov (.tmp 7))), none⟩,
    ⟨(some 23), (.p (.mov (.tmp 6))), none⟩,
    ⟨(some 24), (.p (.len (.tmp 23))), none⟩,
    ⟨(some 25), (.p (.ibin .lss (.tmp 22) (.tmp 24))), none⟩])
  (.cond (.tmp 25) .skip
  (.exit 0)))
  (.seq (.block 1 (.reg [⟨(some 28), (.p (.mov (.tmp 6))), none⟩,
    ⟨(some 29), (.p (.mov (.tmp 7))), none⟩,
    ⟨(some 30), (.p (.mov (.tmp 1))), none⟩,
    ⟨(some 31), (.p (.idxA 1 (.tmp 28) (.tmp 29))), none⟩,
    ⟨none, (.w (.store 1 (.tmp 31) (.tmp 30))), none⟩]))
  (.reg [⟨(some 26), (.p (.mov (.tmp 7))), none⟩,
    ⟨(some 27), (.p (.ibin .add (.tmp 26) (.cst (.int .i64 1)))), none⟩,
    ⟨(some 7), (.p (.mov (.tmp 27))), none⟩]))))))
  (.seq (.reg [⟨(some 32), (.p (.mov (.tmp 5))), none⟩,
    ⟨(some 4), (.p (.mov (.tmp 32))), none⟩])
  .ret))))))
def f16 : VF := { body := b16, res := [(.tmp 4)] }
-- (*comptoir/disk.Disk).Append
def b17 : VC := (.seq (.reg [⟨(some 6), (.p (.mov (.cst (.int .i64 0)))), none⟩])
  (.seq (.seq (.reg [⟨(some 9), (.p (.mov (.tmp 0))), none⟩,
    ⟨(some 10), (.p (.mov (.tmp 1))), none⟩,
    ⟨(some 11), (.r (.pcall (.cst (.fn 41 [] [])) [(.tmp 9), (.tmp 10)])), none⟩,
    ⟨(some 7), (.p (.mov (.tmp 11))), none⟩])
  (.seq (.reg [⟨(some 12), (.p (.mov (.tmp 7))), none⟩,
    ⟨(some 13), (.p (.ibin .neq (.tmp 12) (.cst (.int .i64 0)))), none⟩])
  (.cond (.tmp 13) (.seq (.reg [⟨(some 14), (.p (.mov (.tmp 7))), none⟩,
    ⟨(some 6), (.p (.mov (.tmp 14))), none⟩])
  .ret)
  .skip)))
  (.seq (.seq (.reg [⟨(some 15), (.p (.mov (.tmp 0))), none⟩,
    ⟨(some 16), (.p (.mov (.tmp 1))), none⟩,
    ⟨(some 17), (.p (.nilck (.tmp 15))), none⟩,
    ⟨(some 18), (.p (.fieldA 0 (.tmp 17))), none⟩,
    ⟨(some 19), (.p (.idxArr 2 1 (.tmp 18) (.tmp 16))), none⟩,
    ⟨(some 20), (.r (.load none (.tmp 19))), none⟩,
    ⟨(some 21), (.p (.len (.tmp 20))), none⟩,
    ⟨(some 22), (.p (.mov (.tmp 2))), none⟩,
    ⟨(some 23), (.p (.len (.tmp 22))), none⟩,
    ⟨(some 24), (.p (.ibin .add (.tmp 21) (.tmp 23))), none⟩,
    ⟨(some 25), (.p (.ibin .gtr (.tmp 24) (.cst (.int .i64 2000000)))), none⟩])
  (.cond (.tmp 25) (.seq (.reg [⟨(some 6), (.p (.mov (.cst (.int .i64 4)))), none⟩])
  .ret)
  .skip))
  (.seq (.reg [⟨(some 26), (.p (.mov (.tmp 2))), none⟩,
    ⟨(some 27), (.p (.len (.tmp 26))), none⟩,
    ⟨(some 8), (.p (.mov (.tmp 27))), none⟩])
  (.seq (.seq (.reg [⟨(some 28), (.p (.mov (.tmp 0))), none⟩,
    ⟨(some 29), (.p (.nilck (.tmp 28))), none⟩,
    ⟨(some 30), (.p (.fieldA 3 (.tmp 29))), none⟩,
    ⟨(some 31), (.r (.load none (.tmp 30))), none⟩])
  (.cond (.tmp 31) (.seq (.reg [⟨(some 32), (.p (.mov (.tmp 8))), none⟩,
    ⟨(some 33), (.p (.mov (.tmp 0))), none⟩,
    ⟨(some 34), (.p (.nilck (.tmp 33))), none⟩,
    ⟨(some 35), (.p (.fieldA 2 (.tmp 34))), none⟩,
    ⟨(some 36), (.r (.load none (.tmp 35))), none⟩,
    ⟨(some 37), (.p (.mm false (.tmp 32) (.tmp 36))), none⟩,
    ⟨(some 8), (.p (.mov (.tmp 37))), none⟩])
  (.seq (.reg [⟨(some 38), (.p (.mov (.tmp 0))), none⟩,
    ⟨(some 39), (.p (.nilck (.tmp 38))), none⟩,
    ⟨(some 40), (.p (.fieldA 2 (.tmp 39))), none⟩,
    ⟨(some 41), (.r (.load none (.tmp 40))), none⟩,
    ⟨(some 42), (.p (.mov (.tmp 8))), none⟩,
    ⟨(some 43), (.p (.ibin .sub (.tmp 41) (.tmp 42))), none⟩,
    ⟨(some 44), (.p (.nilck (.tmp 38))), none⟩,
    ⟨(some 45), (.p (.fieldA 2 (.tmp 44))), none⟩,
    ⟨none, (.w (.store 1 (.tmp 45) (.tmp 43))), none⟩])
  (.reg [⟨(some 46), (.p (.mov (.tmp 0))), none⟩,
    ⟨(some 47), (.p (.mov (.tmp 8))), none⟩,
    ⟨(some 48), (.p (.mov (.tmp 2))), none⟩,
    ⟨(some 49), (.p (.len (.tmp 48))), none⟩,
    ⟨(some 50), (.p (.ibin .lss (.tmp 47) (.tmp 49))), none⟩,
    ⟨(some 51), (.p (.nilck (.tmp 46))), none⟩,
    ⟨(some 52), (.p (.fieldA 4 (.tmp 51))), none⟩,
    ⟨none, (.w (.store 1 (.tmp 52) (.tmp 50))), none⟩])))
  .skip))
  (.seq (.draw [(⟨(some 53), (.p (.mov (.tmp 0))), none⟩, 0, 0),
    (⟨(some 54), (.p (.mov (.tmp 1))), none⟩, 0, 0),
    (⟨(some 55), (.p (.mov (.tmp 0))), none⟩, 0, 0),
    (⟨(some 56), (.p (.mov (.tmp 1))), none⟩, 0, 0),
    (⟨(some 57), (.p (.nilck (.tmp 55))), none⟩, 0, 0),
    (⟨(some 58), (.p (.fieldA 0 (.tmp 57))), none⟩, 0, 0),
    (⟨(some 59), (.p (.idxArr 2 1 (.tmp 58) (.tmp 56))), none⟩, 0, 0),
    (⟨(some 60), (.r (.load none (.tmp 59))), none⟩, 0, 0),
    (⟨(some 61), (.p (.mov (.tmp 2))), none⟩, 0, 0),
    (⟨(some 62), (.p (.mov (.tmp 8))), none⟩, 0, 0),
    (⟨(some 63), (.p (.slice 1 (.tmp 61) none (some (.tmp 62)))), none⟩, 0, 0),
    (⟨(some 64), (.p (.lit 1 .nilsl 2 [(0, (.tmp 60)), (1, (.tmp 63))])), none⟩, 0, 0),
    (⟨(some 65), (.r (.pcall (.cst (.fn 42 [] [])) [(.tmp 64)])), none⟩, 0, 0),
    (⟨(some 66), (.p (.nilck (.tmp 53))), none⟩, 0, 0),
    (⟨(some 67), (.p (.fieldA 0 (.tmp 66))), none⟩, 0, 0),
    (⟨(some 68), (.p (.idxArr 2 1 (.tmp 67) (.tmp 54))), none⟩, 0, 0),
    (⟨none, (.w (.store 1 (.tmp 68) (.tmp 65))), none⟩, 0, 0)])
  (.seq (.seq (.reg [⟨(some 69), (.p (.mov (.tmp 0))), none⟩,
    ⟨(some 70), (.p (.nilck (.tmp 69))), none⟩,
    ⟨(some 71), (.p (.fieldA 4 (.tmp 70))), none⟩,
    ⟨(some 72), (.r (.load none (.tmp 71))), none⟩])
  (.cond (.tmp 72) (.seq (.reg [⟨(some 6), (.p (.mov (.cst (.int .i64 24)))), none⟩])
  .ret)
  .skip))
  (.seq (.reg [⟨(some 6), (.p (.mov (.cst (.int .i64 0)))), none⟩])
  .ret))))))))
def f17 : VF := { body := b17, res := [(.tmp 6)] }
-- (*comptoir/comptoirref21.Disk).Append
def b18 : VC := (.seq (.reg [⟨(some 6), (.p (.mov (.cst (.int .i64 0)))), none⟩])
  (.seq (.block 0 (.seq (.reg [⟨(some 9), (.p (.mov (.tmp 1))), none⟩,
    ⟨(some 10), (.p (.ibin .neq (.tmp 9) (.cst (.int .i64 0)))), none⟩,
    ⟨(some 11), (.p (.mov (.tmp 10))), none⟩,
    ⟨(some 12), (.p (.mov (.tmp 1))), (some (11, true))⟩,
    ⟨(some 13), (.p (.ibin .neq (.tmp 12) (.cst (.int .i64 1)))), (some (11, true))⟩,
    ⟨(some 14), (.p (.pick (.tmp 11) (.tmp 13) (.cst (.bool false)))), none⟩,
    ⟨(some 8), (.p (.mov (.tmp 14))), none⟩])
  (.cond (.tmp 8) (.seq (.reg [⟨(some 6), (.p (.mov (.cst (.int .i64 1)))), none⟩])
  .ret)
  (.seq (.reg [⟨(some 16), (.p (.mov (.tmp 0))), none⟩,
    ⟨(some 17), (.p (.nilck (.tmp 16))), none⟩,
    ⟨(some 18), (.p (.fieldA 4 (.tmp 17))), none⟩,
    ⟨(some 19), (.r (.load none (.tmp 18))), none⟩,
    ⟨(some 15), (.p (.mov (.tmp 19))), none⟩])
  (.cond (.tmp 15) (.seq (.reg [⟨(some 6), (.p (.mov (.cst (.int .i64 24)))), none⟩])
  .ret)
  (.seq (.reg [⟨(some 21), (.p (.mov (.tmp 0))), none⟩,
    ⟨(some 22), (.p (.mov (.tmp 1))), none⟩,
    ⟨(some 23), (.p (.nilck (.tmp 21))), none⟩,
    ⟨(some 24), (.p (.fieldA 0 (.tmp 23))), none⟩,
    ⟨(some 25), (.p (.idxArr 2 1 (.tmp 24) (.tmp 22))), none⟩,
    ⟨(some 26), (.r (.load none (.tmp 25))), none⟩,
    ⟨(some 27), (.p (.len (.tmp 26))), none⟩,
    ⟨(some 28), (.p (.mov (.tmp 2))), none⟩,
    ⟨(some 29), (.p (.len (.tmp 28))), none⟩,
    ⟨(some 30), (.p (.ibin .add (.tmp 27) (.tmp 29))), none⟩,
    ⟨(some 31), (.p (.ibin .gtr (.tmp 30) (.cst (.int .i64 2000000)))), none⟩,
    ⟨(some 20), (.p (.mov (.tmp 31))), none⟩])
  (.cond (.tmp 20) (.seq (.reg [⟨(some 6), (.p (.mov (.cst (.int .i64 4)))), none⟩])
  .ret)
  .skip)))))))
  (.seq (.reg [⟨(some 32), (.p (.mov (.tmp 2))), none⟩,
    ⟨(some 33), (.p (.len (.tmp 32))), none⟩,
    ⟨(some 7), (.p (.mov (.tmp 33))), none⟩])
  (.seq (.seq (.reg [⟨(some 34), (.p (.mov (.tmp 0))), none⟩,
    ⟨(some 35), (.p (.nilck (.tmp 34))), none⟩,
    ⟨(some 36), (.p (.fieldA 3 (.tmp 35))), none⟩,
    ⟨(some 37), (.r (.load none (.tmp 36))), none⟩,
    ⟨(some 38), (.p (.mov (.tmp 37))), none⟩,
    ⟨(some 39), (.p (.mov (.tmp 7))), (some (38, true))⟩,
    ⟨(some 40), (.p (.mov (.tmp 0))), (some (38, true))⟩,
    ⟨(some 41), (.p (.nilck (.tmp 40))), (some (38, true))⟩,
    ⟨(some 42), (.p (.fieldA 2 (.tmp 41))), (some (38, true))⟩,
    ⟨(some 43), (.r (.load none (.tmp 42))), (some (38, true))⟩,
    ⟨(some 44), (.p (.ibin .gtr (.tmp 39) (.tmp 43))), (some (38, true))⟩,
    ⟨(some 45), (.p (.pick (.tmp 38) (.tmp 44) (.cst (.bool false)))), none⟩])
  (.cond (.tmp 45) (.reg [⟨(some 46), (.p (.mov (.tmp 0))), none⟩,
    ⟨(some 47), (.p (.mov (.tmp 0))), none⟩,
    ⟨(some 48), (.p (.nilck (.tmp 47))), none⟩,
    ⟨(some 49), (.p (.fieldA 2 (.tmp 48))), none⟩,
    ⟨(some 50), (.r (.load none (.tmp 49))), none⟩,
    ⟨(some 7), (.p (.mov (.tmp 50))), none⟩,
    ⟨(some 51), (.p (.nilck (.tmp 46))), none⟩,
    ⟨(some 52), (.p (.fieldA 4 (.tmp 51))), none⟩,
    ⟨none, (.w (.store 1 (.tmp 52) (.cst (.bool true)))), none⟩])
  .skip))
  (.seq (.seq (.reg [⟨(some 53), (.p (.mov (.tmp 0))), none⟩,
    ⟨(some 54), (.p (.nilck (.tmp 53))), none⟩,
    ⟨(some 55), (.p (.fieldA 3 (.tmp 54))), none⟩,
    ⟨(some 56), (.r (.load none (.tmp 55))), none⟩])
  (.cond (.tmp 56) (.reg [⟨(some 57), (.p (.mov (.tmp 0))), none⟩,
    ⟨(some 58), (.p (.mov (.tmp 0))), none⟩,
    ⟨(some 59), (.p (.nilck (.tmp 58))), none⟩,
    ⟨(some 60), (.p (.fieldA 2 (.tmp 59))), none⟩,
    ⟨(some 61), (.r (.load none (.tmp 60))), none⟩,
    ⟨(some 62), (.p (.mov (.tmp 7))), none⟩,
    ⟨(some 63), (.p (.ibin .sub (.tmp 61) (.tmp 62))), none⟩,
    ⟨(some 64), (.p (.nilck (.tmp 57))), none⟩,
    ⟨(some 65), (.p (.fieldA 2 (.tmp 64))), none⟩,
    ⟨none, (.w (.store 1 (.tmp 65) (.tmp 63))), none⟩])
  .skip))
  (.seq (.draw [(⟨(some 66), (.p (.mov (.tmp 0))), none⟩, 0, 2),
    (⟨(some 67), (.p (.mov (.tmp 1))), none⟩, 0, 2),
    (⟨(some 68), (.p (.mov (.tmp 0))), none⟩, 0, 0),
    (⟨(some 69), (.p (.mov (.tmp 1))), none⟩, 0, 0),
    (⟨(some 70), (.p (.nilck (.tmp 68))), none⟩, 0, 0),
    (⟨(some 71), (.p (.fieldA 0 (.tmp 70))), none⟩, 0, 0),
    (⟨(some 72), (.p (.idxArr 2 1 (.tmp 71) (.tmp 69))), none⟩, 0, 0),
    (⟨(some 73), (.r (.load none (.tmp 72))), none⟩, 0, 0),
    (⟨(some 74), (.w (.append 1 1 (.cst .nilsl) (.tmp 73))), none⟩, 0, 0),
    (⟨(some 75), (.p (.mov (.tmp 2))), none⟩, 0, 1),
    (⟨(some 76), (.p (.mov (.tmp 7))), none⟩, 0, 1),
    (⟨(some 77), (.p (.slice 1 (.tmp 75) none (some (.tmp 76)))), none⟩, 0, 1),
    (⟨(some 78), (.w (.append 1 1 (.tmp 74) (.tmp 77))), none⟩, 1, 1),
    (⟨(some 79), (.p (.nilck (.tmp 66))), none⟩, 0, 2),
    (⟨(some 80), (.p (.fieldA 0 (.tmp 79))), none⟩, 0, 2),
    (⟨(some 81), (.p (.idxArr 2 1 (.tmp 80) (.tmp 67))), none⟩, 2, 2),
    (⟨none, (.w (.store 1 (.tmp 81) (.tmp 78))), none⟩, 2, 2)])
  (.seq (.seq (.reg [⟨(some 82), (.p (.mov (.tmp 0))), none⟩,
    ⟨(some 83), (.p (.nilck (.tmp 82))), none⟩,
    ⟨(some 84), (.p (.fieldA 4 (.tmp 83))), none⟩,
    ⟨(some 85), (.r (.load none (.tmp 84))), none⟩])
  (.cond (.tmp 85) (.seq (.reg [⟨(some 6), (.p (.mov (.cst (.int .i64 24)))), none⟩])
  .ret)
  .skip))
  (.seq (.reg [⟨(some 6), (.p (.mov (.cst (.int .i64 0)))), none⟩])
  .ret))))))))
def f18 : VF := { body := b18, res := [(.tmp 6)] }
-- comptoir/comptoirhelp.Kept[byte]
def b19 : VC := (.seq (.reg [⟨(some 6), (.p (.mov (.cst (.bool false)))), none⟩])
  (.seq (.seq (.reg [⟨(some 9), (.p (.mov (.tmp 0))), none⟩,
    ⟨(some 10), (.p (.mov (.tmp 1))), none⟩,
    ⟨(some 11), (.r (.pcall (.cst (.fn 43 [] [])) [(.tmp 9), (.tmp 10)])), none⟩,
    ⟨(some 12), (.p (.un .not (.tmp 11))), none⟩,
    ⟨(some 13), (.p (.mov (.tmp 12))), none⟩,
    ⟨(some 14), (.p (.mov (.tmp 0))), (some (13, false))⟩,
    ⟨(some 15), (.p (.cap (.tmp 14))), (some (13, false))⟩,
    ⟨(some 16), (.p (.mov (.tmp 1))), (some (13, false))⟩,
    ⟨(some 17), (.p (.len (.tmp 16))), (some (13, false))⟩,
    ⟨(some 18), (.p (.ibin .add (.tmp 17) (.cst (.int .i64 3)))), (some (13, false))⟩,
    ⟨(some 19), (.p (.ibin .lss (.tmp 15) (.tmp 18))), (some (13, false))⟩,
    ⟨(some 20), (.p (.pick (.tmp 13) (.cst (.bool true)) (.tmp 19))), none⟩])
  (.cond (.tmp 20) (.seq (.reg [⟨(some 6), (.p (.mov (.cst (.bool false)))), none⟩])
  .ret)
  .skip))
  (.seq (.reg [⟨(some 21), (.p (.mov (.tmp 0))), none⟩,
    ⟨(some 22), (.p (.mov (.tmp 1))), none⟩,
    ⟨(some 23), (.p (.len (.tmp 22))), none⟩,
    ⟨(some 24), (.p (.ibin .add (.tmp 23) (.cst (.int .i64 3)))), none⟩,
    ⟨(some 25), (.p (.slice 1 (.tmp 21) none (some (.tmp 24)))), none⟩,
    ⟨(some 7), (.p (.mov (.tmp 25))), none⟩])
  (.seq (.seq (.reg [⟨(some 26), (.p (.mov (.tmp 1))), none⟩,
    ⟨(some 27), (.p (.len (.tmp 26))), none⟩,
    ⟨(some 8), (.p (.mov (.tmp 27))), none⟩])
  (.block 0 (.loop (.seq (.seq (.reg [⟨(some 28), (.p (.mov (.tmp 8))), none⟩,
    ⟨(some 29), (.p (.mov (.tmp 7))), none⟩,
    ⟨(some 30), (.p (.len (.tmp 29))), none⟩,
    ⟨(some 31), (.p (.ibin .lss (.tmp 28) (.tmp 30))), none⟩])
  (.cond (.tmp 31) .skip
  (.exit 0)))
  (.seq (.block 1 (.seq (.reg [⟨(some 34), (.p (.mov (.tmp 7))), none⟩,
    ⟨(some 35), (.p (.mov (.tmp 8))), none⟩,
    ⟨(some 36), (.p (.idxA 1 (.tmp 34) (.tmp 35))), none⟩,
    ⟨(some 37), (.r (.load none (.tmp 36))), none⟩,
    ⟨(some 38), (.p (.mov (.tmp 2))), none⟩,
    ⟨(some 39), (.p (.ibin .neq (.tmp 37) (.tmp 38))), none⟩])
  (.cond (.tmp 39) (.seq (.reg [⟨(some 6), (.p (.mov (.cst (.bool false)))), none⟩])
  .ret)
  .skip)))
  (.reg [⟨(some 32), (.p (.mov (.tmp 8))), none⟩,
    ⟨(some 33), (.p (.ibin .add (.tmp 32) (.cst (.int .i64 1)))), none⟩,
    ⟨(some 8), (.p (.mov (.tmp 33))), none⟩]))))))
  (.seq (.reg [⟨(some 6), (.p (.mov (.cst (.bool true)))), none⟩])
  .ret)))))
def f19 : VF := { body := b19, res := [(.tmp 6)] }
-- comptoir/comptoirhelp.Bytes
def b20 : VC := (.seq (.reg [⟨(some 4), (.p (.mov (.cst (.bool false)))), none⟩])
  (.seq (.reg [⟨(some 5), (.p (.mov (.tmp 0))), none⟩,
    ⟨(some 6), (.r (.bytesStr (.tmp 5))), none⟩,
    ⟨(some 7), (.p (.mov (.tmp 1))), none⟩,
    ⟨(some 8), (.r (.bytesStr (.tmp 7))), none⟩,
    ⟨(some 9), (.p (.ibin .eql (.tmp 6) (.tmp 8))), none⟩,
    ⟨(some 4), (.p (.mov (.tmp 9))), none⟩])
  .ret))
def f20 : VF := { body := b20, res := [(.tmp 4)] }
-- (*comptoir/disk.Disk).Slot
def b21 : VC := (.seq (.reg [⟨(some 4), (.p (.mov (.cst .nilsl))), none⟩])
  (.seq (.reg [⟨(some 5), (.p (.mov (.tmp 0))), none⟩,
    ⟨(some 6), (.p (.mkfn 45 [(.tmp 5)] [])), none⟩,
    ⟨(some 7), (.p (.mov (.tmp 1))), none⟩,
    ⟨(some 8), (.r (.pcall (.cst (.fn 44 [] [])) [(.tmp 6), (.tmp 7)])), none⟩,
    ⟨(some 4), (.p (.mov (.tmp 8))), none⟩])
  .ret))
def f21 : VF := { body := b21, res := [(.tmp 4)] }
-- (*comptoir/disk.Disk).Torn
def b22 : VC := (.seq (.reg [⟨(some 2), (.p (.mov (.cst (.bool false)))), none⟩])
  (.seq (.reg [⟨(some 3), (.p (.mov (.tmp 0))), none⟩,
    ⟨(some 4), (.p (.nileq 0 true (.tmp 3) (.cst .nilp))), none⟩,
    ⟨(some 5), (.p (.mov (.tmp 4))), none⟩,
    ⟨(some 6), (.p (.mov (.tmp 0))), (some (5, true))⟩,
    ⟨(some 7), (.p (.nilck (.tmp 6))), (some (5, true))⟩,
    ⟨(some 8), (.p (.fieldA 4 (.tmp 7))), (some (5, true))⟩,
    ⟨(some 9), (.r (.load none (.tmp 8))), (some (5, true))⟩,
    ⟨(some 10), (.p (.pick (.tmp 5) (.tmp 9) (.cst (.bool false)))), none⟩,
    ⟨(some 2), (.p (.mov (.tmp 10))), none⟩])
  .ret))
def f22 : VF := { body := b22, res := [(.tmp 2)] }
-- comptoir/state.New
def b23 : VC := (.seq (.reg [⟨(some 0), (.w (.alloc [(.int .u64 0), (.int .i64 0), (.int .i64 0), .nilsl, .nilsl])), none⟩])
  (.seq (.reg [⟨(some 1), (.p (.build [(.int .u64 0), (.int .i64 0), (.int .i64 0), .nilsl, .nilsl] [(1, 1, (.cst (.int .i64 1))), (2, 1, (.cst (.int .i64 1)))])), none⟩,
    ⟨none, (.w (.store 5 (.tmp 0) (.tmp 1))), none⟩])
  .ret))
def f23 : VF := { body := b23, res := [(.cell 0 (some 5))] }
-- comptoir/state.Apply
def b24 : VC := (.seq (.reg [⟨(some 2), (.w (.box 5 (.tmp 0))), none⟩,
    ⟨(some 4), (.w (.alloc [(.int .u64 0), (.int .i64 0), (.int .i64 0), .nilsl, .nilsl])), none⟩])
  (.seq (.draw [(⟨(some 9), (.p (.fieldA 3 (.tmp 2))), none⟩, 0, 0),
    (⟨(some 10), (.r (.load none (.tmp 9))), none⟩, 0, 0),
    (⟨(some 11), (.w (.call (.cst (.fn 46 [] [])) [(.tmp 10), (.cst (.fn 47 [] []))])), none⟩, 0, 0),
    (⟨(some 12), (.p (.fieldA 4 (.tmp 2))), none⟩, 0, 1),
    (⟨(some 13), (.r (.load none (.tmp 12))), none⟩, 0, 1),
    (⟨(some 14), (.w (.call (.cst (.fn 48 [] [])) [(.tmp 13), (.cst (.fn 49 [] []))])), none⟩, 1, 1),
    (⟨(some 15), (.p (.fieldA 3 (.tmp 2))), none⟩, 1, 2),
    (⟨none, (.w (.store 1 (.tmp 15) (.tmp 11))), none⟩, 2, 2),
    (⟨(some 16), (.p (.fieldA 4 (.tmp 2))), none⟩, 3, 3),
    (⟨none, (.w (.store 1 (.tmp 16) (.tmp 14))), none⟩, 3, 3)])
  (.seq (.reg [⟨(some 17), (.r (.load (some 5) (.tmp 2))), none⟩,
    ⟨(some 18), (.p (.build [(.int .u64 0), (.int .i64 0), (.int .i64 0), .nilsl, .nilsl] [(0, 5, (.tmp 17))])), none⟩,
    ⟨(some 19), (.w (.box 5 (.tmp 18))), none⟩,
    ⟨(some 5), (.p (.mov (.tmp 19))), none⟩])
  (.seq (.reg [⟨(some 20), (.p (.mov (.tmp 5))), none⟩,
    ⟨(some 21), (.p (.mkfn 50 [(.tmp 20)] [])), none⟩,
    ⟨(some 6), (.p (.mov (.tmp 21))), none⟩])
  (.seq (.seq (.reg [⟨(some 22), (.p (.mov (.tmp 1))), none⟩,
    ⟨(some 23), (.p (.len (.tmp 22))), none⟩,
    ⟨(some 24), (.p (.mov (.cst (.int .i64 0)))), none⟩])
  (.block 0 (.loop (.seq (.reg [⟨(some 25), (.p (.ibin .lss (.tmp 24) (.tmp 23))), none⟩])
  (.seq (.cond (.tmp 25) .skip
  (.exit 0))
  (.seq (.block 1 (.seq (.reg [⟨(some 26), (.p (.idxA 38 (.tmp 22) (.tmp 24))), none⟩,
    ⟨(some 27), (.r (.load (some 38) (.tmp 26))), none⟩,
    ⟨(some 8), (.w (.alloc [(.int .i64 0), (.int .u64 0), (.int .i64 0), (.int .i64 0), (.int .i64 0), (.int .i64 0), (.int .i64 0), (.int .i64 0), (.int .i64 0), (.int .u64 0), (.int .i64 0), (.int .i64 0), (.str []), (.str []), (.str []), (.str []), (.int .u64 0), (.str []), (.str []), (.str []), (.str []), (.int .i64 0), (.str []), (.str []), (.int .i64 0), (.str []), .nilsl, (.str []), (.str []), .nilsl, .nilsl, (.int .i64 0), (.int .u64 0), (.str []), (.str []), (.str []), .nilsl, .nilsl])), none⟩,
    ⟨none, (.w (.store 38 (.tmp 8) (.tmp 27))), none⟩])
  (.reg [⟨(some 28), (.p (.mov (.tmp 6))), none⟩,
    ⟨(some 29), (.r (.load (some 38) (.tmp 8))), none⟩,
    ⟨(some 30), (.w (.call (.tmp 28) [(.tmp 29)])), none⟩])))
  (.reg [⟨(some 31), (.p (.ibin .add (.tmp 24) (.cst (.int .i64 1)))), none⟩,
    ⟨(some 24), (.p (.mov (.tmp 31))), none⟩])))))))
  (.seq (.reg [⟨(some 32), (.p (.mov (.tmp 5))), none⟩,
    ⟨(some 33), (.p (.nilck (.tmp 32))), none⟩,
    ⟨(some 34), (.p (.fieldA 0 (.tmp 33))), none⟩,
    ⟨(some 35), (.r (.load (some 5) (.tmp 34))), none⟩,
    ⟨none, (.w (.store 5 (.tmp 4) (.tmp 35))), none⟩])
  .ret))))))
def f24 : VF := { body := b24, res := [(.cell 4 (some 5))] }
-- comptoir/comptoirhelp.In[int]
def b25 : VC := (.seq (.reg [⟨(some 4), (.p (.mov (.cst (.bool false)))), none⟩])
  (.seq (.seq (.reg [⟨(some 5), (.p (.mov (.cst (.int .i64 0)))), none⟩])
  (.block 0 (.loop (.seq (.seq (.reg [⟨(some 6), (.p (.mov (.tmp 5))), none⟩,
    ⟨(some 7), (.p (.mov (.tmp 0))), none⟩,
    ⟨(some 8), (.p (.len (.tmp 7))), none⟩,
    ⟨(some 9), (.p (.ibin .lss (.tmp 6) (.tmp 8))), none⟩])
  (.cond (.tmp 9) .skip
  (.exit 0)))
  (.seq (.block 1 (.seq (.reg [⟨(some 12), (.p (.mov (.tmp 0))), none⟩,
    ⟨(some 13), (.p (.mov (.tmp 5))), none⟩,
    ⟨(some 14), (.p (.idxA 1 (.tmp 12) (.tmp 13))), none⟩,
    ⟨(some 15), (.r (.load none (.tmp 14))), none⟩,
    ⟨(some 16), (.p (.mov (.tmp 1))), none⟩,
    ⟨(some 17), (.p (.ibin .eql (.tmp 15) (.tmp 16))), none⟩])
  (.cond (.tmp 17) (.seq (.reg [⟨(some 4), (.p (.mov (.cst (.bool true)))), none⟩])
  .ret)
  .skip)))
  (.reg [⟨(some 10), (.p (.mov (.tmp 5))), none⟩,
    ⟨(some 11), (.p (.ibin .add (.tmp 10) (.cst (.int .i64 1)))), none⟩,
    ⟨(some 5), (.p (.mov (.tmp 11))), none⟩]))))))
  (.seq (.reg [⟨(some 4), (.p (.mov (.cst (.bool false)))), none⟩])
  .ret)))
def f25 : VF := { body := b25, res := [(.tmp 4)] }
-- comptoir/state.Find
def b26 : VC := (.seq (.reg [⟨(some 2), (.w (.box 5 (.tmp 0))), none⟩,
    ⟨(some 4), (.w (.alloc [(.int .i64 0), (.int .i64 0), (.int .i64 0), (.int .i64 0), (.int .i64 0), (.int .u64 0), (.int .i64 0), (.int .i64 0), (.str []), (.str []), (.str []), (.str []), (.int .u64 0), (.str []), (.str []), (.str []), (.str []), (.int .i64 0), (.str []), (.str []), (.int .i64 0), (.str []), .nilsl, (.str []), (.str []), .nilsl, .nilsl])), none⟩,
    ⟨(some 5), (.p (.mov (.cst (.bool false)))), none⟩])
  (.seq (.seq (.reg [⟨(some 8), (.p (.fieldA 3 (.tmp 2))), none⟩,
    ⟨(some 9), (.r (.load none (.tmp 8))), none⟩,
    ⟨(some 10), (.p (.len (.tmp 9))), none⟩,
    ⟨(some 11), (.p (.mov (.cst (.int .i64 0)))), none⟩])
  (.block 0 (.loop (.seq (.reg [⟨(some 12), (.p (.ibin .lss (.tmp 11) (.tmp 10))), none⟩])
  (.seq (.cond (.tmp 12) .skip
  (.exit 0))
  (.seq (.block 1 (.seq (.reg [⟨(some 13), (.p (.idxA 27 (.tmp 9) (.tmp 11))), none⟩,
    ⟨(some 14), (.r (.load (some 27) (.tmp 13))), none⟩,
    ⟨(some 7), (.w (.alloc [(.int .i64 0), (.int .i64 0), (.int .i64 0), (.int .i64 0), (.int .i64 0), (.int .u64 0), (.int .i64 0), (.int .i64 0), (.str []), (.str []), (.str []), (.str []), (.int .u64 0), (.str []), (.str []), (.str []), (.str []), (.int .i64 0), (.str []), (.str []), (.int .i64 0), (.str []), .nilsl, (.str []), (.str []), .nilsl, .nilsl])), none⟩,
    ⟨none, (.w (.store 27 (.tmp 7) (.tmp 14))), none⟩])
  (.seq (.reg [⟨(some 15), (.p (.fieldA 0 (.tmp 7))), none⟩,
    ⟨(some 16), (.r (.load none (.tmp 15))), none⟩,
    ⟨(some 17), (.p (.mov (.tmp 1))), none⟩,
    ⟨(some 18), (.p (.ibin .eql (.tmp 16) (.tmp 17))), none⟩])
  (.cond (.tmp 18) (.seq (.reg [⟨(some 19), (.r (.load (some 27) (.tmp 7))), none⟩,
    ⟨(some 20), (.r (.pcall (.cst (.fn 47 [] [])) [(.tmp 19)])), none⟩,
    ⟨none, (.w (.store 27 (.tmp 4) (.tmp 20))), none⟩,
    ⟨(some 5), (.p (.mov (.cst (.bool true)))), none⟩])
  .ret)
  .skip))))
  (.reg [⟨(some 21), (.p (.ibin .add (.tmp 11) (.cst (.int .i64 1)))), none⟩,
    ⟨(some 11), (.p (.mov (.tmp 21))), none⟩])))))))
  (.seq (.reg [⟨(some 22), (.p (.build [(.int .i64 0), (.int .i64 0), (.int .i64 0), (.int .i64 0), (.int .i64 0), (.int .u64 0), (.int .i64 0), (.int .i64 0), (.str []), (.str []), (.str []), (.str []), (.int .u64 0), (.str []), (.str []), (.str []), (.str []), (.int .i64 0), (.str []), (.str []), (.int .i64 0), (.str []), .nilsl, (.str []), (.str []), .nilsl, .nilsl] [])), none⟩,
    ⟨none, (.w (.store 27 (.tmp 4) (.tmp 22))), none⟩,
    ⟨(some 5), (.p (.mov (.cst (.bool false)))), none⟩])
  .ret)))
def f26 : VF := { body := b26, res := [(.cell 4 (some 27)), (.tmp 5)] }
-- comptoir/comptoirlaw24.awake
def b27 : VC := (.seq (.reg [⟨(some 0), (.p (.mov (.cst (.bool false)))), none⟩])
  (.seq (.reg [⟨(some 4), (.r (.pcall (.cst (.fn 23 [] [])) [])), none⟩,
    ⟨(some 5), (.p (.build [(.int .i64 0), (.int .u64 0), (.int .i64 0), (.int .i64 0), (.int .i64 0), (.int .i64 0), (.int .i64 0), (.int .i64 0), (.int .i64 0), (.int .u64 0), (.int .i64 0), (.int .i64 0), (.str []), (.str []), (.str []), (.str []), (.int .u64 0), (.str []), (.str []), (.str []), (.str []), (.int .i64 0), (.str []), (.str []), (.int .i64 0), (.str []), .nilsl, (.str []), (.str []), .nilsl, .nilsl, (.int .i64 0), (.int .u64 0), (.str []), (.str []), (.str []), .nilsl, .nilsl] [(0, 1, (.cst (.int .i64 1))), (1, 1, (.cst (.int .u64 5)))])), none⟩,
    ⟨(some 6), (.p (.build [(.int .i64 0), (.int .i64 0), (.int .i64 0), (.int .i64 0), (.int .i64 0), (.int .u64 0), (.int .i64 0), (.int .i64 0), (.str []), (.str []), (.str []), (.str []), (.int .u64 0), (.str []), (.str []), (.str []), (.str []), (.int .i64 0), (.str []), (.str []), (.int .i64 0), (.str []), .nilsl, (.str []), (.str []), .nilsl, .nilsl] [(0, 1, (.cst (.int .i64 3)))])), none⟩,
    ⟨(some 7), (.p (.build [(.int .i64 0), (.int .u64 0), (.int .i64 0), (.int .i64 0), (.int .i64 0), (.int .i64 0), (.int .i64 0), (.int .i64 0), (.int .i64 0), (.int .u64 0), (.int .i64 0), (.int .i64 0), (.str []), (.str []), (.str []), (.str []), (.int .u64 0), (.str []), (.str []), (.str []), (.str []), (.int .i64 0), (.str []), (.str []), (.int .i64 0), (.str []), .nilsl, (.str []), (.str []), .nilsl, .nilsl, (.int .i64 0), (.int .u64 0), (.str []), (.str []), (.str []), .nilsl, .nilsl] [(0, 1, (.cst (.int .i64 3))), (4, 27, (.tmp 6))])), none⟩,
    ⟨(some 8), (.p (.lit 38 (.agg [(.int .i64 0), (.int .u64 0), (.int .i64 0), (.int .i64 0), (.int .i64 0), (.int .i64 0), (.int .i64 0), (.int .i64 0), (.int .i64 0), (.int .u64 0), (.int .i64 0), (.int .i64 0), (.str []), (.str []), (.str []), (.str []), (.int .u64 0), (.str []), (.str []), (.str []), (.str []), (.int .i64 0), (.str []), (.str []), (.int .i64 0), (.str []), .nilsl, (.str []), (.str []), .nilsl, .nilsl, (.int .i64 0), (.int .u64 0), (.str []), (.str []), (.str []), .nilsl, .nilsl]) 2 [(0, (.tmp 5)), (1, (.tmp 7))])), none⟩,
    ⟨(some 9), (.r (.pcall (.cst (.fn 24 [] [])) [(.tmp 4), (.tmp 8)])), none⟩,
    ⟨(some 1), (.w (.alloc [(.int .u64 0), (.int .i64 0), (.int .i64 0), .nilsl, .nilsl])), none⟩,
    ⟨none, (.w (.store 5 (.tmp 1) (.tmp 9))), none⟩])
  (.seq (.reg [⟨(some 11), (.r (.load (some 5) (.tmp 1))), none⟩,
    ⟨(some 12), (.r (.pcall (.cst (.fn 26 [] [])) [(.tmp 11), (.cst (.int .i64 3))])), none⟩,
    ⟨(some 10), (.p (.mov (.tmp 12))), none⟩,
    ⟨(some 13), (.p (.ext (.tmp 10) 0)), none⟩,
    ⟨(some 14), (.p (.ext (.tmp 10) 1)), none⟩,
    ⟨(some 2), (.w (.alloc [(.int .i64 0), (.int .i64 0), (.int .i64 0), (.int .i64 0), (.int .i64 0), (.int .u64 0), (.int .i64 0), (.int .i64 0), (.str []), (.str []), (.str []), (.str []), (.int .u64 0), (.str []), (.str []), (.str []), (.str []), (.int .i64 0), (.str []), (.str []), (.int .i64 0), (.str []), .nilsl, (.str []), (.str []), .nilsl, .nilsl])), none⟩,
    ⟨none, (.w (.store 27 (.tmp 2) (.tmp 13))), none⟩,
    ⟨(some 3), (.p (.mov (.tmp 14))), none⟩])
  (.seq (.reg [⟨(some 15), (.p (.fieldA 0 (.tmp 1))), none⟩,
    ⟨(some 16), (.r (.load none (.tmp 15))), none⟩,
    ⟨(some 17), (.p (.ibin .eql (.tmp 16) (.cst (.int .u64 5)))), none⟩,
    ⟨(some 18), (.p (.mov (.tmp 17))), none⟩,
    ⟨(some 19), (.p (.fieldA 1 (.tmp 1))), (some (18, true))⟩,
    ⟨(some 20), (.r (.load none (.tmp 19))), (some (18, true))⟩,
    ⟨(some 21), (.p (.ibin .eql (.tmp 20) (.cst (.int .i64 1)))), (some (18, true))⟩,
    ⟨(some 22), (.p (.pick (.tmp 18) (.tmp 21) (.cst (.bool false)))), none⟩,
    ⟨(some 23), (.p (.mov (.tmp 22))), none⟩,
    ⟨(some 24), (.p (.fieldA 3 (.tmp 1))), (some (23, true))⟩,
    ⟨(some 25), (.r (.load none (.tmp 24))), (some (23, true))⟩,
    ⟨(some 26), (.p (.len (.tmp 25))), (some (23, true))⟩,
    ⟨(some 27), (.p (.ibin .eql (.tmp 26) (.cst (.int .i64 1)))), (some (23, true))⟩,
    ⟨(some 28), (.p (.pick (.tmp 23) (.tmp 27) (.cst (.bool false)))), none⟩,
    ⟨(some 29), (.p (.mov (.tmp 28))), none⟩,
    ⟨(some 30), (.p (.mov (.tmp 3))), (some (29, true))⟩,
    ⟨(some 31), (.p (.pick (.tmp 29) (.tmp 30) (.cst (.bool false)))), none⟩,
    ⟨(some 32), (.p (.mov (.tmp 31))), none⟩,
    ⟨(some 33), (.p (.fieldA 0 (.tmp 2))), (some (32, true))⟩,
    ⟨(some 34), (.r (.load none (.tmp 33))), (some (32, true))⟩,
    ⟨(some 35), (.p (.ibin .eql (.tmp 34) (.cst (.int .i64 3)))), (some (32, true))⟩,
    ⟨(some 36), (.p (.pick (.tmp 32) (.tmp 35) (.cst (.bool false)))), none⟩,
    ⟨(some 0), (.p (.mov (.tmp 36))), none⟩])
  .ret))))
def f27 : VF := { body := b27, res := [(.tmp 0)] }
-- comptoir/comptoirhelp.State
def b28 : VC := (.seq (.reg [⟨(some 2), (.w (.box 5 (.tmp 0))), none⟩,
    ⟨(some 3), (.w (.box 5 (.tmp 1))), none⟩,
    ⟨(some 4), (.p (.mov (.cst (.bool false)))), none⟩])
  (.seq (.reg [⟨(some 5), (.p (.fieldA 0 (.tmp 2))), none⟩,
    ⟨(some 6), (.r (.load none (.tmp 5))), none⟩,
    ⟨(some 7), (.p (.fieldA 0 (.tmp 3))), none⟩,
    ⟨(some 8), (.r (.load none (.tmp 7))), none⟩,
    ⟨(some 9), (.p (.ibin .eql (.tmp 6) (.tmp 8))), none⟩,
    ⟨(some 10), (.p (.mov (.tmp 9))), none⟩,
    ⟨(some 11), (.p (.fieldA 1 (.tmp 2))), (some (10, true))⟩,
    ⟨(some 12), (.r (.load none (.tmp 11))), (some (10, true))⟩,
    ⟨(some 13), (.p (.fieldA 1 (.tmp 3))), (some (10, true))⟩,
    ⟨(some 14), (.r (.load none (.tmp 13))), (some (10, true))⟩,
    ⟨(some 15), (.p (.ibin .eql (.tmp 12) (.tmp 14))), (some (10, true))⟩,
    ⟨(some 16), (.p (.pick (.tmp 10) (.tmp 15) (.cst (.bool false)))), none⟩,
    ⟨(some 17), (.p (.mov (.tmp 16))), none⟩,
    ⟨(some 18), (.p (.fieldA 2 (.tmp 2))), (some (17, true))⟩,
    ⟨(some 19), (.r (.load none (.tmp 18))), (some (17, true))⟩,
    ⟨(some 20), (.p (.fieldA 2 (.tmp 3))), (some (17, true))⟩,
    ⟨(some 21), (.r (.load none (.tmp 20))), (some (17, true))⟩,
    ⟨(some 22), (.p (.ibin .eql (.tmp 19) (.tmp 21))), (some (17, true))⟩,
    ⟨(some 23), (.p (.pick (.tmp 17) (.tmp 22) (.cst (.bool false)))), none⟩,
    ⟨(some 24), (.p (.mov (.tmp 23))), none⟩,
    ⟨(some 25), (.p (.fieldA 3 (.tmp 2))), (some (24, true))⟩,
    ⟨(some 26), (.r (.load none (.tmp 25))), (some (24, true))⟩,
    ⟨(some 27), (.p (.fieldA 3 (.tmp 3))), (some (24, true))⟩,
    ⟨(some 28), (.r (.load none (.tmp 27))), (some (24, true))⟩,
    ⟨(some 29), (.r (.pcall (.cst (.fn 51 [] [])) [(.tmp 26), (.tmp 28), (.cst (.fn 52 [] []))])), (some (24, true))⟩,
    ⟨(some 30), (.p (.pick (.tmp 24) (.tmp 29) (.cst (.bool false)))), none⟩,
    ⟨(some 31), (.p (.mov (.tmp 30))), none⟩,
    ⟨(some 32), (.p (.fieldA 4 (.tmp 2))), (some (31, true))⟩,
    ⟨(some 33), (.r (.load none (.tmp 32))), (some (31, true))⟩,
    ⟨(some 34), (.p (.fieldA 4 (.tmp 3))), (some (31, true))⟩,
    ⟨(some 35), (.r (.load none (.tmp 34))), (some (31, true))⟩,
    ⟨(some 36), (.r (.pcall (.cst (.fn 53 [] [])) [(.tmp 33), (.tmp 35), (.cst (.fn 54 [] []))])), (some (31, true))⟩,
    ⟨(some 37), (.p (.pick (.tmp 31) (.tmp 36) (.cst (.bool false)))), none⟩,
    ⟨(some 4), (.p (.mov (.tmp 37))), none⟩])
  .ret))
def f28 : VF := { body := b28, res := [(.tmp 4)] }
-- comptoir/state.Whole
def b29 : VC := (.seq (.reg [⟨(some 1), (.w (.box 5 (.tmp 0))), none⟩,
    ⟨(some 2), (.p (.mov (.cst .nilsl))), none⟩])
  (.seq (.reg [⟨(some 8), (.p (.fieldA 0 (.tmp 1))), none⟩,
    ⟨(some 9), (.r (.load none (.tmp 8))), none⟩,
    ⟨(some 10), (.p (.build [(.int .i64 0), (.int .u64 0), (.int .i64 0), (.int .i64 0), (.int .i64 0), (.int .i64 0), (.int .i64 0), (.int .i64 0), (.int .i64 0), (.int .u64 0), (.int .i64 0), (.int .i64 0), (.str []), (.str []), (.str []), (.str []), (.int .u64 0), (.str []), (.str []), (.str []), (.str []), (.int .i64 0), (.str []), (.str []), (.int .i64 0), (.str []), .nilsl, (.str []), (.str []), .nilsl, .nilsl, (.int .i64 0), (.int .u64 0), (.str []), (.str []), (.str []), .nilsl, .nilsl] [(0, 1, (.cst (.int .i64 1))), (1, 1, (.tmp 9))])), none⟩,
    ⟨(some 11), (.p (.fieldA 1 (.tmp 1))), none⟩,
    ⟨(some 12), (.r (.load none (.tmp 11))), none⟩,
    ⟨(some 13), (.p (.fieldA 2 (.tmp 1))), none⟩,
    ⟨(some 14), (.r (.load none (.tmp 13))), none⟩,
    ⟨(some 15), (.p (.build [(.int .i64 0), (.int .u64 0), (.int .i64 0), (.int .i64 0), (.int .i64 0), (.int .i64 0), (.int .i64 0), (.int .i64 0), (.int .i64 0), (.int .u64 0), (.int .i64 0), (.int .i64 0), (.str []), (.str []), (.str []), (.str []), (.int .u64 0), (.str []), (.str []), (.str []), (.str []), (.int .i64 0), (.str []), (.str []), (.int .i64 0), (.str []), .nilsl, (.str []), (.str []), .nilsl, .nilsl, (.int .i64 0), (.int .u64 0), (.str []), (.str []), (.str []), .nilsl, .nilsl] [(0, 1, (.cst (.int .i64 2))), (2, 1, (.tmp 12)), (3, 1, (.tmp 14))])), none⟩,
    ⟨(some 16), (.p (.lit 38 (.agg [(.int .i64 0), (.int .u64 0), (.int .i64 0), (.int .i64 0), (.int .i64 0), (.int .i64 0), (.int .i64 0), (.int .i64 0), (.int .i64 0), (.int .u64 0), (.int .i64 0), (.int .i64 0), (.str []), (.str []), (.str []), (.str []), (.int .u64 0), (.str []), (.str []), (.str []), (.str []), (.int .i64 0), (.str []), (.str []), (.int .i64 0), (.str []), .nilsl, (.str []), (.str []), .nilsl, .nilsl, (.int .i64 0), (.int .u64 0), (.str []), (.str []), (.str []), .nilsl, .nilsl]) 2 [(0, (.tmp 10)), (1, (.tmp 15))])), none⟩,
    ⟨(some 3), (.p (.mov (.tmp 16))), none⟩])
  (.seq (.seq (.reg [⟨(some 17), (.p (.fieldA 3 (.tmp 1))), none⟩,
    ⟨(some 18), (.r (.load none (.tmp 17))), none⟩,
    ⟨(some 19), (.p (.len (.tmp 18))), none⟩,
    ⟨(some 20), (.p (.mov (.cst (.int .i64 0)))), none⟩])
  (.block 0 (.loop (.seq (.reg [⟨(some 21), (.p (.ibin .lss (.tmp 20) (.tmp 19))), none⟩])
  (.seq (.cond (.tmp 21) .skip
  (.exit 0))
  (.seq (.block 1 (.seq (.reg [⟨(some 22), (.p (.idxA 27 (.tmp 18) (.tmp 20))), none⟩,
    ⟨(some 23), (.r (.load (some 27) (.tmp 22))), none⟩,
    ⟨(some 5), (.w (.alloc [(.int .i64 0), (.int .i64 0), (.int .i64 0), (.int .i64 0), (.int .i64 0), (.int .u64 0), (.int .i64 0), (.int .i64 0), (.str []), (.str []), (.str []), (.str []), (.int .u64 0), (.str []), (.str []), (.str []), (.str []), (.int .i64 0), (.str []), (.str []), (.int .i64 0), (.str []), .nilsl, (.str []), (.str []), .nilsl, .nilsl])), none⟩,
    ⟨none, (.w (.store 27 (.tmp 5) (.tmp 23))), none⟩])
  (.reg [⟨(some 24), (.p (.mov (.tmp 3))), none⟩,
    ⟨(some 25), (.r (.load (some 27) (.tmp 5))), none⟩,
    ⟨(some 26), (.r (.pcall (.cst (.fn 47 [] [])) [(.tmp 25)])), none⟩,
    ⟨(some 27), (.p (.build [(.int .i64 0), (.int .u64 0), (.int .i64 0), (.int .i64 0), (.int .i64 0), (.int .i64 0), (.int .i64 0), (.int .i64 0), (.int .i64 0), (.int .u64 0), (.int .i64 0), (.int .i64 0), (.str []), (.str []), (.str []), (.str []), (.int .u64 0), (.str []), (.str []), (.str []), (.str []), (.int .i64 0), (.str []), (.str []), (.int .i64 0), (.str []), .nilsl, (.str []), (.str []), .nilsl, .nilsl, (.int .i64 0), (.int .u64 0), (.str []), (.str []), (.str []), .nilsl, .nilsl] [(0, 1, (.cst (.int .i64 3))), (4, 27, (.tmp 26))])), none⟩,
    ⟨(some 28), (.p (.lit 38 (.agg [(.int .i64 0), (.int .u64 0), (.int .i64 0), (.int .i64 0), (.int .i64 0), (.int .i64 0), (.int .i64 0), (.int .i64 0), (.int .i64 0), (.int .u64 0), (.int .i64 0), (.int .i64 0), (.str []), (.str []), (.str []), (.str []), (.int .u64 0), (.str []), (.str []), (.str []), (.str []), (.int .i64 0), (.str []), (.str []), (.int .i64 0), (.str []), .nilsl, (.str []), (.str []), .nilsl, .nilsl, (.int .i64 0), (.int .u64 0), (.str []), (.str []), (.str []), .nilsl, .nilsl]) 1 [(0, (.tmp 27))])), none⟩,
    ⟨(some 29), (.w (.append 38 512 (.tmp 24) (.tmp 28))), none⟩,
    ⟨(some 3), (.p (.mov (.tmp 29))), none⟩])))
  (.reg [⟨(some 30), (.p (.ibin .add (.tmp 20) (.cst (.int .i64 1)))), none⟩,
    ⟨(some 20), (.p (.mov (.tmp 30))), none⟩])))))))
  (.seq (.seq (.reg [⟨(some 31), (.p (.fieldA 4 (.tmp 1))), none⟩,
    ⟨(some 32), (.r (.load none (.tmp 31))), none⟩,
    ⟨(some 33), (.p (.len (.tmp 32))), none⟩,
    ⟨(some 34), (.p (.mov (.cst (.int .i64 0)))), none⟩])
  (.block 2 (.loop (.seq (.reg [⟨(some 35), (.p (.ibin .lss (.tmp 34) (.tmp 33))), none⟩])
  (.seq (.cond (.tmp 35) .skip
  (.exit 2))
  (.seq (.block 3 (.seq (.reg [⟨(some 36), (.p (.idxA 7 (.tmp 32) (.tmp 34))), none⟩,
    ⟨(some 37), (.r (.load (some 7) (.tmp 36))), none⟩,
    ⟨(some 7), (.w (.alloc [(.int .i64 0), (.int .u64 0), (.str []), (.str []), (.str []), .nilsl, .nilsl])), none⟩,
    ⟨none, (.w (.store 7 (.tmp 7) (.tmp 37))), none⟩])
  (.reg [⟨(some 38), (.p (.mov (.tmp 3))), none⟩,
    ⟨(some 39), (.r (.load (some 7) (.tmp 7))), none⟩,
    ⟨(some 40), (.r (.pcall (.cst (.fn 49 [] [])) [(.tmp 39)])), none⟩,
    ⟨(some 41), (.p (.build [(.int .i64 0), (.int .u64 0), (.int .i64 0), (.int .i64 0), (.int .i64 0), (.int .i64 0), (.int .i64 0), (.int .i64 0), (.int .i64 0), (.int .u64 0), (.int .i64 0), (.int .i64 0), (.str []), (.str []), (.str []), (.str []), (.int .u64 0), (.str []), (.str []), (.str []), (.str []), (.int .i64 0), (.str []), (.str []), (.int .i64 0), (.str []), .nilsl, (.str []), (.str []), .nilsl, .nilsl, (.int .i64 0), (.int .u64 0), (.str []), (.str []), (.str []), .nilsl, .nilsl] [(0, 1, (.cst (.int .i64 5))), (31, 7, (.tmp 40))])), none⟩,
    ⟨(some 42), (.p (.lit 38 (.agg [(.int .i64 0), (.int .u64 0), (.int .i64 0), (.int .i64 0), (.int .i64 0), (.int .i64 0), (.int .i64 0), (.int .i64 0), (.int .i64 0), (.int .u64 0), (.int .i64 0), (.int .i64 0), (.str []), (.str []), (.str []), (.str []), (.int .u64 0), (.str []), (.str []), (.str []), (.str []), (.int .i64 0), (.str []), (.str []), (.int .i64 0), (.str []), .nilsl, (.str []), (.str []), .nilsl, .nilsl, (.int .i64 0), (.int .u64 0), (.str []), (.str []), (.str []), .nilsl, .nilsl]) 1 [(0, (.tmp 41))])), none⟩,
    ⟨(some 43), (.w (.append 38 512 (.tmp 38) (.tmp 42))), none⟩,
    ⟨(some 3), (.p (.mov (.tmp 43))), none⟩])))
  (.reg [⟨(some 44), (.p (.ibin .add (.tmp 34) (.cst (.int .i64 1)))), none⟩,
    ⟨(some 34), (.p (.mov (.tmp 44))), none⟩])))))))
  (.seq (.reg [⟨(some 45), (.p (.mov (.tmp 3))), none⟩,
    ⟨(some 2), (.p (.mov (.tmp 45))), none⟩])
  .ret)))))
def f29 : VF := { body := b29, res := [(.tmp 2)] }
-- comptoir/link.Frame
def b30 : VC := (.seq (.reg [⟨(some 2), (.p (.mov (.cst .nilsl))), none⟩,
    ⟨(some 3), (.p (.mov (.cst (.int .i64 0)))), none⟩])
  (.seq (.block 0 (.seq (.reg [⟨(some 5), (.p (.mov (.tmp 0))), none⟩,
    ⟨(some 6), (.p (.len (.tmp 5))), none⟩,
    ⟨(some 7), (.p (.ibin .eql (.tmp 6) (.cst (.int .i64 0)))), none⟩,
    ⟨(some 4), (.p (.mov (.tmp 7))), none⟩])
  (.cond (.tmp 4) (.seq (.reg [⟨(some 2), (.p (.mov (.cst .nilsl))), none⟩,
    ⟨(some 3), (.p (.mov (.cst (.int .i64 1)))), none⟩])
  .ret)
  (.seq (.reg [⟨(some 9), (.p (.mov (.tmp 0))), none⟩,
    ⟨(some 10), (.p (.len (.tmp 9))), none⟩,
    ⟨(some 11), (.p (.ibin .gtr (.tmp 10) (.cst (.int .i64 4096)))), none⟩,
    ⟨(some 8), (.p (.mov (.tmp 11))), none⟩])
  (.cond (.tmp 8) (.seq (.reg [⟨(some 2), (.p (.mov (.cst .nilsl))), none⟩,
    ⟨(some 3), (.p (.mov (.cst (.int .i64 4)))), none⟩])
  .ret)
  .skip)))))
  (.seq (.reg [⟨(some 12), (.p (.mov (.tmp 0))), none⟩,
    ⟨(some 13), (.p (.len (.tmp 12))), none⟩,
    ⟨(some 14), (.p (.conv (.toInt .u64) (.tmp 13))), none⟩,
    ⟨(some 15), (.r (.pcall (.cst (.fn 55 [] [])) [(.cst .nilsl), (.tmp 14), (.cst (.int .i64 2))])), none⟩,
    ⟨(some 16), (.p (.mov (.tmp 0))), none⟩,
    ⟨(some 17), (.p (.lit 1 .nilsl 2 [(0, (.tmp 15)), (1, (.tmp 16))])), none⟩,
    ⟨(some 18), (.r (.pcall (.cst (.fn 42 [] [])) [(.tmp 17)])), none⟩,
    ⟨(some 2), (.p (.mov (.tmp 18))), none⟩,
    ⟨(some 3), (.p (.mov (.cst (.int .i64 0)))), none⟩])
  .ret)))
def f30 : VF := { body := b30, res := [(.tmp 2), (.tmp 3)] }
-- comptoir/link.New
def b31 : VC := (.seq (.reg [⟨(some 0), (.p (.mov (.cst .nilp))), none⟩])
  (.seq (.reg [⟨(some 1), (.p (.build [.nilsl, (.bool false)] [])), none⟩,
    ⟨(some 2), (.w (.box 2 (.tmp 1))), none⟩,
    ⟨(some 0), (.p (.mov (.tmp 2))), none⟩])
  .ret))
def f31 : VF := { body := b31, res := [(.tmp 0)] }
-- comptoir/comptoirlaw06.awake
def b32 : VC := (.seq (.reg [⟨(some 0), (.p (.mov (.cst (.bool false)))), none⟩])
  (.seq (.reg [⟨(some 6), (.w (.call (.cst (.fn 31 [] [])) [])), none⟩,
    ⟨(some 1), (.p (.mov (.tmp 6))), none⟩])
  (.seq (.seq (.reg [⟨(some 7), (.p (.mov (.tmp 1))), none⟩,
    ⟨(some 8), (.p (.nileq 0 false (.tmp 7) (.cst .nilp))), none⟩])
  (.cond (.tmp 8) (.seq (.reg [⟨(some 0), (.p (.mov (.cst (.bool false)))), none⟩])
  .ret)
  .skip))
  (.seq (.reg [⟨(some 10), (.p (.mov (.tmp 1))), none⟩,
    ⟨(some 11), (.p (.lit 1 (.int .u8 0) 3 [(0, (.cst (.int .u8 0))), (1, (.cst (.int .u8 1))), (2, (.cst (.int .u8 7)))])), none⟩,
    ⟨(some 12), (.w (.call (.cst (.fn 33 [] [])) [(.tmp 10), (.tmp 11)])), none⟩,
    ⟨(some 9), (.p (.mov (.tmp 12))), none⟩,
    ⟨(some 13), (.p (.ext (.tmp 9) 0)), none⟩,
    ⟨(some 14), (.p (.ext (.tmp 9) 1)), none⟩,
    ⟨(some 2), (.p (.mov (.tmp 13))), none⟩,
    ⟨(some 3), (.p (.mov (.tmp 14))), none⟩])
  (.seq (.reg [⟨(some 16), (.p (.lit 1 (.int .u8 0) 1 [(0, (.cst (.int .u8 7)))])), none⟩,
    ⟨(some 17), (.r (.pcall (.cst (.fn 30 [] [])) [(.tmp 16)])), none⟩,
    ⟨(some 15), (.p (.mov (.tmp 17))), none⟩,
    ⟨(some 18), (.p (.ext (.tmp 15) 0)), none⟩,
    ⟨(some 19), (.p (.ext (.tmp 15) 1)), none⟩,
    ⟨(some 4), (.p (.mov (.tmp 18))), none⟩,
    ⟨(some 5), (.p (.mov (.tmp 19))), none⟩])
  (.seq (.reg [⟨(some 20), (.p (.mov (.tmp 3))), none⟩,
    ⟨(some 21), (.p (.ibin .eql (.tmp 20) (.cst (.int .i64 0)))), none⟩,
    ⟨(some 22), (.p (.mov (.tmp 21))), none⟩,
    ⟨(some 23), (.p (.mov (.tmp 2))), (some (22, true))⟩,
    ⟨(some 24), (.p (.len (.tmp 23))), (some (22, true))⟩,
    ⟨(some 25), (.p (.ibin .eql (.tmp 24) (.cst (.int .i64 1)))), (some (22, true))⟩,
    ⟨(some 26), (.p (.pick (.tmp 22) (.tmp 25) (.cst (.bool false)))), none⟩,
    ⟨(some 27), (.p (.mov (.tmp 26))), none⟩,
    ⟨(some 28), (.p (.mov (.tmp 2))), (some (27, true))⟩,
    ⟨(some 29), (.p (.idxA 1 (.tmp 28) (.cst (.int .i64 0)))), (some (27, true))⟩,
    ⟨(some 30), (.r (.load none (.tmp 29))), (some (27, true))⟩,
    ⟨(some 31), (.p (.lit 1 (.int .u8 0) 1 [(0, (.cst (.int .u8 7)))])), (some (27, true))⟩,
    ⟨(some 32), (.r (.pcall (.cst (.fn 20 [] [])) [(.tmp 30), (.tmp 31)])), (some (27, true))⟩,
    ⟨(some 33), (.p (.pick (.tmp 27) (.tmp 32) (.cst (.bool false)))), none⟩,
    ⟨(some 34), (.p (.mov (.tmp 33))), none⟩,
    ⟨(some 35), (.p (.mov (.tmp 5))), (some (34, true))⟩,
    ⟨(some 36), (.p (.ibin .eql (.tmp 35) (.cst (.int .i64 0)))), (some (34, true))⟩,
    ⟨(some 37), (.p (.pick (.tmp 34) (.tmp 36) (.cst (.bool false)))), none⟩,
    ⟨(some 38), (.p (.mov (.tmp 37))), none⟩,
    ⟨(some 39), (.p (.mov (.tmp 4))), (some (38, true))⟩,
    ⟨(some 40), (.p (.lit 1 (.int .u8 0) 3 [(0, (.cst (.int .u8 0))), (1, (.cst (.int .u8 1))), (2, (.cst (.int .u8 7)))])), (some (38, true))⟩,
    ⟨(some 41), (.r (.pcall (.cst (.fn 20 [] [])) [(.tmp 39), (.tmp 40)])), (some (38, true))⟩,
    ⟨(some 42), (.p (.pick (.tmp 38) (.tmp 41) (.cst (.bool false)))), none⟩,
    ⟨(some 0), (.p (.mov (.tmp 42))), none⟩])
  .ret))))))
def f32 : VF := { body := b32, res := [(.tmp 0)] }
-- (*comptoir/link.Link).Feed
def b33 : VC := (.seq (.reg [⟨(some 4), (.p (.mov (.cst .nilsl))), none⟩,
    ⟨(some 5), (.p (.mov (.cst (.int .i64 0)))), none⟩])
  (.seq (.seq (.reg [⟨(some 7), (.p (.mov (.tmp 0))), none⟩,
    ⟨(some 8), (.p (.nileq 0 false (.tmp 7) (.cst .nilp))), none⟩])
  (.cond (.tmp 8) (.seq (.reg [⟨(some 4), (.p (.mov (.cst .nilsl))), none⟩,
    ⟨(some 5), (.p (.mov (.cst (.int .i64 2)))), none⟩])
  .ret)
  .skip))
  (.seq (.reg [⟨(some 6), (.p (.mov (.cst .nilsl))), none⟩])
  (.seq (.seq (.reg [⟨(some 9), (.p (.mov (.tmp 0))), none⟩,
    ⟨(some 10), (.p (.nilck (.tmp 9))), none⟩,
    ⟨(some 11), (.p (.fieldA 1 (.tmp 10))), none⟩,
    ⟨(some 12), (.r (.load none (.tmp 11))), none⟩,
    ⟨(some 13), (.p (.un .not (.tmp 12))), none⟩])
  (.cond (.tmp 13) (.seq (.reg [⟨(some 14), (.p (.mov (.tmp 0))), none⟩,
    ⟨(some 15), (.p (.mov (.tmp 0))), none⟩,
    ⟨(some 16), (.p (.nilck (.tmp 15))), none⟩,
    ⟨(some 17), (.p (.fieldA 0 (.tmp 16))), none⟩,
    ⟨(some 18), (.r (.load none (.tmp 17))), none⟩,
    ⟨(some 19), (.p (.mov (.tmp 1))), none⟩,
    ⟨(some 20), (.p (.lit 1 .nilsl 2 [(0, (.tmp 18)), (1, (.tmp 19))])), none⟩,
    ⟨(some 21), (.r (.pcall (.cst (.fn 42 [] [])) [(.tmp 20)])), none⟩,
    ⟨(some 22), (.p (.nilck (.tmp 14))), none⟩,
    ⟨(some 23), (.p (.fieldA 0 (.tmp 22))), none⟩,
    ⟨none, (.w (.store 1 (.tmp 23) (.tmp 21))), none⟩])
  (.reg [⟨(some 24), (.p (.mov (.tmp 0))), none⟩,
    ⟨(some 25), (.p (.mkfn 57 [(.tmp 24)] [])), none⟩,
    ⟨(some 26), (.w (.call (.cst (.fn 56 [] [])) [(.tmp 25)])), none⟩,
    ⟨(some 6), (.p (.mov (.tmp 26))), none⟩]))
  .skip))
  (.seq (.seq (.reg [⟨(some 27), (.p (.mov (.tmp 0))), none⟩,
    ⟨(some 28), (.p (.nilck (.tmp 27))), none⟩,
    ⟨(some 29), (.p (.fieldA 1 (.tmp 28))), none⟩,
    ⟨(some 30), (.r (.load none (.tmp 29))), none⟩])
  (.cond (.tmp 30) (.seq (.reg [⟨(some 4), (.p (.mov (.cst .nilsl))), none⟩,
    ⟨(some 5), (.p (.mov (.cst (.int .i64 4)))), none⟩])
  .ret)
  .skip))
  (.seq (.reg [⟨(some 31), (.p (.mov (.tmp 6))), none⟩,
    ⟨(some 4), (.p (.mov (.tmp 31))), none⟩,
    ⟨(some 5), (.p (.mov (.cst (.int .i64 0)))), none⟩])
  .ret))))))
def f33 : VF := { body := b33, res := [(.tmp 4), (.tmp 5)] }
-- comptoir/comptoirhelp.Same[[]byte]
def b34 : VC := (.seq (.reg [⟨(some 6), (.p (.mov (.cst (.bool false)))), none⟩])
  (.seq (.seq (.reg [⟨(some 8), (.p (.mov (.tmp 0))), none⟩,
    ⟨(some 9), (.p (.len (.tmp 8))), none⟩,
    ⟨(some 10), (.p (.mov (.tmp 1))), none⟩,
    ⟨(some 11), (.p (.len (.tmp 10))), none⟩,
    ⟨(some 12), (.p (.ibin .neq (.tmp 9) (.tmp 11))), none⟩])
  (.cond (.tmp 12) (.seq (.reg [⟨(some 6), (.p (.mov (.cst (.bool false)))), none⟩])
  .ret)
  .skip))
  (.seq (.seq (.reg [⟨(some 7), (.p (.mov (.cst (.int .i64 0)))), none⟩])
  (.block 0 (.loop (.seq (.seq (.reg [⟨(some 13), (.p (.mov (.tmp 7))), none⟩,
    ⟨(some 14), (.p (.mov (.tmp 0))), none⟩,
    ⟨(some 15), (.p (.len (.tmp 14))), none⟩,
    ⟨(some 16), (.p (.ibin .lss (.tmp 13) (.tmp 15))), none⟩])
  (.cond (.tmp 16) .skip
  (.exit 0)))
  (.seq (.block 1 (.seq (.draw [(⟨(some 19), (.p (.mov (.tmp 2))), none⟩, 0, 0),
    (⟨(some 20), (.p (.mov (.tmp 0))), none⟩, 0, 0),
    (⟨(some 21), (.p (.mov (.tmp 7))), none⟩, 0, 0),
    (⟨(some 22), (.p (.idxA 1 (.tmp 20) (.tmp 21))), none⟩, 0, 0),
    (⟨(some 23), (.r (.load none (.tmp 22))), none⟩, 0, 0),
    (⟨(some 24), (.p (.mov (.tmp 1))), none⟩, 0, 0),
    (⟨(some 25), (.p (.mov (.tmp 7))), none⟩, 0, 0),
    (⟨(some 26), (.p (.idxA 1 (.tmp 24) (.tmp 25))), none⟩, 0, 0),
    (⟨(some 27), (.r (.load none (.tmp 26))), none⟩, 0, 0),
    (⟨(some 28), (.r (.pcall (.tmp 19) [(.tmp 23), (.tmp 27)])), none⟩, 0, 0),
    (⟨(some 29), (.p (.un .not (.tmp 28))), none⟩, 0, 0)])
  (.cond (.tmp 29) (.seq (.reg [⟨(some 6), (.p (.mov (.cst (.bool false)))), none⟩])
  .ret)
  .skip)))
  (.reg [⟨(some 17), (.p (.mov (.tmp 7))), none⟩,
    ⟨(some 18), (.p (.ibin .add (.tmp 17) (.cst (.int .i64 1)))), none⟩,
    ⟨(some 7), (.p (.mov (.tmp 18))), none⟩]))))))
  (.seq (.reg [⟨(some 6), (.p (.mov (.cst (.bool true)))), none⟩])
  .ret))))
def f34 : VF := { body := b34, res := [(.tmp 6)] }
-- comptoir/comptoirlaw14.awake
def b35 : VC := (.seq (.reg [⟨(some 0), (.p (.mov (.cst (.bool false)))), none⟩])
  (.seq (.reg [⟨(some 4), (.p (.lit 1 (.int .u8 0) 3 [(0, (.cst (.int .u8 149))), (1, (.cst (.int .u8 1))), (2, (.cst (.int .u8 7)))])), none⟩,
    ⟨(some 5), (.r (.pcall (.cst (.fn 38 [] [])) [(.tmp 4)])), none⟩,
    ⟨(some 3), (.p (.mov (.tmp 5))), none⟩,
    ⟨(some 6), (.p (.ext (.tmp 3) 0)), none⟩,
    ⟨(some 7), (.p (.ext (.tmp 3) 1)), none⟩,
    ⟨(some 1), (.p (.mov (.tmp 6))), none⟩,
    ⟨(some 2), (.p (.mov (.tmp 7))), none⟩])
  (.seq (.reg [⟨(some 8), (.p (.mov (.tmp 2))), none⟩,
    ⟨(some 9), (.p (.ibin .eql (.tmp 8) (.cst (.int .i64 0)))), none⟩,
    ⟨(some 10), (.p (.mov (.tmp 9))), none⟩,
    ⟨(some 11), (.p (.mov (.tmp 1))), (some (10, true))⟩,
    ⟨(some 12), (.p (.len (.tmp 11))), (some (10, true))⟩,
    ⟨(some 13), (.p (.ibin .eql (.tmp 12) (.cst (.int .i64 1)))), (some (10, true))⟩,
    ⟨(some 14), (.p (.pick (.tmp 10) (.tmp 13) (.cst (.bool false)))), none⟩,
    ⟨(some 15), (.p (.mov (.tmp 14))), none⟩,
    ⟨(some 16), (.p (.mov (.tmp 1))), (some (15, true))⟩,
    ⟨(some 17), (.p (.idxA 2 (.tmp 16) (.cst (.int .i64 0)))), (some (15, true))⟩,
    ⟨(some 18), (.p (.fieldA 0 (.tmp 17))), (some (15, true))⟩,
    ⟨(some 19), (.r (.load none (.tmp 18))), (some (15, true))⟩,
    ⟨(some 20), (.p (.ibin .eql (.tmp 19) (.cst (.int .i64 149)))), (some (15, true))⟩,
    ⟨(some 21), (.p (.pick (.tmp 15) (.tmp 20) (.cst (.bool false)))), none⟩,
    ⟨(some 22), (.p (.mov (.tmp 21))), none⟩,
    ⟨(some 23), (.p (.mov (.tmp 1))), (some (22, true))⟩,
    ⟨(some 24), (.p (.idxA 2 (.tmp 23) (.cst (.int .i64 0)))), (some (22, true))⟩,
    ⟨(some 25), (.p (.fieldA 1 (.tmp 24))), (some (22, true))⟩,
    ⟨(some 26), (.r (.load none (.tmp 25))), (some (22, true))⟩,
    ⟨(some 27), (.p (.lit 1 (.int .u8 0) 1 [(0, (.cst (.int .u8 7)))])), (some (22, true))⟩,
    ⟨(some 28), (.r (.pcall (.cst (.fn 20 [] [])) [(.tmp 26), (.tmp 27)])), (some (22, true))⟩,
    ⟨(some 29), (.p (.pick (.tmp 22) (.tmp 28) (.cst (.bool false)))), none⟩,
    ⟨(some 0), (.p (.mov (.tmp 29))), none⟩])
  .ret)))
def f35 : VF := { body := b35, res := [(.tmp 0)] }
-- comptoir/comptoirplay.Tags
def b36 : VC := (.seq (.reg [⟨(some 2), (.p (.mov (.cst .nilsl))), none⟩])
  (.seq (.reg [⟨(some 3), (.p (.mov (.cst .nilsl))), none⟩])
  (.seq (.reg [⟨(some 4), (.p (.mov (.cst (.int .i64 0)))), none⟩])
  (.seq (.seq (.reg [⟨(some 5), (.p (.mov (.cst (.int .i64 0)))), none⟩])
  (.block 0 (.loop (.seq (.seq (.reg [⟨(some 9), (.p (.mov (.tmp 5))), none⟩,
    ⟨(some 10), (.p (.mov (.tmp 0))), none⟩,
    ⟨(some 11), (.p (.len (.tmp 10))), none⟩,
    ⟨(some 12), (.p (.ibin .lss (.tmp 9) (.tmp 11))), none⟩,
    ⟨(some 13), (.p (.mov (.tmp 12))), none⟩,
    ⟨(some 14), (.p (.mov (.tmp 3))), (some (13, true))⟩,
    ⟨(some 15), (.p (.len (.tmp 14))), (some (13, true))⟩,
    ⟨(some 16), (.p (.ibin .lss (.tmp 15) (.cst (.int .i64 6)))), (some (13, true))⟩,
    ⟨(some 17), (.p (.pick (.tmp 13) (.tmp 16) (.cst (.bool false)))), none⟩])
  (.cond (.tmp 17) .skip
  (.exit 0)))
  (.seq (.block 1 (.seq (.draw [(⟨(some 20), (.p (.mov (.tmp 0))), none⟩, 0, 1),
    (⟨(some 21), (.p (.mov (.tmp 5))), none⟩, 0, 1),
    (⟨(some 22), (.p (.idxA 2 (.tmp 20) (.tmp 21))), none⟩, 0, 1),
    (⟨(some 23), (.p (.fieldA 0 (.tmp 22))), none⟩, 0, 1),
    (⟨(some 24), (.r (.load none (.tmp 23))), none⟩, 0, 1),
    (⟨(some 25), (.p (.mov (.tmp 0))), none⟩, 0, 1),
    (⟨(some 26), (.p (.mov (.tmp 5))), none⟩, 0, 1),
    (⟨(some 27), (.p (.idxA 2 (.tmp 25) (.tmp 26))), none⟩, 0, 1),
    (⟨(some 28), (.p (.fieldA 1 (.tmp 27))), none⟩, 0, 1),
    (⟨(some 29), (.r (.load none (.tmp 28))), none⟩, 0, 1),
    (⟨(some 30), (.p (.mov (.tmp 0))), none⟩, 0, 1),
    (⟨(some 31), (.p (.mov (.tmp 5))), none⟩, 0, 1),
    (⟨(some 32), (.p (.idxA 2 (.tmp 30) (.tmp 31))), none⟩, 0, 1),
    (⟨(some 33), (.p (.fieldA 1 (.tmp 32))), none⟩, 0, 1),
    (⟨(some 34), (.r (.load none (.tmp 33))), none⟩, 0, 1),
    (⟨(some 35), (.p (.len (.tmp 34))), none⟩, 0, 1),
    (⟨(some 36), (.p (.mm false (.tmp 35) (.cst (.int .i64 30)))), none⟩, 0, 1),
    (⟨(some 37), (.p (.slice 1 (.tmp 29) none (some (.tmp 36)))), none⟩, 0, 1),
    (⟨(some 38), (.r (.clone 1 1 (.tmp 37))), none⟩, 0, 1),
    (⟨(some 39), (.p (.build [(.int .i64 0), .nilsl] [(0, 1, (.tmp 24)), (1, 1, (.tmp 38))])), none⟩, 0, 1),
    (⟨(some 6), (.w (.alloc [(.int .i64 0), .nilsl])), none⟩, 0, 0),
    (⟨none, (.w (.store 2 (.tmp 6) (.tmp 39))), none⟩, 1, 1)])
  (.seq (.draw [(⟨(some 41), (.p (.mov (.tmp 3))), none⟩, 0, 0),
    (⟨(some 42), (.w (.append 2 32 (.cst .nilsl) (.tmp 41))), none⟩, 0, 0),
    (⟨(some 43), (.r (.load (some 2) (.tmp 6))), none⟩, 0, 1),
    (⟨(some 44), (.p (.lit 2 (.agg [(.int .i64 0), .nilsl]) 1 [(0, (.tmp 43))])), none⟩, 0, 1),
    (⟨(some 45), (.w (.append 2 32 (.tmp 42) (.tmp 44))), none⟩, 1, 1),
    (⟨(some 46), (.r (.pcall (.cst (.fn 58 [] [])) [(.tmp 45)])), none⟩, 2, 2),
    (⟨(some 40), (.p (.mov (.tmp 46))), none⟩, 2, 2),
    (⟨(some 47), (.p (.ext (.tmp 40) 0)), none⟩, 2, 2),
    (⟨(some 48), (.p (.ext (.tmp 40) 1)), none⟩, 2, 2),
    (⟨(some 7), (.p (.mov (.tmp 47))), none⟩, 2, 2),
    (⟨(some 8), (.p (.mov (.tmp 48))), none⟩, 2, 2)])
  (.seq (.reg [⟨(some 49), (.p (.mov (.tmp 8))), none⟩,
    ⟨(some 50), (.p (.ibin .eql (.tmp 49) (.cst (.int .i64 0)))), none⟩,
    ⟨(some 51), (.p (.mov (.tmp 50))), none⟩,
    ⟨(some 52), (.p (.mov (.tmp 4))), (some (51, true))⟩,
    ⟨(some 53), (.p (.fieldA 1 (.tmp 6))), (some (51, true))⟩,
    ⟨(some 54), (.r (.load none (.tmp 53))), (some (51, true))⟩,
    ⟨(some 55), (.p (.len (.tmp 54))), (some (51, true))⟩,
    ⟨(some 56), (.p (.ibin .add (.tmp 52) (.tmp 55))), (some (51, true))⟩,
    ⟨(some 57), (.p (.ibin .lss (.tmp 56) (.cst (.int .i64 200)))), (some (51, true))⟩,
    ⟨(some 58), (.p (.pick (.tmp 51) (.tmp 57) (.cst (.bool false)))), none⟩])
  (.cond (.tmp 58) (.draw [(⟨(some 59), (.p (.mov (.tmp 3))), none⟩, 0, 0),
    (⟨(some 60), (.r (.load (some 2) (.tmp 6))), none⟩, 0, 0),
    (⟨(some 61), (.p (.lit 2 (.agg [(.int .i64 0), .nilsl]) 1 [(0, (.tmp 60))])), none⟩, 0, 0),
    (⟨(some 62), (.w (.append 2 32 (.tmp 59) (.tmp 61))), none⟩, 0, 0),
    (⟨(some 63), (.p (.mov (.tmp 4))), none⟩, 0, 1),
    (⟨(some 64), (.p (.fieldA 1 (.tmp 6))), none⟩, 0, 1),
    (⟨(some 65), (.r (.load none (.tmp 64))), none⟩, 0, 1),
    (⟨(some 66), (.p (.len (.tmp 65))), none⟩, 0, 1),
    (⟨(some 67), (.p (.ibin .add (.tmp 63) (.tmp 66))), none⟩, 0, 1),
    (⟨(some 68), (.p (.ibin .add (.tmp 67) (.cst (.int .i64 4)))), none⟩, 0, 1),
    (⟨(some 3), (.p (.mov (.tmp 62))), none⟩, 1, 1),
    (⟨(some 4), (.p (.mov (.tmp 68))), none⟩, 1, 1)])
  .skip)))))
  (.reg [⟨(some 18), (.p (.mov (.tmp 5))), none⟩,
    ⟨(some 19), (.p (.ibin .add (.tmp 18) (.cst (.int .i64 1)))), none⟩,
    ⟨(some 5), (.p (.mov (.tmp 19))), none⟩]))))))
  (.seq (.seq (.reg [⟨(some 69), (.p (.mov (.tmp 3))), none⟩,
    ⟨(some 70), (.p (.len (.tmp 69))), none⟩,
    ⟨(some 71), (.p (.ibin .eql (.tmp 70) (.cst (.int .i64 0)))), none⟩])
  (.cond (.tmp 71) (.seq (.reg [⟨(some 72), (.p (.lit 1 (.int .u8 0) 1 [(0, (.cst (.int .u8 1)))])), none⟩,
    ⟨(some 73), (.p (.build [(.int .i64 0), .nilsl] [(0, 1, (.cst (.int .i64 149))), (1, 1, (.tmp 72))])), none⟩,
    ⟨(some 74), (.p (.lit 2 (.agg [(.int .i64 0), .nilsl]) 1 [(0, (.tmp 73))])), none⟩,
    ⟨(some 2), (.p (.mov (.tmp 74))), none⟩])
  .ret)
  .skip))
  (.seq (.reg [⟨(some 75), (.p (.mov (.tmp 3))), none⟩,
    ⟨(some 2), (.p (.mov (.tmp 75))), none⟩])
  .ret))))))
def f36 : VF := { body := b36, res := [(.tmp 2)] }
-- comptoir/tlv.Write
def b37 : VC := (.seq (.reg [⟨(some 2), (.p (.mov (.cst .nilsl))), none⟩,
    ⟨(some 3), (.p (.mov (.cst (.int .i64 0)))), none⟩])
  (.seq (.seq (.reg [⟨(some 9), (.p (.mov (.tmp 0))), none⟩,
    ⟨(some 10), (.p (.len (.tmp 9))), none⟩,
    ⟨(some 11), (.p (.ibin .gtr (.tmp 10) (.cst (.int .i64 20)))), none⟩])
  (.cond (.tmp 11) (.seq (.reg [⟨(some 2), (.p (.mov (.cst .nilsl))), none⟩,
    ⟨(some 3), (.p (.mov (.cst (.int .i64 4)))), none⟩])
  .ret)
  .skip))
  (.seq (.reg [⟨(some 4), (.p (.mov (.cst .nilsl))), none⟩])
  (.seq (.seq (.reg [⟨(some 12), (.p (.mov (.tmp 0))), none⟩,
    ⟨(some 13), (.p (.len (.tmp 12))), none⟩,
    ⟨(some 14), (.p (.mov (.cst (.int .i64 0)))), none⟩])
  (.block 0 (.loop (.seq (.reg [⟨(some 15), (.p (.ibin .lss (.tmp 14) (.tmp 13))), none⟩])
  (.seq (.cond (.tmp 15) .skip
  (.exit 0))
  (.seq (.block 1 (.seq (.reg [⟨(some 16), (.p (.mov (.tmp 14))), none⟩,
    ⟨(some 17), (.p (.idxA 2 (.tmp 12) (.tmp 14))), none⟩,
    ⟨(some 18), (.r (.load (some 2) (.tmp 17))), none⟩,
    ⟨(some 6), (.w (.alloc [(.int .i64 0), .nilsl])), none⟩,
    ⟨(some 5), (.p (.mov (.tmp 16))), none⟩,
    ⟨none, (.w (.store 2 (.tmp 6) (.tmp 18))), none⟩])
  (.seq (.seq (.draw [(⟨(some 19), (.p (.fieldA 0 (.tmp 6))), none⟩, 0, 0),
    (⟨(some 20), (.r (.load none (.tmp 19))), none⟩, 0, 0),
    (⟨(some 21), (.r (.pcall (.cst (.fn 59 [] [])) [(.tmp 20)])), none⟩, 0, 0),
    (⟨(some 22), (.p (.un .not (.tmp 21))), none⟩, 0, 0),
    (⟨(some 23), (.p (.mov (.tmp 22))), none⟩, 0, 0),
    (⟨(some 24), (.p (.mov (.tmp 0))), (some (23, false))⟩, 0, 0),
    (⟨(some 25), (.p (.mov (.tmp 5))), (some (23, false))⟩, 0, 0),
    (⟨(some 26), (.p (.slice 2 (.tmp 24) none (some (.tmp 25)))), (some (23, false))⟩, 0, 0),
    (⟨(some 27), (.p (.fieldA 0 (.tmp 6))), (some (23, false))⟩, 0, 0),
    (⟨(some 28), (.r (.load none (.tmp 27))), (some (23, false))⟩, 0, 0),
    (⟨(some 29), (.r (.pcall (.cst (.fn 60 [] [])) [(.tmp 26), (.tmp 28)])), (some (23, false))⟩, 0, 0),
    (⟨(some 30), (.p (.pick (.tmp 23) (.cst (.bool true)) (.tmp 29))), none⟩, 0, 0)])
  (.cond (.tmp 30) (.seq (.reg [⟨(some 2), (.p (.mov (.cst .nilsl))), none⟩,
    ⟨(some 3), (.p (.mov (.cst (.int .i64 18)))), none⟩])
  .ret)
  .skip))
  (.seq (.reg [⟨(some 31), (.p (.fieldA 1 (.tmp 6))), none⟩,
    ⟨(some 32), (.r (.load none (.tmp 31))), none⟩,
    ⟨(some 33), (.p (.len (.tmp 32))), none⟩,
    ⟨(some 7), (.p (.mov (.tmp 33))), none⟩])
  (.seq (.seq (.reg [⟨(some 34), (.p (.mov (.tmp 7))), none⟩,
    ⟨(some 35), (.p (.ibin .gtr (.tmp 34) (.cst (.int .i64 255)))), none⟩])
  (.cond (.tmp 35) (.seq (.reg [⟨(some 2), (.p (.mov (.cst .nilsl))), none⟩,
    ⟨(some 3), (.p (.mov (.cst (.int .i64 17)))), none⟩])
  .ret)
  .skip))
  (.seq (.reg [⟨(some 8), (.p (.mov (.cst (.int .i64 1)))), none⟩])
  (.seq (.seq (.reg [⟨(some 36), (.p (.fieldA 0 (.tmp 6))), none⟩,
    ⟨(some 37), (.r (.load none (.tmp 36))), none⟩,
    ⟨(some 38), (.p (.ibin .gtr (.tmp 37) (.cst (.int .i64 255)))), none⟩])
  (.cond (.tmp 38) (.reg [⟨(some 8), (.p (.mov (.cst (.int .i64 2)))), none⟩])
  .skip))
  (.seq (.reg [⟨(some 39), (.p (.mov (.tmp 4))), none⟩,
    ⟨(some 40), (.p (.fieldA 0 (.tmp 6))), none⟩,
    ⟨(some 41), (.r (.load none (.tmp 40))), none⟩,
    ⟨(some 42), (.p (.conv (.toInt .u64) (.tmp 41))), none⟩,
    ⟨(some 43), (.p (.mov (.tmp 8))), none⟩,
    ⟨(some 44), (.w (.call (.cst (.fn 55 [] [])) [(.tmp 39), (.tmp 42), (.tmp 43)])), none⟩,
    ⟨(some 4), (.p (.mov (.tmp 44))), none⟩])
  (.seq (.seq (.reg [⟨(some 45), (.p (.mov (.tmp 7))), none⟩,
    ⟨(some 46), (.p (.ibin .geq (.tmp 45) (.cst (.int .i64 128)))), none⟩])
  (.cond (.tmp 46) (.reg [⟨(some 47), (.p (.mov (.tmp 4))), none⟩,
    ⟨(some 48), (.p (.lit 1 (.int .u8 0) 1 [(0, (.cst (.int .u8 129)))])), none⟩,
    ⟨(some 49), (.w (.append 1 1 (.tmp 47) (.tmp 48))), none⟩,
    ⟨(some 4), (.p (.mov (.tmp 49))), none⟩])
  .skip))
  (.reg [⟨(some 50), (.p (.mov (.tmp 4))), none⟩,
    ⟨(some 51), (.p (.mov (.tmp 7))), none⟩,
    ⟨(some 52), (.p (.conv (.toInt .u8) (.tmp 51))), none⟩,
    ⟨(some 53), (.p (.lit 1 (.int .u8 0) 1 [(0, (.tmp 52))])), none⟩,
    ⟨(some 54), (.p (.fieldA 1 (.tmp 6))), none⟩,
    ⟨(some 55), (.r (.load none (.tmp 54))), none⟩,
    ⟨(some 56), (.p (.lit 1 .nilsl 3 [(0, (.tmp 50)), (1, (.tmp 53)), (2, (.tmp 55))])), none⟩,
    ⟨(some 57), (.r (.pcall (.cst (.fn 42 [] [])) [(.tmp 56)])), none⟩,
    ⟨(some 4), (.p (.mov (.tmp 57))), none⟩]))))))))))
  (.reg [⟨(some 58), (.p (.ibin .add (.tmp 14) (.cst (.int .i64 1)))), none⟩,
    ⟨(some 14), (.p (.mov (.tmp 58))), none⟩])))))))
  (.seq (.reg [⟨(some 59), (.p (.mov (.tmp 4))), none⟩,
    ⟨(some 2), (.p (.mov (.tmp 59))), none⟩,
    ⟨(some 3), (.p (.mov (.cst (.int .i64 0)))), none⟩])
  .ret)))))
def f37 : VF := { body := b37, res := [(.tmp 2), (.tmp 3)] }
-- comptoir/tlv.Parse
def b38 : VC := (.seq (.reg [⟨(some 2), (.p (.mov (.cst .nilsl))), none⟩,
    ⟨(some 3), (.p (.mov (.cst (.int .i64 0)))), none⟩])
  (.seq (.reg [⟨(some 6), (.p (.mov (.tmp 0))), none⟩,
    ⟨(some 7), (.w (.call (.cst (.fn 61 [] [])) [(.tmp 6)])), none⟩,
    ⟨(some 8), (.p (.build [.nilp, .nilsl] [(0, 1, (.tmp 7))])), none⟩,
    ⟨(some 9), (.w (.box 2 (.tmp 8))), none⟩,
    ⟨(some 4), (.p (.mov (.tmp 9))), none⟩])
  (.seq (.block 0 (.loop (.seq (.seq (.reg [⟨(some 10), (.p (.mov (.tmp 4))), none⟩,
    ⟨(some 11), (.p (.nilck (.tmp 10))), none⟩,
    ⟨(some 12), (.p (.fieldA 0 (.tmp 11))), none⟩,
    ⟨(some 13), (.r (.load none (.tmp 12))), none⟩,
    ⟨(some 14), (.r (.pcall (.cst (.fn 62 [] [])) [(.tmp 13)])), none⟩,
    ⟨(some 15), (.p (.ibin .gtr (.tmp 14) (.cst (.int .i64 0)))), none⟩])
  (.cond (.tmp 15) .skip
  (.exit 0)))
  (.block 1 (.seq (.reg [⟨(some 16), (.p (.mov (.tmp 4))), none⟩,
    ⟨(some 17), (.w (.call (.cst (.fn 63 [] [])) [(.tmp 16)])), none⟩,
    ⟨(some 5), (.p (.mov (.tmp 17))), none⟩])
  (.seq (.reg [⟨(some 18), (.p (.mov (.tmp 5))), none⟩,
    ⟨(some 19), (.p (.ibin .neq (.tmp 18) (.cst (.int .i64 0)))), none⟩])
  (.cond (.tmp 19) (.seq (.reg [⟨(some 20), (.p (.mov (.tmp 5))), none⟩,
    ⟨(some 2), (.p (.mov (.cst .nilsl))), none⟩,
    ⟨(some 3), (.p (.mov (.tmp 20))), none⟩])
  .ret)
  .skip)))))))
  (.seq (.reg [⟨(some 21), (.p (.mov (.tmp 4))), none⟩,
    ⟨(some 22), (.p (.nilck (.tmp 21))), none⟩,
    ⟨(some 23), (.p (.fieldA 1 (.tmp 22))), none⟩,
    ⟨(some 24), (.r (.load none (.tmp 23))), none⟩,
    ⟨(some 2), (.p (.mov (.tmp 24))), none⟩,
    ⟨(some 3), (.p (.mov (.cst (.int .i64 0)))), none⟩])
  .ret))))
def f38 : VF := { body := b38, res := [(.tmp 2), (.tmp 3)] }
-- comptoir/comptoirhelp.Same[comptoir/api.Tag]
def b39 : VC := (.seq (.reg [⟨(some 6), (.p (.mov (.cst (.bool false)))), none⟩])
  (.seq (.seq (.reg [⟨(some 8), (.p (.mov (.tmp 0))), none⟩,
    ⟨(some 9), (.p (.len (.tmp 8))), none⟩,
    ⟨(some 10), (.p (.mov (.tmp 1))), none⟩,
    ⟨(some 11), (.p (.len (.tmp 10))), none⟩,
    ⟨(some 12), (.p (.ibin .neq (.tmp 9) (.tmp 11))), none⟩])
  (.cond (.tmp 12) (.seq (.reg [⟨(some 6), (.p (.mov (.cst (.bool false)))), none⟩])
  .ret)
  .skip))
  (.seq (.seq (.reg [⟨(some 7), (.p (.mov (.cst (.int .i64 0)))), none⟩])
  (.block 0 (.loop (.seq (.seq (.reg [⟨(some 13), (.p (.mov (.tmp 7))), none⟩,
    ⟨(some 14), (.p (.mov (.tmp 0))), none⟩,
    ⟨(some 15), (.p (.len (.tmp 14))), none⟩,
    ⟨(some 16), (.p (.ibin .lss (.tmp 13) (.tmp 15))), none⟩])
  (.cond (.tmp 16) .skip
  (.exit 0)))
  (.seq (.block 1 (.seq (.draw [(⟨(some 19), (.p (.mov (.tmp 2))), none⟩, 0, 0),
    (⟨(some 20), (.p (.mov (.tmp 0))), none⟩, 0, 0),
    (⟨(some 21), (.p (.mov (.tmp 7))), none⟩, 0, 0),
    (⟨(some 22), (.p (.idxA 2 (.tmp 20) (.tmp 21))), none⟩, 0, 0),
    (⟨(some 23), (.r (.load (some 2) (.tmp 22))), none⟩, 0, 0),
    (⟨(some 24), (.p (.mov (.tmp 1))), none⟩, 0, 0),
    (⟨(some 25), (.p (.mov (.tmp 7))), none⟩, 0, 0),
    (⟨(some 26), (.p (.idxA 2 (.tmp 24) (.tmp 25))), none⟩, 0, 0),
    (⟨(some 27), (.r (.load (some 2) (.tmp 26))), none⟩, 0, 0),
    (⟨(some 28), (.r (.pcall (.tmp 19) [(.tmp 23), (.tmp 27)])), none⟩, 0, 0),
    (⟨(some 29), (.p (.un .not (.tmp 28))), none⟩, 0, 0)])
  (.cond (.tmp 29) (.seq (.reg [⟨(some 6), (.p (.mov (.cst (.bool false)))), none⟩])
  .ret)
  .skip)))
  (.reg [⟨(some 17), (.p (.mov (.tmp 7))), none⟩,
    ⟨(some 18), (.p (.ibin .add (.tmp 17) (.cst (.int .i64 1)))), none⟩,
    ⟨(some 7), (.p (.mov (.tmp 18))), none⟩]))))))
  (.seq (.reg [⟨(some 6), (.p (.mov (.cst (.bool true)))), none⟩])
  .ret))))
def f39 : VF := { body := b39, res := [(.tmp 6)] }
-- comptoir/comptoirhelp.Tag
def b40 : VC := (.seq (.reg [⟨(some 2), (.w (.box 2 (.tmp 0))), none⟩,
    ⟨(some 3), (.w (.box 2 (.tmp 1))), none⟩,
    ⟨(some 4), (.p (.mov (.cst (.bool false)))), none⟩])
  (.seq (.reg [⟨(some 5), (.p (.fieldA 0 (.tmp 2))), none⟩,
    ⟨(some 6), (.r (.load none (.tmp 5))), none⟩,
    ⟨(some 7), (.p (.fieldA 0 (.tmp 3))), none⟩,
    ⟨(some 8), (.r (.load none (.tmp 7))), none⟩,
    ⟨(some 9), (.p (.ibin .eql (.tmp 6) (.tmp 8))), none⟩,
    ⟨(some 10), (.p (.mov (.tmp 9))), none⟩,
    ⟨(some 11), (.p (.fieldA 1 (.tmp 2))), (some (10, true))⟩,
    ⟨(some 12), (.r (.load none (.tmp 11))), (some (10, true))⟩,
    ⟨(some 13), (.p (.fieldA 1 (.tmp 3))), (some (10, true))⟩,
    ⟨(some 14), (.r (.load none (.tmp 13))), (some (10, true))⟩,
    ⟨(some 15), (.r (.pcall (.cst (.fn 20 [] [])) [(.tmp 12), (.tmp 14)])), (some (10, true))⟩,
    ⟨(some 16), (.p (.pick (.tmp 10) (.tmp 15) (.cst (.bool false)))), none⟩,
    ⟨(some 4), (.p (.mov (.tmp 16))), none⟩])
  .ret))
def f40 : VF := { body := b40, res := [(.tmp 4)] }
-- (*comptoir/disk.Disk).may
def b41 : VC := (.seq (.reg [⟨(some 4), (.p (.mov (.cst (.int .i64 0)))), none⟩])
  (.seq (.block 0 (.seq (.reg [⟨(some 6), (.p (.mov (.tmp 0))), none⟩,
    ⟨(some 7), (.p (.nileq 0 false (.tmp 6) (.cst .nilp))), none⟩,
    ⟨(some 5), (.p (.mov (.tmp 7))), none⟩])
  (.cond (.tmp 5) (.seq (.reg [⟨(some 4), (.p (.mov (.cst (.int .i64 2)))), none⟩])
  .ret)
  (.seq (.reg [⟨(some 9), (.p (.mov (.tmp 1))), none⟩,
    ⟨(some 10), (.p (.ibin .lss (.tmp 9) (.cst (.int .i64 0)))), none⟩,
    ⟨(some 11), (.p (.mov (.tmp 10))), none⟩,
    ⟨(some 12), (.p (.mov (.tmp 1))), (some (11, false))⟩,
    ⟨(some 13), (.p (.ibin .geq (.tmp 12) (.cst (.int .i64 2)))), (some (11, false))⟩,
    ⟨(some 14), (.p (.pick (.tmp 11) (.cst (.bool true)) (.tmp 13))), none⟩,
    ⟨(some 8), (.p (.mov (.tmp 14))), none⟩])
  (.cond (.tmp 8) (.seq (.reg [⟨(some 4), (.p (.mov (.cst (.int .i64 1)))), none⟩])
  .ret)
  (.seq (.reg [⟨(some 16), (.p (.mov (.tmp 0))), none⟩,
    ⟨(some 17), (.p (.nilck (.tmp 16))), none⟩,
    ⟨(some 18), (.p (.fieldA 4 (.tmp 17))), none⟩,
    ⟨(some 19), (.r (.load none (.tmp 18))), none⟩,
    ⟨(some 15), (.p (.mov (.tmp 19))), none⟩])
  (.cond (.tmp 15) (.seq (.reg [⟨(some 4), (.p (.mov (.cst (.int .i64 24)))), none⟩])
  .ret)
  .skip)))))))
  (.seq (.reg [⟨(some 4), (.p (.mov (.cst (.int .i64 0)))), none⟩])
  .ret)))
def f41 : VF := { body := b41, res := [(.tmp 4)] }
-- slices.Concat[[]byte,byte]
def b42 : VC := (.seq (.reg [⟨(some 2), (.p (.mov (.cst .nilsl))), none⟩])
  (.seq (.reg [⟨(some 3), (.p (.mov (.cst (.int .i64 0)))), none⟩])
  (.seq (.seq (.reg [⟨(some 9), (.p (.mov (.tmp 0))), none⟩,
    ⟨(some 10), (.p (.len (.tmp 9))), none⟩,
    ⟨(some 11), (.p (.mov (.cst (.int .i64 0)))), none⟩])
  (.block 0 (.loop (.seq (.reg [⟨(some 12), (.p (.ibin .lss (.tmp 11) (.tmp 10))), none⟩])
  (.seq (.cond (.tmp 12) .skip
  (.exit 0))
  (.seq (.block 1 (.seq (.reg [⟨(some 13), (.p (.idxA 1 (.tmp 9) (.tmp 11))), none⟩,
    ⟨(some 14), (.r (.load none (.tmp 13))), none⟩,
    ⟨(some 5), (.p (.mov (.tmp 14))), none⟩])
  (.seq (.reg [⟨(some 15), (.p (.mov (.tmp 3))), none⟩,
    ⟨(some 16), (.p (.mov (.tmp 5))), none⟩,
    ⟨(some 17), (.p (.len (.tmp 16))), none⟩,
    ⟨(some 18), (.p (.ibin .add (.tmp 15) (.tmp 17))), none⟩,
    ⟨(some 3), (.p (.mov (.tmp 18))), none⟩])
  (.seq (.reg [⟨(some 19), (.p (.mov (.tmp 3))), none⟩,
    ⟨(some 20), (.p (.ibin .lss (.tmp 19) (.cst (.int .i64 0)))), none⟩])
  (.cond (.tmp 20) (.reg [⟨(some 21), (.w .bad), none⟩,
    ⟨none, (.w .bad), none⟩])
  .skip)))))
  (.reg [⟨(some 22), (.p (.ibin .add (.tmp 11) (.cst (.int .i64 1)))), none⟩,
    ⟨(some 11), (.p (.mov (.tmp 22))), none⟩])))))))
  (.seq (.reg [⟨(some 23), (.p (.mov (.tmp 3))), none⟩,
    ⟨(some 24), (.w (.call (.cst (.fn 64 [] [])) [(.cst .nilsl), (.tmp 23)])), none⟩,
    ⟨(some 6), (.p (.mov (.tmp 24))), none⟩])
  (.seq (.seq (.reg [⟨(some 25), (.p (.mov (.tmp 0))), none⟩,
    ⟨(some 26), (.p (.len (.tmp 25))), none⟩,
    ⟨(some 27), (.p (.mov (.cst (.int .i64 0)))), none⟩])
  (.block 2 (.loop (.seq (.reg [⟨(some 28), (.p (.ibin .lss (.tmp 27) (.tmp 26))), none⟩])
  (.seq (.cond (.tmp 28) .skip
  (.exit 2))
  (.seq (.block 3 (.seq (.reg [⟨(some 29), (.p (.idxA 1 (.tmp 25) (.tmp 27))), none⟩,
    ⟨(some 30), (.r (.load none (.tmp 29))), none⟩,
    ⟨(some 8), (.p (.mov (.tmp 30))), none⟩])
  (.reg [⟨(some 31), (.p (.mov (.tmp 6))), none⟩,
    ⟨(some 32), (.p (.mov (.tmp 8))), none⟩,
    ⟨(some 33), (.w (.append 1 1 (.tmp 31) (.tmp 32))), none⟩,
    ⟨(some 6), (.p (.mov (.tmp 33))), none⟩])))
  (.reg [⟨(some 34), (.p (.ibin .add (.tmp 27) (.cst (.int .i64 1)))), none⟩,
    ⟨(some 27), (.p (.mov (.tmp 34))), none⟩])))))))
  (.seq (.reg [⟨(some 35), (.p (.mov (.tmp 6))), none⟩,
    ⟨(some 2), (.p (.mov (.tmp 35))), none⟩])
  .ret))))))
def f42 : VF := { body := b42, res := [(.tmp 2)] }
-- comptoir/comptoirhelp.Plain[byte]
def b43 : VC := (.seq (.reg [⟨(some 4), (.p (.mov (.cst (.bool false)))), none⟩])
  (.seq (.reg [⟨(some 5), (.p (.mov (.tmp 0))), none⟩,
    ⟨(some 6), (.p (.mov (.tmp 1))), none⟩,
    ⟨(some 7), (.r (.pcall (.cst (.fn 65 [] [])) [(.tmp 5), (.tmp 6), (.cst (.fn 66 [] []))])), none⟩,
    ⟨(some 4), (.p (.mov (.tmp 7))), none⟩])
  .ret))
def f43 : VF := { body := b43, res := [(.tmp 4)] }
-- comptoir/disk.own
def b44 : VC := (.seq (.reg [⟨(some 4), (.p (.mov (.cst .nilsl))), none⟩])
  (.seq (.reg [⟨(some 5), (.p (.mov (.tmp 0))), none⟩,
    ⟨(some 6), (.p (.mov (.tmp 1))), none⟩,
    ⟨(some 7), (.r (.pcall (.tmp 5) [(.tmp 6)])), none⟩,
    ⟨(some 8), (.r (.pcall (.cst (.fn 67 [] [])) [(.tmp 7)])), none⟩,
    ⟨(some 4), (.p (.mov (.tmp 8))), none⟩])
  .ret))
def f44 : VF := { body := b44, res := [(.tmp 4)] }
-- (*comptoir/disk.Disk).slot
def b45 : VC := (.seq (.reg [⟨(some 4), (.p (.mov (.cst .nilsl))), none⟩])
  (.seq (.seq (.reg [⟨(some 5), (.p (.mov (.tmp 0))), none⟩,
    ⟨(some 6), (.p (.nileq 0 false (.tmp 5) (.cst .nilp))), none⟩,
    ⟨(some 7), (.p (.mov (.tmp 6))), none⟩,
    ⟨(some 8), (.p (.mov (.tmp 1))), (some (7, false))⟩,
    ⟨(some 9), (.p (.ibin .lss (.tmp 8) (.cst (.int .i64 0)))), (some (7, false))⟩,
    ⟨(some 10), (.p (.pick (.tmp 7) (.cst (.bool true)) (.tmp 9))), none⟩,
    ⟨(some 11), (.p (.mov (.tmp 10))), none⟩,
    ⟨(some 12), (.p (.mov (.tmp 1))), (some (11, false))⟩,
    ⟨(some 13), (.p (.ibin .geq (.tmp 12) (.cst (.int .i64 2)))), (some (11, false))⟩,
    ⟨(some 14), (.p (.pick (.tmp 11) (.cst (.bool true)) (.tmp 13))), none⟩])
  (.cond (.tmp 14) (.seq (.reg [⟨(some 4), (.p (.mov (.cst .nilsl))), none⟩])
  .ret)
  .skip))
  (.seq (.reg [⟨(some 15), (.p (.mov (.tmp 0))), none⟩,
    ⟨(some 16), (.p (.mov (.tmp 1))), none⟩,
    ⟨(some 17), (.p (.nilck (.tmp 15))), none⟩,
    ⟨(some 18), (.p (.fieldA 0 (.tmp 17))), none⟩,
    ⟨(some 19), (.p (.idxArr 2 1 (.tmp 18) (.tmp 16))), none⟩,
    ⟨(some 20), (.r (.load none (.tmp 19))), none⟩,
    ⟨(some 4), (.p (.mov (.tmp 20))), none⟩])
  .ret)))
def f45 : VF := { body := b45, res := [(.tmp 4)] }
-- comptoir/state.each[comptoir/api.Exchange]
def b46 : VC := (.seq (.reg [⟨(some 4), (.p (.mov (.cst .nilsl))), none⟩])
  (.seq (.reg [⟨(some 5), (.p (.mov (.cst .nilsl))), none⟩])
  (.seq (.seq (.reg [⟨(some 8), (.p (.mov (.tmp 0))), none⟩,
    ⟨(some 9), (.p (.len (.tmp 8))), none⟩,
    ⟨(some 10), (.p (.mov (.cst (.int .i64 0)))), none⟩])
  (.block 0 (.loop (.seq (.reg [⟨(some 11), (.p (.ibin .lss (.tmp 10) (.tmp 9))), none⟩])
  (.seq (.cond (.tmp 11) .skip
  (.exit 0))
  (.seq (.block 1 (.seq (.reg [⟨(some 12), (.p (.idxA 27 (.tmp 8) (.tmp 10))), none⟩,
    ⟨(some 13), (.r (.load (some 27) (.tmp 12))), none⟩,
    ⟨(some 7), (.w (.alloc [(.int .i64 0), (.int .i64 0), (.int .i64 0), (.int .i64 0), (.int .i64 0), (.int .u64 0), (.int .i64 0), (.int .i64 0), (.str []), (.str []), (.str []), (.str []), (.int .u64 0), (.str []), (.str []), (.str []), (.str []), (.int .i64 0), (.str []), (.str []), (.int .i64 0), (.str []), .nilsl, (.str []), (.str []), .nilsl, .nilsl])), none⟩,
    ⟨none, (.w (.store 27 (.tmp 7) (.tmp 13))), none⟩])
  (.reg [⟨(some 14), (.p (.mov (.tmp 5))), none⟩,
    ⟨(some 15), (.p (.mov (.tmp 1))), none⟩,
    ⟨(some 16), (.r (.load (some 27) (.tmp 7))), none⟩,
    ⟨(some 17), (.r (.pcall (.tmp 15) [(.tmp 16)])), none⟩,
    ⟨(some 18), (.p (.lit 27 (.agg [(.int .i64 0), (.int .i64 0), (.int .i64 0), (.int .i64 0), (.int .i64 0), (.int .u64 0), (.int .i64 0), (.int .i64 0), (.str []), (.str []), (.str []), (.str []), (.int .u64 0), (.str []), (.str []), (.str []), (.str []), (.int .i64 0), (.str []), (.str []), (.int .i64 0), (.str []), .nilsl, (.str []), (.str []), .nilsl, .nilsl]) 1 [(0, (.tmp 17))])), none⟩,
    ⟨(some 19), (.w (.append 27 368 (.tmp 14) (.tmp 18))), none⟩,
    ⟨(some 5), (.p (.mov (.tmp 19))), none⟩])))
  (.reg [⟨(some 20), (.p (.ibin .add (.tmp 10) (.cst (.int .i64 1)))), none⟩,
    ⟨(some 10), (.p (.mov (.tmp 20))), none⟩])))))))
  (.seq (.reg [⟨(some 21), (.p (.mov (.tmp 5))), none⟩,
    ⟨(some 4), (.p (.mov (.tmp 21))), none⟩])
  .ret))))
def f46 : VF := { body := b46, res := [(.tmp 4)] }
-- comptoir/state.exchange
def b47 : VC := (.seq (.reg [⟨(some 1), (.w (.box 27 (.tmp 0))), none⟩,
    ⟨(some 2), (.w (.alloc [(.int .i64 0), (.int .i64 0), (.int .i64 0), (.int .i64 0), (.int .i64 0), (.int .u64 0), (.int .i64 0), (.int .i64 0), (.str []), (.str []), (.str []), (.str []), (.int .u64 0), (.str []), (.str []), (.str []), (.str []), (.int .i64 0), (.str []), (.str []), (.int .i64 0), (.str []), .nilsl, (.str []), (.str []), .nilsl, .nilsl])), none⟩])
  (.seq (.draw [(⟨(some 3), (.p (.fieldA 6 (.tmp 1))), none⟩, 0, 0),
    (⟨(some 4), (.p (.fieldA 16 (.tmp 3))), none⟩, 0, 0),
    (⟨(some 5), (.r (.load none (.tmp 4))), none⟩, 0, 0),
    (⟨(some 6), (.r (.pcall (.cst (.fn 68 [] [])) [(.tmp 5), (.cst (.fn 69 [] []))])), none⟩, 0, 0),
    (⟨(some 7), (.p (.fieldA 6 (.tmp 1))), none⟩, 0, 0),
    (⟨(some 8), (.p (.fieldA 19 (.tmp 7))), none⟩, 0, 0),
    (⟨(some 9), (.r (.load none (.tmp 8))), none⟩, 0, 0),
    (⟨(some 10), (.r (.pcall (.cst (.fn 70 [] [])) [(.tmp 9)])), none⟩, 0, 0),
    (⟨(some 11), (.p (.fieldA 6 (.tmp 1))), none⟩, 0, 0),
    (⟨(some 12), (.p (.fieldA 20 (.tmp 11))), none⟩, 0, 0),
    (⟨(some 13), (.r (.load none (.tmp 12))), none⟩, 0, 0),
    (⟨(some 14), (.r (.pcall (.cst (.fn 71 [] [])) [(.tmp 13), (.cst (.fn 72 [] []))])), none⟩, 0, 0),
    (⟨(some 15), (.p (.fieldA 6 (.tmp 1))), none⟩, 0, 0),
    (⟨(some 16), (.p (.fieldA 16 (.tmp 15))), none⟩, 0, 0),
    (⟨none, (.w (.store 1 (.tmp 16) (.tmp 6))), none⟩, 0, 0),
    (⟨(some 17), (.p (.fieldA 6 (.tmp 1))), none⟩, 1, 1),
    (⟨(some 18), (.p (.fieldA 19 (.tmp 17))), none⟩, 1, 1),
    (⟨none, (.w (.store 1 (.tmp 18) (.tmp 10))), none⟩, 1, 1),
    (⟨(some 19), (.p (.fieldA 6 (.tmp 1))), none⟩, 2, 2),
    (⟨(some 20), (.p (.fieldA 20 (.tmp 19))), none⟩, 2, 2),
    (⟨none, (.w (.store 1 (.tmp 20) (.tmp 14))), none⟩, 2, 2)])
  (.seq (.reg [⟨(some 21), (.r (.load (some 27) (.tmp 1))), none⟩,
    ⟨none, (.w (.store 27 (.tmp 2) (.tmp 21))), none⟩])
  .ret)))
def f47 : VF := { body := b47, res := [(.cell 2 (some 27))] }
-- comptoir/state.each[comptoir/api.Parked]
def b48 : VC := (.seq (.reg [⟨(some 4), (.p (.mov (.cst .nilsl))), none⟩])
  (.seq (.reg [⟨(some 5), (.p (.mov (.cst .nilsl))), none⟩])
  (.seq (.seq (.reg [⟨(some 8), (.p (.mov (.tmp 0))), none⟩,
    ⟨(some 9), (.p (.len (.tmp 8))), none⟩,
    ⟨(some 10), (.p (.mov (.cst (.int .i64 0)))), none⟩])
  (.block 0 (.loop (.seq (.reg [⟨(some 11), (.p (.ibin .lss (.tmp 10) (.tmp 9))), none⟩])
  (.seq (.cond (.tmp 11) .skip
  (.exit 0))
  (.seq (.block 1 (.seq (.reg [⟨(some 12), (.p (.idxA 7 (.tmp 8) (.tmp 10))), none⟩,
    ⟨(some 13), (.r (.load (some 7) (.tmp 12))), none⟩,
    ⟨(some 7), (.w (.alloc [(.int .i64 0), (.int .u64 0), (.str []), (.str []), (.str []), .nilsl, .nilsl])), none⟩,
    ⟨none, (.w (.store 7 (.tmp 7) (.tmp 13))), none⟩])
  (.reg [⟨(some 14), (.p (.mov (.tmp 5))), none⟩,
    ⟨(some 15), (.p (.mov (.tmp 1))), none⟩,
    ⟨(some 16), (.r (.load (some 7) (.tmp 7))), none⟩,
    ⟨(some 17), (.r (.pcall (.tmp 15) [(.tmp 16)])), none⟩,
    ⟨(some 18), (.p (.lit 7 (.agg [(.int .i64 0), (.int .u64 0), (.str []), (.str []), (.str []), .nilsl, .nilsl]) 1 [(0, (.tmp 17))])), none⟩,
    ⟨(some 19), (.w (.append 7 112 (.tmp 14) (.tmp 18))), none⟩,
    ⟨(some 5), (.p (.mov (.tmp 19))), none⟩])))
  (.reg [⟨(some 20), (.p (.ibin .add (.tmp 10) (.cst (.int .i64 1)))), none⟩,
    ⟨(some 10), (.p (.mov (.tmp 20))), none⟩])))))))
  (.seq (.reg [⟨(some 21), (.p (.mov (.tmp 5))), none⟩,
    ⟨(some 4), (.p (.mov (.tmp 21))), none⟩])
  .ret))))
def f48 : VF := { body := b48, res := [(.tmp 4)] }
-- comptoir/state.parked
def b49 : VC := (.seq (.reg [⟨(some 1), (.w (.box 7 (.tmp 0))), none⟩,
    ⟨(some 2), (.w (.alloc [(.int .i64 0), (.int .u64 0), (.str []), (.str []), (.str []), .nilsl, .nilsl])), none⟩])
  (.seq (.draw [(⟨(some 3), (.p (.fieldA 2 (.tmp 1))), none⟩, 0, 0),
    (⟨(some 4), (.p (.fieldA 3 (.tmp 3))), none⟩, 0, 0),
    (⟨(some 5), (.r (.load none (.tmp 4))), none⟩, 0, 0),
    (⟨(some 6), (.r (.pcall (.cst (.fn 70 [] [])) [(.tmp 5)])), none⟩, 0, 0),
    (⟨(some 7), (.p (.fieldA 2 (.tmp 1))), none⟩, 0, 0),
    (⟨(some 8), (.p (.fieldA 4 (.tmp 7))), none⟩, 0, 0),
    (⟨(some 9), (.r (.load none (.tmp 8))), none⟩, 0, 0),
    (⟨(some 10), (.r (.pcall (.cst (.fn 71 [] [])) [(.tmp 9), (.cst (.fn 72 [] []))])), none⟩, 0, 0),
    (⟨(some 11), (.p (.fieldA 2 (.tmp 1))), none⟩, 0, 0),
    (⟨(some 12), (.p (.fieldA 3 (.tmp 11))), none⟩, 0, 0),
    (⟨none, (.w (.store 1 (.tmp 12) (.tmp 6))), none⟩, 0, 0),
    (⟨(some 13), (.p (.fieldA 2 (.tmp 1))), none⟩, 1, 1),
    (⟨(some 14), (.p (.fieldA 4 (.tmp 13))), none⟩, 1, 1),
    (⟨none, (.w (.store 1 (.tmp 14) (.tmp 10))), none⟩, 1, 1)])
  (.seq (.reg [⟨(some 15), (.r (.load (some 7) (.tmp 1))), none⟩,
    ⟨none, (.w (.store 7 (.tmp 2) (.tmp 15))), none⟩])
  .ret)))
def f49 : VF := { body := b49, res := [(.cell 2 (some 7))] }
-- (*comptoir/state.book).apply
def b50 : VC := (.seq (.reg [⟨(some 3), (.w (.box 38 (.tmp 1))), none⟩])
  (.draw [(⟨(some 4), (.p (.fieldA 0 (.tmp 3))), none⟩, 0, 0),
    (⟨(some 5), (.r (.load none (.tmp 4))), none⟩, 0, 0),
    (⟨(some 6), (.r (.pcall (.cst (.fn 73 [] [])) [(.tmp 5)])), none⟩, 0, 0),
    (⟨(some 7), (.p (.mov (.tmp 0))), none⟩, 0, 0),
    (⟨(some 8), (.r (.load (some 38) (.tmp 3))), none⟩, 0, 0),
    (⟨(some 9), (.w (.call (.tmp 6) [(.tmp 7), (.tmp 8)])), none⟩, 0, 0)]))
def f50 : VF := { body := b50, res := [] }
-- comptoir/comptoirhelp.Same[comptoir/api.Exchange]
def b51 : VC := (.seq (.reg [⟨(some 6), (.p (.mov (.cst (.bool false)))), none⟩])
  (.seq (.seq (.reg [⟨(some 8), (.p (.mov (.tmp 0))), none⟩,
    ⟨(some 9), (.p (.len (.tmp 8))), none⟩,
    ⟨(some 10), (.p (.mov (.tmp 1))), none⟩,
    ⟨(some 11), (.p (.len (.tmp 10))), none⟩,
    ⟨(some 12), (.p (.ibin .neq (.tmp 9) (.tmp 11))), none⟩])
  (.cond (.tmp 12) (.seq (.reg [⟨(some 6), (.p (.mov (.cst (.bool false)))), none⟩])
  .ret)
  .skip))
  (.seq (.seq (.reg [⟨(some 7), (.p (.mov (.cst (.int .i64 0)))), none⟩])
  (.block 0 (.loop (.seq (.seq (.reg [⟨(some 13), (.p (.mov (.tmp 7))), none⟩,
    ⟨(some 14), (.p (.mov (.tmp 0))), none⟩,
    ⟨(some 15), (.p (.len (.tmp 14))), none⟩,
    ⟨(some 16), (.p (.ibin .lss (.tmp 13) (.tmp 15))), none⟩])
  (.cond (.tmp 16) .skip
  (.exit 0)))
  (.seq (.block 1 (.seq (.draw [(⟨(some 19), (.p (.mov (.tmp 2))), none⟩, 0, 0),
    (⟨(some 20), (.p (.mov (.tmp 0))), none⟩, 0, 0),
    (⟨(some 21), (.p (.mov (.tmp 7))), none⟩, 0, 0),
    (⟨(some 22), (.p (.idxA 27 (.tmp 20) (.tmp 21))), none⟩, 0, 0),
    (⟨(some 23), (.r (.load (some 27) (.tmp 22))), none⟩, 0, 0),
    (⟨(some 24), (.p (.mov (.tmp 1))), none⟩, 0, 0),
    (⟨(some 25), (.p (.mov (.tmp 7))), none⟩, 0, 0),
    (⟨(some 26), (.p (.idxA 27 (.tmp 24) (.tmp 25))), none⟩, 0, 0),
    (⟨(some 27), (.r (.load (some 27) (.tmp 26))), none⟩, 0, 0),
    (⟨(some 28), (.r (.pcall (.tmp 19) [(.tmp 23), (.tmp 27)])), none⟩, 0, 0),
    (⟨(some 29), (.p (.un .not (.tmp 28))), none⟩, 0, 0)])
  (.cond (.tmp 29) (.seq (.reg [⟨(some 6), (.p (.mov (.cst (.bool false)))), none⟩])
  .ret)
  .skip)))
  (.reg [⟨(some 17), (.p (.mov (.tmp 7))), none⟩,
    ⟨(some 18), (.p (.ibin .add (.tmp 17) (.cst (.int .i64 1)))), none⟩,
    ⟨(some 7), (.p (.mov (.tmp 18))), none⟩]))))))
  (.seq (.reg [⟨(some 6), (.p (.mov (.cst (.bool true)))), none⟩])
  .ret))))
def f51 : VF := { body := b51, res := [(.tmp 6)] }
-- comptoir/comptoirhelp.Exchange
def b52 : VC := (.seq (.reg [⟨(some 2), (.w (.box 27 (.tmp 0))), none⟩,
    ⟨(some 3), (.w (.box 27 (.tmp 1))), none⟩,
    ⟨(some 4), (.p (.mov (.cst (.bool false)))), none⟩])
  (.seq (.reg [⟨(some 5), (.p (.fieldA 0 (.tmp 2))), none⟩,
    ⟨(some 6), (.r (.load none (.tmp 5))), none⟩,
    ⟨(some 7), (.p (.fieldA 0 (.tmp 3))), none⟩,
    ⟨(some 8), (.r (.load none (.tmp 7))), none⟩,
    ⟨(some 9), (.p (.ibin .eql (.tmp 6) (.tmp 8))), none⟩,
    ⟨(some 10), (.p (.mov (.tmp 9))), none⟩,
    ⟨(some 11), (.p (.fieldA 1 (.tmp 2))), (some (10, true))⟩,
    ⟨(some 12), (.r (.load none (.tmp 11))), (some (10, true))⟩,
    ⟨(some 13), (.p (.fieldA 1 (.tmp 3))), (some (10, true))⟩,
    ⟨(some 14), (.r (.load none (.tmp 13))), (some (10, true))⟩,
    ⟨(some 15), (.p (.ibin .eql (.tmp 12) (.tmp 14))), (some (10, true))⟩,
    ⟨(some 16), (.p (.pick (.tmp 10) (.tmp 15) (.cst (.bool false)))), none⟩,
    ⟨(some 17), (.p (.mov (.tmp 16))), none⟩,
    ⟨(some 18), (.p (.fieldA 2 (.tmp 2))), (some (17, true))⟩,
    ⟨(some 19), (.r (.load none (.tmp 18))), (some (17, true))⟩,
    ⟨(some 20), (.p (.fieldA 2 (.tmp 3))), (some (17, true))⟩,
    ⟨(some 21), (.r (.load none (.tmp 20))), (some (17, true))⟩,
    ⟨(some 22), (.p (.ibin .eql (.tmp 19) (.tmp 21))), (some (17, true))⟩,
    ⟨(some 23), (.p (.pick (.tmp 17) (.tmp 22) (.cst (.bool false)))), none⟩,
    ⟨(some 24), (.p (.mov (.tmp 23))), none⟩,
    ⟨(some 25), (.p (.fieldA 3 (.tmp 2))), (some (24, true))⟩,
    ⟨(some 26), (.r (.load none (.tmp 25))), (some (24, true))⟩,
    ⟨(some 27), (.p (.fieldA 3 (.tmp 3))), (some (24, true))⟩,
    ⟨(some 28), (.r (.load none (.tmp 27))), (some (24, true))⟩,
    ⟨(some 29), (.p (.ibin .eql (.tmp 26) (.tmp 28))), (some (24, true))⟩,
    ⟨(some 30), (.p (.pick (.tmp 24) (.tmp 29) (.cst (.bool false)))), none⟩,
    ⟨(some 31), (.p (.mov (.tmp 30))), none⟩,
    ⟨(some 32), (.p (.fieldA 4 (.tmp 2))), (some (31, true))⟩,
    ⟨(some 33), (.r (.load none (.tmp 32))), (some (31, true))⟩,
    ⟨(some 34), (.p (.fieldA 4 (.tmp 3))), (some (31, true))⟩,
    ⟨(some 35), (.r (.load none (.tmp 34))), (some (31, true))⟩,
    ⟨(some 36), (.p (.ibin .eql (.tmp 33) (.tmp 35))), (some (31, true))⟩,
    ⟨(some 37), (.p (.pick (.tmp 31) (.tmp 36) (.cst (.bool false)))), none⟩,
    ⟨(some 38), (.p (.mov (.tmp 37))), none⟩,
    ⟨(some 39), (.p (.fieldA 5 (.tmp 2))), (some (38, true))⟩,
    ⟨(some 40), (.r (.load none (.tmp 39))), (some (38, true))⟩,
    ⟨(some 41), (.p (.fieldA 5 (.tmp 3))), (some (38, true))⟩,
    ⟨(some 42), (.r (.load none (.tmp 41))), (some (38, true))⟩,
    ⟨(some 43), (.p (.ibin .eql (.tmp 40) (.tmp 42))), (some (38, true))⟩,
    ⟨(some 44), (.p (.pick (.tmp 38) (.tmp 43) (.cst (.bool false)))), none⟩,
    ⟨(some 45), (.p (.mov (.tmp 44))), none⟩,
    ⟨(some 46), (.p (.fieldA 6 (.tmp 2))), (some (45, true))⟩,
    ⟨(some 47), (.r (.load (some 21) (.tmp 46))), (some (45, true))⟩,
    ⟨(some 48), (.p (.fieldA 6 (.tmp 3))), (some (45, true))⟩,
    ⟨(some 49), (.r (.load (some 21) (.tmp 48))), (some (45, true))⟩,
    ⟨(some 50), (.r (.pcall (.cst (.fn 74 [] [])) [(.tmp 47), (.tmp 49)])), (some (45, true))⟩,
    ⟨(some 51), (.p (.pick (.tmp 45) (.tmp 50) (.cst (.bool false)))), none⟩,
    ⟨(some 4), (.p (.mov (.tmp 51))), none⟩])
  .ret))
def f52 : VF := { body := b52, res := [(.tmp 4)] }
-- comptoir/comptoirhelp.Same[comptoir/api.Parked]
def b53 : VC := (.seq (.reg [⟨(some 6), (.p (.mov (.cst (.bool false)))), none⟩])
  (.seq (.seq (.reg [⟨(some 8), (.p (.mov (.tmp 0))), none⟩,
    ⟨(some 9), (.p (.len (.tmp 8))), none⟩,
    ⟨(some 10), (.p (.mov (.tmp 1))), none⟩,
    ⟨(some 11), (.p (.len (.tmp 10))), none⟩,
    ⟨(some 12), (.p (.ibin .neq (.tmp 9) (.tmp 11))), none⟩])
  (.cond (.tmp 12) (.seq (.reg [⟨(some 6), (.p (.mov (.cst (.bool false)))), none⟩])
  .ret)
  .skip))
  (.seq (.seq (.reg [⟨(some 7), (.p (.mov (.cst (.int .i64 0)))), none⟩])
  (.block 0 (.loop (.seq (.seq (.reg [⟨(some 13), (.p (.mov (.tmp 7))), none⟩,
    ⟨(some 14), (.p (.mov (.tmp 0))), none⟩,
    ⟨(some 15), (.p (.len (.tmp 14))), none⟩,
    ⟨(some 16), (.p (.ibin .lss (.tmp 13) (.tmp 15))), none⟩])
  (.cond (.tmp 16) .skip
  (.exit 0)))
  (.seq (.block 1 (.seq (.draw [(⟨(some 19), (.p (.mov (.tmp 2))), none⟩, 0, 0),
    (⟨(some 20), (.p (.mov (.tmp 0))), none⟩, 0, 0),
    (⟨(some 21), (.p (.mov (.tmp 7))), none⟩, 0, 0),
    (⟨(some 22), (.p (.idxA 7 (.tmp 20) (.tmp 21))), none⟩, 0, 0),
    (⟨(some 23), (.r (.load (some 7) (.tmp 22))), none⟩, 0, 0),
    (⟨(some 24), (.p (.mov (.tmp 1))), none⟩, 0, 0),
    (⟨(some 25), (.p (.mov (.tmp 7))), none⟩, 0, 0),
    (⟨(some 26), (.p (.idxA 7 (.tmp 24) (.tmp 25))), none⟩, 0, 0),
    (⟨(some 27), (.r (.load (some 7) (.tmp 26))), none⟩, 0, 0),
    (⟨(some 28), (.r (.pcall (.tmp 19) [(.tmp 23), (.tmp 27)])), none⟩, 0, 0),
    (⟨(some 29), (.p (.un .not (.tmp 28))), none⟩, 0, 0)])
  (.cond (.tmp 29) (.seq (.reg [⟨(some 6), (.p (.mov (.cst (.bool false)))), none⟩])
  .ret)
  .skip)))
  (.reg [⟨(some 17), (.p (.mov (.tmp 7))), none⟩,
    ⟨(some 18), (.p (.ibin .add (.tmp 17) (.cst (.int .i64 1)))), none⟩,
    ⟨(some 7), (.p (.mov (.tmp 18))), none⟩]))))))
  (.seq (.reg [⟨(some 6), (.p (.mov (.cst (.bool true)))), none⟩])
  .ret))))
def f53 : VF := { body := b53, res := [(.tmp 6)] }
-- comptoir/comptoirhelp.Parked
def b54 : VC := (.seq (.reg [⟨(some 2), (.w (.box 7 (.tmp 0))), none⟩,
    ⟨(some 3), (.w (.box 7 (.tmp 1))), none⟩,
    ⟨(some 4), (.p (.mov (.cst (.bool false)))), none⟩])
  (.seq (.reg [⟨(some 5), (.p (.fieldA 0 (.tmp 2))), none⟩,
    ⟨(some 6), (.r (.load none (.tmp 5))), none⟩,
    ⟨(some 7), (.p (.fieldA 0 (.tmp 3))), none⟩,
    ⟨(some 8), (.r (.load none (.tmp 7))), none⟩,
    ⟨(some 9), (.p (.ibin .eql (.tmp 6) (.tmp 8))), none⟩,
    ⟨(some 10), (.p (.mov (.tmp 9))), none⟩,
    ⟨(some 11), (.p (.fieldA 1 (.tmp 2))), (some (10, true))⟩,
    ⟨(some 12), (.r (.load none (.tmp 11))), (some (10, true))⟩,
    ⟨(some 13), (.p (.fieldA 1 (.tmp 3))), (some (10, true))⟩,
    ⟨(some 14), (.r (.load none (.tmp 13))), (some (10, true))⟩,
    ⟨(some 15), (.p (.ibin .eql (.tmp 12) (.tmp 14))), (some (10, true))⟩,
    ⟨(some 16), (.p (.pick (.tmp 10) (.tmp 15) (.cst (.bool false)))), none⟩,
    ⟨(some 17), (.p (.mov (.tmp 16))), none⟩,
    ⟨(some 18), (.p (.fieldA 2 (.tmp 2))), (some (17, true))⟩,
    ⟨(some 19), (.r (.load (some 5) (.tmp 18))), (some (17, true))⟩,
    ⟨(some 20), (.p (.fieldA 2 (.tmp 3))), (some (17, true))⟩,
    ⟨(some 21), (.r (.load (some 5) (.tmp 20))), (some (17, true))⟩,
    ⟨(some 22), (.r (.pcall (.cst (.fn 75 [] [])) [(.tmp 19), (.tmp 21)])), (some (17, true))⟩,
    ⟨(some 23), (.p (.pick (.tmp 17) (.tmp 22) (.cst (.bool false)))), none⟩,
    ⟨(some 4), (.p (.mov (.tmp 23))), none⟩])
  .ret))
def f54 : VF := { body := b54, res := [(.tmp 4)] }
-- comptoir/cursor.Put
def b55 : VC := (.seq (.reg [⟨(some 6), (.p (.mov (.cst .nilsl))), none⟩])
  (.seq (.reg [⟨(some 9), (.p (.mov (.tmp 2))), none⟩,
    ⟨(some 10), (.p (.mm true (.tmp 9) (.cst (.int .i64 0)))), none⟩,
    ⟨(some 11), (.p (.mm false (.tmp 10) (.cst (.int .i64 8)))), none⟩,
    ⟨(some 2), (.p (.mov (.tmp 11))), none⟩])
  (.seq (.reg [⟨(some 12), (.p (.mov (.tmp 2))), none⟩,
    ⟨(some 13), (.w (.mksl 1 1 (.int .u8 0) (.tmp 12) (.tmp 12))), none⟩,
    ⟨(some 7), (.p (.mov (.tmp 13))), none⟩])
  (.seq (.seq (.reg [⟨(some 14), (.p (.mov (.tmp 7))), none⟩,
    ⟨(some 15), (.p (.len (.tmp 14))), none⟩,
    ⟨(some 16), (.p (.mov (.cst (.int .i64 0)))), none⟩])
  (.block 0 (.loop (.seq (.reg [⟨(some 17), (.p (.ibin .lss (.tmp 16) (.tmp 15))), none⟩])
  (.seq (.cond (.tmp 17) .skip
  (.exit 0))
  (.seq (.block 1 (.seq (.reg [⟨(some 18), (.p (.mov (.tmp 16))), none⟩,
    ⟨(some 8), (.p (.mov (.tmp 18))), none⟩])
  (.reg [⟨(some 19), (.p (.mov (.tmp 7))), none⟩,
    ⟨(some 20), (.p (.mov (.tmp 2))), none⟩,
    ⟨(some 21), (.p (.ibin .sub (.tmp 20) (.cst (.int .i64 1)))), none⟩,
    ⟨(some 22), (.p (.mov (.tmp 8))), none⟩,
    ⟨(some 23), (.p (.ibin .sub (.tmp 21) (.tmp 22))), none⟩,
    ⟨(some 24), (.p (.mov (.tmp 1))), none⟩,
    ⟨(some 25), (.p (.mov (.tmp 8))), none⟩,
    ⟨(some 26), (.p (.ibin .mul (.cst (.int .i64 8)) (.tmp 25))), none⟩,
    ⟨(some 27), (.p (.ibin .shr (.tmp 24) (.tmp 26))), none⟩,
    ⟨(some 28), (.p (.conv (.toInt .u8) (.tmp 27))), none⟩,
    ⟨(some 29), (.p (.idxA 1 (.tmp 19) (.tmp 23))), none⟩,
    ⟨none, (.w (.store 1 (.tmp 29) (.tmp 28))), none⟩])))
  (.reg [⟨(some 30), (.p (.ibin .add (.tmp 16) (.cst (.int .i64 1)))), none⟩,
    ⟨(some 16), (.p (.mov (.tmp 30))), none⟩])))))))
  (.seq (.reg [⟨(some 31), (.p (.mov (.tmp 0))), none⟩,
    ⟨(some 32), (.p (.mov (.tmp 7))), none⟩,
    ⟨(some 33), (.p (.lit 1 .nilsl 2 [(0, (.tmp 31)), (1, (.tmp 32))])), none⟩,
    ⟨(some 34), (.w (.call (.cst (.fn 42 [] [])) [(.tmp 33)])), none⟩,
    ⟨(some 6), (.p (.mov (.tmp 34))), none⟩])
  .ret)))))
def f55 : VF := { body := b55, res := [(.tmp 6)] }
-- comptoir/link.every
def b56 : VC := (.seq (.reg [⟨(some 2), (.p (.mov (.cst .nilsl))), none⟩])
  (.seq (.reg [⟨(some 3), (.p (.mov (.cst .nilsl))), none⟩])
  (.seq (.seq (.reg [⟨(some 7), (.p (.mov (.tmp 0))), none⟩,
    ⟨(some 8), (.w (.call (.tmp 7) [])), none⟩,
    ⟨(some 6), (.p (.mov (.tmp 8))), none⟩,
    ⟨(some 9), (.p (.ext (.tmp 6) 0)), none⟩,
    ⟨(some 10), (.p (.ext (.tmp 6) 1)), none⟩,
    ⟨(some 4), (.p (.mov (.tmp 9))), none⟩,
    ⟨(some 5), (.p (.mov (.tmp 10))), none⟩])
  (.block 0 (.loop (.seq (.seq (.reg [⟨(some 11), (.p (.mov (.tmp 5))), none⟩])
  (.cond (.tmp 11) .skip
  (.exit 0)))
  (.seq (.block 1 (.reg [⟨(some 17), (.p (.mov (.tmp 3))), none⟩,
    ⟨(some 18), (.p (.mov (.tmp 4))), none⟩,
    ⟨(some 19), (.p (.lit 1 .nilsl 1 [(0, (.tmp 18))])), none⟩,
    ⟨(some 20), (.w (.append 1 24 (.tmp 17) (.tmp 19))), none⟩,
    ⟨(some 3), (.p (.mov (.tmp 20))), none⟩]))
  (.reg [⟨(some 13), (.p (.mov (.tmp 0))), none⟩,
    ⟨(some 14), (.w (.call (.tmp 13) [])), none⟩,
    ⟨(some 12), (.p (.mov (.tmp 14))), none⟩,
    ⟨(some 15), (.p (.ext (.tmp 12) 0)), none⟩,
    ⟨(some 16), (.p (.ext (.tmp 12) 1)), none⟩,
    ⟨(some 4), (.p (.mov (.tmp 15))), none⟩,
    ⟨(some 5), (.p (.mov (.tmp 16))), none⟩]))))))
  (.seq (.reg [⟨(some 21), (.p (.mov (.tmp 3))), none⟩,
    ⟨(some 2), (.p (.mov (.tmp 21))), none⟩])
  .ret))))
def f56 : VF := { body := b56, res := [(.tmp 2)] }
-- (*comptoir/link.Link).next
def b57 : VC := (.seq (.reg [⟨(some 2), (.p (.mov (.cst .nilsl))), none⟩,
    ⟨(some 3), (.p (.mov (.cst (.bool false)))), none⟩])
  (.seq (.reg [⟨(some 8), (.p (.mov (.tmp 0))), none⟩,
    ⟨(some 9), (.p (.nilck (.tmp 8))), none⟩,
    ⟨(some 10), (.p (.fieldA 0 (.tmp 9))), none⟩,
    ⟨(some 11), (.r (.load none (.tmp 10))), none⟩,
    ⟨(some 12), (.w (.call (.cst (.fn 61 [] [])) [(.tmp 11)])), none⟩,
    ⟨(some 4), (.p (.mov (.tmp 12))), none⟩])
  (.seq (.reg [⟨(some 14), (.p (.mov (.tmp 4))), none⟩,
    ⟨(some 15), (.w (.call (.cst (.fn 76 [] [])) [(.tmp 14), (.cst (.int .i64 2))])), none⟩,
    ⟨(some 13), (.p (.mov (.tmp 15))), none⟩,
    ⟨(some 16), (.p (.ext (.tmp 13) 0)), none⟩,
    ⟨(some 17), (.p (.ext (.tmp 13) 1)), none⟩,
    ⟨(some 5), (.p (.mov (.tmp 16))), none⟩,
    ⟨(some 6), (.p (.mov (.tmp 17))), none⟩])
  (.seq (.seq (.reg [⟨(some 18), (.p (.mov (.tmp 6))), none⟩,
    ⟨(some 19), (.p (.ibin .neq (.tmp 18) (.cst (.int .i64 0)))), none⟩])
  (.cond (.tmp 19) (.seq (.reg [⟨(some 2), (.p (.mov (.cst .nilsl))), none⟩,
    ⟨(some 3), (.p (.mov (.cst (.bool false)))), none⟩])
  .ret)
  .skip))
  (.seq (.seq (.reg [⟨(some 20), (.p (.mov (.tmp 5))), none⟩,
    ⟨(some 21), (.p (.ibin .eql (.tmp 20) (.cst (.int .u64 0)))), none⟩,
    ⟨(some 22), (.p (.mov (.tmp 21))), none⟩,
    ⟨(some 23), (.p (.mov (.tmp 5))), (some (22, false))⟩,
    ⟨(some 24), (.p (.ibin .gtr (.tmp 23) (.cst (.int .u64 4096)))), (some (22, false))⟩,
    ⟨(some 25), (.p (.pick (.tmp 22) (.cst (.bool true)) (.tmp 24))), none⟩])
  (.cond (.tmp 25) (.seq (.reg [⟨(some 26), (.p (.mov (.tmp 0))), none⟩,
    ⟨(some 27), (.p (.nilck (.tmp 26))), none⟩,
    ⟨(some 28), (.p (.fieldA 1 (.tmp 27))), none⟩,
    ⟨none, (.w (.store 1 (.tmp 28) (.cst (.bool true)))), none⟩])
  (.seq (.reg [⟨(some 2), (.p (.mov (.cst .nilsl))), none⟩,
    ⟨(some 3), (.p (.mov (.cst (.bool false)))), none⟩])
  .ret))
  .skip))
  (.seq (.reg [⟨(some 30), (.p (.mov (.tmp 4))), none⟩,
    ⟨(some 31), (.p (.mov (.tmp 5))), none⟩,
    ⟨(some 32), (.p (.conv (.toInt .i64) (.tmp 31))), none⟩,
    ⟨(some 33), (.w (.call (.cst (.fn 77 [] [])) [(.tmp 30), (.tmp 32)])), none⟩,
    ⟨(some 29), (.p (.mov (.tmp 33))), none⟩,
    ⟨(some 34), (.p (.ext (.tmp 29) 0)), none⟩,
    ⟨(some 35), (.p (.ext (.tmp 29) 1)), none⟩,
    ⟨(some 7), (.p (.mov (.tmp 34))), none⟩,
    ⟨(some 6), (.p (.mov (.tmp 35))), none⟩])
  (.seq (.seq (.reg [⟨(some 36), (.p (.mov (.tmp 6))), none⟩,
    ⟨(some 37), (.p (.ibin .neq (.tmp 36) (.cst (.int .i64 0)))), none⟩])
  (.cond (.tmp 37) (.seq (.reg [⟨(some 2), (.p (.mov (.cst .nilsl))), none⟩,
    ⟨(some 3), (.p (.mov (.cst (.bool false)))), none⟩])
  .ret)
  .skip))
  (.seq (.draw [(⟨(some 38), (.p (.mov (.tmp 0))), none⟩, 0, 0),
    (⟨(some 39), (.p (.mov (.tmp 0))), none⟩, 0, 0),
    (⟨(some 40), (.p (.nilck (.tmp 39))), none⟩, 0, 0),
    (⟨(some 41), (.p (.fieldA 0 (.tmp 40))), none⟩, 0, 0),
    (⟨(some 42), (.r (.load none (.tmp 41))), none⟩, 0, 0),
    (⟨(some 43), (.p (.mov (.tmp 4))), none⟩, 0, 0),
    (⟨(some 44), (.r (.pcall (.cst (.fn 78 [] [])) [(.tmp 43)])), none⟩, 0, 0),
    (⟨(some 45), (.p (.slice 1 (.tmp 42) (some (.tmp 44)) none)), none⟩, 0, 0),
    (⟨(some 46), (.p (.nilck (.tmp 38))), none⟩, 0, 0),
    (⟨(some 47), (.p (.fieldA 0 (.tmp 46))), none⟩, 0, 0),
    (⟨none, (.w (.store 1 (.tmp 47) (.tmp 45))), none⟩, 0, 0)])
  (.seq (.reg [⟨(some 48), (.p (.mov (.tmp 7))), none⟩,
    ⟨(some 2), (.p (.mov (.tmp 48))), none⟩,
    ⟨(some 3), (.p (.mov (.cst (.bool true)))), none⟩])
  .ret)))))))))
def f57 : VF := { body := b57, res := [(.tmp 2), (.tmp 3)] }
-- comptoir/comptoirref07.WriteTags
def b58 : VC := (.seq (.reg [⟨(some 2), (.p (.mov (.cst .nilsl))), none⟩,
    ⟨(some 3), (.p (.mov (.cst (.int .i64 0)))), none⟩])
  (.seq (.seq (.reg [⟨(some 7), (.p (.mov (.tmp 0))), none⟩,
    ⟨(some 8), (.p (.len (.tmp 7))), none⟩,
    ⟨(some 9), (.p (.ibin .gtr (.tmp 8) (.cst (.int .i64 20)))), none⟩])
  (.cond (.tmp 9) (.seq (.reg [⟨(some 2), (.p (.mov (.cst .nilsl))), none⟩,
    ⟨(some 3), (.p (.mov (.cst (.int .i64 4)))), none⟩])
  .ret)
  .skip))
  (.seq (.reg [⟨(some 4), (.p (.mov (.cst .nilsl))), none⟩])
  (.seq (.seq (.reg [⟨(some 5), (.p (.mov (.cst (.int .i64 0)))), none⟩])
  (.block 0 (.loop (.seq (.seq (.reg [⟨(some 10), (.p (.mov (.tmp 5))), none⟩,
    ⟨(some 11), (.p (.mov (.tmp 0))), none⟩,
    ⟨(some 12), (.p (.len (.tmp 11))), none⟩,
    ⟨(some 13), (.p (.ibin .lss (.tmp 10) (.tmp 12))), none⟩])
  (.cond (.tmp 13) .skip
  (.exit 0)))
  (.seq (.block 1 (.seq (.reg [⟨(some 16), (.p (.mov (.tmp 0))), none⟩,
    ⟨(some 17), (.p (.mov (.tmp 5))), none⟩,
    ⟨(some 18), (.p (.idxA 2 (.tmp 16) (.tmp 17))), none⟩,
    ⟨(some 19), (.p (.fieldA 0 (.tmp 18))), none⟩,
    ⟨(some 20), (.r (.load none (.tmp 19))), none⟩,
    ⟨(some 21), (.r (.pcall (.cst (.fn 79 [] [])) [(.tmp 20)])), none⟩,
    ⟨(some 6), (.p (.mov (.tmp 21))), none⟩])
  (.seq (.seq (.draw [(⟨(some 22), (.p (.mov (.tmp 6))), none⟩, 0, 0),
    (⟨(some 23), (.p (.ibin .eql (.tmp 22) (.cst (.int .i64 0)))), none⟩, 0, 0),
    (⟨(some 24), (.p (.mov (.tmp 23))), none⟩, 0, 0),
    (⟨(some 25), (.p (.mov (.tmp 0))), (some (24, false))⟩, 0, 0),
    (⟨(some 26), (.p (.mov (.tmp 5))), (some (24, false))⟩, 0, 0),
    (⟨(some 27), (.p (.slice 2 (.tmp 25) none (some (.tmp 26)))), (some (24, false))⟩, 0, 0),
    (⟨(some 28), (.p (.mov (.tmp 0))), (some (24, false))⟩, 0, 0),
    (⟨(some 29), (.p (.mov (.tmp 5))), (some (24, false))⟩, 0, 0),
    (⟨(some 30), (.p (.idxA 2 (.tmp 28) (.tmp 29))), (some (24, false))⟩, 0, 0),
    (⟨(some 31), (.p (.fieldA 0 (.tmp 30))), (some (24, false))⟩, 0, 0),
    (⟨(some 32), (.r (.load none (.tmp 31))), (some (24, false))⟩, 0, 0),
    (⟨(some 33), (.r (.pcall (.cst (.fn 80 [] [])) [(.tmp 27), (.tmp 32)])), (some (24, false))⟩, 0, 0),
    (⟨(some 34), (.p (.pick (.tmp 24) (.cst (.bool true)) (.tmp 33))), none⟩, 0, 0)])
  (.cond (.tmp 34) (.seq (.reg [⟨(some 2), (.p (.mov (.cst .nilsl))), none⟩,
    ⟨(some 3), (.p (.mov (.cst (.int .i64 18)))), none⟩])
  .ret)
  .skip))
  (.seq (.seq (.reg [⟨(some 35), (.p (.mov (.tmp 0))), none⟩,
    ⟨(some 36), (.p (.mov (.tmp 5))), none⟩,
    ⟨(some 37), (.p (.idxA 2 (.tmp 35) (.tmp 36))), none⟩,
    ⟨(some 38), (.p (.fieldA 1 (.tmp 37))), none⟩,
    ⟨(some 39), (.r (.load none (.tmp 38))), none⟩,
    ⟨(some 40), (.p (.len (.tmp 39))), none⟩,
    ⟨(some 41), (.p (.ibin .gtr (.tmp 40) (.cst (.int .i64 255)))), none⟩])
  (.cond (.tmp 41) (.seq (.reg [⟨(some 2), (.p (.mov (.cst .nilsl))), none⟩,
    ⟨(some 3), (.p (.mov (.cst (.int .i64 17)))), none⟩])
  .ret)
  .skip))
  (.seq (.reg [⟨(some 42), (.p (.mov (.tmp 4))), none⟩,
    ⟨(some 43), (.p (.mov (.tmp 0))), none⟩,
    ⟨(some 44), (.p (.mov (.tmp 5))), none⟩,
    ⟨(some 45), (.p (.idxA 2 (.tmp 43) (.tmp 44))), none⟩,
    ⟨(some 46), (.p (.fieldA 0 (.tmp 45))), none⟩,
    ⟨(some 47), (.r (.load none (.tmp 46))), none⟩,
    ⟨(some 48), (.p (.conv (.toInt .u64) (.tmp 47))), none⟩,
    ⟨(some 49), (.p (.mov (.tmp 6))), none⟩,
    ⟨(some 50), (.w (.call (.cst (.fn 81 [] [])) [(.tmp 42), (.tmp 48), (.tmp 49)])), none⟩,
    ⟨(some 4), (.p (.mov (.tmp 50))), none⟩])
  (.seq (.seq (.reg [⟨(some 51), (.p (.mov (.tmp 0))), none⟩,
    ⟨(some 52), (.p (.mov (.tmp 5))), none⟩,
    ⟨(some 53), (.p (.idxA 2 (.tmp 51) (.tmp 52))), none⟩,
    ⟨(some 54), (.p (.fieldA 1 (.tmp 53))), none⟩,
    ⟨(some 55), (.r (.load none (.tmp 54))), none⟩,
    ⟨(some 56), (.p (.len (.tmp 55))), none⟩,
    ⟨(some 57), (.p (.ibin .gtr (.tmp 56) (.cst (.int .i64 127)))), none⟩])
  (.cond (.tmp 57) (.reg [⟨(some 58), (.p (.mov (.tmp 4))), none⟩,
    ⟨(some 59), (.p (.lit 1 (.int .u8 0) 1 [(0, (.cst (.int .u8 129)))])), none⟩,
    ⟨(some 60), (.w (.append 1 1 (.tmp 58) (.tmp 59))), none⟩,
    ⟨(some 4), (.p (.mov (.tmp 60))), none⟩])
  .skip))
  (.draw [(⟨(some 61), (.p (.mov (.tmp 4))), none⟩, 0, 0),
    (⟨(some 62), (.p (.mov (.tmp 0))), none⟩, 0, 0),
    (⟨(some 63), (.p (.mov (.tmp 5))), none⟩, 0, 0),
    (⟨(some 64), (.p (.idxA 2 (.tmp 62) (.tmp 63))), none⟩, 0, 0),
    (⟨(some 65), (.p (.fieldA 1 (.tmp 64))), none⟩, 0, 0),
    (⟨(some 66), (.r (.load none (.tmp 65))), none⟩, 0, 0),
    (⟨(some 67), (.p (.len (.tmp 66))), none⟩, 0, 0),
    (⟨(some 68), (.p (.conv (.toInt .u8) (.tmp 67))), none⟩, 0, 0),
    (⟨(some 69), (.p (.lit 1 (.int .u8 0) 1 [(0, (.tmp 68))])), none⟩, 0, 0),
    (⟨(some 70), (.w (.append 1 1 (.tmp 61) (.tmp 69))), none⟩, 0, 0),
    (⟨(some 71), (.p (.mov (.tmp 0))), none⟩, 0, 1),
    (⟨(some 72), (.p (.mov (.tmp 5))), none⟩, 0, 1),
    (⟨(some 73), (.p (.idxA 2 (.tmp 71) (.tmp 72))), none⟩, 0, 1),
    (⟨(some 74), (.p (.fieldA 1 (.tmp 73))), none⟩, 0, 1),
    (⟨(some 75), (.r (.load none (.tmp 74))), none⟩, 0, 1),
    (⟨(some 76), (.w (.append 1 1 (.tmp 70) (.tmp 75))), none⟩, 1, 1),
    (⟨(some 4), (.p (.mov (.tmp 76))), none⟩, 2, 2)])))))))
  (.reg [⟨(some 14), (.p (.mov (.tmp 5))), none⟩,
    ⟨(some 15), (.p (.ibin .add (.tmp 14) (.cst (.int .i64 1)))), none⟩,
    ⟨(some 5), (.p (.mov (.tmp 15))), none⟩]))))))
  (.seq (.reg [⟨(some 77), (.p (.mov (.tmp 4))), none⟩,
    ⟨(some 2), (.p (.mov (.tmp 77))), none⟩,
    ⟨(some 3), (.p (.mov (.cst (.int .i64 0)))), none⟩])
  .ret)))))
def f58 : VF := { body := b58, res := [(.tmp 2), (.tmp 3)] }
-- comptoir/tlv.right
def b59 : VC := (.seq (.reg [⟨(some 2), (.p (.mov (.cst (.bool false)))), none⟩])
  (.seq (.seq (.reg [⟨(some 3), (.p (.mov (.tmp 0))), none⟩,
    ⟨(some 4), (.p (.ibin .gtr (.tmp 3) (.cst (.int .i64 0)))), none⟩,
    ⟨(some 5), (.p (.mov (.tmp 4))), none⟩,
    ⟨(some 6), (.p (.mov (.tmp 0))), (some (5, true))⟩,
    ⟨(some 7), (.p (.ibin .lss (.tmp 6) (.cst (.int .i64 255)))), (some (5, true))⟩,
    ⟨(some 8), (.p (.pick (.tmp 5) (.tmp 7) (.cst (.bool false)))), none⟩])
  (.cond (.tmp 8) (.seq (.reg [⟨(some 9), (.p (.mov (.tmp 0))), none⟩,
    ⟨(some 10), (.p (.ibin .and (.tmp 9) (.cst (.int .i64 31)))), none⟩,
    ⟨(some 11), (.p (.ibin .neq (.tmp 10) (.cst (.int .i64 31)))), none⟩,
    ⟨(some 2), (.p (.mov (.tmp 11))), none⟩])
  .ret)
  .skip))
  (.seq (.reg [⟨(some 12), (.p (.mov (.tmp 0))), none⟩,
    ⟨(some 13), (.p (.ibin .shr (.tmp 12) (.cst (.int .u64 8)))), none⟩,
    ⟨(some 14), (.p (.ibin .lss (.tmp 13) (.cst (.int .i64 255)))), none⟩,
    ⟨(some 15), (.p (.mov (.tmp 14))), none⟩,
    ⟨(some 16), (.p (.mov (.tmp 0))), (some (15, true))⟩,
    ⟨(some 17), (.p (.ibin .gtr (.tmp 16) (.cst (.int .i64 255)))), (some (15, true))⟩,
    ⟨(some 18), (.p (.pick (.tmp 15) (.tmp 17) (.cst (.bool false)))), none⟩,
    ⟨(some 19), (.p (.mov (.tmp 18))), none⟩,
    ⟨(some 20), (.p (.mov (.tmp 0))), (some (19, true))⟩,
    ⟨(some 21), (.p (.ibin .shr (.tmp 20) (.cst (.int .u64 8)))), (some (19, true))⟩,
    ⟨(some 22), (.r (.pcall (.cst (.fn 82 [] [])) [(.tmp 21)])), (some (19, true))⟩,
    ⟨(some 23), (.p (.pick (.tmp 19) (.tmp 22) (.cst (.bool false)))), none⟩,
    ⟨(some 24), (.p (.mov (.tmp 23))), none⟩,
    ⟨(some 25), (.p (.mov (.tmp 0))), (some (24, true))⟩,
    ⟨(some 26), (.p (.ibin .and (.tmp 25) (.cst (.int .i64 255)))), (some (24, true))⟩,
    ⟨(some 27), (.p (.ibin .lss (.tmp 26) (.cst (.int .i64 128)))), (some (24, true))⟩,
    ⟨(some 28), (.p (.pick (.tmp 24) (.tmp 27) (.cst (.bool false)))), none⟩,
    ⟨(some 2), (.p (.mov (.tmp 28))), none⟩])
  .ret)))
def f59 : VF := { body := b59, res := [(.tmp 2)] }
-- comptoir/tlv.there
def b60 : VC := (.seq (.reg [⟨(some 3), (.w (.box 1 (.tmp 1))), none⟩,
    ⟨(some 4), (.p (.mov (.cst (.bool false)))), none⟩])
  (.seq (.reg [⟨(some 5), (.p (.mov (.tmp 0))), none⟩,
    ⟨(some 6), (.p (.mkfn 84 [] [(.tmp 3)])), none⟩,
    ⟨(some 7), (.r (.pcall (.cst (.fn 83 [] [])) [(.tmp 5), (.tmp 6)])), none⟩,
    ⟨(some 4), (.p (.mov (.tmp 7))), none⟩])
  .ret))
def f60 : VF := { body := b60, res := [(.tmp 4)] }
-- comptoir/cursor.New
def b61 : VC := (.seq (.reg [⟨(some 2), (.p (.mov (.cst .nilp))), none⟩])
  (.seq (.reg [⟨(some 3), (.p (.mov (.tmp 0))), none⟩,
    ⟨(some 4), (.r (.pcall (.cst (.fn 67 [] [])) [(.tmp 3)])), none⟩,
    ⟨(some 5), (.p (.build [.nilsl, (.int .i64 0)] [(0, 1, (.tmp 4))])), none⟩,
    ⟨(some 6), (.w (.box 2 (.tmp 5))), none⟩,
    ⟨(some 2), (.p (.mov (.tmp 6))), none⟩])
  .ret))
def f61 : VF := { body := b61, res := [(.tmp 2)] }
-- (*comptoir/cursor.Cursor).Left
def b62 : VC := (.seq (.reg [⟨(some 2), (.p (.mov (.cst (.int .i64 0)))), none⟩])
  (.seq (.seq (.reg [⟨(some 3), (.p (.mov (.tmp 0))), none⟩,
    ⟨(some 4), (.p (.nileq 0 false (.tmp 3) (.cst .nilp))), none⟩])
  (.cond (.tmp 4) (.seq (.reg [⟨(some 2), (.p (.mov (.cst (.int .i64 0)))), none⟩])
  .ret)
  .skip))
  (.seq (.draw [(⟨(some 5), (.p (.mov (.tmp 0))), none⟩, 0, 0),
    (⟨(some 6), (.p (.nilck (.tmp 5))), none⟩, 0, 0),
    (⟨(some 7), (.p (.fieldA 0 (.tmp 6))), none⟩, 0, 0),
    (⟨(some 8), (.r (.load none (.tmp 7))), none⟩, 0, 0),
    (⟨(some 9), (.p (.len (.tmp 8))), none⟩, 0, 0),
    (⟨(some 10), (.p (.mov (.tmp 0))), none⟩, 0, 0),
    (⟨(some 11), (.p (.nilck (.tmp 10))), none⟩, 0, 0),
    (⟨(some 12), (.p (.fieldA 1 (.tmp 11))), none⟩, 0, 0),
    (⟨(some 13), (.r (.load none (.tmp 12))), none⟩, 0, 0),
    (⟨(some 14), (.p (.ibin .sub (.tmp 9) (.tmp 13))), none⟩, 0, 0),
    (⟨(some 2), (.p (.mov (.tmp 14))), none⟩, 0, 0)])
  .ret)))
def f62 : VF := { body := b62, res := [(.tmp 2)] }
-- (*comptoir/tlv.walk).step
def b63 : VC := (.seq (.reg [⟨(some 2), (.p (.mov (.cst (.int .i64 0)))), none⟩])
  (.seq (.seq (.reg [⟨(some 10), (.p (.mov (.tmp 0))), none⟩,
    ⟨(some 11), (.p (.nilck (.tmp 10))), none⟩,
    ⟨(some 12), (.p (.fieldA 1 (.tmp 11))), none⟩,
    ⟨(some 13), (.r (.load none (.tmp 12))), none⟩,
    ⟨(some 14), (.p (.len (.tmp 13))), none⟩,
    ⟨(some 15), (.p (.ibin .geq (.tmp 14) (.cst (.int .i64 20)))), none⟩])
  (.cond (.tmp 15) (.seq (.reg [⟨(some 2), (.p (.mov (.cst (.int .i64 4)))), none⟩])
  .ret)
  .skip))
  (.seq (.reg [⟨(some 3), (.w (.alloc [(.int .i64 0), (.int .i64 0)])), none⟩])
  (.seq (.seq (.reg [⟨(some 16), (.p (.mov (.tmp 0))), none⟩,
    ⟨(some 17), (.p (.mkfn 85 [(.tmp 16)] [])), none⟩,
    ⟨(some 18), (.p (.mov (.tmp 0))), none⟩,
    ⟨(some 19), (.p (.mkfn 86 [(.tmp 18)] [])), none⟩,
    ⟨(some 20), (.p (.build [.nilfn, .nilfn] [(0, 1, (.tmp 17)), (1, 1, (.tmp 19))])), none⟩,
    ⟨(some 21), (.p (.mov (.cst (.int .i64 0)))), none⟩])
  (.block 0 (.loop (.seq (.reg [⟨(some 22), (.p (.ibin .lss (.tmp 21) (.cst (.int .i64 2)))), none⟩])
  (.seq (.cond (.tmp 22) .skip
  (.exit 0))
  (.seq (.block 1 (.seq (.reg [⟨(some 23), (.p (.mov (.tmp 21))), none⟩,
    ⟨(some 24), (.p (.idxAgg 2 1 false (.tmp 20) (.tmp 21))), none⟩,
    ⟨(some 4), (.p (.mov (.tmp 23))), none⟩,
    ⟨(some 5), (.p (.mov (.tmp 24))), none⟩])
  (.seq (.reg [⟨(some 26), (.p (.mov (.tmp 5))), none⟩,
    ⟨(some 27), (.w (.call (.tmp 26) [])), none⟩,
    ⟨(some 25), (.p (.mov (.tmp 27))), none⟩,
    ⟨(some 28), (.p (.ext (.tmp 25) 0)), none⟩,
    ⟨(some 29), (.p (.ext (.tmp 25) 1)), none⟩,
    ⟨(some 6), (.p (.mov (.tmp 28))), none⟩,
    ⟨(some 7), (.p (.mov (.tmp 29))), none⟩])
  (.seq (.seq (.reg [⟨(some 30), (.p (.mov (.tmp 7))), none⟩,
    ⟨(some 31), (.p (.ibin .neq (.tmp 30) (.cst (.int .i64 0)))), none⟩])
  (.cond (.tmp 31) (.seq (.reg [⟨(some 32), (.p (.mov (.tmp 7))), none⟩,
    ⟨(some 2), (.p (.mov (.tmp 32))), none⟩])
  .ret)
  .skip))
  (.reg [⟨(some 33), (.p (.mov (.tmp 4))), none⟩,
    ⟨(some 34), (.p (.mov (.tmp 6))), none⟩,
    ⟨(some 35), (.p (.idxArr 2 1 (.tmp 3) (.tmp 33))), none⟩,
    ⟨none, (.w (.store 1 (.tmp 35) (.tmp 34))), none⟩])))))
  (.reg [⟨(some 36), (.p (.ibin .add (.tmp 21) (.cst (.int .i64 1)))), none⟩,
    ⟨(some 21), (.p (.mov (.tmp 36))), none⟩])))))))
  (.seq (.draw [(⟨(some 38), (.p (.mov (.tmp 0))), none⟩, 0, 0),
    (⟨(some 39), (.p (.nilck (.tmp 38))), none⟩, 0, 0),
    (⟨(some 40), (.p (.fieldA 0 (.tmp 39))), none⟩, 0, 0),
    (⟨(some 41), (.r (.load none (.tmp 40))), none⟩, 0, 0),
    (⟨(some 42), (.p (.idxArr 2 1 (.tmp 3) (.cst (.int .i64 1)))), none⟩, 0, 0),
    (⟨(some 43), (.r (.load none (.tmp 42))), none⟩, 0, 0),
    (⟨(some 44), (.w (.call (.cst (.fn 77 [] [])) [(.tmp 41), (.tmp 43)])), none⟩, 0, 0),
    (⟨(some 37), (.p (.mov (.tmp 44))), none⟩, 1, 1),
    (⟨(some 45), (.p (.ext (.tmp 37) 0)), none⟩, 1, 1),
    (⟨(some 46), (.p (.ext (.tmp 37) 1)), none⟩, 1, 1),
    (⟨(some 8), (.p (.mov (.tmp 45))), none⟩, 1, 1),
    (⟨(some 9), (.p (.mov (.tmp 46))), none⟩, 1, 1)])
  (.seq (.seq (.reg [⟨(some 47), (.p (.mov (.tmp 9))), none⟩,
    ⟨(some 48), (.p (.ibin .neq (.tmp 47) (.cst (.int .i64 0)))), none⟩])
  (.cond (.tmp 48) (.seq (.reg [⟨(some 49), (.p (.mov (.tmp 9))), none⟩,
    ⟨(some 2), (.p (.mov (.tmp 49))), none⟩])
  .ret)
  .skip))
  (.seq (.draw [(⟨(some 50), (.p (.mov (.tmp 0))), none⟩, 0, 1),
    (⟨(some 51), (.p (.mov (.tmp 0))), none⟩, 0, 0),
    (⟨(some 52), (.p (.nilck (.tmp 51))), none⟩, 0, 0),
    (⟨(some 53), (.p (.fieldA 1 (.tmp 52))), none⟩, 0, 0),
    (⟨(some 54), (.r (.load none (.tmp 53))), none⟩, 0, 0),
    (⟨(some 55), (.p (.idxArr 2 1 (.tmp 3) (.cst (.int .i64 0)))), none⟩, 0, 0),
    (⟨(some 56), (.r (.load none (.tmp 55))), none⟩, 0, 0),
    (⟨(some 57), (.p (.mov (.tmp 8))), none⟩, 0, 0),
    (⟨(some 58), (.p (.build [(.int .i64 0), .nilsl] [(0, 1, (.tmp 56)), (1, 1, (.tmp 57))])), none⟩, 0, 0),
    (⟨(some 59), (.p (.lit 2 (.agg [(.int .i64 0), .nilsl]) 1 [(0, (.tmp 58))])), none⟩, 0, 0),
    (⟨(some 60), (.w (.append 2 32 (.tmp 54) (.tmp 59))), none⟩, 0, 0),
    (⟨(some 61), (.p (.nilck (.tmp 50))), none⟩, 1, 1),
    (⟨(some 62), (.p (.fieldA 1 (.tmp 61))), none⟩, 1, 1),
    (⟨none, (.w (.store 1 (.tmp 62) (.tmp 60))), none⟩, 1, 1)])
  (.seq (.reg [⟨(some 2), (.p (.mov (.cst (.int .i64 0)))), none⟩])
  .ret))))))))
def f63 : VF := { body := b63, res := [(.tmp 2)] }
-- slices.Grow[[]byte,byte]
def b64 : VC := (.seq (.reg [⟨(some 4), (.p (.mov (.cst .nilsl))), none⟩])
  (.seq (.seq (.reg [⟨(some 5), (.p (.mov (.tmp 1))), none⟩,
    ⟨(some 6), (.p (.ibin .lss (.tmp 5) (.cst (.int .i64 0)))), none⟩])
  (.cond (.tmp 6) (.reg [⟨(some 7), (.w .bad), none⟩,
    ⟨none, (.w .bad), none⟩])
  .skip))
  (.seq (.seq (.reg [⟨(some 8), (.p (.mov (.tmp 1))), none⟩,
    ⟨(some 9), (.p (.mov (.tmp 0))), none⟩,
    ⟨(some 10), (.p (.cap (.tmp 9))), none⟩,
    ⟨(some 11), (.p (.mov (.tmp 0))), none⟩,
    ⟨(some 12), (.p (.len (.tmp 11))), none⟩,
    ⟨(some 13), (.p (.ibin .sub (.tmp 10) (.tmp 12))), none⟩,
    ⟨(some 14), (.p (.ibin .sub (.tmp 8) (.tmp 13))), none⟩,
    ⟨(some 1), (.p (.mov (.tmp 14))), none⟩])
  (.seq (.reg [⟨(some 15), (.p (.mov (.tmp 1))), none⟩,
    ⟨(some 16), (.p (.ibin .gtr (.tmp 15) (.cst (.int .i64 0)))), none⟩])
  (.cond (.tmp 16) (.reg [⟨(some 17), (.p (.mov (.tmp 0))), none⟩,
    ⟨(some 18), (.p (.mov (.tmp 0))), none⟩,
    ⟨(some 19), (.p (.cap (.tmp 18))), none⟩,
    ⟨(some 20), (.p (.slice 1 (.tmp 17) none (some (.tmp 19)))), none⟩,
    ⟨(some 21), (.p (.mov (.tmp 1))), none⟩,
    ⟨(some 22), (.w (.appendN 1 1 (.int .u8 0) (.tmp 20) (.tmp 21))), none⟩,
    ⟨(some 23), (.p (.mov (.tmp 0))), none⟩,
    ⟨(some 24), (.p (.len (.tmp 23))), none⟩,
    ⟨(some 25), (.p (.slice 1 (.tmp 22) none (some (.tmp 24)))), none⟩,
    ⟨(some 0), (.p (.mov (.tmp 25))), none⟩])
  .skip)))
  (.seq (.reg [⟨(some 26), (.p (.mov (.tmp 0))), none⟩,
    ⟨(some 4), (.p (.mov (.tmp 26))), none⟩])
  .ret))))
def f64 : VF := { body := b64, res := [(.tmp 4)] }
-- comptoir/comptoirhelp.Same[byte]
def b65 : VC := (.seq (.reg [⟨(some 6), (.p (.mov (.cst (.bool false)))), none⟩])
  (.seq (.seq (.reg [⟨(some 8), (.p (.mov (.tmp 0))), none⟩,
    ⟨(some 9), (.p (.len (.tmp 8))), none⟩,
    ⟨(some 10), (.p (.mov (.tmp 1))), none⟩,
    ⟨(some 11), (.p (.len (.tmp 10))), none⟩,
    ⟨(some 12), (.p (.ibin .neq (.tmp 9) (.tmp 11))), none⟩])
  (.cond (.tmp 12) (.seq (.reg [⟨(some 6), (.p (.mov (.cst (.bool false)))), none⟩])
  .ret)
  .skip))
  (.seq (.seq (.reg [⟨(some 7), (.p (.mov (.cst (.int .i64 0)))), none⟩])
  (.block 0 (.loop (.seq (.seq (.reg [⟨(some 13), (.p (.mov (.tmp 7))), none⟩,
    ⟨(some 14), (.p (.mov (.tmp 0))), none⟩,
    ⟨(some 15), (.p (.len (.tmp 14))), none⟩,
    ⟨(some 16), (.p (.ibin .lss (.tmp 13) (.tmp 15))), none⟩])
  (.cond (.tmp 16) .skip
  (.exit 0)))
  (.seq (.block 1 (.seq (.draw [(⟨(some 19), (.p (.mov (.tmp 2))), none⟩, 0, 0),
    (⟨(some 20), (.p (.mov (.tmp 0))), none⟩, 0, 0),
    (⟨(some 21), (.p (.mov (.tmp 7))), none⟩, 0, 0),
    (⟨(some 22), (.p (.idxA 1 (.tmp 20) (.tmp 21))), none⟩, 0, 0),
    (⟨(some 23), (.r (.load none (.tmp 22))), none⟩, 0, 0),
    (⟨(some 24), (.p (.mov (.tmp 1))), none⟩, 0, 0),
    (⟨(some 25), (.p (.mov (.tmp 7))), none⟩, 0, 0),
    (⟨(some 26), (.p (.idxA 1 (.tmp 24) (.tmp 25))), none⟩, 0, 0),
    (⟨(some 27), (.r (.load none (.tmp 26))), none⟩, 0, 0),
    (⟨(some 28), (.r (.pcall (.tmp 19) [(.tmp 23), (.tmp 27)])), none⟩, 0, 0),
    (⟨(some 29), (.p (.un .not (.tmp 28))), none⟩, 0, 0)])
  (.cond (.tmp 29) (.seq (.reg [⟨(some 6), (.p (.mov (.cst (.bool false)))), none⟩])
  .ret)
  .skip)))
  (.reg [⟨(some 17), (.p (.mov (.tmp 7))), none⟩,
    ⟨(some 18), (.p (.ibin .add (.tmp 17) (.cst (.int .i64 1)))), none⟩,
    ⟨(some 7), (.p (.mov (.tmp 18))), none⟩]))))))
  (.seq (.reg [⟨(some 6), (.p (.mov (.cst (.bool true)))), none⟩])
  .ret))))
def f65 : VF := { body := b65, res := [(.tmp 6)] }
-- comptoir/comptoirhelp.Plain[byte]$1
def b66 : VC := (.seq (.reg [⟨(some 4), (.p (.mov (.cst (.bool false)))), none⟩])
  (.seq (.reg [⟨(some 5), (.p (.mov (.tmp 0))), none⟩,
    ⟨(some 6), (.p (.mov (.tmp 1))), none⟩,
    ⟨(some 7), (.p (.ibin .eql (.tmp 5) (.tmp 6))), none⟩,
    ⟨(some 4), (.p (.mov (.tmp 7))), none⟩])
  .ret))
def f66 : VF := { body := b66, res := [(.tmp 4)] }
-- slices.Clone[[]byte,byte]
def b67 : VC := (.seq (.reg [⟨(some 2), (.p (.mov (.cst .nilsl))), none⟩])
  (.seq (.seq (.reg [⟨(some 3), (.p (.mov (.tmp 0))), none⟩,
    ⟨(some 4), (.p (.nileq 1 false (.tmp 3) (.cst .nilsl))), none⟩])
  (.cond (.tmp 4) (.seq (.reg [⟨(some 2), (.p (.mov (.cst .nilsl))), none⟩])
  .ret)
  .skip))
  (.seq (.reg [⟨(some 5), (.p (.lit 1 (.int .u8 0) 0 [])), none⟩,
    ⟨(some 6), (.p (.mov (.tmp 0))), none⟩,
    ⟨(some 7), (.w (.append 1 1 (.tmp 5) (.tmp 6))), none⟩,
    ⟨(some 2), (.p (.mov (.tmp 7))), none⟩])
  .ret)))
def f67 : VF := { body := b67, res := [(.tmp 2)] }
-- comptoir/state.each[comptoir/api.Tag]
def b68 : VC := (.seq (.reg [⟨(some 4), (.p (.mov (.cst .nilsl))), none⟩])
  (.seq (.reg [⟨(some 5), (.p (.mov (.cst .nilsl))), none⟩])
  (.seq (.seq (.reg [⟨(some 8), (.p (.mov (.tmp 0))), none⟩,
    ⟨(some 9), (.p (.len (.tmp 8))), none⟩,
    ⟨(some 10), (.p (.mov (.cst (.int .i64 0)))), none⟩])
  (.block 0 (.loop (.seq (.reg [⟨(some 11), (.p (.ibin .lss (.tmp 10) (.tmp 9))), none⟩])
  (.seq (.cond (.tmp 11) .skip
  (.exit 0))
  (.seq (.block 1 (.seq (.reg [⟨(some 12), (.p (.idxA 2 (.tmp 8) (.tmp 10))), none⟩,
    ⟨(some 13), (.r (.load (some 2) (.tmp 12))), none⟩,
    ⟨(some 7), (.w (.alloc [(.int .i64 0), .nilsl])), none⟩,
    ⟨none, (.w (.store 2 (.tmp 7) (.tmp 13))), none⟩])
  (.reg [⟨(some 14), (.p (.mov (.tmp 5))), none⟩,
    ⟨(some 15), (.p (.mov (.tmp 1))), none⟩,
    ⟨(some 16), (.r (.load (some 2) (.tmp 7))), none⟩,
    ⟨(some 17), (.r (.pcall (.tmp 15) [(.tmp 16)])), none⟩,
    ⟨(some 18), (.p (.lit 2 (.agg [(.int .i64 0), .nilsl]) 1 [(0, (.tmp 17))])), none⟩,
    ⟨(some 19), (.w (.append 2 32 (.tmp 14) (.tmp 18))), none⟩,
    ⟨(some 5), (.p (.mov (.tmp 19))), none⟩])))
  (.reg [⟨(some 20), (.p (.ibin .add (.tmp 10) (.cst (.int .i64 1)))), none⟩,
    ⟨(some 10), (.p (.mov (.tmp 20))), none⟩])))))))
  (.seq (.reg [⟨(some 21), (.p (.mov (.tmp 5))), none⟩,
    ⟨(some 4), (.p (.mov (.tmp 21))), none⟩])
  .ret))))
def f68 : VF := { body := b68, res := [(.tmp 4)] }
-- comptoir/state.tag
def b69 : VC := (.seq (.reg [⟨(some 1), (.w (.box 2 (.tmp 0))), none⟩,
    ⟨(some 2), (.w (.alloc [(.int .i64 0), .nilsl])), none⟩])
  (.seq (.draw [(⟨(some 3), (.p (.fieldA 0 (.tmp 1))), none⟩, 0, 0),
    (⟨(some 4), (.r (.load none (.tmp 3))), none⟩, 0, 0),
    (⟨(some 5), (.p (.fieldA 1 (.tmp 1))), none⟩, 0, 0),
    (⟨(some 6), (.r (.load none (.tmp 5))), none⟩, 0, 0),
    (⟨(some 7), (.r (.pcall (.cst (.fn 67 [] [])) [(.tmp 6)])), none⟩, 0, 0),
    (⟨(some 8), (.p (.build [(.int .i64 0), .nilsl] [(0, 1, (.tmp 4)), (1, 1, (.tmp 7))])), none⟩, 0, 0),
    (⟨none, (.w (.store 2 (.tmp 2) (.tmp 8))), none⟩, 0, 0)])
  .ret))
def f69 : VF := { body := b69, res := [(.cell 2 (some 2))] }
-- slices.Clone[[]comptoir/api.Pair,comptoir/api.Pair]
def b70 : VC := (.seq (.reg [⟨(some 2), (.p (.mov (.cst .nilsl))), none⟩])
  (.seq (.seq (.reg [⟨(some 3), (.p (.mov (.tmp 0))), none⟩,
    ⟨(some 4), (.p (.nileq 1 false (.tmp 3) (.cst .nilsl))), none⟩])
  (.cond (.tmp 4) (.seq (.reg [⟨(some 2), (.p (.mov (.cst .nilsl))), none⟩])
  .ret)
  .skip))
  (.seq (.reg [⟨(some 5), (.p (.lit 2 (.agg [(.str []), (.str [])]) 0 [])), none⟩,
    ⟨(some 6), (.p (.mov (.tmp 0))), none⟩,
    ⟨(some 7), (.w (.append 2 32 (.tmp 5) (.tmp 6))), none⟩,
    ⟨(some 2), (.p (.mov (.tmp 7))), none⟩])
  .ret)))
def f70 : VF := { body := b70, res := [(.tmp 2)] }
-- comptoir/state.each[comptoir/api.Element]
def b71 : VC := (.seq (.reg [⟨(some 4), (.p (.mov (.cst .nilsl))), none⟩])
  (.seq (.reg [⟨(some 5), (.p (.mov (.cst .nilsl))), none⟩])
  (.seq (.seq (.reg [⟨(some 8), (.p (.mov (.tmp 0))), none⟩,
    ⟨(some 9), (.p (.len (.tmp 8))), none⟩,
    ⟨(some 10), (.p (.mov (.cst (.int .i64 0)))), none⟩])
  (.block 0 (.loop (.seq (.reg [⟨(some 11), (.p (.ibin .lss (.tmp 10) (.tmp 9))), none⟩])
  (.seq (.cond (.tmp 11) .skip
  (.exit 0))
  (.seq (.block 1 (.seq (.reg [⟨(some 12), (.p (.idxA 2 (.tmp 8) (.tmp 10))), none⟩,
    ⟨(some 13), (.r (.load (some 2) (.tmp 12))), none⟩,
    ⟨(some 7), (.w (.alloc [(.int .i64 0), .nilsl])), none⟩,
    ⟨none, (.w (.store 2 (.tmp 7) (.tmp 13))), none⟩])
  (.reg [⟨(some 14), (.p (.mov (.tmp 5))), none⟩,
    ⟨(some 15), (.p (.mov (.tmp 1))), none⟩,
    ⟨(some 16), (.r (.load (some 2) (.tmp 7))), none⟩,
    ⟨(some 17), (.r (.pcall (.tmp 15) [(.tmp 16)])), none⟩,
    ⟨(some 18), (.p (.lit 2 (.agg [(.int .i64 0), .nilsl]) 1 [(0, (.tmp 17))])), none⟩,
    ⟨(some 19), (.w (.append 2 32 (.tmp 14) (.tmp 18))), none⟩,
    ⟨(some 5), (.p (.mov (.tmp 19))), none⟩])))
  (.reg [⟨(some 20), (.p (.ibin .add (.tmp 10) (.cst (.int .i64 1)))), none⟩,
    ⟨(some 10), (.p (.mov (.tmp 20))), none⟩])))))))
  (.seq (.reg [⟨(some 21), (.p (.mov (.tmp 5))), none⟩,
    ⟨(some 4), (.p (.mov (.tmp 21))), none⟩])
  .ret))))
def f71 : VF := { body := b71, res := [(.tmp 4)] }
-- comptoir/state.element
def b72 : VC := (.seq (.reg [⟨(some 1), (.w (.box 2 (.tmp 0))), none⟩,
    ⟨(some 2), (.w (.alloc [(.int .i64 0), .nilsl])), none⟩])
  (.seq (.draw [(⟨(some 3), (.p (.fieldA 0 (.tmp 1))), none⟩, 0, 0),
    (⟨(some 4), (.r (.load none (.tmp 3))), none⟩, 0, 0),
    (⟨(some 5), (.p (.fieldA 1 (.tmp 1))), none⟩, 0, 0),
    (⟨(some 6), (.r (.load none (.tmp 5))), none⟩, 0, 0),
    (⟨(some 7), (.r (.pcall (.cst (.fn 67 [] [])) [(.tmp 6)])), none⟩, 0, 0),
    (⟨(some 8), (.p (.build [(.int .i64 0), .nilsl] [(0, 1, (.tmp 4)), (1, 1, (.tmp 7))])), none⟩, 0, 0),
    (⟨none, (.w (.store 2 (.tmp 2) (.tmp 8))), none⟩, 0, 0)])
  .ret))
def f72 : VF := { body := b72, res := [(.cell 2 (some 2))] }
-- comptoir/state.how
def b73 : VC := (.seq (.reg [⟨(some 2), (.p (.mov (.cst .nilfn))), none⟩])
  (.seq (.seq (.reg [⟨(some 3), (.p (.mov (.tmp 0))), none⟩])
  (.block 0 (.seq (.reg [⟨(some 5), (.p (.ibin .eql (.tmp 3) (.cst (.int .i64 1)))), none⟩,
    ⟨(some 4), (.p (.mov (.tmp 5))), none⟩])
  (.cond (.tmp 4) (.seq (.reg [⟨(some 2), (.p (.mov (.cst (.fn 87 [] [])))), none⟩])
  .ret)
  (.seq (.reg [⟨(some 7), (.p (.ibin .eql (.tmp 3) (.cst (.int .i64 2)))), none⟩,
    ⟨(some 6), (.p (.mov (.tmp 7))), none⟩])
  (.cond (.tmp 6) (.seq (.reg [⟨(some 2), (.p (.mov (.cst (.fn 88 [] [])))), none⟩])
  .ret)
  (.seq (.reg [⟨(some 9), (.p (.ibin .eql (.tmp 3) (.cst (.int .i64 3)))), none⟩,
    ⟨(some 8), (.p (.mov (.tmp 9))), none⟩])
  (.cond (.tmp 8) (.seq (.reg [⟨(some 2), (.p (.mov (.cst (.fn 89 [] [])))), none⟩])
  .ret)
  (.seq (.reg [⟨(some 11), (.p (.ibin .eql (.tmp 3) (.cst (.int .i64 4)))), none⟩,
    ⟨(some 10), (.p (.mov (.tmp 11))), none⟩])
  (.cond (.tmp 10) (.seq (.reg [⟨(some 2), (.p (.mov (.cst (.fn 90 [] [])))), none⟩])
  .ret)
  (.seq (.reg [⟨(some 13), (.p (.ibin .eql (.tmp 3) (.cst (.int .i64 5)))), none⟩,
    ⟨(some 12), (.p (.mov (.tmp 13))), none⟩])
  (.cond (.tmp 12) (.seq (.reg [⟨(some 2), (.p (.mov (.cst (.fn 91 [] [])))), none⟩])
  .ret)
  (.seq (.reg [⟨(some 15), (.p (.ibin .eql (.tmp 3) (.cst (.int .i64 6)))), none⟩,
    ⟨(some 14), (.p (.mov (.tmp 15))), none⟩])
  (.cond (.tmp 14) (.seq (.reg [⟨(some 2), (.p (.mov (.cst (.fn 92 [] [])))), none⟩])
  .ret)
  .skip))))))))))))))
  (.seq (.reg [⟨(some 2), (.p (.mov (.cst (.fn 93 [] [])))), none⟩])
  .ret)))
def f73 : VF := { body := b73, res := [(.tmp 2)] }
-- comptoir/comptoirhelp.Message
def b74 : VC := (.seq (.reg [⟨(some 2), (.w (.box 21 (.tmp 0))), none⟩,
    ⟨(some 3), (.w (.box 21 (.tmp 1))), none⟩,
    ⟨(some 4), (.p (.mov (.cst (.bool false)))), none⟩])
  (.seq (.reg [⟨(some 6), (.p (.fieldA 0 (.tmp 2))), none⟩,
    ⟨(some 7), (.r (.load none (.tmp 6))), none⟩,
    ⟨(some 8), (.p (.fieldA 0 (.tmp 3))), none⟩,
    ⟨(some 9), (.r (.load none (.tmp 8))), none⟩,
    ⟨(some 10), (.p (.ibin .eql (.tmp 7) (.tmp 9))), none⟩,
    ⟨(some 11), (.p (.mov (.tmp 10))), none⟩,
    ⟨(some 12), (.p (.fieldA 1 (.tmp 2))), (some (11, true))⟩,
    ⟨(some 13), (.r (.load none (.tmp 12))), (some (11, true))⟩,
    ⟨(some 14), (.p (.fieldA 1 (.tmp 3))), (some (11, true))⟩,
    ⟨(some 15), (.r (.load none (.tmp 14))), (some (11, true))⟩,
    ⟨(some 16), (.p (.ibin .eql (.tmp 13) (.tmp 15))), (some (11, true))⟩,
    ⟨(some 17), (.p (.pick (.tmp 11) (.tmp 16) (.cst (.bool false)))), none⟩,
    ⟨(some 18), (.p (.mov (.tmp 17))), none⟩,
    ⟨(some 19), (.p (.fieldA 2 (.tmp 2))), (some (18, true))⟩,
    ⟨(some 20), (.r (.load none (.tmp 19))), (some (18, true))⟩,
    ⟨(some 21), (.p (.fieldA 2 (.tmp 3))), (some (18, true))⟩,
    ⟨(some 22), (.r (.load none (.tmp 21))), (some (18, true))⟩,
    ⟨(some 23), (.p (.ibin .eql (.tmp 20) (.tmp 22))), (some (18, true))⟩,
    ⟨(some 24), (.p (.pick (.tmp 18) (.tmp 23) (.cst (.bool false)))), none⟩,
    ⟨(some 25), (.p (.mov (.tmp 24))), none⟩,
    ⟨(some 26), (.p (.fieldA 3 (.tmp 2))), (some (25, true))⟩,
    ⟨(some 27), (.r (.load none (.tmp 26))), (some (25, true))⟩,
    ⟨(some 28), (.p (.fieldA 3 (.tmp 3))), (some (25, true))⟩,
    ⟨(some 29), (.r (.load none (.tmp 28))), (some (25, true))⟩,
    ⟨(some 30), (.p (.ibin .eql (.tmp 27) (.tmp 29))), (some (25, true))⟩,
    ⟨(some 31), (.p (.pick (.tmp 25) (.tmp 30) (.cst (.bool false)))), none⟩,
    ⟨(some 32), (.p (.mov (.tmp 31))), none⟩,
    ⟨(some 33), (.p (.fieldA 4 (.tmp 2))), (some (32, true))⟩,
    ⟨(some 34), (.r (.load none (.tmp 33))), (some (32, true))⟩,
    ⟨(some 35), (.p (.fieldA 4 (.tmp 3))), (some (32, true))⟩,
    ⟨(some 36), (.r (.load none (.tmp 35))), (some (32, true))⟩,
    ⟨(some 37), (.p (.ibin .eql (.tmp 34) (.tmp 36))), (some (32, true))⟩,
    ⟨(some 38), (.p (.pick (.tmp 32) (.tmp 37) (.cst (.bool false)))), none⟩,
    ⟨(some 39), (.p (.mov (.tmp 38))), none⟩,
    ⟨(some 40), (.p (.fieldA 5 (.tmp 2))), (some (39, true))⟩,
    ⟨(some 41), (.r (.load none (.tmp 40))), (some (39, true))⟩,
    ⟨(some 42), (.p (.fieldA 5 (.tmp 3))), (some (39, true))⟩,
    ⟨(some 43), (.r (.load none (.tmp 42))), (some (39, true))⟩,
    ⟨(some 44), (.p (.ibin .eql (.tmp 41) (.tmp 43))), (some (39, true))⟩,
    ⟨(some 45), (.p (.pick (.tmp 39) (.tmp 44) (.cst (.bool false)))), none⟩,
    ⟨(some 46), (.p (.mov (.tmp 45))), none⟩,
    ⟨(some 47), (.p (.fieldA 6 (.tmp 2))), (some (46, true))⟩,
    ⟨(some 48), (.r (.load none (.tmp 47))), (some (46, true))⟩,
    ⟨(some 49), (.p (.fieldA 6 (.tmp 3))), (some (46, true))⟩,
    ⟨(some 50), (.r (.load none (.tmp 49))), (some (46, true))⟩,
    ⟨(some 51), (.p (.ibin .eql (.tmp 48) (.tmp 50))), (some (46, true))⟩,
    ⟨(some 52), (.p (.pick (.tmp 46) (.tmp 51) (.cst (.bool false)))), none⟩,
    ⟨(some 5), (.p (.mov (.tmp 52))), none⟩])
  (.seq (.reg [⟨(some 53), (.p (.mov (.tmp 5))), none⟩,
    ⟨(some 54), (.p (.mov (.tmp 53))), none⟩,
    ⟨(some 55), (.p (.fieldA 7 (.tmp 2))), (some (54, true))⟩,
    ⟨(some 56), (.r (.load none (.tmp 55))), (some (54, true))⟩,
    ⟨(some 57), (.p (.fieldA 7 (.tmp 3))), (some (54, true))⟩,
    ⟨(some 58), (.r (.load none (.tmp 57))), (some (54, true))⟩,
    ⟨(some 59), (.p (.ibin .eql (.tmp 56) (.tmp 58))), (some (54, true))⟩,
    ⟨(some 60), (.p (.pick (.tmp 54) (.tmp 59) (.cst (.bool false)))), none⟩,
    ⟨(some 61), (.p (.mov (.tmp 60))), none⟩,
    ⟨(some 62), (.p (.fieldA 8 (.tmp 2))), (some (61, true))⟩,
    ⟨(some 63), (.r (.load none (.tmp 62))), (some (61, true))⟩,
    ⟨(some 64), (.p (.fieldA 8 (.tmp 3))), (some (61, true))⟩,
    ⟨(some 65), (.r (.load none (.tmp 64))), (some (61, true))⟩,
    ⟨(some 66), (.p (.ibin .eql (.tmp 63) (.tmp 65))), (some (61, true))⟩,
    ⟨(some 67), (.p (.pick (.tmp 61) (.tmp 66) (.cst (.bool false)))), none⟩,
    ⟨(some 68), (.p (.mov (.tmp 67))), none⟩,
    ⟨(some 69), (.p (.fieldA 9 (.tmp 2))), (some (68, true))⟩,
    ⟨(some 70), (.r (.load none (.tmp 69))), (some (68, true))⟩,
    ⟨(some 71), (.p (.fieldA 9 (.tmp 3))), (some (68, true))⟩,
    ⟨(some 72), (.r (.load none (.tmp 71))), (some (68, true))⟩,
    ⟨(some 73), (.p (.ibin .eql (.tmp 70) (.tmp 72))), (some (68, true))⟩,
    ⟨(some 74), (.p (.pick (.tmp 68) (.tmp 73) (.cst (.bool false)))), none⟩,
    ⟨(some 75), (.p (.mov (.tmp 74))), none⟩,
    ⟨(some 76), (.p (.fieldA 10 (.tmp 2))), (some (75, true))⟩,
    ⟨(some 77), (.r (.load none (.tmp 76))), (some (75, true))⟩,
    ⟨(some 78), (.p (.fieldA 10 (.tmp 3))), (some (75, true))⟩,
    ⟨(some 79), (.r (.load none (.tmp 78))), (some (75, true))⟩,
    ⟨(some 80), (.p (.ibin .eql (.tmp 77) (.tmp 79))), (some (75, true))⟩,
    ⟨(some 81), (.p (.pick (.tmp 75) (.tmp 80) (.cst (.bool false)))), none⟩,
    ⟨(some 82), (.p (.mov (.tmp 81))), none⟩,
    ⟨(some 83), (.p (.fieldA 11 (.tmp 2))), (some (82, true))⟩,
    ⟨(some 84), (.r (.load none (.tmp 83))), (some (82, true))⟩,
    ⟨(some 85), (.p (.fieldA 11 (.tmp 3))), (some (82, true))⟩,
    ⟨(some 86), (.r (.load none (.tmp 85))), (some (82, true))⟩,
    ⟨(some 87), (.p (.ibin .eql (.tmp 84) (.tmp 86))), (some (82, true))⟩,
    ⟨(some 88), (.p (.pick (.tmp 82) (.tmp 87) (.cst (.bool false)))), none⟩,
    ⟨(some 89), (.p (.mov (.tmp 88))), none⟩,
    ⟨(some 90), (.p (.fieldA 12 (.tmp 2))), (some (89, true))⟩,
    ⟨(some 91), (.r (.load none (.tmp 90))), (some (89, true))⟩,
    ⟨(some 92), (.p (.fieldA 12 (.tmp 3))), (some (89, true))⟩,
    ⟨(some 93), (.r (.load none (.tmp 92))), (some (89, true))⟩,
    ⟨(some 94), (.p (.ibin .eql (.tmp 91) (.tmp 93))), (some (89, true))⟩,
    ⟨(some 95), (.p (.pick (.tmp 89) (.tmp 94) (.cst (.bool false)))), none⟩,
    ⟨(some 5), (.p (.mov (.tmp 95))), none⟩])
  (.seq (.reg [⟨(some 96), (.p (.mov (.tmp 5))), none⟩,
    ⟨(some 97), (.p (.mov (.tmp 96))), none⟩,
    ⟨(some 98), (.p (.fieldA 13 (.tmp 2))), (some (97, true))⟩,
    ⟨(some 99), (.r (.load none (.tmp 98))), (some (97, true))⟩,
    ⟨(some 100), (.p (.fieldA 13 (.tmp 3))), (some (97, true))⟩,
    ⟨(some 101), (.r (.load none (.tmp 100))), (some (97, true))⟩,
    ⟨(some 102), (.p (.ibin .eql (.tmp 99) (.tmp 101))), (some (97, true))⟩,
    ⟨(some 103), (.p (.pick (.tmp 97) (.tmp 102) (.cst (.bool false)))), none⟩,
    ⟨(some 104), (.p (.mov (.tmp 103))), none⟩,
    ⟨(some 105), (.p (.fieldA 14 (.tmp 2))), (some (104, true))⟩,
    ⟨(some 106), (.r (.load (some 2) (.tmp 105))), (some (104, true))⟩,
    ⟨(some 107), (.p (.fieldA 14 (.tmp 3))), (some (104, true))⟩,
    ⟨(some 108), (.r (.load (some 2) (.tmp 107))), (some (104, true))⟩,
    ⟨(some 109), (.p (.eqagg [1, 2] false (.tmp 106) (.tmp 108))), (some (104, true))⟩,
    ⟨(some 110), (.p (.pick (.tmp 104) (.tmp 109) (.cst (.bool false)))), none⟩,
    ⟨(some 111), (.p (.mov (.tmp 110))), none⟩,
    ⟨(some 112), (.p (.fieldA 17 (.tmp 2))), (some (111, true))⟩,
    ⟨(some 113), (.r (.load none (.tmp 112))), (some (111, true))⟩,
    ⟨(some 114), (.p (.fieldA 17 (.tmp 3))), (some (111, true))⟩,
    ⟨(some 115), (.r (.load none (.tmp 114))), (some (111, true))⟩,
    ⟨(some 116), (.p (.ibin .eql (.tmp 113) (.tmp 115))), (some (111, true))⟩,
    ⟨(some 117), (.p (.pick (.tmp 111) (.tmp 116) (.cst (.bool false)))), none⟩,
    ⟨(some 118), (.p (.mov (.tmp 117))), none⟩,
    ⟨(some 119), (.p (.fieldA 18 (.tmp 2))), (some (118, true))⟩,
    ⟨(some 120), (.r (.load none (.tmp 119))), (some (118, true))⟩,
    ⟨(some 121), (.p (.fieldA 18 (.tmp 3))), (some (118, true))⟩,
    ⟨(some 122), (.r (.load none (.tmp 121))), (some (118, true))⟩,
    ⟨(some 123), (.p (.ibin .eql (.tmp 120) (.tmp 122))), (some (118, true))⟩,
    ⟨(some 124), (.p (.pick (.tmp 118) (.tmp 123) (.cst (.bool false)))), none⟩,
    ⟨(some 5), (.p (.mov (.tmp 124))), none⟩])
  (.seq (.reg [⟨(some 125), (.p (.mov (.tmp 5))), none⟩,
    ⟨(some 126), (.p (.mov (.tmp 125))), none⟩,
    ⟨(some 127), (.p (.fieldA 16 (.tmp 2))), (some (126, true))⟩,
    ⟨(some 128), (.r (.load none (.tmp 127))), (some (126, true))⟩,
    ⟨(some 129), (.p (.fieldA 16 (.tmp 3))), (some (126, true))⟩,
    ⟨(some 130), (.r (.load none (.tmp 129))), (some (126, true))⟩,
    ⟨(some 131), (.r (.pcall (.cst (.fn 39 [] [])) [(.tmp 128), (.tmp 130), (.cst (.fn 40 [] []))])), (some (126, true))⟩,
    ⟨(some 132), (.p (.pick (.tmp 126) (.tmp 131) (.cst (.bool false)))), none⟩,
    ⟨(some 133), (.p (.mov (.tmp 132))), none⟩,
    ⟨(some 134), (.p (.fieldA 19 (.tmp 2))), (some (133, true))⟩,
    ⟨(some 135), (.r (.load none (.tmp 134))), (some (133, true))⟩,
    ⟨(some 136), (.p (.fieldA 19 (.tmp 3))), (some (133, true))⟩,
    ⟨(some 137), (.r (.load none (.tmp 136))), (some (133, true))⟩,
    ⟨(some 138), (.r (.pcall (.cst (.fn 94 [] [])) [(.tmp 135), (.tmp 137)])), (some (133, true))⟩,
    ⟨(some 139), (.p (.pick (.tmp 133) (.tmp 138) (.cst (.bool false)))), none⟩,
    ⟨(some 140), (.p (.mov (.tmp 139))), none⟩,
    ⟨(some 141), (.p (.fieldA 20 (.tmp 2))), (some (140, true))⟩,
    ⟨(some 142), (.r (.load none (.tmp 141))), (some (140, true))⟩,
    ⟨(some 143), (.p (.fieldA 20 (.tmp 3))), (some (140, true))⟩,
    ⟨(some 144), (.r (.load none (.tmp 143))), (some (140, true))⟩,
    ⟨(some 145), (.r (.pcall (.cst (.fn 95 [] [])) [(.tmp 142), (.tmp 144), (.cst (.fn 96 [] []))])), (some (140, true))⟩,
    ⟨(some 146), (.p (.pick (.tmp 140) (.tmp 145) (.cst (.bool false)))), none⟩,
    ⟨(some 4), (.p (.mov (.tmp 146))), none⟩])
  .ret)))))
def f74 : VF := { body := b74, res := [(.tmp 4)] }
-- comptoir/comptoirhelp.Residue
def b75 : VC := (.seq (.reg [⟨(some 2), (.w (.box 5 (.tmp 0))), none⟩,
    ⟨(some 3), (.w (.box 5 (.tmp 1))), none⟩,
    ⟨(some 4), (.p (.mov (.cst (.bool false)))), none⟩])
  (.seq (.reg [⟨(some 5), (.p (.fieldA 0 (.tmp 2))), none⟩,
    ⟨(some 6), (.r (.load none (.tmp 5))), none⟩,
    ⟨(some 7), (.p (.fieldA 0 (.tmp 3))), none⟩,
    ⟨(some 8), (.r (.load none (.tmp 7))), none⟩,
    ⟨(some 9), (.p (.ibin .eql (.tmp 6) (.tmp 8))), none⟩,
    ⟨(some 10), (.p (.mov (.tmp 9))), none⟩,
    ⟨(some 11), (.p (.fieldA 1 (.tmp 2))), (some (10, true))⟩,
    ⟨(some 12), (.r (.load none (.tmp 11))), (some (10, true))⟩,
    ⟨(some 13), (.p (.fieldA 1 (.tmp 3))), (some (10, true))⟩,
    ⟨(some 14), (.r (.load none (.tmp 13))), (some (10, true))⟩,
    ⟨(some 15), (.p (.ibin .eql (.tmp 12) (.tmp 14))), (some (10, true))⟩,
    ⟨(some 16), (.p (.pick (.tmp 10) (.tmp 15) (.cst (.bool false)))), none⟩,
    ⟨(some 17), (.p (.mov (.tmp 16))), none⟩,
    ⟨(some 18), (.p (.fieldA 2 (.tmp 2))), (some (17, true))⟩,
    ⟨(some 19), (.r (.load none (.tmp 18))), (some (17, true))⟩,
    ⟨(some 20), (.p (.fieldA 2 (.tmp 3))), (some (17, true))⟩,
    ⟨(some 21), (.r (.load none (.tmp 20))), (some (17, true))⟩,
    ⟨(some 22), (.p (.ibin .eql (.tmp 19) (.tmp 21))), (some (17, true))⟩,
    ⟨(some 23), (.p (.pick (.tmp 17) (.tmp 22) (.cst (.bool false)))), none⟩,
    ⟨(some 24), (.p (.mov (.tmp 23))), none⟩,
    ⟨(some 25), (.p (.fieldA 3 (.tmp 2))), (some (24, true))⟩,
    ⟨(some 26), (.r (.load none (.tmp 25))), (some (24, true))⟩,
    ⟨(some 27), (.p (.fieldA 3 (.tmp 3))), (some (24, true))⟩,
    ⟨(some 28), (.r (.load none (.tmp 27))), (some (24, true))⟩,
    ⟨(some 29), (.r (.pcall (.cst (.fn 94 [] [])) [(.tmp 26), (.tmp 28)])), (some (24, true))⟩,
    ⟨(some 30), (.p (.pick (.tmp 24) (.tmp 29) (.cst (.bool false)))), none⟩,
    ⟨(some 31), (.p (.mov (.tmp 30))), none⟩,
    ⟨(some 32), (.p (.fieldA 4 (.tmp 2))), (some (31, true))⟩,
    ⟨(some 33), (.r (.load none (.tmp 32))), (some (31, true))⟩,
    ⟨(some 34), (.p (.fieldA 4 (.tmp 3))), (some (31, true))⟩,
    ⟨(some 35), (.r (.load none (.tmp 34))), (some (31, true))⟩,
    ⟨(some 36), (.r (.pcall (.cst (.fn 95 [] [])) [(.tmp 33), (.tmp 35), (.cst (.fn 96 [] []))])), (some (31, true))⟩,
    ⟨(some 37), (.p (.pick (.tmp 31) (.tmp 36) (.cst (.bool false)))), none⟩,
    ⟨(some 4), (.p (.mov (.tmp 37))), none⟩])
  .ret))
def f75 : VF := { body := b75, res := [(.tmp 4)] }
-- (*comptoir/cursor.Cursor).Number
def b76 : VC := (.seq (.reg [⟨(some 4), (.p (.mov (.cst (.int .u64 0)))), none⟩,
    ⟨(some 5), (.p (.mov (.cst (.int .i64 0)))), none⟩])
  (.seq (.block 0 (.seq (.reg [⟨(some 12), (.p (.mov (.tmp 0))), none⟩,
    ⟨(some 13), (.p (.nileq 0 false (.tmp 12) (.cst .nilp))), none⟩,
    ⟨(some 11), (.p (.mov (.tmp 13))), none⟩])
  (.cond (.tmp 11) (.seq (.reg [⟨(some 4), (.p (.mov (.cst (.int .u64 0)))), none⟩,
    ⟨(some 5), (.p (.mov (.cst (.int .i64 2)))), none⟩])
  .ret)
  (.seq (.reg [⟨(some 15), (.p (.mov (.tmp 1))), none⟩,
    ⟨(some 16), (.p (.ibin .lss (.tmp 15) (.cst (.int .i64 1)))), none⟩,
    ⟨(some 17), (.p (.mov (.tmp 16))), none⟩,
    ⟨(some 18), (.p (.mov (.tmp 1))), (some (17, false))⟩,
    ⟨(some 19), (.p (.ibin .gtr (.tmp 18) (.cst (.int .i64 8)))), (some (17, false))⟩,
    ⟨(some 20), (.p (.pick (.tmp 17) (.cst (.bool true)) (.tmp 19))), none⟩,
    ⟨(some 14), (.p (.mov (.tmp 20))), none⟩])
  (.cond (.tmp 14) (.seq (.reg [⟨(some 4), (.p (.mov (.cst (.int .u64 0)))), none⟩,
    ⟨(some 5), (.p (.mov (.cst (.int .i64 1)))), none⟩])
  .ret)
  .skip)))))
  (.seq (.reg [⟨(some 22), (.p (.mov (.tmp 0))), none⟩,
    ⟨(some 23), (.p (.mkfn 98 [(.tmp 22)] [])), none⟩,
    ⟨(some 24), (.p (.mov (.tmp 1))), none⟩,
    ⟨(some 25), (.w (.call (.cst (.fn 97 [] [])) [(.tmp 23), (.tmp 24)])), none⟩,
    ⟨(some 21), (.p (.mov (.tmp 25))), none⟩,
    ⟨(some 26), (.p (.ext (.tmp 21) 0)), none⟩,
    ⟨(some 27), (.p (.ext (.tmp 21) 1)), none⟩,
    ⟨(some 6), (.p (.mov (.tmp 26))), none⟩,
    ⟨(some 7), (.p (.mov (.tmp 27))), none⟩])
  (.seq (.reg [⟨(some 8), (.p (.mov (.cst (.int .u64 0)))), none⟩])
  (.seq (.seq (.reg [⟨(some 28), (.p (.mov (.tmp 6))), none⟩,
    ⟨(some 29), (.p (.len (.tmp 28))), none⟩,
    ⟨(some 30), (.p (.mov (.cst (.int .i64 0)))), none⟩])
  (.block 1 (.loop (.seq (.reg [⟨(some 31), (.p (.ibin .lss (.tmp 30) (.tmp 29))), none⟩])
  (.seq (.cond (.tmp 31) .skip
  (.exit 1))
  (.seq (.block 2 (.seq (.reg [⟨(some 32), (.p (.idxA 1 (.tmp 28) (.tmp 30))), none⟩,
    ⟨(some 33), (.r (.load none (.tmp 32))), none⟩,
    ⟨(some 10), (.p (.mov (.tmp 33))), none⟩])
  (.reg [⟨(some 34), (.p (.mov (.tmp 8))), none⟩,
    ⟨(some 35), (.p (.ibin .shl (.tmp 34) (.cst (.int .u64 8)))), none⟩,
    ⟨(some 36), (.p (.mov (.tmp 10))), none⟩,
    ⟨(some 37), (.p (.conv (.toInt .u64) (.tmp 36))), none⟩,
    ⟨(some 38), (.p (.ibin .or (.tmp 35) (.tmp 37))), none⟩,
    ⟨(some 8), (.p (.mov (.tmp 38))), none⟩])))
  (.reg [⟨(some 39), (.p (.ibin .add (.tmp 30) (.cst (.int .i64 1)))), none⟩,
    ⟨(some 30), (.p (.mov (.tmp 39))), none⟩])))))))
  (.seq (.reg [⟨(some 40), (.p (.mov (.tmp 8))), none⟩,
    ⟨(some 41), (.p (.mov (.tmp 7))), none⟩,
    ⟨(some 4), (.p (.mov (.tmp 40))), none⟩,
    ⟨(some 5), (.p (.mov (.tmp 41))), none⟩])
  .ret))))))
def f76 : VF := { body := b76, res := [(.tmp 4), (.tmp 5)] }
-- (*comptoir/cursor.Cursor).Take
def b77 : VC := (.seq (.reg [⟨(some 4), (.p (.mov (.cst .nilsl))), none⟩,
    ⟨(some 5), (.p (.mov (.cst (.int .i64 0)))), none⟩])
  (.seq (.seq (.reg [⟨(some 8), (.p (.mov (.tmp 0))), none⟩,
    ⟨(some 9), (.p (.nileq 0 false (.tmp 8) (.cst .nilp))), none⟩])
  (.cond (.tmp 9) (.seq (.reg [⟨(some 4), (.p (.mov (.cst .nilsl))), none⟩,
    ⟨(some 5), (.p (.mov (.cst (.int .i64 2)))), none⟩])
  .ret)
  .skip))
  (.seq (.reg [⟨(some 11), (.p (.mov (.tmp 0))), none⟩,
    ⟨(some 12), (.p (.mkfn 98 [(.tmp 11)] [])), none⟩,
    ⟨(some 13), (.p (.mov (.tmp 1))), none⟩,
    ⟨(some 14), (.w (.call (.cst (.fn 97 [] [])) [(.tmp 12), (.tmp 13)])), none⟩,
    ⟨(some 10), (.p (.mov (.tmp 14))), none⟩,
    ⟨(some 15), (.p (.ext (.tmp 10) 0)), none⟩,
    ⟨(some 16), (.p (.ext (.tmp 10) 1)), none⟩,
    ⟨(some 6), (.p (.mov (.tmp 15))), none⟩,
    ⟨(some 7), (.p (.mov (.tmp 16))), none⟩])
  (.seq (.reg [⟨(some 17), (.p (.mov (.tmp 6))), none⟩,
    ⟨(some 18), (.r (.pcall (.cst (.fn 67 [] [])) [(.tmp 17)])), none⟩,
    ⟨(some 19), (.p (.mov (.tmp 7))), none⟩,
    ⟨(some 4), (.p (.mov (.tmp 18))), none⟩,
    ⟨(some 5), (.p (.mov (.tmp 19))), none⟩])
  .ret))))
def f77 : VF := { body := b77, res := [(.tmp 4), (.tmp 5)] }
-- (*comptoir/cursor.Cursor).At
def b78 : VC := (.seq (.reg [⟨(some 2), (.p (.mov (.cst (.int .i64 0)))), none⟩])
  (.seq (.seq (.reg [⟨(some 3), (.p (.mov (.tmp 0))), none⟩,
    ⟨(some 4), (.p (.nileq 0 false (.tmp 3) (.cst .nilp))), none⟩])
  (.cond (.tmp 4) (.seq (.reg [⟨(some 2), (.p (.mov (.cst (.int .i64 0)))), none⟩])
  .ret)
  .skip))
  (.seq (.reg [⟨(some 5), (.p (.mov (.tmp 0))), none⟩,
    ⟨(some 6), (.p (.nilck (.tmp 5))), none⟩,
    ⟨(some 7), (.p (.fieldA 1 (.tmp 6))), none⟩,
    ⟨(some 8), (.r (.load none (.tmp 7))), none⟩,
    ⟨(some 2), (.p (.mov (.tmp 8))), none⟩])
  .ret)))
def f78 : VF := { body := b78, res := [(.tmp 2)] }
-- comptoir/comptoirref07.tagged
def b79 : VC := (.seq (.reg [⟨(some 2), (.p (.mov (.cst (.int .i64 0)))), none⟩])
  (.seq (.block 0 (.seq (.reg [⟨(some 4), (.p (.mov (.tmp 0))), none⟩,
    ⟨(some 5), (.p (.ibin .gtr (.tmp 4) (.cst (.int .i64 0)))), none⟩,
    ⟨(some 6), (.p (.mov (.tmp 5))), none⟩,
    ⟨(some 7), (.p (.mov (.tmp 0))), (some (6, true))⟩,
    ⟨(some 8), (.p (.ibin .lss (.tmp 7) (.cst (.int .i64 255)))), (some (6, true))⟩,
    ⟨(some 9), (.p (.pick (.tmp 6) (.tmp 8) (.cst (.bool false)))), none⟩,
    ⟨(some 10), (.p (.mov (.tmp 9))), none⟩,
    ⟨(some 11), (.p (.mov (.tmp 0))), (some (10, true))⟩,
    ⟨(some 12), (.p (.ibin .and (.tmp 11) (.cst (.int .i64 31)))), (some (10, true))⟩,
    ⟨(some 13), (.p (.ibin .neq (.tmp 12) (.cst (.int .i64 31)))), (some (10, true))⟩,
    ⟨(some 14), (.p (.pick (.tmp 10) (.tmp 13) (.cst (.bool false)))), none⟩,
    ⟨(some 3), (.p (.mov (.tmp 14))), none⟩])
  (.cond (.tmp 3) (.seq (.reg [⟨(some 2), (.p (.mov (.cst (.int .i64 1)))), none⟩])
  .ret)
  (.seq (.reg [⟨(some 16), (.p (.mov (.tmp 0))), none⟩,
    ⟨(some 17), (.p (.ibin .gtr (.tmp 16) (.cst (.int .i64 255)))), none⟩,
    ⟨(some 18), (.p (.mov (.tmp 17))), none⟩,
    ⟨(some 19), (.p (.mov (.tmp 0))), (some (18, true))⟩,
    ⟨(some 20), (.p (.ibin .shr (.tmp 19) (.cst (.int .u64 8)))), (some (18, true))⟩,
    ⟨(some 21), (.p (.ibin .lss (.tmp 20) (.cst (.int .i64 255)))), (some (18, true))⟩,
    ⟨(some 22), (.p (.pick (.tmp 18) (.tmp 21) (.cst (.bool false)))), none⟩,
    ⟨(some 23), (.p (.mov (.tmp 22))), none⟩,
    ⟨(some 24), (.p (.mov (.tmp 0))), (some (23, true))⟩,
    ⟨(some 25), (.p (.ibin .shr (.tmp 24) (.cst (.int .u64 8)))), (some (23, true))⟩,
    ⟨(some 26), (.p (.ibin .and (.tmp 25) (.cst (.int .i64 31)))), (some (23, true))⟩,
    ⟨(some 27), (.p (.ibin .eql (.tmp 26) (.cst (.int .i64 31)))), (some (23, true))⟩,
    ⟨(some 28), (.p (.pick (.tmp 23) (.tmp 27) (.cst (.bool false)))), none⟩,
    ⟨(some 29), (.p (.mov (.tmp 28))), none⟩,
    ⟨(some 30), (.p (.mov (.tmp 0))), (some (29, true))⟩,
    ⟨(some 31), (.p (.ibin .and (.tmp 30) (.cst (.int .i64 255)))), (some (29, true))⟩,
    ⟨(some 32), (.p (.ibin .lss (.tmp 31) (.cst (.int .i64 128)))), (some (29, true))⟩,
    ⟨(some 33), (.p (.pick (.tmp 29) (.tmp 32) (.cst (.bool false)))), none⟩,
    ⟨(some 15), (.p (.mov (.tmp 33))), none⟩])
  (.cond (.tmp 15) (.seq (.reg [⟨(some 2), (.p (.mov (.cst (.int .i64 2)))), none⟩])
  .ret)
  .skip)))))
  (.seq (.reg [⟨(some 2), (.p (.mov (.cst (.int .i64 0)))), none⟩])
  .ret)))
def f79 : VF := { body := b79, res := [(.tmp 2)] }
-- comptoir/comptoirref07.known
def b80 : VC := (.seq (.reg [⟨(some 4), (.p (.mov (.cst (.bool false)))), none⟩])
  (.seq (.seq (.reg [⟨(some 5), (.p (.mov (.cst (.int .i64 0)))), none⟩])
  (.block 0 (.loop (.seq (.seq (.reg [⟨(some 6), (.p (.mov (.tmp 5))), none⟩,
    ⟨(some 7), (.p (.mov (.tmp 0))), none⟩,
    ⟨(some 8), (.p (.len (.tmp 7))), none⟩,
    ⟨(some 9), (.p (.ibin .lss (.tmp 6) (.tmp 8))), none⟩])
  (.cond (.tmp 9) .skip
  (.exit 0)))
  (.seq (.block 1 (.seq (.reg [⟨(some 12), (.p (.mov (.tmp 0))), none⟩,
    ⟨(some 13), (.p (.mov (.tmp 5))), none⟩,
    ⟨(some 14), (.p (.idxA 2 (.tmp 12) (.tmp 13))), none⟩,
    ⟨(some 15), (.p (.fieldA 0 (.tmp 14))), none⟩,
    ⟨(some 16), (.r (.load none (.tmp 15))), none⟩,
    ⟨(some 17), (.p (.mov (.tmp 1))), none⟩,
    ⟨(some 18), (.p (.ibin .eql (.tmp 16) (.tmp 17))), none⟩])
  (.cond (.tmp 18) (.seq (.reg [⟨(some 4), (.p (.mov (.cst (.bool true)))), none⟩])
  .ret)
  .skip)))
  (.reg [⟨(some 10), (.p (.mov (.tmp 5))), none⟩,
    ⟨(some 11), (.p (.ibin .add (.tmp 10) (.cst (.int .i64 1)))), none⟩,
    ⟨(some 5), (.p (.mov (.tmp 11))), none⟩]))))))
  (.seq (.reg [⟨(some 4), (.p (.mov (.cst (.bool false)))), none⟩])
  .ret)))
def f80 : VF := { body := b80, res := [(.tmp 4)] }
-- comptoir/comptoirref01.Put
def b81 : VC := (.seq (.reg [⟨(some 6), (.p (.mov (.cst .nilsl))), none⟩])
  (.seq (.reg [⟨(some 9), (.p (.mov (.tmp 0))), none⟩,
    ⟨(some 10), (.w (.append 1 1 (.cst .nilsl) (.tmp 9))), none⟩,
    ⟨(some 7), (.p (.mov (.tmp 10))), none⟩])
  (.seq (.seq (.reg [⟨(some 11), (.p (.mov (.tmp 2))), none⟩,
    ⟨(some 12), (.p (.mm false (.tmp 11) (.cst (.int .i64 8)))), none⟩,
    ⟨(some 13), (.p (.mm true (.cst (.int .i64 0)) (.tmp 12))), none⟩,
    ⟨(some 14), (.p (.ibin .sub (.tmp 13) (.cst (.int .i64 1)))), none⟩,
    ⟨(some 8), (.p (.mov (.tmp 14))), none⟩])
  (.block 0 (.loop (.seq (.seq (.reg [⟨(some 15), (.p (.mov (.tmp 8))), none⟩,
    ⟨(some 16), (.p (.ibin .geq (.tmp 15) (.cst (.int .i64 0)))), none⟩])
  (.cond (.tmp 16) .skip
  (.exit 0)))
  (.seq (.block 1 (.reg [⟨(some 19), (.p (.mov (.tmp 7))), none⟩,
    ⟨(some 20), (.p (.mov (.tmp 1))), none⟩,
    ⟨(some 21), (.p (.mov (.tmp 8))), none⟩,
    ⟨(some 22), (.p (.ibin .mul (.cst (.int .i64 8)) (.tmp 21))), none⟩,
    ⟨(some 23), (.p (.conv (.toInt .u64) (.tmp 22))), none⟩,
    ⟨(some 24), (.p (.ibin .shr (.tmp 20) (.tmp 23))), none⟩,
    ⟨(some 25), (.p (.conv (.toInt .u8) (.tmp 24))), none⟩,
    ⟨(some 26), (.p (.lit 1 (.int .u8 0) 1 [(0, (.tmp 25))])), none⟩,
    ⟨(some 27), (.w (.append 1 1 (.tmp 19) (.tmp 26))), none⟩,
    ⟨(some 7), (.p (.mov (.tmp 27))), none⟩]))
  (.reg [⟨(some 17), (.p (.mov (.tmp 8))), none⟩,
    ⟨(some 18), (.p (.ibin .sub (.tmp 17) (.cst (.int .i64 1)))), none⟩,
    ⟨(some 8), (.p (.mov (.tmp 18))), none⟩]))))))
  (.seq (.reg [⟨(some 28), (.p (.mov (.tmp 7))), none⟩,
    ⟨(some 6), (.p (.mov (.tmp 28))), none⟩])
  .ret))))
def f81 : VF := { body := b81, res := [(.tmp 6)] }
-- comptoir/tlv.more
def b82 : VC := (.seq (.reg [⟨(some 2), (.p (.mov (.cst (.bool false)))), none⟩])
  (.seq (.reg [⟨(some 3), (.p (.mov (.tmp 0))), none⟩,
    ⟨(some 4), (.p (.ibin .and (.tmp 3) (.cst (.int .i64 31)))), none⟩,
    ⟨(some 5), (.p (.ibin .eql (.tmp 4) (.cst (.int .i64 31)))), none⟩,
    ⟨(some 6), (.p (.mov (.tmp 5))), none⟩,
    ⟨(some 7), (.p (.mov (.tmp 0))), (some (6, true))⟩,
    ⟨(some 8), (.p (.ibin .neq (.tmp 7) (.cst (.int .i64 255)))), (some (6, true))⟩,
    ⟨(some 9), (.p (.pick (.tmp 6) (.tmp 8) (.cst (.bool false)))), none⟩,
    ⟨(some 2), (.p (.mov (.tmp 9))), none⟩])
  .ret))
def f82 : VF := { body := b82, res := [(.tmp 2)] }
-- slices.ContainsFunc[[]comptoir/api.Tag,comptoir/api.Tag]
def b83 : VC := (.seq (.reg [⟨(some 4), (.p (.mov (.cst (.bool false)))), none⟩])
  (.seq (.reg [⟨(some 5), (.p (.mov (.tmp 0))), none⟩,
    ⟨(some 6), (.p (.mov (.tmp 1))), none⟩,
    ⟨(some 7), (.r (.pcall (.cst (.fn 99 [] [])) [(.tmp 5), (.tmp 6)])), none⟩,
    ⟨(some 8), (.p (.ibin .geq (.tmp 7) (.cst (.int .i64 0)))), none⟩,
    ⟨(some 4), (.p (.mov (.tmp 8))), none⟩])
  .ret))
def f83 : VF := { body := b83, res := [(.tmp 4)] }
-- comptoir/tlv.there$1
def b84 : VC := (.seq (.reg [⟨(some 2), (.w (.box 2 (.tmp 0))), none⟩,
    ⟨(some 3), (.p (.mov (.cst (.bool false)))), none⟩])
  (.seq (.reg [⟨(some 4), (.p (.fieldA 0 (.tmp 2))), none⟩,
    ⟨(some 5), (.r (.load none (.tmp 4))), none⟩,
    ⟨(some 6), (.r (.load none (.tmp 1))), none⟩,
    ⟨(some 7), (.p (.ibin .eql (.tmp 5) (.tmp 6))), none⟩,
    ⟨(some 3), (.p (.mov (.tmp 7))), none⟩])
  .ret))
def f84 : VF := { body := b84, res := [(.tmp 3)] }
-- (*comptoir/tlv.walk).tag
def b85 : VC := (.seq (.reg [⟨(some 2), (.p (.mov (.cst (.int .i64 0)))), none⟩,
    ⟨(some 3), (.p (.mov (.cst (.int .i64 0)))), none⟩])
  (.seq (.reg [⟨(some 8), (.p (.mov (.tmp 0))), none⟩,
    ⟨(some 9), (.p (.nilck (.tmp 8))), none⟩,
    ⟨(some 10), (.p (.fieldA 0 (.tmp 9))), none⟩,
    ⟨(some 11), (.r (.load none (.tmp 10))), none⟩,
    ⟨(some 12), (.w (.call (.cst (.fn 76 [] [])) [(.tmp 11), (.cst (.int .i64 1))])), none⟩,
    ⟨(some 7), (.p (.mov (.tmp 12))), none⟩,
    ⟨(some 13), (.p (.ext (.tmp 7) 0)), none⟩,
    ⟨(some 14), (.p (.ext (.tmp 7) 1)), none⟩,
    ⟨(some 4), (.p (.mov (.tmp 13))), none⟩,
    ⟨(some 5), (.p (.mov (.tmp 14))), none⟩])
  (.seq (.seq (.reg [⟨(some 15), (.p (.mov (.tmp 5))), none⟩,
    ⟨(some 16), (.p (.ibin .neq (.tmp 15) (.cst (.int .i64 0)))), none⟩])
  (.cond (.tmp 16) (.seq (.reg [⟨(some 17), (.p (.mov (.tmp 5))), none⟩,
    ⟨(some 2), (.p (.mov (.cst (.int .i64 0)))), none⟩,
    ⟨(some 3), (.p (.mov (.tmp 17))), none⟩])
  .ret)
  .skip))
  (.seq (.reg [⟨(some 18), (.p (.mov (.tmp 4))), none⟩,
    ⟨(some 19), (.p (.conv (.toInt .i64) (.tmp 18))), none⟩,
    ⟨(some 6), (.p (.mov (.tmp 19))), none⟩])
  (.seq (.seq (.reg [⟨(some 20), (.p (.mov (.tmp 6))), none⟩,
    ⟨(some 21), (.r (.pcall (.cst (.fn 82 [] [])) [(.tmp 20)])), none⟩])
  (.cond (.tmp 21) (.seq (.reg [⟨(some 23), (.p (.mov (.tmp 0))), none⟩,
    ⟨(some 24), (.p (.nilck (.tmp 23))), none⟩,
    ⟨(some 25), (.p (.fieldA 0 (.tmp 24))), none⟩,
    ⟨(some 26), (.r (.load none (.tmp 25))), none⟩,
    ⟨(some 27), (.w (.call (.cst (.fn 76 [] [])) [(.tmp 26), (.cst (.int .i64 1))])), none⟩,
    ⟨(some 22), (.p (.mov (.tmp 27))), none⟩,
    ⟨(some 28), (.p (.ext (.tmp 22) 0)), none⟩,
    ⟨(some 29), (.p (.ext (.tmp 22) 1)), none⟩,
    ⟨(some 4), (.p (.mov (.tmp 28))), none⟩,
    ⟨(some 5), (.p (.mov (.tmp 29))), none⟩])
  (.seq (.seq (.reg [⟨(some 30), (.p (.mov (.tmp 5))), none⟩,
    ⟨(some 31), (.p (.ibin .neq (.tmp 30) (.cst (.int .i64 0)))), none⟩])
  (.cond (.tmp 31) (.seq (.reg [⟨(some 32), (.p (.mov (.tmp 5))), none⟩,
    ⟨(some 2), (.p (.mov (.cst (.int .i64 0)))), none⟩,
    ⟨(some 3), (.p (.mov (.tmp 32))), none⟩])
  .ret)
  .skip))
  (.reg [⟨(some 33), (.p (.mov (.tmp 6))), none⟩,
    ⟨(some 34), (.p (.ibin .shl (.tmp 33) (.cst (.int .u64 8)))), none⟩,
    ⟨(some 35), (.p (.mov (.tmp 4))), none⟩,
    ⟨(some 36), (.p (.conv (.toInt .i64) (.tmp 35))), none⟩,
    ⟨(some 37), (.p (.ibin .or (.tmp 34) (.tmp 36))), none⟩,
    ⟨(some 6), (.p (.mov (.tmp 37))), none⟩])))
  .skip))
  (.seq (.seq (.reg [⟨(some 38), (.p (.mov (.tmp 6))), none⟩,
    ⟨(some 39), (.r (.pcall (.cst (.fn 59 [] [])) [(.tmp 38)])), none⟩,
    ⟨(some 40), (.p (.un .not (.tmp 39))), none⟩,
    ⟨(some 41), (.p (.mov (.tmp 40))), none⟩,
    ⟨(some 42), (.p (.mov (.tmp 0))), (some (41, false))⟩,
    ⟨(some 43), (.p (.nilck (.tmp 42))), (some (41, false))⟩,
    ⟨(some 44), (.p (.fieldA 1 (.tmp 43))), (some (41, false))⟩,
    ⟨(some 45), (.r (.load none (.tmp 44))), (some (41, false))⟩,
    ⟨(some 46), (.p (.mov (.tmp 6))), (some (41, false))⟩,
    ⟨(some 47), (.r (.pcall (.cst (.fn 60 [] [])) [(.tmp 45), (.tmp 46)])), (some (41, false))⟩,
    ⟨(some 48), (.p (.pick (.tmp 41) (.cst (.bool true)) (.tmp 47))), none⟩])
  (.cond (.tmp 48) (.seq (.reg [⟨(some 2), (.p (.mov (.cst (.int .i64 0)))), none⟩,
    ⟨(some 3), (.p (.mov (.cst (.int .i64 18)))), none⟩])
  .ret)
  .skip))
  (.seq (.reg [⟨(some 49), (.p (.mov (.tmp 6))), none⟩,
    ⟨(some 2), (.p (.mov (.tmp 49))), none⟩,
    ⟨(some 3), (.p (.mov (.cst (.int .i64 0)))), none⟩])
  .ret)))))))
def f85 : VF := { body := b85, res := [(.tmp 2), (.tmp 3)] }
-- (*comptoir/tlv.walk).size
def b86 : VC := (.seq (.reg [⟨(some 2), (.p (.mov (.cst (.int .i64 0)))), none⟩,
    ⟨(some 3), (.p (.mov (.cst (.int .i64 0)))), none⟩])
  (.seq (.reg [⟨(some 7), (.p (.mov (.tmp 0))), none⟩,
    ⟨(some 8), (.p (.nilck (.tmp 7))), none⟩,
    ⟨(some 9), (.p (.fieldA 0 (.tmp 8))), none⟩,
    ⟨(some 10), (.r (.load none (.tmp 9))), none⟩,
    ⟨(some 11), (.w (.call (.cst (.fn 76 [] [])) [(.tmp 10), (.cst (.int .i64 1))])), none⟩,
    ⟨(some 6), (.p (.mov (.tmp 11))), none⟩,
    ⟨(some 12), (.p (.ext (.tmp 6) 0)), none⟩,
    ⟨(some 13), (.p (.ext (.tmp 6) 1)), none⟩,
    ⟨(some 4), (.p (.mov (.tmp 12))), none⟩,
    ⟨(some 5), (.p (.mov (.tmp 13))), none⟩])
  (.seq (.block 0 (.seq (.reg [⟨(some 15), (.p (.mov (.tmp 5))), none⟩,
    ⟨(some 16), (.p (.ibin .neq (.tmp 15) (.cst (.int .i64 0)))), none⟩,
    ⟨(some 14), (.p (.mov (.tmp 16))), none⟩])
  (.cond (.tmp 14) (.seq (.reg [⟨(some 17), (.p (.mov (.tmp 5))), none⟩,
    ⟨(some 2), (.p (.mov (.cst (.int .i64 0)))), none⟩,
    ⟨(some 3), (.p (.mov (.tmp 17))), none⟩])
  .ret)
  (.seq (.reg [⟨(some 19), (.p (.mov (.tmp 4))), none⟩,
    ⟨(some 20), (.p (.ibin .lss (.tmp 19) (.cst (.int .u64 128)))), none⟩,
    ⟨(some 18), (.p (.mov (.tmp 20))), none⟩])
  (.cond (.tmp 18) (.seq (.reg [⟨(some 21), (.p (.mov (.tmp 4))), none⟩,
    ⟨(some 22), (.p (.conv (.toInt .i64) (.tmp 21))), none⟩,
    ⟨(some 2), (.p (.mov (.tmp 22))), none⟩,
    ⟨(some 3), (.p (.mov (.cst (.int .i64 0)))), none⟩])
  .ret)
  (.seq (.reg [⟨(some 24), (.p (.mov (.tmp 4))), none⟩,
    ⟨(some 25), (.p (.ibin .neq (.tmp 24) (.cst (.int .u64 129)))), none⟩,
    ⟨(some 23), (.p (.mov (.tmp 25))), none⟩])
  (.cond (.tmp 23) (.seq (.reg [⟨(some 2), (.p (.mov (.cst (.int .i64 0)))), none⟩,
    ⟨(some 3), (.p (.mov (.cst (.int .i64 17)))), none⟩])
  .ret)
  .skip)))))))
  (.seq (.reg [⟨(some 27), (.p (.mov (.tmp 0))), none⟩,
    ⟨(some 28), (.p (.nilck (.tmp 27))), none⟩,
    ⟨(some 29), (.p (.fieldA 0 (.tmp 28))), none⟩,
    ⟨(some 30), (.r (.load none (.tmp 29))), none⟩,
    ⟨(some 31), (.w (.call (.cst (.fn 76 [] [])) [(.tmp 30), (.cst (.int .i64 1))])), none⟩,
    ⟨(some 26), (.p (.mov (.tmp 31))), none⟩,
    ⟨(some 32), (.p (.ext (.tmp 26) 0)), none⟩,
    ⟨(some 33), (.p (.ext (.tmp 26) 1)), none⟩,
    ⟨(some 4), (.p (.mov (.tmp 32))), none⟩,
    ⟨(some 5), (.p (.mov (.tmp 33))), none⟩])
  (.seq (.block 1 (.seq (.reg [⟨(some 35), (.p (.mov (.tmp 5))), none⟩,
    ⟨(some 36), (.p (.ibin .neq (.tmp 35) (.cst (.int .i64 0)))), none⟩,
    ⟨(some 34), (.p (.mov (.tmp 36))), none⟩])
  (.cond (.tmp 34) (.seq (.reg [⟨(some 37), (.p (.mov (.tmp 5))), none⟩,
    ⟨(some 2), (.p (.mov (.cst (.int .i64 0)))), none⟩,
    ⟨(some 3), (.p (.mov (.tmp 37))), none⟩])
  .ret)
  (.seq (.reg [⟨(some 39), (.p (.mov (.tmp 4))), none⟩,
    ⟨(some 40), (.p (.ibin .lss (.tmp 39) (.cst (.int .u64 128)))), none⟩,
    ⟨(some 38), (.p (.mov (.tmp 40))), none⟩])
  (.cond (.tmp 38) (.seq (.reg [⟨(some 2), (.p (.mov (.cst (.int .i64 0)))), none⟩,
    ⟨(some 3), (.p (.mov (.cst (.int .i64 17)))), none⟩])
  .ret)
  .skip)))))
  (.seq (.reg [⟨(some 41), (.p (.mov (.tmp 4))), none⟩,
    ⟨(some 42), (.p (.conv (.toInt .i64) (.tmp 41))), none⟩,
    ⟨(some 2), (.p (.mov (.tmp 42))), none⟩,
    ⟨(some 3), (.p (.mov (.cst (.int .i64 0)))), none⟩])
  .ret))))))
def f86 : VF := { body := b86, res := [(.tmp 2), (.tmp 3)] }
-- (*comptoir/state.book).time
def b87 : VC := (.seq (.reg [⟨(some 3), (.w (.box 38 (.tmp 1))), none⟩])
  (.reg [⟨(some 4), (.p (.mov (.tmp 0))), none⟩,
    ⟨(some 5), (.p (.fieldA 1 (.tmp 3))), none⟩,
    ⟨(some 6), (.r (.load none (.tmp 5))), none⟩,
    ⟨(some 7), (.p (.nilck (.tmp 4))), none⟩,
    ⟨(some 8), (.p (.fieldA 0 (.tmp 7))), none⟩,
    ⟨(some 9), (.p (.fieldA 0 (.tmp 8))), none⟩,
    ⟨none, (.w (.store 1 (.tmp 9) (.tmp 6))), none⟩]))
def f87 : VF := { body := b87, res := [] }
-- (*comptoir/state.book).next
def b88 : VC := (.seq (.reg [⟨(some 3), (.w (.box 38 (.tmp 1))), none⟩])
  (.draw [(⟨(some 4), (.p (.mov (.tmp 0))), none⟩, 0, 0),
    (⟨(some 5), (.p (.mov (.tmp 0))), none⟩, 0, 1),
    (⟨(some 6), (.p (.fieldA 2 (.tmp 3))), none⟩, 0, 0),
    (⟨(some 7), (.r (.load none (.tmp 6))), none⟩, 0, 0),
    (⟨(some 8), (.p (.fieldA 3 (.tmp 3))), none⟩, 0, 1),
    (⟨(some 9), (.r (.load none (.tmp 8))), none⟩, 0, 1),
    (⟨(some 10), (.p (.nilck (.tmp 4))), none⟩, 0, 0),
    (⟨(some 11), (.p (.fieldA 0 (.tmp 10))), none⟩, 0, 0),
    (⟨(some 12), (.p (.fieldA 1 (.tmp 11))), none⟩, 0, 0),
    (⟨none, (.w (.store 1 (.tmp 12) (.tmp 7))), none⟩, 0, 0),
    (⟨(some 13), (.p (.nilck (.tmp 5))), none⟩, 1, 1),
    (⟨(some 14), (.p (.fieldA 0 (.tmp 13))), none⟩, 1, 1),
    (⟨(some 15), (.p (.fieldA 2 (.tmp 14))), none⟩, 1, 1),
    (⟨none, (.w (.store 1 (.tmp 15) (.tmp 9))), none⟩, 1, 1)]))
def f88 : VF := { body := b88, res := [] }
-- (*comptoir/state.book).put
def b89 : VC := (.seq (.reg [⟨(some 3), (.w (.box 38 (.tmp 1))), none⟩])
  (.draw [(⟨(some 4), (.p (.mov (.tmp 0))), none⟩, 0, 1),
    (⟨(some 5), (.p (.mov (.tmp 0))), none⟩, 0, 0),
    (⟨(some 6), (.p (.nilck (.tmp 5))), none⟩, 0, 0),
    (⟨(some 7), (.p (.fieldA 0 (.tmp 6))), none⟩, 0, 0),
    (⟨(some 8), (.p (.fieldA 3 (.tmp 7))), none⟩, 0, 0),
    (⟨(some 9), (.r (.load none (.tmp 8))), none⟩, 0, 0),
    (⟨(some 10), (.p (.fieldA 4 (.tmp 3))), none⟩, 0, 0),
    (⟨(some 11), (.r (.load (some 27) (.tmp 10))), none⟩, 0, 0),
    (⟨(some 12), (.r (.pcall (.cst (.fn 47 [] [])) [(.tmp 11)])), none⟩, 0, 0),
    (⟨(some 13), (.p (.mkfn 101 [] [(.tmp 3)])), none⟩, 0, 0),
    (⟨(some 14), (.w (.call (.cst (.fn 100 [] [])) [(.tmp 9), (.tmp 12), (.tmp 13)])), none⟩, 0, 0),
    (⟨(some 15), (.p (.nilck (.tmp 4))), none⟩, 1, 1),
    (⟨(some 16), (.p (.fieldA 0 (.tmp 15))), none⟩, 1, 1),
    (⟨(some 17), (.p (.fieldA 3 (.tmp 16))), none⟩, 1, 1),
    (⟨none, (.w (.store 1 (.tmp 17) (.tmp 14))), none⟩, 1, 1)]))
def f89 : VF := { body := b89, res := [] }
-- (*comptoir/state.book).drop
def b90 : VC := (.seq (.reg [⟨(some 3), (.w (.box 38 (.tmp 1))), none⟩])
  (.reg [⟨(some 4), (.p (.mov (.tmp 0))), none⟩,
    ⟨(some 5), (.p (.mov (.tmp 0))), none⟩,
    ⟨(some 6), (.p (.nilck (.tmp 5))), none⟩,
    ⟨(some 7), (.p (.fieldA 0 (.tmp 6))), none⟩,
    ⟨(some 8), (.p (.fieldA 3 (.tmp 7))), none⟩,
    ⟨(some 9), (.r (.load none (.tmp 8))), none⟩,
    ⟨(some 10), (.p (.mkfn 103 [] [(.tmp 3)])), none⟩,
    ⟨(some 11), (.w (.call (.cst (.fn 102 [] [])) [(.tmp 9), (.tmp 10)])), none⟩,
    ⟨(some 12), (.p (.nilck (.tmp 4))), none⟩,
    ⟨(some 13), (.p (.fieldA 0 (.tmp 12))), none⟩,
    ⟨(some 14), (.p (.fieldA 3 (.tmp 13))), none⟩,
    ⟨none, (.w (.store 1 (.tmp 14) (.tmp 11))), none⟩]))
def f90 : VF := { body := b90, res := [] }
-- (*comptoir/state.book).park
def b91 : VC := (.seq (.reg [⟨(some 3), (.w (.box 38 (.tmp 1))), none⟩])
  (.draw [(⟨(some 4), (.p (.mov (.tmp 0))), none⟩, 0, 1),
    (⟨(some 5), (.p (.mov (.tmp 0))), none⟩, 0, 0),
    (⟨(some 6), (.p (.nilck (.tmp 5))), none⟩, 0, 0),
    (⟨(some 7), (.p (.fieldA 0 (.tmp 6))), none⟩, 0, 0),
    (⟨(some 8), (.p (.fieldA 4 (.tmp 7))), none⟩, 0, 0),
    (⟨(some 9), (.r (.load none (.tmp 8))), none⟩, 0, 0),
    (⟨(some 10), (.p (.fieldA 31 (.tmp 3))), none⟩, 0, 0),
    (⟨(some 11), (.r (.load (some 7) (.tmp 10))), none⟩, 0, 0),
    (⟨(some 12), (.r (.pcall (.cst (.fn 49 [] [])) [(.tmp 11)])), none⟩, 0, 0),
    (⟨(some 13), (.p (.mkfn 105 [] [(.tmp 3)])), none⟩, 0, 0),
    (⟨(some 14), (.w (.call (.cst (.fn 104 [] [])) [(.tmp 9), (.tmp 12), (.tmp 13)])), none⟩, 0, 0),
    (⟨(some 15), (.p (.nilck (.tmp 4))), none⟩, 1, 1),
    (⟨(some 16), (.p (.fieldA 0 (.tmp 15))), none⟩, 1, 1),
    (⟨(some 17), (.p (.fieldA 4 (.tmp 16))), none⟩, 1, 1),
    (⟨none, (.w (.store 1 (.tmp 17) (.tmp 14))), none⟩, 1, 1)]))
def f91 : VF := { body := b91, res := [] }
-- (*comptoir/state.book).unpark
def b92 : VC := (.seq (.reg [⟨(some 3), (.w (.box 38 (.tmp 1))), none⟩])
  (.reg [⟨(some 4), (.p (.mov (.tmp 0))), none⟩,
    ⟨(some 5), (.p (.mov (.tmp 0))), none⟩,
    ⟨(some 6), (.p (.nilck (.tmp 5))), none⟩,
    ⟨(some 7), (.p (.fieldA 0 (.tmp 6))), none⟩,
    ⟨(some 8), (.p (.fieldA 4 (.tmp 7))), none⟩,
    ⟨(some 9), (.r (.load none (.tmp 8))), none⟩,
    ⟨(some 10), (.p (.mkfn 107 [] [(.tmp 3)])), none⟩,
    ⟨(some 11), (.w (.call (.cst (.fn 106 [] [])) [(.tmp 9), (.tmp 10)])), none⟩,
    ⟨(some 12), (.p (.nilck (.tmp 4))), none⟩,
    ⟨(some 13), (.p (.fieldA 0 (.tmp 12))), none⟩,
    ⟨(some 14), (.p (.fieldA 4 (.tmp 13))), none⟩,
    ⟨none, (.w (.store 1 (.tmp 14) (.tmp 11))), none⟩]))
def f92 : VF := { body := b92, res := [] }
-- (*comptoir/state.book).nothing
def b93 : VC := (.reg [⟨(some 3), (.w (.box 38 (.tmp 1))), none⟩])
def f93 : VF := { body := b93, res := [] }
-- comptoir/comptoirhelp.Plain[comptoir/api.Pair]
def b94 : VC := (.seq (.reg [⟨(some 4), (.p (.mov (.cst (.bool false)))), none⟩])
  (.seq (.reg [⟨(some 5), (.p (.mov (.tmp 0))), none⟩,
    ⟨(some 6), (.p (.mov (.tmp 1))), none⟩,
    ⟨(some 7), (.r (.pcall (.cst (.fn 108 [] [])) [(.tmp 5), (.tmp 6), (.cst (.fn 109 [] []))])), none⟩,
    ⟨(some 4), (.p (.mov (.tmp 7))), none⟩])
  .ret))
def f94 : VF := { body := b94, res := [(.tmp 4)] }
-- comptoir/comptoirhelp.Same[comptoir/api.Element]
def b95 : VC := (.seq (.reg [⟨(some 6), (.p (.mov (.cst (.bool false)))), none⟩])
  (.seq (.seq (.reg [⟨(some 8), (.p (.mov (.tmp 0))), none⟩,
    ⟨(some 9), (.p (.len (.tmp 8))), none⟩,
    ⟨(some 10), (.p (.mov (.tmp 1))), none⟩,
    ⟨(some 11), (.p (.len (.tmp 10))), none⟩,
    ⟨(some 12), (.p (.ibin .neq (.tmp 9) (.tmp 11))), none⟩])
  (.cond (.tmp 12) (.seq (.reg [⟨(some 6), (.p (.mov (.cst (.bool false)))), none⟩])
  .ret)
  .skip))
  (.seq (.seq (.reg [⟨(some 7), (.p (.mov (.cst (.int .i64 0)))), none⟩])
  (.block 0 (.loop (.seq (.seq (.reg [⟨(some 13), (.p (.mov (.tmp 7))), none⟩,
    ⟨(some 14), (.p (.mov (.tmp 0))), none⟩,
    ⟨(some 15), (.p (.len (.tmp 14))), none⟩,
    ⟨(some 16), (.p (.ibin .lss (.tmp 13) (.tmp 15))), none⟩])
  (.cond (.tmp 16) .skip
  (.exit 0)))
  (.seq (.block 1 (.seq (.draw [(⟨(some 19), (.p (.mov (.tmp 2))), none⟩, 0, 0),
    (⟨(some 20), (.p (.mov (.tmp 0))), none⟩, 0, 0),
    (⟨(some 21), (.p (.mov (.tmp 7))), none⟩, 0, 0),
    (⟨(some 22), (.p (.idxA 2 (.tmp 20) (.tmp 21))), none⟩, 0, 0),
    (⟨(some 23), (.r (.load (some 2) (.tmp 22))), none⟩, 0, 0),
    (⟨(some 24), (.p (.mov (.tmp 1))), none⟩, 0, 0),
    (⟨(some 25), (.p (.mov (.tmp 7))), none⟩, 0, 0),
    (⟨(some 26), (.p (.idxA 2 (.tmp 24) (.tmp 25))), none⟩, 0, 0),
    (⟨(some 27), (.r (.load (some 2) (.tmp 26))), none⟩, 0, 0),
    (⟨(some 28), (.r (.pcall (.tmp 19) [(.tmp 23), (.tmp 27)])), none⟩, 0, 0),
    (⟨(some 29), (.p (.un .not (.tmp 28))), none⟩, 0, 0)])
  (.cond (.tmp 29) (.seq (.reg [⟨(some 6), (.p (.mov (.cst (.bool false)))), none⟩])
  .ret)
  .skip)))
  (.reg [⟨(some 17), (.p (.mov (.tmp 7))), none⟩,
    ⟨(some 18), (.p (.ibin .add (.tmp 17) (.cst (.int .i64 1)))), none⟩,
    ⟨(some 7), (.p (.mov (.tmp 18))), none⟩]))))))
  (.seq (.reg [⟨(some 6), (.p (.mov (.cst (.bool true)))), none⟩])
  .ret))))
def f95 : VF := { body := b95, res := [(.tmp 6)] }
-- comptoir/comptoirhelp.Element
def b96 : VC := (.seq (.reg [⟨(some 2), (.w (.box 2 (.tmp 0))), none⟩,
    ⟨(some 3), (.w (.box 2 (.tmp 1))), none⟩,
    ⟨(some 4), (.p (.mov (.cst (.bool false)))), none⟩])
  (.seq (.reg [⟨(some 5), (.p (.fieldA 0 (.tmp 2))), none⟩,
    ⟨(some 6), (.r (.load none (.tmp 5))), none⟩,
    ⟨(some 7), (.p (.fieldA 0 (.tmp 3))), none⟩,
    ⟨(some 8), (.r (.load none (.tmp 7))), none⟩,
    ⟨(some 9), (.p (.ibin .eql (.tmp 6) (.tmp 8))), none⟩,
    ⟨(some 10), (.p (.mov (.tmp 9))), none⟩,
    ⟨(some 11), (.p (.fieldA 1 (.tmp 2))), (some (10, true))⟩,
    ⟨(some 12), (.r (.load none (.tmp 11))), (some (10, true))⟩,
    ⟨(some 13), (.p (.fieldA 1 (.tmp 3))), (some (10, true))⟩,
    ⟨(some 14), (.r (.load none (.tmp 13))), (some (10, true))⟩,
    ⟨(some 15), (.r (.pcall (.cst (.fn 20 [] [])) [(.tmp 12), (.tmp 14)])), (some (10, true))⟩,
    ⟨(some 16), (.p (.pick (.tmp 10) (.tmp 15) (.cst (.bool false)))), none⟩,
    ⟨(some 4), (.p (.mov (.tmp 16))), none⟩])
  .ret))
def f96 : VF := { body := b96, res := [(.tmp 4)] }
-- comptoir/cursor.read
def b97 : VC := (.seq (.reg [⟨(some 4), (.p (.mov (.cst .nilsl))), none⟩,
    ⟨(some 5), (.p (.mov (.cst (.int .i64 0)))), none⟩])
  (.seq (.reg [⟨(some 6), (.p (.mov (.tmp 0))), none⟩,
    ⟨(some 7), (.p (.mov (.tmp 1))), none⟩,
    ⟨(some 8), (.w (.call (.tmp 6) [(.tmp 7)])), none⟩,
    ⟨(some 9), (.p (.ext (.tmp 8) 0)), none⟩,
    ⟨(some 10), (.p (.ext (.tmp 8) 1)), none⟩,
    ⟨(some 4), (.p (.mov (.tmp 9))), none⟩,
    ⟨(some 5), (.p (.mov (.tmp 10))), none⟩])
  .ret))
def f97 : VF := { body := b97, res := [(.tmp 4), (.tmp 5)] }
-- (*comptoir/cursor.Cursor).take
def b98 : VC := (.seq (.reg [⟨(some 4), (.p (.mov (.cst .nilsl))), none⟩,
    ⟨(some 5), (.p (.mov (.cst (.int .i64 0)))), none⟩])
  (.seq (.block 0 (.seq (.reg [⟨(some 7), (.p (.mov (.tmp 1))), none⟩,
    ⟨(some 8), (.p (.ibin .lss (.tmp 7) (.cst (.int .i64 0)))), none⟩,
    ⟨(some 6), (.p (.mov (.tmp 8))), none⟩])
  (.cond (.tmp 6) (.seq (.reg [⟨(some 4), (.p (.mov (.cst .nilsl))), none⟩,
    ⟨(some 5), (.p (.mov (.cst (.int .i64 1)))), none⟩])
  .ret)
  (.seq (.reg [⟨(some 10), (.p (.mov (.tmp 1))), none⟩,
    ⟨(some 11), (.p (.mov (.tmp 0))), none⟩,
    ⟨(some 12), (.r (.pcall (.cst (.fn 62 [] [])) [(.tmp 11)])), none⟩,
    ⟨(some 13), (.p (.ibin .gtr (.tmp 10) (.tmp 12))), none⟩,
    ⟨(some 9), (.p (.mov (.tmp 13))), none⟩])
  (.cond (.tmp 9) (.seq (.reg [⟨(some 4), (.p (.mov (.cst .nilsl))), none⟩,
    ⟨(some 5), (.p (.mov (.cst (.int .i64 3)))), none⟩])
  .ret)
  .skip)))))
  (.seq (.reg [⟨(some 14), (.p (.mov (.tmp 0))), none⟩,
    ⟨(some 15), (.p (.nilck (.tmp 14))), none⟩,
    ⟨(some 16), (.p (.fieldA 1 (.tmp 15))), none⟩,
    ⟨(some 17), (.r (.load none (.tmp 16))), none⟩,
    ⟨(some 18), (.p (.mov (.tmp 1))), none⟩,
    ⟨(some 19), (.p (.ibin .add (.tmp 17) (.tmp 18))), none⟩,
    ⟨(some 20), (.p (.nilck (.tmp 14))), none⟩,
    ⟨(some 21), (.p (.fieldA 1 (.tmp 20))), none⟩,
    ⟨none, (.w (.store 1 (.tmp 21) (.tmp 19))), none⟩])
  (.seq (.draw [(⟨(some 22), (.p (.mov (.tmp 0))), none⟩, 0, 0),
    (⟨(some 23), (.p (.nilck (.tmp 22))), none⟩, 0, 0),
    (⟨(some 24), (.p (.fieldA 0 (.tmp 23))), none⟩, 0, 0),
    (⟨(some 25), (.r (.load none (.tmp 24))), none⟩, 0, 0),
    (⟨(some 26), (.p (.mov (.tmp 0))), none⟩, 0, 0),
    (⟨(some 27), (.p (.nilck (.tmp 26))), none⟩, 0, 0),
    (⟨(some 28), (.p (.fieldA 1 (.tmp 27))), none⟩, 0, 0),
    (⟨(some 29), (.r (.load none (.tmp 28))), none⟩, 0, 0),
    (⟨(some 30), (.p (.mov (.tmp 1))), none⟩, 0, 0),
    (⟨(some 31), (.p (.ibin .sub (.tmp 29) (.tmp 30))), none⟩, 0, 0),
    (⟨(some 32), (.p (.mov (.tmp 0))), none⟩, 0, 0),
    (⟨(some 33), (.p (.nilck (.tmp 32))), none⟩, 0, 0),
    (⟨(some 34), (.p (.fieldA 1 (.tmp 33))), none⟩, 0, 0),
    (⟨(some 35), (.r (.load none (.tmp 34))), none⟩, 0, 0),
    (⟨(some 36), (.p (.slice 1 (.tmp 25) (some (.tmp 31)) (some (.tmp 35)))), none⟩, 0, 0),
    (⟨(some 4), (.p (.mov (.tmp 36))), none⟩, 0, 0),
    (⟨(some 5), (.p (.mov (.cst (.int .i64 0)))), none⟩, 0, 0)])
  .ret))))
def f98 : VF := { body := b98, res := [(.tmp 4), (.tmp 5)] }
-- slices.IndexFunc[[]comptoir/api.Tag,comptoir/api.Tag]
def b99 : VC := (.seq (.reg [⟨(some 4), (.p (.mov (.cst (.int .i64 0)))), none⟩])
  (.seq (.seq (.reg [⟨(some 6), (.p (.mov (.tmp 0))), none⟩,
    ⟨(some 7), (.p (.len (.tmp 6))), none⟩,
    ⟨(some 8), (.p (.mov (.cst (.int .i64 0)))), none⟩])
  (.block 0 (.loop (.seq (.reg [⟨(some 9), (.p (.ibin .lss (.tmp 8) (.tmp 7))), none⟩])
  (.seq (.cond (.tmp 9) .skip
  (.exit 0))
  (.seq (.block 1 (.seq (.reg [⟨(some 10), (.p (.mov (.tmp 8))), none⟩,
    ⟨(some 5), (.p (.mov (.tmp 10))), none⟩])
  (.seq (.reg [⟨(some 11), (.p (.mov (.tmp 1))), none⟩,
    ⟨(some 12), (.p (.mov (.tmp 0))), none⟩,
    ⟨(some 13), (.p (.mov (.tmp 5))), none⟩,
    ⟨(some 14), (.p (.idxA 2 (.tmp 12) (.tmp 13))), none⟩,
    ⟨(some 15), (.r (.load (some 2) (.tmp 14))), none⟩,
    ⟨(some 16), (.r (.pcall (.tmp 11) [(.tmp 15)])), none⟩])
  (.cond (.tmp 16) (.seq (.reg [⟨(some 17), (.p (.mov (.tmp 5))), none⟩,
    ⟨(some 4), (.p (.mov (.tmp 17))), none⟩])
  .ret)
  .skip))))
  (.reg [⟨(some 18), (.p (.ibin .add (.tmp 8) (.cst (.int .i64 1)))), none⟩,
    ⟨(some 8), (.p (.mov (.tmp 18))), none⟩])))))))
  (.seq (.reg [⟨(some 4), (.p (.mov (.cst (.int .i64 (-1))))), none⟩])
  .ret)))
def f99 : VF := { body := b99, res := [(.tmp 4)] }
-- comptoir/state.replace[comptoir/api.Exchange]
def b100 : VC := (.seq (.reg [⟨(some 4), (.w (.box 27 (.tmp 1))), none⟩,
    ⟨(some 6), (.p (.mov (.cst .nilsl))), none⟩])
  (.seq (.reg [⟨(some 8), (.p (.mov (.tmp 0))), none⟩,
    ⟨(some 9), (.p (.mov (.tmp 2))), none⟩,
    ⟨(some 10), (.r (.pcall (.cst (.fn 110 [] [])) [(.tmp 8), (.tmp 9)])), none⟩,
    ⟨(some 7), (.p (.mov (.tmp 10))), none⟩])
  (.seq (.seq (.reg [⟨(some 11), (.p (.mov (.tmp 7))), none⟩,
    ⟨(some 12), (.p (.ibin .lss (.tmp 11) (.cst (.int .i64 0)))), none⟩])
  (.cond (.tmp 12) (.seq (.reg [⟨(some 13), (.p (.mov (.tmp 0))), none⟩,
    ⟨(some 14), (.r (.load (some 27) (.tmp 4))), none⟩,
    ⟨(some 15), (.p (.lit 27 (.agg [(.int .i64 0), (.int .i64 0), (.int .i64 0), (.int .i64 0), (.int .i64 0), (.int .u64 0), (.int .i64 0), (.int .i64 0), (.str []), (.str []), (.str []), (.str []), (.int .u64 0), (.str []), (.str []), (.str []), (.str []), (.int .i64 0), (.str []), (.str []), (.int .i64 0), (.str []), .nilsl, (.str []), (.str []), .nilsl, .nilsl]) 1 [(0, (.tmp 14))])), none⟩,
    ⟨(some 16), (.w (.append 27 368 (.tmp 13) (.tmp 15))), none⟩,
    ⟨(some 6), (.p (.mov (.tmp 16))), none⟩])
  .ret)
  .skip))
  (.seq (.reg [⟨(some 17), (.p (.mov (.tmp 0))), none⟩,
    ⟨(some 18), (.p (.mov (.tmp 7))), none⟩,
    ⟨(some 19), (.r (.load (some 27) (.tmp 4))), none⟩,
    ⟨(some 20), (.p (.idxA 27 (.tmp 17) (.tmp 18))), none⟩,
    ⟨none, (.w (.store 27 (.tmp 20) (.tmp 19))), none⟩])
  (.seq (.reg [⟨(some 21), (.p (.mov (.tmp 0))), none⟩,
    ⟨(some 6), (.p (.mov (.tmp 21))), none⟩])
  .ret)))))
def f100 : VF := { body := b100, res := [(.tmp 6)] }
-- (*comptoir/state.book).put$1
def b101 : VC := (.seq (.reg [⟨(some 2), (.w (.box 27 (.tmp 0))), none⟩,
    ⟨(some 3), (.p (.mov (.cst (.bool false)))), none⟩])
  (.seq (.reg [⟨(some 4), (.p (.fieldA 0 (.tmp 2))), none⟩,
    ⟨(some 5), (.r (.load none (.tmp 4))), none⟩,
    ⟨(some 6), (.p (.fieldA 4 (.tmp 1))), none⟩,
    ⟨(some 7), (.p (.fieldA 0 (.tmp 6))), none⟩,
    ⟨(some 8), (.r (.load none (.tmp 7))), none⟩,
    ⟨(some 9), (.p (.ibin .eql (.tmp 5) (.tmp 8))), none⟩,
    ⟨(some 3), (.p (.mov (.tmp 9))), none⟩])
  .ret))
def f101 : VF := { body := b101, res := [(.tmp 3)] }
-- slices.DeleteFunc[[]comptoir/api.Exchange,comptoir/api.Exchange]
def b102 : VC := (.seq (.reg [⟨(some 4), (.p (.mov (.cst .nilsl))), none⟩])
  (.seq (.reg [⟨(some 8), (.p (.mov (.tmp 0))), none⟩,
    ⟨(some 9), (.p (.mov (.tmp 1))), none⟩,
    ⟨(some 10), (.r (.pcall (.cst (.fn 110 [] [])) [(.tmp 8), (.tmp 9)])), none⟩,
    ⟨(some 5), (.p (.mov (.tmp 10))), none⟩])
  (.seq (.seq (.reg [⟨(some 11), (.p (.mov (.tmp 5))), none⟩,
    ⟨(some 12), (.p (.ibin .eql (.tmp 11) (.cst (.int .i64 (-1))))), none⟩])
  (.cond (.tmp 12) (.seq (.reg [⟨(some 13), (.p (.mov (.tmp 0))), none⟩,
    ⟨(some 4), (.p (.mov (.tmp 13))), none⟩])
  .ret)
  .skip))
  (.seq (.seq (.reg [⟨(some 14), (.p (.mov (.tmp 5))), none⟩,
    ⟨(some 15), (.p (.ibin .add (.tmp 14) (.cst (.int .i64 1)))), none⟩,
    ⟨(some 6), (.p (.mov (.tmp 15))), none⟩])
  (.block 0 (.loop (.seq (.seq (.reg [⟨(some 16), (.p (.mov (.tmp 6))), none⟩,
    ⟨(some 17), (.p (.mov (.tmp 0))), none⟩,
    ⟨(some 18), (.p (.len (.tmp 17))), none⟩,
    ⟨(some 19), (.p (.ibin .lss (.tmp 16) (.tmp 18))), none⟩])
  (.cond (.tmp 19) .skip
  (.exit 0)))
  (.seq (.block 1 (.seq (.reg [⟨(some 22), (.p (.mov (.tmp 0))), none⟩,
    ⟨(some 23), (.p (.mov (.tmp 6))), none⟩,
    ⟨(some 24), (.p (.idxA 27 (.tmp 22) (.tmp 23))), none⟩,
    ⟨(some 25), (.r (.load (some 27) (.tmp 24))), none⟩,
    ⟨(some 7), (.w (.alloc [(.int .i64 0), (.int .i64 0), (.int .i64 0), (.int .i64 0), (.int .i64 0), (.int .u64 0), (.int .i64 0), (.int .i64 0), (.str []), (.str []), (.str []), (.str []), (.int .u64 0), (.str []), (.str []), (.str []), (.str []), (.int .i64 0), (.str []), (.str []), (.int .i64 0), (.str []), .nilsl, (.str []), (.str []), .nilsl, .nilsl])), none⟩,
    ⟨none, (.w (.store 27 (.tmp 7) (.tmp 25))), none⟩])
  (.seq (.reg [⟨(some 26), (.p (.mov (.tmp 1))), none⟩,
    ⟨(some 27), (.r (.load (some 27) (.tmp 7))), none⟩,
    ⟨(some 28), (.r (.pcall (.tmp 26) [(.tmp 27)])), none⟩,
    ⟨(some 29), (.p (.un .not (.tmp 28))), none⟩])
  (.cond (.tmp 29) (.seq (.reg [⟨(some 30), (.p (.mov (.tmp 0))), none⟩,
    ⟨(some 31), (.p (.mov (.tmp 5))), none⟩,
    ⟨(some 32), (.r (.load (some 27) (.tmp 7))), none⟩,
    ⟨(some 33), (.p (.idxA 27 (.tmp 30) (.tmp 31))), none⟩,
    ⟨none, (.w (.store 27 (.tmp 33) (.tmp 32))), none⟩])
  (.reg [⟨(some 34), (.p (.mov (.tmp 5))), none⟩,
    ⟨(some 35), (.p (.ibin .add (.tmp 34) (.cst (.int .i64 1)))), none⟩,
    ⟨(some 5), (.p (.mov (.tmp 35))), none⟩]))
  .skip))))
  (.reg [⟨(some 20), (.p (.mov (.tmp 6))), none⟩,
    ⟨(some 21), (.p (.ibin .add (.tmp 20) (.cst (.int .i64 1)))), none⟩,
    ⟨(some 6), (.p (.mov (.tmp 21))), none⟩]))))))
  (.seq (.reg [⟨(some 36), (.p (.mov (.tmp 0))), none⟩,
    ⟨(some 37), (.p (.mov (.tmp 5))), none⟩,
    ⟨(some 38), (.p (.slice 27 (.tmp 36) (some (.tmp 37)) none)), none⟩,
    ⟨none, (.w (.clear 27 (.agg [(.int .i64 0), (.int .i64 0), (.int .i64 0), (.int .i64 0), (.int .i64 0), (.int .u64 0), (.int .i64 0), (.int .i64 0), (.str []), (.str []), (.str []), (.str []), (.int .u64 0), (.str []), (.str []), (.str []), (.str []), (.int .i64 0), (.str []), (.str []), (.int .i64 0), (.str []), .nilsl, (.str []), (.str []), .nilsl, .nilsl]) (.tmp 38))), none⟩])
  (.seq (.reg [⟨(some 39), (.p (.mov (.tmp 0))), none⟩,
    ⟨(some 40), (.p (.mov (.tmp 5))), none⟩,
    ⟨(some 41), (.p (.slice 27 (.tmp 39) none (some (.tmp 40)))), none⟩,
    ⟨(some 4), (.p (.mov (.tmp 41))), none⟩])
  .ret))))))
def f102 : VF := { body := b102, res := [(.tmp 4)] }
-- (*comptoir/state.book).drop$1
def b103 : VC := (.seq (.reg [⟨(some 2), (.w (.box 27 (.tmp 0))), none⟩,
    ⟨(some 3), (.p (.mov (.cst (.bool false)))), none⟩])
  (.seq (.reg [⟨(some 4), (.p (.fieldA 0 (.tmp 2))), none⟩,
    ⟨(some 5), (.r (.load none (.tmp 4))), none⟩,
    ⟨(some 6), (.p (.fieldA 2 (.tmp 1))), none⟩,
    ⟨(some 7), (.r (.load none (.tmp 6))), none⟩,
    ⟨(some 8), (.p (.ibin .eql (.tmp 5) (.tmp 7))), none⟩,
    ⟨(some 3), (.p (.mov (.tmp 8))), none⟩])
  .ret))
def f103 : VF := { body := b103, res := [(.tmp 3)] }
-- comptoir/state.replace[comptoir/api.Parked]
def b104 : VC := (.seq (.reg [⟨(some 4), (.w (.box 7 (.tmp 1))), none⟩,
    ⟨(some 6), (.p (.mov (.cst .nilsl))), none⟩])
  (.seq (.reg [⟨(some 8), (.p (.mov (.tmp 0))), none⟩,
    ⟨(some 9), (.p (.mov (.tmp 2))), none⟩,
    ⟨(some 10), (.r (.pcall (.cst (.fn 111 [] [])) [(.tmp 8), (.tmp 9)])), none⟩,
    ⟨(some 7), (.p (.mov (.tmp 10))), none⟩])
  (.seq (.seq (.reg [⟨(some 11), (.p (.mov (.tmp 7))), none⟩,
    ⟨(some 12), (.p (.ibin .lss (.tmp 11) (.cst (.int .i64 0)))), none⟩])
  (.cond (.tmp 12) (.seq (.reg [⟨(some 13), (.p (.mov (.tmp 0))), none⟩,
    ⟨(some 14), (.r (.load (some 7) (.tmp 4))), none⟩,
    ⟨(some 15), (.p (.lit 7 (.agg [(.int .i64 0), (.int .u64 0), (.str []), (.str []), (.str []), .nilsl, .nilsl]) 1 [(0, (.tmp 14))])), none⟩,
    ⟨(some 16), (.w (.append 7 112 (.tmp 13) (.tmp 15))), none⟩,
    ⟨(some 6), (.p (.mov (.tmp 16))), none⟩])
  .ret)
  .skip))
  (.seq (.reg [⟨(some 17), (.p (.mov (.tmp 0))), none⟩,
    ⟨(some 18), (.p (.mov (.tmp 7))), none⟩,
    ⟨(some 19), (.r (.load (some 7) (.tmp 4))), none⟩,
    ⟨(some 20), (.p (.idxA 7 (.tmp 17) (.tmp 18))), none⟩,
    ⟨none, (.w (.store 7 (.tmp 20) (.tmp 19))), none⟩])
  (.seq (.reg [⟨(some 21), (.p (.mov (.tmp 0))), none⟩,
    ⟨(some 6), (.p (.mov (.tmp 21))), none⟩])
  .ret)))))
def f104 : VF := { body := b104, res := [(.tmp 6)] }
-- (*comptoir/state.book).park$1
def b105 : VC := (.seq (.reg [⟨(some 2), (.w (.box 7 (.tmp 0))), none⟩,
    ⟨(some 3), (.p (.mov (.cst (.bool false)))), none⟩])
  (.seq (.reg [⟨(some 4), (.p (.fieldA 0 (.tmp 2))), none⟩,
    ⟨(some 5), (.r (.load none (.tmp 4))), none⟩,
    ⟨(some 6), (.p (.fieldA 31 (.tmp 1))), none⟩,
    ⟨(some 7), (.p (.fieldA 0 (.tmp 6))), none⟩,
    ⟨(some 8), (.r (.load none (.tmp 7))), none⟩,
    ⟨(some 9), (.p (.ibin .eql (.tmp 5) (.tmp 8))), none⟩,
    ⟨(some 3), (.p (.mov (.tmp 9))), none⟩])
  .ret))
def f105 : VF := { body := b105, res := [(.tmp 3)] }
-- slices.DeleteFunc[[]comptoir/api.Parked,comptoir/api.Parked]
def b106 : VC := (.seq (.reg [⟨(some 4), (.p (.mov (.cst .nilsl))), none⟩])
  (.seq (.reg [⟨(some 8), (.p (.mov (.tmp 0))), none⟩,
    ⟨(some 9), (.p (.mov (.tmp 1))), none⟩,
    ⟨(some 10), (.r (.pcall (.cst (.fn 111 [] [])) [(.tmp 8), (.tmp 9)])), none⟩,
    ⟨(some 5), (.p (.mov (.tmp 10))), none⟩])
  (.seq (.seq (.reg [⟨(some 11), (.p (.mov (.tmp 5))), none⟩,
    ⟨(some 12), (.p (.ibin .eql (.tmp 11) (.cst (.int .i64 (-1))))), none⟩])
  (.cond (.tmp 12) (.seq (.reg [⟨(some 13), (.p (.mov (.tmp 0))), none⟩,
    ⟨(some 4), (.p (.mov (.tmp 13))), none⟩])
  .ret)
  .skip))
  (.seq (.seq (.reg [⟨(some 14), (.p (.mov (.tmp 5))), none⟩,
    ⟨(some 15), (.p (.ibin .add (.tmp 14) (.cst (.int .i64 1)))), none⟩,
    ⟨(some 6), (.p (.mov (.tmp 15))), none⟩])
  (.block 0 (.loop (.seq (.seq (.reg [⟨(some 16), (.p (.mov (.tmp 6))), none⟩,
    ⟨(some 17), (.p (.mov (.tmp 0))), none⟩,
    ⟨(some 18), (.p (.len (.tmp 17))), none⟩,
    ⟨(some 19), (.p (.ibin .lss (.tmp 16) (.tmp 18))), none⟩])
  (.cond (.tmp 19) .skip
  (.exit 0)))
  (.seq (.block 1 (.seq (.reg [⟨(some 22), (.p (.mov (.tmp 0))), none⟩,
    ⟨(some 23), (.p (.mov (.tmp 6))), none⟩,
    ⟨(some 24), (.p (.idxA 7 (.tmp 22) (.tmp 23))), none⟩,
    ⟨(some 25), (.r (.load (some 7) (.tmp 24))), none⟩,
    ⟨(some 7), (.w (.alloc [(.int .i64 0), (.int .u64 0), (.str []), (.str []), (.str []), .nilsl, .nilsl])), none⟩,
    ⟨none, (.w (.store 7 (.tmp 7) (.tmp 25))), none⟩])
  (.seq (.reg [⟨(some 26), (.p (.mov (.tmp 1))), none⟩,
    ⟨(some 27), (.r (.load (some 7) (.tmp 7))), none⟩,
    ⟨(some 28), (.r (.pcall (.tmp 26) [(.tmp 27)])), none⟩,
    ⟨(some 29), (.p (.un .not (.tmp 28))), none⟩])
  (.cond (.tmp 29) (.seq (.reg [⟨(some 30), (.p (.mov (.tmp 0))), none⟩,
    ⟨(some 31), (.p (.mov (.tmp 5))), none⟩,
    ⟨(some 32), (.r (.load (some 7) (.tmp 7))), none⟩,
    ⟨(some 33), (.p (.idxA 7 (.tmp 30) (.tmp 31))), none⟩,
    ⟨none, (.w (.store 7 (.tmp 33) (.tmp 32))), none⟩])
  (.reg [⟨(some 34), (.p (.mov (.tmp 5))), none⟩,
    ⟨(some 35), (.p (.ibin .add (.tmp 34) (.cst (.int .i64 1)))), none⟩,
    ⟨(some 5), (.p (.mov (.tmp 35))), none⟩]))
  .skip))))
  (.reg [⟨(some 20), (.p (.mov (.tmp 6))), none⟩,
    ⟨(some 21), (.p (.ibin .add (.tmp 20) (.cst (.int .i64 1)))), none⟩,
    ⟨(some 6), (.p (.mov (.tmp 21))), none⟩]))))))
  (.seq (.reg [⟨(some 36), (.p (.mov (.tmp 0))), none⟩,
    ⟨(some 37), (.p (.mov (.tmp 5))), none⟩,
    ⟨(some 38), (.p (.slice 7 (.tmp 36) (some (.tmp 37)) none)), none⟩,
    ⟨none, (.w (.clear 7 (.agg [(.int .i64 0), (.int .u64 0), (.str []), (.str []), (.str []), .nilsl, .nilsl]) (.tmp 38))), none⟩])
  (.seq (.reg [⟨(some 39), (.p (.mov (.tmp 0))), none⟩,
    ⟨(some 40), (.p (.mov (.tmp 5))), none⟩,
    ⟨(some 41), (.p (.slice 7 (.tmp 39) none (some (.tmp 40)))), none⟩,
    ⟨(some 4), (.p (.mov (.tmp 41))), none⟩])
  .ret))))))
def f106 : VF := { body := b106, res := [(.tmp 4)] }
-- (*comptoir/state.book).unpark$1
def b107 : VC := (.seq (.reg [⟨(some 2), (.w (.box 7 (.tmp 0))), none⟩,
    ⟨(some 3), (.p (.mov (.cst (.bool false)))), none⟩])
  (.seq (.reg [⟨(some 4), (.p (.fieldA 0 (.tmp 2))), none⟩,
    ⟨(some 5), (.r (.load none (.tmp 4))), none⟩,
    ⟨(some 6), (.p (.fieldA 2 (.tmp 1))), none⟩,
    ⟨(some 7), (.r (.load none (.tmp 6))), none⟩,
    ⟨(some 8), (.p (.ibin .eql (.tmp 5) (.tmp 7))), none⟩,
    ⟨(some 3), (.p (.mov (.tmp 8))), none⟩])
  .ret))
def f107 : VF := { body := b107, res := [(.tmp 3)] }
-- comptoir/comptoirhelp.Same[comptoir/api.Pair]
def b108 : VC := (.seq (.reg [⟨(some 6), (.p (.mov (.cst (.bool false)))), none⟩])
  (.seq (.seq (.reg [⟨(some 8), (.p (.mov (.tmp 0))), none⟩,
    ⟨(some 9), (.p (.len (.tmp 8))), none⟩,
    ⟨(some 10), (.p (.mov (.tmp 1))), none⟩,
    ⟨(some 11), (.p (.len (.tmp 10))), none⟩,
    ⟨(some 12), (.p (.ibin .neq (.tmp 9) (.tmp 11))), none⟩])
  (.cond (.tmp 12) (.seq (.reg [⟨(some 6), (.p (.mov (.cst (.bool false)))), none⟩])
  .ret)
  .skip))
  (.seq (.seq (.reg [⟨(some 7), (.p (.mov (.cst (.int .i64 0)))), none⟩])
  (.block 0 (.loop (.seq (.seq (.reg [⟨(some 13), (.p (.mov (.tmp 7))), none⟩,
    ⟨(some 14), (.p (.mov (.tmp 0))), none⟩,
    ⟨(some 15), (.p (.len (.tmp 14))), none⟩,
    ⟨(some 16), (.p (.ibin .lss (.tmp 13) (.tmp 15))), none⟩])
  (.cond (.tmp 16) .skip
  (.exit 0)))
  (.seq (.block 1 (.seq (.draw [(⟨(some 19), (.p (.mov (.tmp 2))), none⟩, 0, 0),
    (⟨(some 20), (.p (.mov (.tmp 0))), none⟩, 0, 0),
    (⟨(some 21), (.p (.mov (.tmp 7))), none⟩, 0, 0),
    (⟨(some 22), (.p (.idxA 2 (.tmp 20) (.tmp 21))), none⟩, 0, 0),
    (⟨(some 23), (.r (.load (some 2) (.tmp 22))), none⟩, 0, 0),
    (⟨(some 24), (.p (.mov (.tmp 1))), none⟩, 0, 0),
    (⟨(some 25), (.p (.mov (.tmp 7))), none⟩, 0, 0),
    (⟨(some 26), (.p (.idxA 2 (.tmp 24) (.tmp 25))), none⟩, 0, 0),
    (⟨(some 27), (.r (.load (some 2) (.tmp 26))), none⟩, 0, 0),
    (⟨(some 28), (.r (.pcall (.tmp 19) [(.tmp 23), (.tmp 27)])), none⟩, 0, 0),
    (⟨(some 29), (.p (.un .not (.tmp 28))), none⟩, 0, 0)])
  (.cond (.tmp 29) (.seq (.reg [⟨(some 6), (.p (.mov (.cst (.bool false)))), none⟩])
  .ret)
  .skip)))
  (.reg [⟨(some 17), (.p (.mov (.tmp 7))), none⟩,
    ⟨(some 18), (.p (.ibin .add (.tmp 17) (.cst (.int .i64 1)))), none⟩,
    ⟨(some 7), (.p (.mov (.tmp 18))), none⟩]))))))
  (.seq (.reg [⟨(some 6), (.p (.mov (.cst (.bool true)))), none⟩])
  .ret))))
def f108 : VF := { body := b108, res := [(.tmp 6)] }
-- comptoir/comptoirhelp.Plain[comptoir/api.Pair]$1
def b109 : VC := (.seq (.reg [⟨(some 2), (.w (.box 2 (.tmp 0))), none⟩,
    ⟨(some 3), (.w (.box 2 (.tmp 1))), none⟩,
    ⟨(some 4), (.p (.mov (.cst (.bool false)))), none⟩])
  (.seq (.reg [⟨(some 5), (.r (.load (some 2) (.tmp 2))), none⟩,
    ⟨(some 6), (.r (.load (some 2) (.tmp 3))), none⟩,
    ⟨(some 7), (.p (.eqagg [2, 2] false (.tmp 5) (.tmp 6))), none⟩,
    ⟨(some 4), (.p (.mov (.tmp 7))), none⟩])
  .ret))
def f109 : VF := { body := b109, res := [(.tmp 4)] }
-- slices.IndexFunc[[]comptoir/api.Exchange,comptoir/api.Exchange]
def b110 : VC := (.seq (.reg [⟨(some 4), (.p (.mov (.cst (.int .i64 0)))), none⟩])
  (.seq (.seq (.reg [⟨(some 6), (.p (.mov (.tmp 0))), none⟩,
    ⟨(some 7), (.p (.len (.tmp 6))), none⟩,
    ⟨(some 8), (.p (.mov (.cst (.int .i64 0)))), none⟩])
  (.block 0 (.loop (.seq (.reg [⟨(some 9), (.p (.ibin .lss (.tmp 8) (.tmp 7))), none⟩])
  (.seq (.cond (.tmp 9) .skip
  (.exit 0))
  (.seq (.block 1 (.seq (.reg [⟨(some 10), (.p (.mov (.tmp 8))), none⟩,
    ⟨(some 5), (.p (.mov (.tmp 10))), none⟩])
  (.seq (.reg [⟨(some 11), (.p (.mov (.tmp 1))), none⟩,
    ⟨(some 12), (.p (.mov (.tmp 0))), none⟩,
    ⟨(some 13), (.p (.mov (.tmp 5))), none⟩,
    ⟨(some 14), (.p (.idxA 27 (.tmp 12) (.tmp 13))), none⟩,
    ⟨(some 15), (.r (.load (some 27) (.tmp 14))), none⟩,
    ⟨(some 16), (.r (.pcall (.tmp 11) [(.tmp 15)])), none⟩])
  (.cond (.tmp 16) (.seq (.reg [⟨(some 17), (.p (.mov (.tmp 5))), none⟩,
    ⟨(some 4), (.p (.mov (.tmp 17))), none⟩])
  .ret)
  .skip))))
  (.reg [⟨(some 18), (.p (.ibin .add (.tmp 8) (.cst (.int .i64 1)))), none⟩,
    ⟨(some 8), (.p (.mov (.tmp 18))), none⟩])))))))
  (.seq (.reg [⟨(some 4), (.p (.mov (.cst (.int .i64 (-1))))), none⟩])
  .ret)))
def f110 : VF := { body := b110, res := [(.tmp 4)] }
-- slices.IndexFunc[[]comptoir/api.Parked,comptoir/api.Parked]
def b111 : VC := (.seq (.reg [⟨(some 4), (.p (.mov (.cst (.int .i64 0)))), none⟩])
  (.seq (.seq (.reg [⟨(some 6), (.p (.mov (.tmp 0))), none⟩,
    ⟨(some 7), (.p (.len (.tmp 6))), none⟩,
    ⟨(some 8), (.p (.mov (.cst (.int .i64 0)))), none⟩])
  (.block 0 (.loop (.seq (.reg [⟨(some 9), (.p (.ibin .lss (.tmp 8) (.tmp 7))), none⟩])
  (.seq (.cond (.tmp 9) .skip
  (.exit 0))
  (.seq (.block 1 (.seq (.reg [⟨(some 10), (.p (.mov (.tmp 8))), none⟩,
    ⟨(some 5), (.p (.mov (.tmp 10))), none⟩])
  (.seq (.reg [⟨(some 11), (.p (.mov (.tmp 1))), none⟩,
    ⟨(some 12), (.p (.mov (.tmp 0))), none⟩,
    ⟨(some 13), (.p (.mov (.tmp 5))), none⟩,
    ⟨(some 14), (.p (.idxA 7 (.tmp 12) (.tmp 13))), none⟩,
    ⟨(some 15), (.r (.load (some 7) (.tmp 14))), none⟩,
    ⟨(some 16), (.r (.pcall (.tmp 11) [(.tmp 15)])), none⟩])
  (.cond (.tmp 16) (.seq (.reg [⟨(some 17), (.p (.mov (.tmp 5))), none⟩,
    ⟨(some 4), (.p (.mov (.tmp 17))), none⟩])
  .ret)
  .skip))))
  (.reg [⟨(some 18), (.p (.ibin .add (.tmp 8) (.cst (.int .i64 1)))), none⟩,
    ⟨(some 8), (.p (.mov (.tmp 18))), none⟩])))))))
  (.seq (.reg [⟨(some 4), (.p (.mov (.cst (.int .i64 (-1))))), none⟩])
  .ret)))
def f111 : VF := { body := b111, res := [(.tmp 4)] }
def tbl : List (Nat × VFn) := [(3, .code f3), (4, .code f4), (5, .code f5), (6, .code f6), (7, .code f7), (8, .code f8), (9, .code f9), (10, .code f10), (11, .code f11), (12, .code f12), (13, .code f13), (14, .code f14), (15, .code f15), (16, .code f16), (17, .code f17), (18, .code f18), (19, .code f19), (20, .code f20), (21, .code f21), (22, .code f22), (23, .code f23), (24, .code f24), (25, .code f25), (26, .code f26), (27, .code f27), (28, .code f28), (29, .code f29), (30, .code f30), (31, .code f31), (32, .code f32), (33, .code f33), (34, .code f34), (35, .code f35), (36, .code f36), (37, .code f37), (38, .code f38), (39, .code f39), (40, .code f40), (41, .code f41), (42, .code f42), (43, .code f43), (44, .code f44), (45, .code f45), (46, .code f46), (47, .code f47), (48, .code f48), (49, .code f49), (50, .code f50), (51, .code f51), (52, .code f52), (53, .code f53), (54, .code f54), (55, .code f55), (56, .code f56), (57, .code f57), (58, .code f58), (59, .code f59), (60, .code f60), (61, .code f61), (62, .code f62), (63, .code f63), (64, .code f64), (65, .code f65), (66, .code f66), (67, .code f67), (68, .code f68), (69, .code f69), (70, .code f70), (71, .code f71), (72, .code f72), (73, .code f73), (74, .code f74), (75, .code f75), (76, .code f76), (77, .code f77), (78, .code f78), (79, .code f79), (80, .code f80), (81, .code f81), (82, .code f82), (83, .code f83), (84, .code f84), (85, .code f85), (86, .code f86), (87, .code f87), (88, .code f88), (89, .code f89), (90, .code f90), (91, .code f91), (92, .code f92), (93, .code f93), (94, .code f94), (95, .code f95), (96, .code f96), (97, .code f97), (98, .code f98), (99, .code f99), (100, .code f100), (101, .code f101), (102, .code f102), (103, .code f103), (104, .code f104), (105, .code f105), (106, .code f106), (107, .code f107), (108, .code f108), (109, .code f109), (110, .code f110), (111, .code f111)]
end Go.Vx.Ytbjcimdflehfjaa
