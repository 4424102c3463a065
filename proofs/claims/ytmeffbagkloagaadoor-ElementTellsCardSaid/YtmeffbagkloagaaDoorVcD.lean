/- V's code of the functions that the laws of this seat reach, printed by a program of mine out of the loaded program. -/
import Derived.Test.YtmeffbagkloagaaDoorVxDefs
import Derived.Test.YtmeffbagkloagaaDoorVxExt
set_option maxRecDepth 100000
namespace Go.Vx.YtmeffbagkloagaaDoor
-- comptoir/comptoirlaw16.ElementTells
def b3 : VC := (.seq (.reg [⟨(some 4), (.w (.box 2 (.tmp 1))), none⟩,
 ⟨(some 6), (.p (.mov (.cst (.bool false)))), none⟩])
 (.seq (.seq (.reg [⟨(some 21), (.p (.mov (.tmp 2))), none⟩,
 ⟨(some 22), (.p (.len (.tmp 21))), none⟩,
 ⟨(some 23), (.p (.ibin .gtr (.tmp 22) (.cst (.int .i64 1500)))), none⟩,
 ⟨(some 24), (.p (.mov (.tmp 23))), none⟩,
 ⟨(some 25), (.p (.fieldA 1 (.tmp 4))), (some (24, false))⟩,
 ⟨(some 26), (.r (.load none (.tmp 25))), (some (24, false))⟩,
 ⟨(some 27), (.p (.len (.tmp 26))), (some (24, false))⟩,
 ⟨(some 28), (.p (.ibin .gtr (.tmp 27) (.cst (.int .i64 1500)))), (some (24, false))⟩,
 ⟨(some 29), (.p (.pick (.tmp 24) (.cst (.bool true)) (.tmp 28))), none⟩])
 (.cond (.tmp 29) (.seq (.reg [⟨(some 30), (.r (.pcall (.cst (.fn 6 [] [])) [])), none⟩,
 ⟨(some 6), (.p (.mov (.tmp 30))), none⟩])
 .ret)
 .skip))
 (.seq (.reg [⟨(some 32), (.p (.mov (.tmp 0))), none⟩,
 ⟨(some 33), (.r (.pcall (.cst (.fn 7 [] [])) [(.tmp 32)])), none⟩,
 ⟨(some 31), (.p (.mov (.tmp 33))), none⟩,
 ⟨(some 34), (.p (.ext (.tmp 31) 0)), none⟩,
 ⟨(some 35), (.p (.ext (.tmp 31) 1)), none⟩,
 ⟨(some 7), (.w (.alloc [(.int .i64 0), (.int .i64 0), (.int .i64 0), (.int .i64 0)])), none⟩,
 ⟨none, (.w (.store 4 (.tmp 7) (.tmp 34))), none⟩,
 ⟨(some 8), (.p (.mov (.tmp 35))), none⟩])
 (.seq (.reg [⟨(some 37), (.p (.mov (.tmp 0))), none⟩,
 ⟨(some 38), (.r (.pcall (.cst (.fn 8 [] [])) [(.tmp 37)])), none⟩,
 ⟨(some 36), (.p (.mov (.tmp 38))), none⟩,
 ⟨(some 39), (.p (.ext (.tmp 36) 0)), none⟩,
 ⟨(some 40), (.p (.ext (.tmp 36) 1)), none⟩,
 ⟨(some 9), (.w (.alloc [(.int .i64 0), (.int .i64 0), (.int .i64 0), (.int .i64 0)])), none⟩,
 ⟨none, (.w (.store 4 (.tmp 9) (.tmp 39))), none⟩,
 ⟨(some 10), (.p (.mov (.tmp 40))), none⟩])
 (.seq (.reg [⟨(some 42), (.p (.mov (.tmp 0))), none⟩,
 ⟨(some 43), (.p (.mov (.tmp 2))), none⟩,
 ⟨(some 44), (.r (.pcall (.cst (.fn 9 [] [])) [(.tmp 42), (.tmp 43)])), none⟩,
 ⟨(some 41), (.p (.mov (.tmp 44))), none⟩,
 ⟨(some 45), (.p (.ext (.tmp 41) 0)), none⟩,
 ⟨(some 46), (.p (.ext (.tmp 41) 1)), none⟩,
 ⟨(some 47), (.p (.ext (.tmp 41) 2)), none⟩,
 ⟨(some 11), (.p (.mov (.tmp 45))), none⟩,
 ⟨(some 12), (.p (.mov (.tmp 46))), none⟩,
 ⟨(some 13), (.p (.mov (.tmp 47))), none⟩])
 (.seq (.reg [⟨(some 49), (.p (.mov (.tmp 0))), none⟩,
 ⟨(some 50), (.p (.mov (.tmp 2))), none⟩,
 ⟨(some 51), (.r (.pcall (.cst (.fn 10 [] [])) [(.tmp 49), (.tmp 50)])), none⟩,
 ⟨(some 48), (.p (.mov (.tmp 51))), none⟩,
 ⟨(some 52), (.p (.ext (.tmp 48) 0)), none⟩,
 ⟨(some 53), (.p (.ext (.tmp 48) 1)), none⟩,
 ⟨(some 54), (.p (.ext (.tmp 48) 2)), none⟩,
 ⟨(some 14), (.p (.mov (.tmp 52))), none⟩,
 ⟨(some 15), (.p (.mov (.tmp 53))), none⟩,
 ⟨(some 16), (.p (.mov (.tmp 54))), none⟩])
 (.seq (.reg [⟨(some 56), (.r (.load (some 2) (.tmp 4))), none⟩,
 ⟨(some 57), (.r (.pcall (.cst (.fn 11 [] [])) [(.tmp 56)])), none⟩,
 ⟨(some 55), (.p (.mov (.tmp 57))), none⟩,
 ⟨(some 58), (.p (.ext (.tmp 55) 0)), none⟩,
 ⟨(some 59), (.p (.ext (.tmp 55) 1)), none⟩,
 ⟨(some 17), (.p (.mov (.tmp 58))), none⟩,
 ⟨(some 18), (.p (.mov (.tmp 59))), none⟩])
 (.seq (.reg [⟨(some 61), (.r (.load (some 2) (.tmp 4))), none⟩,
 ⟨(some 62), (.r (.pcall (.cst (.fn 12 [] [])) [(.tmp 61)])), none⟩,
 ⟨(some 60), (.p (.mov (.tmp 62))), none⟩,
 ⟨(some 63), (.p (.ext (.tmp 60) 0)), none⟩,
 ⟨(some 64), (.p (.ext (.tmp 60) 1)), none⟩,
 ⟨(some 19), (.p (.mov (.tmp 63))), none⟩,
 ⟨(some 20), (.p (.mov (.tmp 64))), none⟩])
 (.seq (.draw [(⟨(some 65), (.r (.pcall (.cst (.fn 6 [] [])) [])), none⟩, 0, 0),
 (⟨(some 66), (.p (.mov (.tmp 65))), none⟩, 0, 0),
 (⟨(some 67), (.r (.load (some 4) (.tmp 7))), (some (66, true))⟩, 0, 0),
 (⟨(some 68), (.r (.load (some 4) (.tmp 9))), (some (66, true))⟩, 0, 0),
 (⟨(some 69), (.p (.eqagg [1, 1, 1, 1] false (.tmp 67) (.tmp 68))), (some (66, true))⟩, 0, 0),
 (⟨(some 70), (.p (.pick (.tmp 66) (.tmp 69) (.cst (.bool false)))), none⟩, 0, 0),
 (⟨(some 71), (.p (.mov (.tmp 70))), none⟩, 0, 0),
 (⟨(some 72), (.p (.mov (.tmp 8))), (some (71, true))⟩, 0, 0),
 (⟨(some 73), (.p (.mov (.tmp 10))), (some (71, true))⟩, 0, 0),
 (⟨(some 74), (.p (.beq false (.tmp 72) (.tmp 73))), (some (71, true))⟩, 0, 0),
 (⟨(some 75), (.p (.pick (.tmp 71) (.tmp 74) (.cst (.bool false)))), none⟩, 0, 0),
 (⟨(some 76), (.p (.mov (.tmp 75))), none⟩, 0, 0),
 (⟨(some 77), (.p (.mov (.tmp 0))), (some (76, true))⟩, 0, 0),
 (⟨(some 78), (.r (.pcall (.cst (.fn 13 [] [])) [(.tmp 77)])), (some (76, true))⟩, 0, 0),
 (⟨(some 79), (.p (.mov (.tmp 0))), (some (76, true))⟩, 0, 0),
 (⟨(some 80), (.r (.pcall (.cst (.fn 14 [] [])) [(.tmp 79)])), (some (76, true))⟩, 0, 0),
 (⟨(some 81), (.p (.beq false (.tmp 78) (.tmp 80))), (some (76, true))⟩, 0, 0),
 (⟨(some 82), (.p (.pick (.tmp 76) (.tmp 81) (.cst (.bool false)))), none⟩, 0, 0),
 (⟨(some 83), (.p (.mov (.tmp 82))), none⟩, 0, 0),
 (⟨(some 84), (.p (.mov (.tmp 11))), (some (83, true))⟩, 0, 0),
 (⟨(some 85), (.p (.mov (.tmp 14))), (some (83, true))⟩, 0, 0),
 (⟨(some 86), (.r (.pcall (.cst (.fn 15 [] [])) [(.tmp 84), (.tmp 85)])), (some (83, true))⟩, 0, 0),
 (⟨(some 87), (.p (.pick (.tmp 83) (.tmp 86) (.cst (.bool false)))), none⟩, 0, 0),
 (⟨(some 88), (.p (.mov (.tmp 87))), none⟩, 0, 0),
 (⟨(some 89), (.p (.mov (.tmp 12))), (some (88, true))⟩, 0, 0),
 (⟨(some 90), (.p (.mov (.tmp 15))), (some (88, true))⟩, 0, 0),
 (⟨(some 91), (.p (.ibin .eql (.tmp 89) (.tmp 90))), (some (88, true))⟩, 0, 0),
 (⟨(some 92), (.p (.pick (.tmp 88) (.tmp 91) (.cst (.bool false)))), none⟩, 0, 0),
 (⟨(some 93), (.p (.mov (.tmp 92))), none⟩, 0, 0),
 (⟨(some 94), (.p (.mov (.tmp 13))), (some (93, true))⟩, 0, 0),
 (⟨(some 95), (.p (.mov (.tmp 16))), (some (93, true))⟩, 0, 0),
 (⟨(some 96), (.p (.ibin .eql (.tmp 94) (.tmp 95))), (some (93, true))⟩, 0, 0),
 (⟨(some 97), (.p (.pick (.tmp 93) (.tmp 96) (.cst (.bool false)))), none⟩, 0, 0),
 (⟨(some 98), (.p (.mov (.tmp 97))), none⟩, 0, 0),
 (⟨(some 99), (.p (.mov (.tmp 17))), (some (98, true))⟩, 0, 0),
 (⟨(some 100), (.p (.mov (.tmp 19))), (some (98, true))⟩, 0, 0),
 (⟨(some 101), (.r (.pcall (.cst (.fn 15 [] [])) [(.tmp 99), (.tmp 100)])), (some (98, true))⟩, 0, 0),
 (⟨(some 102), (.p (.pick (.tmp 98) (.tmp 101) (.cst (.bool false)))), none⟩, 0, 0),
 (⟨(some 103), (.p (.mov (.tmp 102))), none⟩, 0, 0),
 (⟨(some 104), (.p (.mov (.tmp 18))), (some (103, true))⟩, 0, 0),
 (⟨(some 105), (.p (.mov (.tmp 20))), (some (103, true))⟩, 0, 0),
 (⟨(some 106), (.p (.ibin .eql (.tmp 104) (.tmp 105))), (some (103, true))⟩, 0, 0),
 (⟨(some 107), (.p (.pick (.tmp 103) (.tmp 106) (.cst (.bool false)))), none⟩, 0, 0),
 (⟨(some 108), (.p (.mov (.tmp 107))), none⟩, 0, 0),
 (⟨(some 109), (.r (.load (some 2) (.tmp 4))), (some (108, true))⟩, 0, 0),
 (⟨(some 110), (.r (.pcall (.cst (.fn 16 [] [])) [(.tmp 109)])), (some (108, true))⟩, 0, 0),
 (⟨(some 111), (.r (.load (some 2) (.tmp 4))), (some (108, true))⟩, 0, 0),
 (⟨(some 112), (.r (.pcall (.cst (.fn 17 [] [])) [(.tmp 111)])), (some (108, true))⟩, 0, 0),
 (⟨(some 113), (.p (.ibin .eql (.tmp 110) (.tmp 112))), (some (108, true))⟩, 0, 0),
 (⟨(some 114), (.p (.pick (.tmp 108) (.tmp 113) (.cst (.bool false)))), none⟩, 0, 0),
 (⟨(some 6), (.p (.mov (.tmp 114))), none⟩, 0, 0)])
 .ret)))))))))
def f3 : VF := { body := b3, res := [(.tmp 6)] }
-- comptoir/comptoirlaw16.ElementBack
def b4 : VC := (.seq (.reg [⟨(some 3), (.w (.box 2 (.tmp 0))), none⟩,
 ⟨(some 6), (.p (.mov (.cst (.bool false)))), none⟩])
 (.seq (.seq (.reg [⟨(some 15), (.p (.fieldA 1 (.tmp 3))), none⟩,
 ⟨(some 16), (.r (.load none (.tmp 15))), none⟩,
 ⟨(some 17), (.p (.len (.tmp 16))), none⟩,
 ⟨(some 18), (.p (.ibin .gtr (.tmp 17) (.cst (.int .i64 1000)))), none⟩,
 ⟨(some 19), (.p (.mov (.tmp 18))), none⟩,
 ⟨(some 20), (.p (.mov (.tmp 1))), (some (19, false))⟩,
 ⟨(some 21), (.p (.len (.tmp 20))), (some (19, false))⟩,
 ⟨(some 22), (.p (.ibin .gtr (.tmp 21) (.cst (.int .i64 100)))), (some (19, false))⟩,
 ⟨(some 23), (.p (.pick (.tmp 19) (.cst (.bool true)) (.tmp 22))), none⟩])
 (.cond (.tmp 23) (.seq (.reg [⟨(some 24), (.r (.pcall (.cst (.fn 6 [] [])) [])), none⟩,
 ⟨(some 6), (.p (.mov (.tmp 24))), none⟩])
 .ret)
 .skip))
 (.seq (.reg [⟨(some 26), (.r (.load (some 2) (.tmp 3))), none⟩,
 ⟨(some 27), (.r (.pcall (.cst (.fn 11 [] [])) [(.tmp 26)])), none⟩,
 ⟨(some 25), (.p (.mov (.tmp 27))), none⟩,
 ⟨(some 28), (.p (.ext (.tmp 25) 0)), none⟩,
 ⟨(some 29), (.p (.ext (.tmp 25) 1)), none⟩,
 ⟨(some 7), (.p (.mov (.tmp 28))), none⟩,
 ⟨(some 8), (.p (.mov (.tmp 29))), none⟩])
 (.seq (.seq (.reg [⟨(some 30), (.p (.mov (.tmp 8))), none⟩,
 ⟨(some 31), (.p (.ibin .neq (.tmp 30) (.cst (.int .i64 0)))), none⟩])
 (.cond (.tmp 31) (.seq (.reg [⟨(some 32), (.r (.pcall (.cst (.fn 6 [] [])) [])), none⟩,
 ⟨(some 33), (.p (.mov (.tmp 32))), none⟩,
 ⟨(some 34), (.p (.mov (.tmp 8))), (some (33, true))⟩,
 ⟨(some 35), (.r (.load (some 2) (.tmp 3))), (some (33, true))⟩,
 ⟨(some 36), (.r (.pcall (.cst (.fn 16 [] [])) [(.tmp 35)])), (some (33, true))⟩,
 ⟨(some 37), (.p (.ibin .eql (.tmp 34) (.tmp 36))), (some (33, true))⟩,
 ⟨(some 38), (.p (.pick (.tmp 33) (.tmp 37) (.cst (.bool false)))), none⟩,
 ⟨(some 39), (.p (.mov (.tmp 38))), none⟩,
 ⟨(some 40), (.p (.mov (.tmp 7))), (some (39, true))⟩,
 ⟨(some 41), (.p (.len (.tmp 40))), (some (39, true))⟩,
 ⟨(some 42), (.p (.ibin .eql (.tmp 41) (.cst (.int .i64 0)))), (some (39, true))⟩,
 ⟨(some 43), (.p (.pick (.tmp 39) (.tmp 42) (.cst (.bool false)))), none⟩,
 ⟨(some 6), (.p (.mov (.tmp 43))), none⟩])
 .ret)
 .skip))
 (.seq (.seq (.reg [⟨(some 44), (.r (.pcall (.cst (.fn 6 [] [])) [])), none⟩,
 ⟨(some 45), (.p (.un .not (.tmp 44))), none⟩,
 ⟨(some 46), (.p (.mov (.tmp 45))), none⟩,
 ⟨(some 47), (.p (.mov (.tmp 7))), (some (46, false))⟩,
 ⟨(some 48), (.p (.len (.tmp 47))), (some (46, false))⟩,
 ⟨(some 49), (.p (.ibin .eql (.tmp 48) (.cst (.int .i64 0)))), (some (46, false))⟩,
 ⟨(some 50), (.p (.pick (.tmp 46) (.cst (.bool true)) (.tmp 49))), none⟩])
 (.cond (.tmp 50) (.seq (.reg [⟨(some 6), (.p (.mov (.cst (.bool false)))), none⟩])
 .ret)
 .skip))
 (.seq (.draw [(⟨(some 52), (.p (.fieldA 0 (.tmp 3))), none⟩, 0, 2),
 (⟨(some 53), (.r (.load none (.tmp 52))), none⟩, 0, 2),
 (⟨(some 54), (.p (.mov (.tmp 7))), none⟩, 0, 0),
 (⟨(some 55), (.w (.append 1 1 (.cst .nilsl) (.tmp 54))), none⟩, 0, 0),
 (⟨(some 56), (.p (.mov (.tmp 1))), none⟩, 0, 1),
 (⟨(some 57), (.w (.append 1 1 (.tmp 55) (.tmp 56))), none⟩, 1, 1),
 (⟨(some 58), (.r (.pcall (.cst (.fn 9 [] [])) [(.tmp 53), (.tmp 57)])), none⟩, 2, 2),
 (⟨(some 51), (.p (.mov (.tmp 58))), none⟩, 2, 2),
 (⟨(some 59), (.p (.ext (.tmp 51) 0)), none⟩, 2, 2),
 (⟨(some 60), (.p (.ext (.tmp 51) 1)), none⟩, 2, 2),
 (⟨(some 61), (.p (.ext (.tmp 51) 2)), none⟩, 2, 2),
 (⟨(some 9), (.p (.mov (.tmp 59))), none⟩, 2, 2),
 (⟨(some 10), (.p (.mov (.tmp 60))), none⟩, 2, 2),
 (⟨(some 11), (.p (.mov (.tmp 61))), none⟩, 2, 2)])
 (.seq (.reg [⟨(some 62), (.p (.mov (.tmp 2))), none⟩,
 ⟨(some 63), (.p (.conv (.toInt .u64) (.tmp 62))), none⟩,
 ⟨(some 64), (.p (.mov (.tmp 7))), none⟩,
 ⟨(some 65), (.p (.len (.tmp 64))), none⟩,
 ⟨(some 66), (.p (.conv (.toInt .u64) (.tmp 65))), none⟩,
 ⟨(some 67), (.p (.ibin .rem (.tmp 63) (.tmp 66))), none⟩,
 ⟨(some 68), (.p (.conv (.toInt .i64) (.tmp 67))), none⟩,
 ⟨(some 2), (.p (.mov (.tmp 68))), none⟩])
 (.seq (.draw [(⟨(some 70), (.p (.fieldA 0 (.tmp 3))), none⟩, 0, 0),
 (⟨(some 71), (.r (.load none (.tmp 70))), none⟩, 0, 0),
 (⟨(some 72), (.p (.mov (.tmp 7))), none⟩, 0, 0),
 (⟨(some 73), (.p (.mov (.tmp 2))), none⟩, 0, 0),
 (⟨(some 74), (.p (.slice 1 (.tmp 72) none (some (.tmp 73)))), none⟩, 0, 0),
 (⟨(some 75), (.r (.pcall (.cst (.fn 9 [] [])) [(.tmp 71), (.tmp 74)])), none⟩, 0, 0),
 (⟨(some 69), (.p (.mov (.tmp 75))), none⟩, 0, 0),
 (⟨(some 76), (.p (.ext (.tmp 69) 0)), none⟩, 0, 0),
 (⟨(some 77), (.p (.ext (.tmp 69) 1)), none⟩, 0, 0),
 (⟨(some 78), (.p (.ext (.tmp 69) 2)), none⟩, 0, 0),
 (⟨(some 12), (.p (.mov (.tmp 76))), none⟩, 0, 0),
 (⟨(some 13), (.p (.mov (.tmp 77))), none⟩, 0, 0),
 (⟨(some 14), (.p (.mov (.tmp 78))), none⟩, 0, 0)])
 (.seq (.reg [⟨(some 79), (.r (.pcall (.cst (.fn 6 [] [])) [])), none⟩,
 ⟨(some 80), (.p (.mov (.tmp 79))), none⟩,
 ⟨(some 81), (.p (.mov (.tmp 11))), (some (80, true))⟩,
 ⟨(some 82), (.p (.ibin .eql (.tmp 81) (.cst (.int .i64 0)))), (some (80, true))⟩,
 ⟨(some 83), (.p (.pick (.tmp 80) (.tmp 82) (.cst (.bool false)))), none⟩,
 ⟨(some 84), (.p (.mov (.tmp 83))), none⟩,
 ⟨(some 85), (.p (.mov (.tmp 10))), (some (84, true))⟩,
 ⟨(some 86), (.p (.mov (.tmp 7))), (some (84, true))⟩,
 ⟨(some 87), (.p (.len (.tmp 86))), (some (84, true))⟩,
 ⟨(some 88), (.p (.ibin .eql (.tmp 85) (.tmp 87))), (some (84, true))⟩,
 ⟨(some 89), (.p (.pick (.tmp 84) (.tmp 88) (.cst (.bool false)))), none⟩,
 ⟨(some 90), (.p (.mov (.tmp 89))), none⟩,
 ⟨(some 91), (.p (.mov (.tmp 9))), (some (90, true))⟩,
 ⟨(some 92), (.p (.fieldA 1 (.tmp 3))), (some (90, true))⟩,
 ⟨(some 93), (.r (.load none (.tmp 92))), (some (90, true))⟩,
 ⟨(some 94), (.r (.pcall (.cst (.fn 15 [] [])) [(.tmp 91), (.tmp 93)])), (some (90, true))⟩,
 ⟨(some 95), (.p (.pick (.tmp 90) (.tmp 94) (.cst (.bool false)))), none⟩,
 ⟨(some 96), (.p (.mov (.tmp 95))), none⟩,
 ⟨(some 97), (.p (.mov (.tmp 14))), (some (96, true))⟩,
 ⟨(some 98), (.p (.ibin .eql (.tmp 97) (.cst (.int .i64 3)))), (some (96, true))⟩,
 ⟨(some 99), (.p (.pick (.tmp 96) (.tmp 98) (.cst (.bool false)))), none⟩,
 ⟨(some 6), (.p (.mov (.tmp 99))), none⟩])
 .ret)))))))))
def f4 : VF := { body := b4, res := [(.tmp 6)] }
-- comptoir/comptoirlaw16.ElementLengths
def b5 : VC := (.seq (.reg [⟨(some 4), (.p (.mov (.cst (.bool false)))), none⟩])
 (.seq (.reg [⟨(some 12), (.p (.mov (.tmp 0))), none⟩,
 ⟨(some 13), (.r (.pcall (.cst (.fn 7 [] [])) [(.tmp 12)])), none⟩,
 ⟨(some 11), (.p (.mov (.tmp 13))), none⟩,
 ⟨(some 14), (.p (.ext (.tmp 11) 0)), none⟩,
 ⟨(some 15), (.p (.ext (.tmp 11) 1)), none⟩,
 ⟨(some 5), (.w (.alloc [(.int .i64 0), (.int .i64 0), (.int .i64 0), (.int .i64 0)])), none⟩,
 ⟨none, (.w (.store 4 (.tmp 5) (.tmp 14))), none⟩,
 ⟨(some 6), (.p (.mov (.tmp 15))), none⟩])
 (.seq (.reg [⟨(some 16), (.p (.mov (.tmp 1))), none⟩,
 ⟨(some 17), (.p (.conv (.toInt .u64) (.tmp 16))), none⟩,
 ⟨(some 18), (.p (.ibin .rem (.tmp 17) (.cst (.int .u64 1100)))), none⟩,
 ⟨(some 19), (.p (.conv (.toInt .i64) (.tmp 18))), none⟩,
 ⟨(some 1), (.p (.mov (.tmp 19))), none⟩])
 (.seq (.reg [⟨(some 20), (.p (.mov (.tmp 1))), none⟩,
 ⟨(some 21), (.w (.mksl 1 1 (.int .u8 0) (.tmp 20) (.tmp 20))), none⟩,
 ⟨(some 7), (.p (.mov (.tmp 21))), none⟩])
 (.seq (.seq (.reg [⟨(some 22), (.p (.mov (.tmp 7))), none⟩,
 ⟨(some 23), (.p (.len (.tmp 22))), none⟩,
 ⟨(some 24), (.p (.mov (.cst (.int .i64 0)))), none⟩])
 (.block 0 (.loop (.seq (.reg [⟨(some 25), (.p (.ibin .lss (.tmp 24) (.tmp 23))), none⟩])
 (.seq (.cond (.tmp 25) .skip
 (.exit 0))
 (.seq (.block 1 (.seq (.reg [⟨(some 26), (.p (.mov (.tmp 24))), none⟩,
 ⟨(some 8), (.p (.mov (.tmp 26))), none⟩])
 (.reg [⟨(some 27), (.p (.mov (.tmp 7))), none⟩,
 ⟨(some 28), (.p (.mov (.tmp 8))), none⟩,
 ⟨(some 29), (.p (.idxA 1 (.tmp 27) (.tmp 28))), none⟩,
 ⟨none, (.w (.store 1 (.tmp 29) (.cst (.int .u8 55)))), none⟩])))
 (.reg [⟨(some 30), (.p (.ibin .add (.tmp 24) (.cst (.int .i64 1)))), none⟩,
 ⟨(some 24), (.p (.mov (.tmp 30))), none⟩])))))))
 (.seq (.reg [⟨(some 31), (.p (.mov (.tmp 0))), none⟩,
 ⟨(some 32), (.p (.mov (.tmp 7))), none⟩,
 ⟨(some 33), (.p (.build [(.int .i64 0), .nilsl] [(0, 1, (.tmp 31)), (1, 1, (.tmp 32))])), none⟩,
 ⟨(some 34), (.r (.pcall (.cst (.fn 16 [] [])) [(.tmp 33)])), none⟩,
 ⟨(some 9), (.p (.mov (.tmp 34))), none⟩])
 (.seq (.seq (.reg [⟨(some 35), (.p (.mov (.tmp 6))), none⟩,
 ⟨(some 36), (.p (.un .not (.tmp 35))), none⟩])
 (.cond (.tmp 36) (.seq (.reg [⟨(some 37), (.r (.pcall (.cst (.fn 6 [] [])) [])), none⟩,
 ⟨(some 38), (.p (.mov (.tmp 37))), none⟩,
 ⟨(some 39), (.p (.mov (.tmp 9))), (some (38, true))⟩,
 ⟨(some 40), (.p (.ibin .eql (.tmp 39) (.cst (.int .i64 16)))), (some (38, true))⟩,
 ⟨(some 41), (.p (.pick (.tmp 38) (.tmp 40) (.cst (.bool false)))), none⟩,
 ⟨(some 4), (.p (.mov (.tmp 41))), none⟩])
 .ret)
 .skip))
 (.seq (.reg [⟨(some 42), (.p (.mov (.tmp 1))), none⟩,
 ⟨(some 43), (.p (.ibin .geq (.tmp 42) (.cst (.int .i64 1)))), none⟩,
 ⟨(some 44), (.p (.mov (.tmp 43))), none⟩,
 ⟨(some 45), (.p (.mov (.tmp 1))), (some (44, true))⟩,
 ⟨(some 46), (.p (.fieldA 3 (.tmp 5))), (some (44, true))⟩,
 ⟨(some 47), (.r (.load none (.tmp 46))), (some (44, true))⟩,
 ⟨(some 48), (.p (.ibin .leq (.tmp 45) (.tmp 47))), (some (44, true))⟩,
 ⟨(some 49), (.p (.pick (.tmp 44) (.tmp 48) (.cst (.bool false)))), none⟩,
 ⟨(some 50), (.p (.mov (.tmp 49))), none⟩,
 ⟨(some 51), (.p (.fieldA 2 (.tmp 5))), (some (50, true))⟩,
 ⟨(some 52), (.r (.load none (.tmp 51))), (some (50, true))⟩,
 ⟨(some 53), (.p (.ibin .gtr (.tmp 52) (.cst (.int .i64 0)))), (some (50, true))⟩,
 ⟨(some 54), (.p (.mov (.tmp 53))), (some (50, true))⟩,
 ⟨(some 55), (.p (.mov (.tmp 1))), (some (54, false))⟩,
 ⟨(some 56), (.p (.fieldA 3 (.tmp 5))), (some (54, false))⟩,
 ⟨(some 57), (.r (.load none (.tmp 56))), (some (54, false))⟩,
 ⟨(some 58), (.p (.ibin .eql (.tmp 55) (.tmp 57))), (some (54, false))⟩,
 ⟨(some 59), (.p (.pick (.tmp 54) (.cst (.bool true)) (.tmp 58))), (some (50, true))⟩,
 ⟨(some 60), (.p (.pick (.tmp 50) (.tmp 59) (.cst (.bool false)))), none⟩,
 ⟨(some 10), (.p (.mov (.tmp 60))), none⟩])
 (.seq (.reg [⟨(some 61), (.r (.pcall (.cst (.fn 6 [] [])) [])), none⟩,
 ⟨(some 62), (.p (.mov (.tmp 61))), none⟩,
 ⟨(some 63), (.p (.fieldA 0 (.tmp 5))), (some (62, true))⟩,
 ⟨(some 64), (.r (.load none (.tmp 63))), (some (62, true))⟩,
 ⟨(some 65), (.p (.mov (.tmp 0))), (some (62, true))⟩,
 ⟨(some 66), (.p (.ibin .eql (.tmp 64) (.tmp 65))), (some (62, true))⟩,
 ⟨(some 67), (.p (.pick (.tmp 62) (.tmp 66) (.cst (.bool false)))), none⟩,
 ⟨(some 68), (.p (.mov (.tmp 67))), none⟩,
 ⟨(some 69), (.p (.mov (.tmp 10))), (some (68, true))⟩,
 ⟨(some 70), (.p (.mov (.tmp 69))), (some (68, true))⟩,
 ⟨(some 71), (.p (.mov (.tmp 9))), (some (70, true))⟩,
 ⟨(some 72), (.p (.ibin .eql (.tmp 71) (.cst (.int .i64 0)))), (some (70, true))⟩,
 ⟨(some 73), (.p (.pick (.tmp 70) (.tmp 72) (.cst (.bool false)))), (some (68, true))⟩,
 ⟨(some 74), (.p (.mov (.tmp 73))), (some (68, true))⟩,
 ⟨(some 75), (.p (.mov (.tmp 10))), (some (74, false))⟩,
 ⟨(some 76), (.p (.un .not (.tmp 75))), (some (74, false))⟩,
 ⟨(some 77), (.p (.mov (.tmp 76))), (some (74, false))⟩,
 ⟨(some 78), (.p (.mov (.tmp 9))), (some (77, true))⟩,
 ⟨(some 79), (.p (.ibin .eql (.tmp 78) (.cst (.int .i64 17)))), (some (77, true))⟩,
 ⟨(some 80), (.p (.pick (.tmp 77) (.tmp 79) (.cst (.bool false)))), (some (74, false))⟩,
 ⟨(some 81), (.p (.pick (.tmp 74) (.cst (.bool true)) (.tmp 80))), (some (68, true))⟩,
 ⟨(some 82), (.p (.pick (.tmp 68) (.tmp 81) (.cst (.bool false)))), none⟩,
 ⟨(some 4), (.p (.mov (.tmp 82))), none⟩])
 .ret)))))))))
def f5 : VF := { body := b5, res := [(.tmp 4)] }
-- comptoir/comptoirlaw16.awake
def b6 : VC := (.seq (.reg [⟨(some 0), (.p (.mov (.cst (.bool false)))), none⟩])
 (.seq (.reg [⟨(some 7), (.w (.litMut 1 (.int .u8 0) 2 [(0, (.cst (.int .u8 49))), (1, (.cst (.int .u8 50)))])), none⟩,
 ⟨(some 8), (.w (.mark (.tmp 7))), none⟩,
 ⟨(some 9), (.p (.build [(.int .i64 0), .nilsl] [(0, 1, (.cst (.int .i64 2))), (1, 1, (.tmp 8))])), none⟩,
 ⟨(some 10), (.r (.pcall (.cst (.fn 11 [] [])) [(.tmp 9)])), none⟩,
 ⟨(some 6), (.p (.mov (.tmp 10))), none⟩,
 ⟨(some 11), (.p (.ext (.tmp 6) 0)), none⟩,
 ⟨(some 12), (.p (.ext (.tmp 6) 1)), none⟩,
 ⟨(some 1), (.p (.mov (.tmp 11))), none⟩,
 ⟨(some 2), (.p (.mov (.tmp 12))), none⟩])
 (.seq (.reg [⟨(some 14), (.w (.litMut 1 (.int .u8 0) 5 [(0, (.cst (.int .u8 48))), (1, (.cst (.int .u8 50))), (2, (.cst (.int .u8 49))), (3, (.cst (.int .u8 50))), (4, (.cst (.int .u8 122)))])), none⟩,
 ⟨(some 15), (.w (.mark (.tmp 14))), none⟩,
 ⟨(some 16), (.r (.pcall (.cst (.fn 9 [] [])) [(.cst (.int .i64 2)), (.tmp 15)])), none⟩,
 ⟨(some 13), (.p (.mov (.tmp 16))), none⟩,
 ⟨(some 17), (.p (.ext (.tmp 13) 0)), none⟩,
 ⟨(some 18), (.p (.ext (.tmp 13) 1)), none⟩,
 ⟨(some 19), (.p (.ext (.tmp 13) 2)), none⟩,
 ⟨(some 3), (.p (.mov (.tmp 17))), none⟩,
 ⟨(some 4), (.p (.mov (.tmp 18))), none⟩,
 ⟨(some 5), (.p (.mov (.tmp 19))), none⟩])
 (.seq (.reg [⟨(some 20), (.p (.mov (.tmp 2))), none⟩,
 ⟨(some 21), (.p (.ibin .eql (.tmp 20) (.cst (.int .i64 0)))), none⟩,
 ⟨(some 22), (.p (.mov (.tmp 21))), none⟩,
 ⟨(some 23), (.p (.mov (.tmp 1))), (some (22, true))⟩,
 ⟨(some 24), (.r (.bytesStr (.tmp 23))), (some (22, true))⟩,
 ⟨(some 25), (.p (.ibin .eql (.tmp 24) (.cst (.str [48, 50, 49, 50])))), (some (22, true))⟩,
 ⟨(some 26), (.p (.pick (.tmp 22) (.tmp 25) (.cst (.bool false)))), none⟩,
 ⟨(some 27), (.p (.mov (.tmp 26))), none⟩,
 ⟨(some 28), (.p (.mov (.tmp 5))), (some (27, true))⟩,
 ⟨(some 29), (.p (.ibin .eql (.tmp 28) (.cst (.int .i64 0)))), (some (27, true))⟩,
 ⟨(some 30), (.p (.pick (.tmp 27) (.tmp 29) (.cst (.bool false)))), none⟩,
 ⟨(some 31), (.p (.mov (.tmp 30))), none⟩,
 ⟨(some 32), (.p (.mov (.tmp 3))), (some (31, true))⟩,
 ⟨(some 33), (.r (.bytesStr (.tmp 32))), (some (31, true))⟩,
 ⟨(some 34), (.p (.ibin .eql (.tmp 33) (.cst (.str [49, 50])))), (some (31, true))⟩,
 ⟨(some 35), (.p (.pick (.tmp 31) (.tmp 34) (.cst (.bool false)))), none⟩,
 ⟨(some 36), (.p (.mov (.tmp 35))), none⟩,
 ⟨(some 37), (.p (.mov (.tmp 4))), (some (36, true))⟩,
 ⟨(some 38), (.p (.ibin .eql (.tmp 37) (.cst (.int .i64 4)))), (some (36, true))⟩,
 ⟨(some 39), (.p (.pick (.tmp 36) (.tmp 38) (.cst (.bool false)))), none⟩,
 ⟨(some 40), (.p (.mov (.tmp 39))), none⟩,
 ⟨(some 41), (.r (.pcall (.cst (.fn 13 [] [])) [(.cst (.int .i64 60))])), (some (40, true))⟩,
 ⟨(some 42), (.p (.pick (.tmp 40) (.tmp 41) (.cst (.bool false)))), none⟩,
 ⟨(some 0), (.p (.mov (.tmp 42))), none⟩])
 .ret))))
def f6 : VF := { body := b6, res := [(.tmp 0)] }
-- comptoir/element.Of
def b7 : VC := (.seq (.reg [⟨(some 2), (.w (.alloc [(.int .i64 0), (.int .i64 0), (.int .i64 0), (.int .i64 0)])), none⟩,
 ⟨(some 3), (.p (.mov (.cst (.bool false)))), none⟩])
 (.seq (.reg [⟨(some 4), (.p (.mov (.cst (.int .i64 0)))), none⟩,
 ⟨(some 5), (.p (.mov (.cst (.int .i64 0)))), none⟩,
 ⟨(some 6), (.p (.mov (.cst (.int .i64 0)))), none⟩])
 (.seq (.seq (.reg [⟨(some 7), (.p (.mov (.tmp 0))), none⟩])
 (.block 0 (.seq (.reg [⟨(some 10), (.p (.ibin .eql (.tmp 7) (.cst (.int .i64 2)))), none⟩,
 ⟨(some 9), (.p (.mov (.tmp 10))), none⟩])
 (.cond (.tmp 9) (.reg [⟨(some 4), (.p (.mov (.cst (.int .i64 1)))), none⟩,
 ⟨(some 5), (.p (.mov (.cst (.int .i64 2)))), none⟩,
 ⟨(some 6), (.p (.mov (.cst (.int .i64 19)))), none⟩])
 (.seq (.reg [⟨(some 12), (.p (.ibin .eql (.tmp 7) (.cst (.int .i64 4)))), none⟩,
 ⟨(some 11), (.p (.mov (.tmp 12))), none⟩])
 (.cond (.tmp 11) (.reg [⟨(some 4), (.p (.mov (.cst (.int .i64 1)))), none⟩,
 ⟨(some 6), (.p (.mov (.cst (.int .i64 12)))), none⟩])
 (.seq (.reg [⟨(some 14), (.p (.ibin .eql (.tmp 7) (.cst (.int .i64 11)))), none⟩,
 ⟨(some 13), (.p (.mov (.tmp 14))), none⟩])
 (.cond (.tmp 13) (.reg [⟨(some 4), (.p (.mov (.cst (.int .i64 1)))), none⟩,
 ⟨(some 6), (.p (.mov (.cst (.int .i64 6)))), none⟩])
 (.seq (.reg [⟨(some 16), (.p (.ibin .eql (.tmp 7) (.cst (.int .i64 12)))), none⟩,
 ⟨(some 15), (.p (.mov (.tmp 16))), none⟩])
 (.cond (.tmp 15) (.reg [⟨(some 4), (.p (.mov (.cst (.int .i64 1)))), none⟩,
 ⟨(some 6), (.p (.mov (.cst (.int .i64 14)))), none⟩])
 (.seq (.seq (.reg [⟨(some 18), (.p (.ibin .eql (.tmp 7) (.cst (.int .i64 22)))), none⟩,
 ⟨(some 17), (.p (.mov (.tmp 18))), none⟩])
 (.cond (.tmp 17) .skip
 (.seq (.reg [⟨(some 19), (.p (.ibin .eql (.tmp 7) (.cst (.int .i64 39)))), none⟩,
 ⟨(some 17), (.p (.mov (.tmp 19))), none⟩])
 (.cond (.tmp 17) .skip
 (.reg [⟨(some 20), (.p (.ibin .eql (.tmp 7) (.cst (.int .i64 49)))), none⟩,
 ⟨(some 17), (.p (.mov (.tmp 20))), none⟩])))))
 (.cond (.tmp 17) (.reg [⟨(some 4), (.p (.mov (.cst (.int .i64 1)))), none⟩,
 ⟨(some 6), (.p (.mov (.cst (.int .i64 3)))), none⟩])
 (.seq (.reg [⟨(some 22), (.p (.ibin .eql (.tmp 7) (.cst (.int .i64 25)))), none⟩,
 ⟨(some 21), (.p (.mov (.tmp 22))), none⟩])
 (.cond (.tmp 21) (.reg [⟨(some 4), (.p (.mov (.cst (.int .i64 1)))), none⟩,
 ⟨(some 6), (.p (.mov (.cst (.int .i64 4)))), none⟩])
 (.seq (.reg [⟨(some 24), (.p (.ibin .eql (.tmp 7) (.cst (.int .i64 32)))), none⟩,
 ⟨(some 23), (.p (.mov (.tmp 24))), none⟩])
 (.cond (.tmp 23) (.reg [⟨(some 4), (.p (.mov (.cst (.int .i64 1)))), none⟩,
 ⟨(some 5), (.p (.mov (.cst (.int .i64 2)))), none⟩,
 ⟨(some 6), (.p (.mov (.cst (.int .i64 11)))), none⟩])
 (.seq (.reg [⟨(some 26), (.p (.ibin .eql (.tmp 7) (.cst (.int .i64 37)))), none⟩,
 ⟨(some 25), (.p (.mov (.tmp 26))), none⟩])
 (.cond (.tmp 25) (.reg [⟨(some 4), (.p (.mov (.cst (.int .i64 2)))), none⟩,
 ⟨(some 6), (.p (.mov (.cst (.int .i64 12)))), none⟩])
 (.seq (.reg [⟨(some 28), (.p (.ibin .eql (.tmp 7) (.cst (.int .i64 38)))), none⟩,
 ⟨(some 27), (.p (.mov (.tmp 28))), none⟩])
 (.cond (.tmp 27) (.reg [⟨(some 4), (.p (.mov (.cst (.int .i64 2)))), none⟩,
 ⟨(some 6), (.p (.mov (.cst (.int .i64 6)))), none⟩])
 (.seq (.reg [⟨(some 30), (.p (.ibin .eql (.tmp 7) (.cst (.int .i64 41)))), none⟩,
 ⟨(some 29), (.p (.mov (.tmp 30))), none⟩])
 (.cond (.tmp 29) (.reg [⟨(some 4), (.p (.mov (.cst (.int .i64 3)))), none⟩,
 ⟨(some 6), (.p (.mov (.cst (.int .i64 8)))), none⟩])
 (.seq (.reg [⟨(some 32), (.p (.ibin .eql (.tmp 7) (.cst (.int .i64 42)))), none⟩,
 ⟨(some 31), (.p (.mov (.tmp 32))), none⟩])
 (.cond (.tmp 31) (.reg [⟨(some 4), (.p (.mov (.cst (.int .i64 3)))), none⟩,
 ⟨(some 6), (.p (.mov (.cst (.int .i64 15)))), none⟩])
 (.seq (.reg [⟨(some 34), (.p (.ibin .eql (.tmp 7) (.cst (.int .i64 43)))), none⟩,
 ⟨(some 33), (.p (.mov (.tmp 34))), none⟩])
 (.cond (.tmp 33) (.reg [⟨(some 4), (.p (.mov (.cst (.int .i64 3)))), none⟩,
 ⟨(some 5), (.p (.mov (.cst (.int .i64 2)))), none⟩,
 ⟨(some 6), (.p (.mov (.cst (.int .i64 40)))), none⟩])
 (.seq (.reg [⟨(some 36), (.p (.ibin .eql (.tmp 7) (.cst (.int .i64 48)))), none⟩,
 ⟨(some 35), (.p (.mov (.tmp 36))), none⟩])
 (.cond (.tmp 35) (.reg [⟨(some 4), (.p (.mov (.cst (.int .i64 3)))), none⟩,
 ⟨(some 5), (.p (.mov (.cst (.int .i64 3)))), none⟩,
 ⟨(some 6), (.p (.mov (.cst (.int .i64 8)))), none⟩])
 (.seq (.reg [⟨(some 38), (.p (.ibin .eql (.tmp 7) (.cst (.int .i64 55)))), none⟩,
 ⟨(some 37), (.p (.mov (.tmp 38))), none⟩])
 (.cond (.tmp 37) (.reg [⟨(some 4), (.p (.mov (.cst (.int .i64 4)))), none⟩,
 ⟨(some 5), (.p (.mov (.cst (.int .i64 3)))), none⟩,
 ⟨(some 6), (.p (.mov (.cst (.int .i64 255)))), none⟩])
 (.seq (.reg [⟨(some 40), (.p (.ibin .eql (.tmp 7) (.cst (.int .i64 56)))), none⟩,
 ⟨(some 39), (.p (.mov (.tmp 40))), none⟩])
 (.cond (.tmp 39) (.reg [⟨(some 4), (.p (.mov (.cst (.int .i64 1)))), none⟩,
 ⟨(some 6), (.p (.mov (.cst (.int .i64 20)))), none⟩])
 (.seq (.seq (.reg [⟨(some 42), (.p (.ibin .eql (.tmp 7) (.cst (.int .i64 60)))), none⟩,
 ⟨(some 41), (.p (.mov (.tmp 42))), none⟩])
 (.cond (.tmp 41) .skip
 (.seq (.reg [⟨(some 43), (.p (.ibin .eql (.tmp 7) (.cst (.int .i64 61)))), none⟩,
 ⟨(some 41), (.p (.mov (.tmp 43))), none⟩])
 (.cond (.tmp 41) .skip
 (.seq (.reg [⟨(some 44), (.p (.ibin .eql (.tmp 7) (.cst (.int .i64 62)))), none⟩,
 ⟨(some 41), (.p (.mov (.tmp 44))), none⟩])
 (.cond (.tmp 41) .skip
 (.reg [⟨(some 45), (.p (.ibin .eql (.tmp 7) (.cst (.int .i64 63)))), none⟩,
 ⟨(some 41), (.p (.mov (.tmp 45))), none⟩])))))))
 (.cond (.tmp 41) (.reg [⟨(some 4), (.p (.mov (.cst (.int .i64 3)))), none⟩,
 ⟨(some 5), (.p (.mov (.cst (.int .i64 3)))), none⟩,
 ⟨(some 6), (.p (.mov (.cst (.int .i64 100)))), none⟩])
 (.seq (.seq (.reg [⟨(some 47), (.p (.ibin .eql (.tmp 7) (.cst (.int .i64 102)))), none⟩,
 ⟨(some 46), (.p (.mov (.tmp 47))), none⟩])
 (.cond (.tmp 46) .skip
 (.reg [⟨(some 48), (.p (.ibin .eql (.tmp 7) (.cst (.int .i64 103)))), none⟩,
 ⟨(some 46), (.p (.mov (.tmp 48))), none⟩])))
 (.cond (.tmp 46) (.reg [⟨(some 4), (.p (.mov (.cst (.int .i64 3)))), none⟩,
 ⟨(some 5), (.p (.mov (.cst (.int .i64 2)))), none⟩,
 ⟨(some 6), (.p (.mov (.cst (.int .i64 28)))), none⟩])
 (.seq (.reg [⟨(some 50), (.p (.ibin .eql (.tmp 7) (.cst (.int .i64 120)))), none⟩,
 ⟨(some 49), (.p (.mov (.tmp 50))), none⟩])
 (.cond (.tmp 49) (.reg [⟨(some 4), (.p (.mov (.cst (.int .i64 4)))), none⟩,
 ⟨(some 5), (.p (.mov (.cst (.int .i64 4)))), none⟩,
 ⟨(some 6), (.p (.mov (.cst (.int .i64 999)))), none⟩])
 (.seq (.reg [⟨(some 8), (.p (.build [(.int .i64 0), (.int .i64 0), (.int .i64 0), (.int .i64 0)] [])), none⟩,
 ⟨none, (.w (.store 4 (.tmp 2) (.tmp 8))), none⟩,
 ⟨(some 3), (.p (.mov (.cst (.bool false)))), none⟩])
 .ret)))))))))))))))))))))))))))))))))))))))
 (.seq (.reg [⟨(some 51), (.p (.mov (.tmp 0))), none⟩,
 ⟨(some 52), (.p (.mov (.tmp 4))), none⟩,
 ⟨(some 53), (.p (.mov (.tmp 5))), none⟩,
 ⟨(some 54), (.p (.mov (.tmp 6))), none⟩,
 ⟨(some 55), (.p (.build [(.int .i64 0), (.int .i64 0), (.int .i64 0), (.int .i64 0)] [(0, 1, (.tmp 51)), (1, 1, (.tmp 52)), (2, 1, (.tmp 53)), (3, 1, (.tmp 54))])), none⟩,
 ⟨none, (.w (.store 4 (.tmp 2) (.tmp 55))), none⟩,
 ⟨(some 3), (.p (.mov (.cst (.bool true)))), none⟩])
 .ret))))
def f7 : VF := { body := b7, res := [(.cell 2 (some 4)), (.tmp 3)] }
-- comptoir/comptoirref16.Format
def b8 : VC := (.seq (.reg [⟨(some 2), (.w (.alloc [(.int .i64 0), (.int .i64 0), (.int .i64 0), (.int .i64 0)])), none⟩,
 ⟨(some 3), (.p (.mov (.cst (.bool false)))), none⟩])
 (.seq (.reg [⟨(some 6), (.r (.pcall (.cst (.fn 18 [] [])) [])), none⟩,
 ⟨(some 4), (.p (.mov (.tmp 6))), none⟩])
 (.seq (.seq (.reg [⟨(some 5), (.p (.mov (.cst (.int .i64 0)))), none⟩])
 (.block 0 (.loop (.seq (.seq (.reg [⟨(some 7), (.p (.mov (.tmp 5))), none⟩,
 ⟨(some 8), (.p (.mov (.tmp 4))), none⟩,
 ⟨(some 9), (.p (.len (.tmp 8))), none⟩,
 ⟨(some 10), (.p (.ibin .lss (.tmp 7) (.tmp 9))), none⟩])
 (.cond (.tmp 10) .skip
 (.exit 0)))
 (.seq (.block 1 (.seq (.reg [⟨(some 13), (.p (.mov (.tmp 4))), none⟩,
 ⟨(some 14), (.p (.mov (.tmp 5))), none⟩,
 ⟨(some 15), (.p (.idxA 4 (.tmp 13) (.tmp 14))), none⟩,
 ⟨(some 16), (.p (.fieldA 0 (.tmp 15))), none⟩,
 ⟨(some 17), (.r (.load none (.tmp 16))), none⟩,
 ⟨(some 18), (.p (.mov (.tmp 0))), none⟩,
 ⟨(some 19), (.p (.ibin .eql (.tmp 17) (.tmp 18))), none⟩])
 (.cond (.tmp 19) (.seq (.reg [⟨(some 20), (.p (.mov (.tmp 4))), none⟩,
 ⟨(some 21), (.p (.mov (.tmp 5))), none⟩,
 ⟨(some 22), (.p (.idxA 4 (.tmp 20) (.tmp 21))), none⟩,
 ⟨(some 23), (.r (.load (some 4) (.tmp 22))), none⟩,
 ⟨none, (.w (.store 4 (.tmp 2) (.tmp 23))), none⟩,
 ⟨(some 3), (.p (.mov (.cst (.bool true)))), none⟩])
 .ret)
 .skip)))
 (.reg [⟨(some 11), (.p (.mov (.tmp 5))), none⟩,
 ⟨(some 12), (.p (.ibin .add (.tmp 11) (.cst (.int .i64 1)))), none⟩,
 ⟨(some 5), (.p (.mov (.tmp 12))), none⟩]))))))
 (.seq (.reg [⟨(some 24), (.p (.build [(.int .i64 0), (.int .i64 0), (.int .i64 0), (.int .i64 0)] [])), none⟩,
 ⟨none, (.w (.store 4 (.tmp 2) (.tmp 24))), none⟩,
 ⟨(some 3), (.p (.mov (.cst (.bool false)))), none⟩])
 .ret))))
def f8 : VF := { body := b8, res := [(.cell 2 (some 4)), (.tmp 3)] }
-- comptoir/element.Read
def b9 : VC := (.seq (.reg [⟨(some 4), (.p (.mov (.cst .nilsl))), none⟩,
 ⟨(some 5), (.p (.mov (.cst (.int .i64 0)))), none⟩,
 ⟨(some 6), (.p (.mov (.cst (.int .i64 0)))), none⟩])
 (.seq (.reg [⟨(some 13), (.p (.mov (.tmp 0))), none⟩,
 ⟨(some 14), (.r (.pcall (.cst (.fn 7 [] [])) [(.tmp 13)])), none⟩,
 ⟨(some 12), (.p (.mov (.tmp 14))), none⟩,
 ⟨(some 15), (.p (.ext (.tmp 12) 0)), none⟩,
 ⟨(some 16), (.p (.ext (.tmp 12) 1)), none⟩,
 ⟨(some 7), (.w (.alloc [(.int .i64 0), (.int .i64 0), (.int .i64 0), (.int .i64 0)])), none⟩,
 ⟨none, (.w (.store 4 (.tmp 7) (.tmp 15))), none⟩,
 ⟨(some 8), (.p (.mov (.tmp 16))), none⟩])
 (.seq (.seq (.reg [⟨(some 17), (.p (.mov (.tmp 8))), none⟩,
 ⟨(some 18), (.p (.un .not (.tmp 17))), none⟩])
 (.cond (.tmp 18) (.seq (.reg [⟨(some 4), (.p (.mov (.cst .nilsl))), none⟩,
 ⟨(some 5), (.p (.mov (.cst (.int .i64 0)))), none⟩,
 ⟨(some 6), (.p (.mov (.cst (.int .i64 16)))), none⟩])
 .ret)
 .skip))
 (.seq (.reg [⟨(some 20), (.r (.load (some 4) (.tmp 7))), none⟩,
 ⟨(some 21), (.p (.mov (.tmp 1))), none⟩,
 ⟨(some 22), (.r (.pcall (.cst (.fn 19 [] [])) [(.tmp 20), (.tmp 21)])), none⟩,
 ⟨(some 19), (.p (.mov (.tmp 22))), none⟩,
 ⟨(some 23), (.p (.ext (.tmp 19) 0)), none⟩,
 ⟨(some 24), (.p (.ext (.tmp 19) 1)), none⟩,
 ⟨(some 9), (.p (.mov (.tmp 23))), none⟩,
 ⟨(some 10), (.p (.mov (.tmp 24))), none⟩])
 (.seq (.seq (.reg [⟨(some 25), (.p (.mov (.tmp 10))), none⟩,
 ⟨(some 26), (.p (.ibin .neq (.tmp 25) (.cst (.int .i64 0)))), none⟩])
 (.cond (.tmp 26) (.seq (.reg [⟨(some 27), (.p (.mov (.tmp 10))), none⟩,
 ⟨(some 4), (.p (.mov (.cst .nilsl))), none⟩,
 ⟨(some 5), (.p (.mov (.cst (.int .i64 0)))), none⟩,
 ⟨(some 6), (.p (.mov (.tmp 27))), none⟩])
 .ret)
 .skip))
 (.seq (.reg [⟨(some 28), (.p (.fieldA 2 (.tmp 7))), none⟩,
 ⟨(some 29), (.r (.load none (.tmp 28))), none⟩,
 ⟨(some 30), (.p (.mov (.tmp 9))), none⟩,
 ⟨(some 31), (.p (.ibin .add (.tmp 29) (.tmp 30))), none⟩,
 ⟨(some 11), (.p (.mov (.tmp 31))), none⟩])
 (.seq (.seq (.reg [⟨(some 32), (.p (.mov (.tmp 1))), none⟩,
 ⟨(some 33), (.p (.len (.tmp 32))), none⟩,
 ⟨(some 34), (.p (.mov (.tmp 11))), none⟩,
 ⟨(some 35), (.p (.ibin .lss (.tmp 33) (.tmp 34))), none⟩])
 (.cond (.tmp 35) (.seq (.reg [⟨(some 4), (.p (.mov (.cst .nilsl))), none⟩,
 ⟨(some 5), (.p (.mov (.cst (.int .i64 0)))), none⟩,
 ⟨(some 6), (.p (.mov (.cst (.int .i64 3)))), none⟩])
 .ret)
 .skip))
 (.seq (.seq (.draw [(⟨(some 36), (.r (.load (some 4) (.tmp 7))), none⟩, 0, 0),
 (⟨(some 37), (.p (.mov (.tmp 1))), none⟩, 0, 0),
 (⟨(some 38), (.p (.fieldA 2 (.tmp 7))), none⟩, 0, 0),
 (⟨(some 39), (.r (.load none (.tmp 38))), none⟩, 0, 0),
 (⟨(some 40), (.p (.mov (.tmp 11))), none⟩, 0, 0),
 (⟨(some 41), (.p (.slice 1 (.tmp 37) (some (.tmp 39)) (some (.tmp 40)))), none⟩, 0, 0),
 (⟨(some 42), (.r (.pcall (.cst (.fn 20 [] [])) [(.tmp 36), (.tmp 41)])), none⟩, 0, 0),
 (⟨(some 10), (.p (.mov (.tmp 42))), none⟩, 0, 0)])
 (.seq (.reg [⟨(some 43), (.p (.mov (.tmp 10))), none⟩,
 ⟨(some 44), (.p (.ibin .neq (.tmp 43) (.cst (.int .i64 0)))), none⟩])
 (.cond (.tmp 44) (.seq (.reg [⟨(some 45), (.p (.mov (.tmp 10))), none⟩,
 ⟨(some 4), (.p (.mov (.cst .nilsl))), none⟩,
 ⟨(some 5), (.p (.mov (.cst (.int .i64 0)))), none⟩,
 ⟨(some 6), (.p (.mov (.tmp 45))), none⟩])
 .ret)
 .skip)))
 (.seq (.reg [⟨(some 46), (.p (.mov (.tmp 1))), none⟩,
 ⟨(some 47), (.p (.fieldA 2 (.tmp 7))), none⟩,
 ⟨(some 48), (.r (.load none (.tmp 47))), none⟩,
 ⟨(some 49), (.p (.mov (.tmp 11))), none⟩,
 ⟨(some 50), (.p (.slice 1 (.tmp 46) (some (.tmp 48)) (some (.tmp 49)))), none⟩,
 ⟨(some 51), (.w (.append 1 1 (.cst .nilsl) (.tmp 50))), none⟩,
 ⟨(some 52), (.p (.mov (.tmp 11))), none⟩,
 ⟨(some 4), (.p (.mov (.tmp 51))), none⟩,
 ⟨(some 5), (.p (.mov (.tmp 52))), none⟩,
 ⟨(some 6), (.p (.mov (.cst (.int .i64 0)))), none⟩])
 .ret)))))))))
def f9 : VF := { body := b9, res := [(.tmp 4), (.tmp 5), (.tmp 6)] }
-- comptoir/comptoirref16.ReadElement
def b10 : VC := (.seq (.reg [⟨(some 4), (.p (.mov (.cst .nilsl))), none⟩,
 ⟨(some 5), (.p (.mov (.cst (.int .i64 0)))), none⟩,
 ⟨(some 6), (.p (.mov (.cst (.int .i64 0)))), none⟩])
 (.seq (.reg [⟨(some 14), (.p (.mov (.tmp 0))), none⟩,
 ⟨(some 15), (.r (.pcall (.cst (.fn 8 [] [])) [(.tmp 14)])), none⟩,
 ⟨(some 13), (.p (.mov (.tmp 15))), none⟩,
 ⟨(some 16), (.p (.ext (.tmp 13) 0)), none⟩,
 ⟨(some 17), (.p (.ext (.tmp 13) 1)), none⟩,
 ⟨(some 7), (.w (.alloc [(.int .i64 0), (.int .i64 0), (.int .i64 0), (.int .i64 0)])), none⟩,
 ⟨none, (.w (.store 4 (.tmp 7) (.tmp 16))), none⟩,
 ⟨(some 8), (.p (.mov (.tmp 17))), none⟩])
 (.seq (.seq (.reg [⟨(some 18), (.p (.mov (.tmp 8))), none⟩,
 ⟨(some 19), (.p (.un .not (.tmp 18))), none⟩])
 (.cond (.tmp 19) (.seq (.reg [⟨(some 4), (.p (.mov (.cst .nilsl))), none⟩,
 ⟨(some 5), (.p (.mov (.cst (.int .i64 0)))), none⟩,
 ⟨(some 6), (.p (.mov (.cst (.int .i64 16)))), none⟩])
 .ret)
 .skip))
 (.seq (.reg [⟨(some 20), (.p (.fieldA 3 (.tmp 7))), none⟩,
 ⟨(some 21), (.r (.load none (.tmp 20))), none⟩,
 ⟨(some 9), (.p (.mov (.tmp 21))), none⟩])
 (.seq (.seq (.reg [⟨(some 22), (.p (.fieldA 2 (.tmp 7))), none⟩,
 ⟨(some 23), (.r (.load none (.tmp 22))), none⟩,
 ⟨(some 24), (.p (.ibin .gtr (.tmp 23) (.cst (.int .i64 0)))), none⟩])
 (.cond (.tmp 24) (.seq (.seq (.reg [⟨(some 25), (.p (.mov (.tmp 1))), none⟩,
 ⟨(some 26), (.p (.len (.tmp 25))), none⟩,
 ⟨(some 27), (.p (.fieldA 2 (.tmp 7))), none⟩,
 ⟨(some 28), (.r (.load none (.tmp 27))), none⟩,
 ⟨(some 29), (.p (.ibin .lss (.tmp 26) (.tmp 28))), none⟩])
 (.cond (.tmp 29) (.seq (.reg [⟨(some 4), (.p (.mov (.cst .nilsl))), none⟩,
 ⟨(some 5), (.p (.mov (.cst (.int .i64 0)))), none⟩,
 ⟨(some 6), (.p (.mov (.cst (.int .i64 3)))), none⟩])
 .ret)
 .skip))
 (.seq (.reg [⟨(some 31), (.p (.mov (.tmp 1))), none⟩,
 ⟨(some 32), (.p (.fieldA 2 (.tmp 7))), none⟩,
 ⟨(some 33), (.r (.load none (.tmp 32))), none⟩,
 ⟨(some 34), (.p (.slice 1 (.tmp 31) none (some (.tmp 33)))), none⟩,
 ⟨(some 35), (.r (.bytesStr (.tmp 34))), none⟩,
 ⟨(some 36), (.r (.pcall (.cst (.fn 21 [] [])) [(.tmp 35)])), none⟩,
 ⟨(some 30), (.p (.mov (.tmp 36))), none⟩,
 ⟨(some 37), (.p (.ext (.tmp 30) 0)), none⟩,
 ⟨(some 38), (.p (.ext (.tmp 30) 1)), none⟩,
 ⟨(some 10), (.p (.mov (.tmp 37))), none⟩,
 ⟨(some 11), (.p (.mov (.tmp 38))), none⟩])
 (.seq (.seq (.reg [⟨(some 39), (.p (.mov (.tmp 11))), none⟩,
 ⟨(some 40), (.p (.ibin .neq (.tmp 39) (.cst (.int .i64 0)))), none⟩])
 (.cond (.tmp 40) (.seq (.reg [⟨(some 41), (.p (.mov (.tmp 11))), none⟩,
 ⟨(some 4), (.p (.mov (.cst .nilsl))), none⟩,
 ⟨(some 5), (.p (.mov (.cst (.int .i64 0)))), none⟩,
 ⟨(some 6), (.p (.mov (.tmp 41))), none⟩])
 .ret)
 .skip))
 (.seq (.seq (.reg [⟨(some 42), (.p (.mov (.tmp 10))), none⟩,
 ⟨(some 43), (.p (.ibin .lss (.tmp 42) (.cst (.int .u64 1)))), none⟩,
 ⟨(some 44), (.p (.mov (.tmp 43))), none⟩,
 ⟨(some 45), (.p (.mov (.tmp 10))), (some (44, false))⟩,
 ⟨(some 46), (.p (.fieldA 3 (.tmp 7))), (some (44, false))⟩,
 ⟨(some 47), (.r (.load none (.tmp 46))), (some (44, false))⟩,
 ⟨(some 48), (.p (.conv (.toInt .u64) (.tmp 47))), (some (44, false))⟩,
 ⟨(some 49), (.p (.ibin .gtr (.tmp 45) (.tmp 48))), (some (44, false))⟩,
 ⟨(some 50), (.p (.pick (.tmp 44) (.cst (.bool true)) (.tmp 49))), none⟩])
 (.cond (.tmp 50) (.seq (.reg [⟨(some 4), (.p (.mov (.cst .nilsl))), none⟩,
 ⟨(some 5), (.p (.mov (.cst (.int .i64 0)))), none⟩,
 ⟨(some 6), (.p (.mov (.cst (.int .i64 17)))), none⟩])
 .ret)
 .skip))
 (.reg [⟨(some 51), (.p (.mov (.tmp 10))), none⟩,
 ⟨(some 52), (.p (.conv (.toInt .i64) (.tmp 51))), none⟩,
 ⟨(some 9), (.p (.mov (.tmp 52))), none⟩])))))
 .skip))
 (.seq (.reg [⟨(some 53), (.p (.fieldA 2 (.tmp 7))), none⟩,
 ⟨(some 54), (.r (.load none (.tmp 53))), none⟩,
 ⟨(some 55), (.p (.mov (.tmp 9))), none⟩,
 ⟨(some 56), (.p (.ibin .add (.tmp 54) (.tmp 55))), none⟩,
 ⟨(some 12), (.p (.mov (.tmp 56))), none⟩])
 (.seq (.seq (.reg [⟨(some 57), (.p (.mov (.tmp 1))), none⟩,
 ⟨(some 58), (.p (.len (.tmp 57))), none⟩,
 ⟨(some 59), (.p (.mov (.tmp 12))), none⟩,
 ⟨(some 60), (.p (.ibin .lss (.tmp 58) (.tmp 59))), none⟩])
 (.cond (.tmp 60) (.seq (.reg [⟨(some 4), (.p (.mov (.cst .nilsl))), none⟩,
 ⟨(some 5), (.p (.mov (.cst (.int .i64 0)))), none⟩,
 ⟨(some 6), (.p (.mov (.cst (.int .i64 3)))), none⟩])
 .ret)
 .skip))
 (.seq (.seq (.draw [(⟨(some 61), (.r (.load (some 4) (.tmp 7))), none⟩, 0, 0),
 (⟨(some 62), (.p (.mov (.tmp 1))), none⟩, 0, 0),
 (⟨(some 63), (.p (.fieldA 2 (.tmp 7))), none⟩, 0, 0),
 (⟨(some 64), (.r (.load none (.tmp 63))), none⟩, 0, 0),
 (⟨(some 65), (.p (.mov (.tmp 12))), none⟩, 0, 0),
 (⟨(some 66), (.p (.slice 1 (.tmp 62) (some (.tmp 64)) (some (.tmp 65)))), none⟩, 0, 0),
 (⟨(some 67), (.r (.pcall (.cst (.fn 22 [] [])) [(.tmp 61), (.tmp 66)])), none⟩, 0, 0),
 (⟨(some 68), (.p (.un .not (.tmp 67))), none⟩, 0, 0)])
 (.cond (.tmp 68) (.seq (.reg [⟨(some 4), (.p (.mov (.cst .nilsl))), none⟩,
 ⟨(some 5), (.p (.mov (.cst (.int .i64 0)))), none⟩,
 ⟨(some 6), (.p (.mov (.cst (.int .i64 14)))), none⟩])
 .ret)
 .skip))
 (.seq (.reg [⟨(some 69), (.p (.mov (.tmp 1))), none⟩,
 ⟨(some 70), (.p (.fieldA 2 (.tmp 7))), none⟩,
 ⟨(some 71), (.r (.load none (.tmp 70))), none⟩,
 ⟨(some 72), (.p (.mov (.tmp 12))), none⟩,
 ⟨(some 73), (.p (.slice 1 (.tmp 69) (some (.tmp 71)) (some (.tmp 72)))), none⟩,
 ⟨(some 74), (.w (.append 1 1 (.cst .nilsl) (.tmp 73))), none⟩,
 ⟨(some 75), (.p (.mov (.tmp 12))), none⟩,
 ⟨(some 4), (.p (.mov (.tmp 74))), none⟩,
 ⟨(some 5), (.p (.mov (.tmp 75))), none⟩,
 ⟨(some 6), (.p (.mov (.cst (.int .i64 0)))), none⟩])
 .ret)))))))))
def f10 : VF := { body := b10, res := [(.tmp 4), (.tmp 5), (.tmp 6)] }
-- comptoir/element.Write
def b11 : VC := (.seq (.reg [⟨(some 1), (.w (.box 2 (.tmp 0))), none⟩,
 ⟨(some 2), (.p (.mov (.cst .nilsl))), none⟩,
 ⟨(some 3), (.p (.mov (.cst (.int .i64 0)))), none⟩])
 (.seq (.seq (.reg [⟨(some 8), (.r (.load (some 2) (.tmp 1))), none⟩,
 ⟨(some 9), (.r (.pcall (.cst (.fn 16 [] [])) [(.tmp 8)])), none⟩,
 ⟨(some 4), (.p (.mov (.tmp 9))), none⟩])
 (.seq (.reg [⟨(some 10), (.p (.mov (.tmp 4))), none⟩,
 ⟨(some 11), (.p (.ibin .neq (.tmp 10) (.cst (.int .i64 0)))), none⟩])
 (.cond (.tmp 11) (.seq (.reg [⟨(some 12), (.p (.mov (.tmp 4))), none⟩,
 ⟨(some 2), (.p (.mov (.cst .nilsl))), none⟩,
 ⟨(some 3), (.p (.mov (.tmp 12))), none⟩])
 .ret)
 .skip)))
 (.seq (.reg [⟨(some 14), (.p (.fieldA 0 (.tmp 1))), none⟩,
 ⟨(some 15), (.r (.load none (.tmp 14))), none⟩,
 ⟨(some 16), (.r (.pcall (.cst (.fn 7 [] [])) [(.tmp 15)])), none⟩,
 ⟨(some 13), (.p (.mov (.tmp 16))), none⟩,
 ⟨(some 17), (.p (.ext (.tmp 13) 0)), none⟩,
 ⟨(some 18), (.p (.ext (.tmp 13) 1)), none⟩,
 ⟨(some 5), (.w (.alloc [(.int .i64 0), (.int .i64 0), (.int .i64 0), (.int .i64 0)])), none⟩,
 ⟨none, (.w (.store 4 (.tmp 5) (.tmp 17))), none⟩,
 ⟨(some 6), (.p (.mov (.tmp 18))), none⟩])
 (.seq (.reg [⟨(some 7), (.p (.mov (.cst (.str [])))), none⟩])
 (.seq (.seq (.reg [⟨(some 19), (.p (.fieldA 2 (.tmp 5))), none⟩,
 ⟨(some 20), (.r (.load none (.tmp 19))), none⟩,
 ⟨(some 21), (.p (.ibin .gtr (.tmp 20) (.cst (.int .i64 0)))), none⟩])
 (.cond (.tmp 21) (.reg [⟨(some 23), (.p (.fieldA 1 (.tmp 1))), none⟩,
 ⟨(some 24), (.r (.load none (.tmp 23))), none⟩,
 ⟨(some 25), (.p (.len (.tmp 24))), none⟩,
 ⟨(some 26), (.p (.conv (.toInt .u64) (.tmp 25))), none⟩,
 ⟨(some 27), (.p (.fieldA 2 (.tmp 5))), none⟩,
 ⟨(some 28), (.r (.load none (.tmp 27))), none⟩,
 ⟨(some 29), (.r (.pcall (.cst (.fn 23 [] [])) [(.tmp 26), (.tmp 28)])), none⟩,
 ⟨(some 22), (.p (.mov (.tmp 29))), none⟩,
 ⟨(some 30), (.p (.ext (.tmp 22) 0)), none⟩,
 ⟨(some 31), (.p (.ext (.tmp 22) 1)), none⟩,
 ⟨(some 7), (.p (.mov (.tmp 30))), none⟩])
 .skip))
 (.seq (.reg [⟨(some 32), (.p (.mov (.tmp 7))), none⟩,
 ⟨(some 33), (.w (.strBytes (.tmp 32))), none⟩,
 ⟨(some 34), (.p (.fieldA 1 (.tmp 1))), none⟩,
 ⟨(some 35), (.r (.load none (.tmp 34))), none⟩,
 ⟨(some 36), (.w (.append 1 1 (.tmp 33) (.tmp 35))), none⟩,
 ⟨(some 2), (.p (.mov (.tmp 36))), none⟩,
 ⟨(some 3), (.p (.mov (.cst (.int .i64 0)))), none⟩])
 .ret))))))
def f11 : VF := { body := b11, res := [(.tmp 2), (.tmp 3)] }
-- comptoir/comptoirref16.WriteElement
def b12 : VC := (.seq (.reg [⟨(some 1), (.w (.box 2 (.tmp 0))), none⟩,
 ⟨(some 2), (.p (.mov (.cst .nilsl))), none⟩,
 ⟨(some 3), (.p (.mov (.cst (.int .i64 0)))), none⟩])
 (.seq (.reg [⟨(some 8), (.r (.load (some 2) (.tmp 1))), none⟩,
 ⟨(some 9), (.r (.pcall (.cst (.fn 17 [] [])) [(.tmp 8)])), none⟩,
 ⟨(some 4), (.p (.mov (.tmp 9))), none⟩])
 (.seq (.seq (.reg [⟨(some 10), (.p (.mov (.tmp 4))), none⟩,
 ⟨(some 11), (.p (.ibin .neq (.tmp 10) (.cst (.int .i64 0)))), none⟩])
 (.cond (.tmp 11) (.seq (.reg [⟨(some 12), (.p (.mov (.tmp 4))), none⟩,
 ⟨(some 2), (.p (.mov (.cst .nilsl))), none⟩,
 ⟨(some 3), (.p (.mov (.tmp 12))), none⟩])
 .ret)
 .skip))
 (.seq (.reg [⟨(some 14), (.p (.fieldA 0 (.tmp 1))), none⟩,
 ⟨(some 15), (.r (.load none (.tmp 14))), none⟩,
 ⟨(some 16), (.r (.pcall (.cst (.fn 8 [] [])) [(.tmp 15)])), none⟩,
 ⟨(some 13), (.p (.mov (.tmp 16))), none⟩,
 ⟨(some 17), (.p (.ext (.tmp 13) 0)), none⟩,
 ⟨(some 18), (.p (.ext (.tmp 13) 1)), none⟩,
 ⟨(some 5), (.w (.alloc [(.int .i64 0), (.int .i64 0), (.int .i64 0), (.int .i64 0)])), none⟩,
 ⟨none, (.w (.store 4 (.tmp 5) (.tmp 17))), none⟩,
 ⟨(some 6), (.p (.mov (.tmp 18))), none⟩])
 (.seq (.reg [⟨(some 7), (.p (.mov (.cst (.str [])))), none⟩])
 (.seq (.seq (.reg [⟨(some 19), (.p (.fieldA 2 (.tmp 5))), none⟩,
 ⟨(some 20), (.r (.load none (.tmp 19))), none⟩,
 ⟨(some 21), (.p (.ibin .gtr (.tmp 20) (.cst (.int .i64 0)))), none⟩])
 (.cond (.tmp 21) (.reg [⟨(some 23), (.p (.fieldA 1 (.tmp 1))), none⟩,
 ⟨(some 24), (.r (.load none (.tmp 23))), none⟩,
 ⟨(some 25), (.p (.len (.tmp 24))), none⟩,
 ⟨(some 26), (.p (.conv (.toInt .u64) (.tmp 25))), none⟩,
 ⟨(some 27), (.p (.fieldA 2 (.tmp 5))), none⟩,
 ⟨(some 28), (.r (.load none (.tmp 27))), none⟩,
 ⟨(some 29), (.r (.pcall (.cst (.fn 24 [] [])) [(.tmp 26), (.tmp 28)])), none⟩,
 ⟨(some 22), (.p (.mov (.tmp 29))), none⟩,
 ⟨(some 30), (.p (.ext (.tmp 22) 0)), none⟩,
 ⟨(some 31), (.p (.ext (.tmp 22) 1)), none⟩,
 ⟨(some 7), (.p (.mov (.tmp 30))), none⟩])
 .skip))
 (.seq (.reg [⟨(some 32), (.p (.mov (.tmp 7))), none⟩,
 ⟨(some 33), (.w (.strBytes (.tmp 32))), none⟩,
 ⟨(some 34), (.p (.fieldA 1 (.tmp 1))), none⟩,
 ⟨(some 35), (.r (.load none (.tmp 34))), none⟩,
 ⟨(some 36), (.w (.append 1 1 (.tmp 33) (.tmp 35))), none⟩,
 ⟨(some 37), (.p (.mov (.tmp 4))), none⟩,
 ⟨(some 2), (.p (.mov (.tmp 36))), none⟩,
 ⟨(some 3), (.p (.mov (.tmp 37))), none⟩])
 .ret)))))))
def f12 : VF := { body := b12, res := [(.tmp 2), (.tmp 3)] }
-- comptoir/element.Spare
def b13 : VC := (.seq (.reg [⟨(some 2), (.p (.mov (.cst (.bool false)))), none⟩])
 (.seq (.seq (.reg [⟨(some 3), (.p (.mov (.tmp 0))), none⟩])
 (.block 0 (.seq (.seq (.reg [⟨(some 5), (.p (.ibin .eql (.tmp 3) (.cst (.int .i64 43)))), none⟩,
 ⟨(some 4), (.p (.mov (.tmp 5))), none⟩])
 (.cond (.tmp 4) .skip
 (.seq (.reg [⟨(some 6), (.p (.ibin .eql (.tmp 3) (.cst (.int .i64 60)))), none⟩,
 ⟨(some 4), (.p (.mov (.tmp 6))), none⟩])
 (.cond (.tmp 4) .skip
 (.seq (.reg [⟨(some 7), (.p (.ibin .eql (.tmp 3) (.cst (.int .i64 61)))), none⟩,
 ⟨(some 4), (.p (.mov (.tmp 7))), none⟩])
 (.cond (.tmp 4) .skip
 (.seq (.reg [⟨(some 8), (.p (.ibin .eql (.tmp 3) (.cst (.int .i64 62)))), none⟩,
 ⟨(some 4), (.p (.mov (.tmp 8))), none⟩])
 (.cond (.tmp 4) .skip
 (.seq (.reg [⟨(some 9), (.p (.ibin .eql (.tmp 3) (.cst (.int .i64 63)))), none⟩,
 ⟨(some 4), (.p (.mov (.tmp 9))), none⟩])
 (.cond (.tmp 4) .skip
 (.seq (.reg [⟨(some 10), (.p (.ibin .eql (.tmp 3) (.cst (.int .i64 102)))), none⟩,
 ⟨(some 4), (.p (.mov (.tmp 10))), none⟩])
 (.cond (.tmp 4) .skip
 (.seq (.reg [⟨(some 11), (.p (.ibin .eql (.tmp 3) (.cst (.int .i64 103)))), none⟩,
 ⟨(some 4), (.p (.mov (.tmp 11))), none⟩])
 (.cond (.tmp 4) .skip
 (.reg [⟨(some 12), (.p (.ibin .eql (.tmp 3) (.cst (.int .i64 120)))), none⟩,
 ⟨(some 4), (.p (.mov (.tmp 12))), none⟩])))))))))))))))
 (.cond (.tmp 4) (.seq (.reg [⟨(some 2), (.p (.mov (.cst (.bool true)))), none⟩])
 .ret)
 .skip))))
 (.seq (.reg [⟨(some 2), (.p (.mov (.cst (.bool false)))), none⟩])
 .ret)))
def f13 : VF := { body := b13, res := [(.tmp 2)] }
-- comptoir/comptoirref16.Spare
def b14 : VC := (.seq (.reg [⟨(some 2), (.p (.mov (.cst (.bool false)))), none⟩])
 (.seq (.reg [⟨(some 3), (.p (.mov (.tmp 0))), none⟩,
 ⟨(some 4), (.p (.ibin .eql (.tmp 3) (.cst (.int .i64 43)))), none⟩,
 ⟨(some 5), (.p (.mov (.tmp 4))), none⟩,
 ⟨(some 6), (.p (.mov (.tmp 0))), (some (5, false))⟩,
 ⟨(some 7), (.p (.ibin .geq (.tmp 6) (.cst (.int .i64 60)))), (some (5, false))⟩,
 ⟨(some 8), (.p (.mov (.tmp 7))), (some (5, false))⟩,
 ⟨(some 9), (.p (.mov (.tmp 0))), (some (8, true))⟩,
 ⟨(some 10), (.p (.ibin .leq (.tmp 9) (.cst (.int .i64 63)))), (some (8, true))⟩,
 ⟨(some 11), (.p (.pick (.tmp 8) (.tmp 10) (.cst (.bool false)))), (some (5, false))⟩,
 ⟨(some 12), (.p (.pick (.tmp 5) (.cst (.bool true)) (.tmp 11))), none⟩,
 ⟨(some 13), (.p (.mov (.tmp 12))), none⟩,
 ⟨(some 14), (.p (.mov (.tmp 0))), (some (13, false))⟩,
 ⟨(some 15), (.p (.ibin .eql (.tmp 14) (.cst (.int .i64 102)))), (some (13, false))⟩,
 ⟨(some 16), (.p (.pick (.tmp 13) (.cst (.bool true)) (.tmp 15))), none⟩,
 ⟨(some 17), (.p (.mov (.tmp 16))), none⟩,
 ⟨(some 18), (.p (.mov (.tmp 0))), (some (17, false))⟩,
 ⟨(some 19), (.p (.ibin .eql (.tmp 18) (.cst (.int .i64 103)))), (some (17, false))⟩,
 ⟨(some 20), (.p (.pick (.tmp 17) (.cst (.bool true)) (.tmp 19))), none⟩,
 ⟨(some 21), (.p (.mov (.tmp 20))), none⟩,
 ⟨(some 22), (.p (.mov (.tmp 0))), (some (21, false))⟩,
 ⟨(some 23), (.p (.ibin .eql (.tmp 22) (.cst (.int .i64 120)))), (some (21, false))⟩,
 ⟨(some 24), (.p (.pick (.tmp 21) (.cst (.bool true)) (.tmp 23))), none⟩,
 ⟨(some 2), (.p (.mov (.tmp 24))), none⟩])
 .ret))
def f14 : VF := { body := b14, res := [(.tmp 2)] }
-- comptoir/comptoirhelp.Bytes
def b15 : VC := (.seq (.reg [⟨(some 4), (.p (.mov (.cst (.bool false)))), none⟩])
 (.seq (.reg [⟨(some 5), (.p (.mov (.tmp 0))), none⟩,
 ⟨(some 6), (.r (.bytesStr (.tmp 5))), none⟩,
 ⟨(some 7), (.p (.mov (.tmp 1))), none⟩,
 ⟨(some 8), (.r (.bytesStr (.tmp 7))), none⟩,
 ⟨(some 9), (.p (.ibin .eql (.tmp 6) (.tmp 8))), none⟩,
 ⟨(some 4), (.p (.mov (.tmp 9))), none⟩])
 .ret))
def f15 : VF := { body := b15, res := [(.tmp 4)] }
-- comptoir/element.Check
def b16 : VC := (.seq (.reg [⟨(some 1), (.w (.box 2 (.tmp 0))), none⟩,
 ⟨(some 2), (.p (.mov (.cst (.int .i64 0)))), none⟩])
 (.seq (.reg [⟨(some 6), (.p (.fieldA 0 (.tmp 1))), none⟩,
 ⟨(some 7), (.r (.load none (.tmp 6))), none⟩,
 ⟨(some 8), (.r (.pcall (.cst (.fn 7 [] [])) [(.tmp 7)])), none⟩,
 ⟨(some 5), (.p (.mov (.tmp 8))), none⟩,
 ⟨(some 9), (.p (.ext (.tmp 5) 0)), none⟩,
 ⟨(some 10), (.p (.ext (.tmp 5) 1)), none⟩,
 ⟨(some 3), (.w (.alloc [(.int .i64 0), (.int .i64 0), (.int .i64 0), (.int .i64 0)])), none⟩,
 ⟨none, (.w (.store 4 (.tmp 3) (.tmp 9))), none⟩,
 ⟨(some 4), (.p (.mov (.tmp 10))), none⟩])
 (.seq (.block 0 (.seq (.reg [⟨(some 12), (.p (.mov (.tmp 4))), none⟩,
 ⟨(some 13), (.p (.un .not (.tmp 12))), none⟩,
 ⟨(some 11), (.p (.mov (.tmp 13))), none⟩])
 (.cond (.tmp 11) (.seq (.reg [⟨(some 2), (.p (.mov (.cst (.int .i64 16)))), none⟩])
 .ret)
 (.seq (.reg [⟨(some 15), (.r (.load (some 4) (.tmp 3))), none⟩,
 ⟨(some 16), (.p (.fieldA 1 (.tmp 1))), none⟩,
 ⟨(some 17), (.r (.load none (.tmp 16))), none⟩,
 ⟨(some 18), (.p (.len (.tmp 17))), none⟩,
 ⟨(some 19), (.r (.pcall (.cst (.fn 25 [] [])) [(.tmp 15), (.tmp 18)])), none⟩,
 ⟨(some 20), (.p (.un .not (.tmp 19))), none⟩,
 ⟨(some 14), (.p (.mov (.tmp 20))), none⟩])
 (.cond (.tmp 14) (.seq (.reg [⟨(some 2), (.p (.mov (.cst (.int .i64 17)))), none⟩])
 .ret)
 .skip)))))
 (.seq (.reg [⟨(some 21), (.r (.load (some 4) (.tmp 3))), none⟩,
 ⟨(some 22), (.p (.fieldA 1 (.tmp 1))), none⟩,
 ⟨(some 23), (.r (.load none (.tmp 22))), none⟩,
 ⟨(some 24), (.r (.pcall (.cst (.fn 20 [] [])) [(.tmp 21), (.tmp 23)])), none⟩,
 ⟨(some 2), (.p (.mov (.tmp 24))), none⟩])
 .ret))))
def f16 : VF := { body := b16, res := [(.tmp 2)] }
-- comptoir/comptoirref16.CheckElement
def b17 : VC := (.seq (.reg [⟨(some 1), (.w (.box 2 (.tmp 0))), none⟩,
 ⟨(some 2), (.p (.mov (.cst (.int .i64 0)))), none⟩])
 (.seq (.reg [⟨(some 6), (.p (.fieldA 0 (.tmp 1))), none⟩,
 ⟨(some 7), (.r (.load none (.tmp 6))), none⟩,
 ⟨(some 8), (.r (.pcall (.cst (.fn 8 [] [])) [(.tmp 7)])), none⟩,
 ⟨(some 5), (.p (.mov (.tmp 8))), none⟩,
 ⟨(some 9), (.p (.ext (.tmp 5) 0)), none⟩,
 ⟨(some 10), (.p (.ext (.tmp 5) 1)), none⟩,
 ⟨(some 3), (.w (.alloc [(.int .i64 0), (.int .i64 0), (.int .i64 0), (.int .i64 0)])), none⟩,
 ⟨none, (.w (.store 4 (.tmp 3) (.tmp 9))), none⟩,
 ⟨(some 4), (.p (.mov (.tmp 10))), none⟩])
 (.seq (.block 0 (.seq (.reg [⟨(some 12), (.p (.mov (.tmp 4))), none⟩,
 ⟨(some 13), (.p (.un .not (.tmp 12))), none⟩,
 ⟨(some 11), (.p (.mov (.tmp 13))), none⟩])
 (.cond (.tmp 11) (.seq (.reg [⟨(some 2), (.p (.mov (.cst (.int .i64 16)))), none⟩])
 .ret)
 (.seq (.reg [⟨(some 15), (.p (.fieldA 2 (.tmp 3))), none⟩,
 ⟨(some 16), (.r (.load none (.tmp 15))), none⟩,
 ⟨(some 17), (.p (.ibin .eql (.tmp 16) (.cst (.int .i64 0)))), none⟩,
 ⟨(some 18), (.p (.mov (.tmp 17))), none⟩,
 ⟨(some 19), (.p (.fieldA 1 (.tmp 1))), (some (18, true))⟩,
 ⟨(some 20), (.r (.load none (.tmp 19))), (some (18, true))⟩,
 ⟨(some 21), (.p (.len (.tmp 20))), (some (18, true))⟩,
 ⟨(some 22), (.p (.fieldA 3 (.tmp 3))), (some (18, true))⟩,
 ⟨(some 23), (.r (.load none (.tmp 22))), (some (18, true))⟩,
 ⟨(some 24), (.p (.ibin .neq (.tmp 21) (.tmp 23))), (some (18, true))⟩,
 ⟨(some 25), (.p (.pick (.tmp 18) (.tmp 24) (.cst (.bool false)))), none⟩,
 ⟨(some 26), (.p (.mov (.tmp 25))), none⟩,
 ⟨(some 27), (.p (.fieldA 1 (.tmp 1))), (some (26, false))⟩,
 ⟨(some 28), (.r (.load none (.tmp 27))), (some (26, false))⟩,
 ⟨(some 29), (.p (.len (.tmp 28))), (some (26, false))⟩,
 ⟨(some 30), (.p (.ibin .lss (.tmp 29) (.cst (.int .i64 1)))), (some (26, false))⟩,
 ⟨(some 31), (.p (.pick (.tmp 26) (.cst (.bool true)) (.tmp 30))), none⟩,
 ⟨(some 32), (.p (.mov (.tmp 31))), none⟩,
 ⟨(some 33), (.p (.fieldA 1 (.tmp 1))), (some (32, false))⟩,
 ⟨(some 34), (.r (.load none (.tmp 33))), (some (32, false))⟩,
 ⟨(some 35), (.p (.len (.tmp 34))), (some (32, false))⟩,
 ⟨(some 36), (.p (.fieldA 3 (.tmp 3))), (some (32, false))⟩,
 ⟨(some 37), (.r (.load none (.tmp 36))), (some (32, false))⟩,
 ⟨(some 38), (.p (.ibin .gtr (.tmp 35) (.tmp 37))), (some (32, false))⟩,
 ⟨(some 39), (.p (.pick (.tmp 32) (.cst (.bool true)) (.tmp 38))), none⟩,
 ⟨(some 14), (.p (.mov (.tmp 39))), none⟩])
 (.cond (.tmp 14) (.seq (.reg [⟨(some 2), (.p (.mov (.cst (.int .i64 17)))), none⟩])
 .ret)
 (.seq (.reg [⟨(some 41), (.r (.load (some 4) (.tmp 3))), none⟩,
 ⟨(some 42), (.p (.fieldA 1 (.tmp 1))), none⟩,
 ⟨(some 43), (.r (.load none (.tmp 42))), none⟩,
 ⟨(some 44), (.r (.pcall (.cst (.fn 22 [] [])) [(.tmp 41), (.tmp 43)])), none⟩,
 ⟨(some 45), (.p (.un .not (.tmp 44))), none⟩,
 ⟨(some 40), (.p (.mov (.tmp 45))), none⟩])
 (.cond (.tmp 40) (.seq (.reg [⟨(some 2), (.p (.mov (.cst (.int .i64 14)))), none⟩])
 .ret)
 .skip)))))))
 (.seq (.reg [⟨(some 2), (.p (.mov (.cst (.int .i64 0)))), none⟩])
 .ret))))
def f17 : VF := { body := b17, res := [(.tmp 2)] }
-- comptoir/comptoirref16.formats
def b18 : VC := (.seq (.reg [⟨(some 0), (.p (.mov (.cst .nilsl))), none⟩])
 (.seq (.reg [⟨(some 1), (.r (.pcall (.cst (.fn 26 [] [])) [(.cst (.int .i64 2)), (.cst (.int .i64 1)), (.cst (.int .i64 2)), (.cst (.int .i64 19))])), none⟩,
 ⟨(some 2), (.r (.pcall (.cst (.fn 26 [] [])) [(.cst (.int .i64 4)), (.cst (.int .i64 1)), (.cst (.int .i64 0)), (.cst (.int .i64 12))])), none⟩,
 ⟨(some 3), (.r (.pcall (.cst (.fn 26 [] [])) [(.cst (.int .i64 11)), (.cst (.int .i64 1)), (.cst (.int .i64 0)), (.cst (.int .i64 6))])), none⟩,
 ⟨(some 4), (.r (.pcall (.cst (.fn 26 [] [])) [(.cst (.int .i64 12)), (.cst (.int .i64 1)), (.cst (.int .i64 0)), (.cst (.int .i64 14))])), none⟩,
 ⟨(some 5), (.r (.pcall (.cst (.fn 26 [] [])) [(.cst (.int .i64 22)), (.cst (.int .i64 1)), (.cst (.int .i64 0)), (.cst (.int .i64 3))])), none⟩,
 ⟨(some 6), (.r (.pcall (.cst (.fn 26 [] [])) [(.cst (.int .i64 25)), (.cst (.int .i64 1)), (.cst (.int .i64 0)), (.cst (.int .i64 4))])), none⟩,
 ⟨(some 7), (.r (.pcall (.cst (.fn 26 [] [])) [(.cst (.int .i64 32)), (.cst (.int .i64 1)), (.cst (.int .i64 2)), (.cst (.int .i64 11))])), none⟩,
 ⟨(some 8), (.r (.pcall (.cst (.fn 26 [] [])) [(.cst (.int .i64 37)), (.cst (.int .i64 2)), (.cst (.int .i64 0)), (.cst (.int .i64 12))])), none⟩,
 ⟨(some 9), (.r (.pcall (.cst (.fn 26 [] [])) [(.cst (.int .i64 38)), (.cst (.int .i64 2)), (.cst (.int .i64 0)), (.cst (.int .i64 6))])), none⟩,
 ⟨(some 10), (.r (.pcall (.cst (.fn 26 [] [])) [(.cst (.int .i64 39)), (.cst (.int .i64 1)), (.cst (.int .i64 0)), (.cst (.int .i64 3))])), none⟩,
 ⟨(some 11), (.r (.pcall (.cst (.fn 26 [] [])) [(.cst (.int .i64 41)), (.cst (.int .i64 3)), (.cst (.int .i64 0)), (.cst (.int .i64 8))])), none⟩,
 ⟨(some 12), (.r (.pcall (.cst (.fn 26 [] [])) [(.cst (.int .i64 42)), (.cst (.int .i64 3)), (.cst (.int .i64 0)), (.cst (.int .i64 15))])), none⟩,
 ⟨(some 13), (.r (.pcall (.cst (.fn 26 [] [])) [(.cst (.int .i64 43)), (.cst (.int .i64 3)), (.cst (.int .i64 2)), (.cst (.int .i64 40))])), none⟩,
 ⟨(some 14), (.r (.pcall (.cst (.fn 26 [] [])) [(.cst (.int .i64 48)), (.cst (.int .i64 3)), (.cst (.int .i64 3)), (.cst (.int .i64 8))])), none⟩,
 ⟨(some 15), (.r (.pcall (.cst (.fn 26 [] [])) [(.cst (.int .i64 49)), (.cst (.int .i64 1)), (.cst (.int .i64 0)), (.cst (.int .i64 3))])), none⟩,
 ⟨(some 16), (.r (.pcall (.cst (.fn 26 [] [])) [(.cst (.int .i64 55)), (.cst (.int .i64 4)), (.cst (.int .i64 3)), (.cst (.int .i64 255))])), none⟩,
 ⟨(some 17), (.r (.pcall (.cst (.fn 26 [] [])) [(.cst (.int .i64 56)), (.cst (.int .i64 1)), (.cst (.int .i64 0)), (.cst (.int .i64 20))])), none⟩,
 ⟨(some 18), (.r (.pcall (.cst (.fn 26 [] [])) [(.cst (.int .i64 60)), (.cst (.int .i64 3)), (.cst (.int .i64 3)), (.cst (.int .i64 100))])), none⟩,
 ⟨(some 19), (.r (.pcall (.cst (.fn 26 [] [])) [(.cst (.int .i64 61)), (.cst (.int .i64 3)), (.cst (.int .i64 3)), (.cst (.int .i64 100))])), none⟩,
 ⟨(some 20), (.r (.pcall (.cst (.fn 26 [] [])) [(.cst (.int .i64 62)), (.cst (.int .i64 3)), (.cst (.int .i64 3)), (.cst (.int .i64 100))])), none⟩,
 ⟨(some 21), (.r (.pcall (.cst (.fn 26 [] [])) [(.cst (.int .i64 63)), (.cst (.int .i64 3)), (.cst (.int .i64 3)), (.cst (.int .i64 100))])), none⟩,
 ⟨(some 22), (.r (.pcall (.cst (.fn 26 [] [])) [(.cst (.int .i64 102)), (.cst (.int .i64 3)), (.cst (.int .i64 2)), (.cst (.int .i64 28))])), none⟩,
 ⟨(some 23), (.r (.pcall (.cst (.fn 26 [] [])) [(.cst (.int .i64 103)), (.cst (.int .i64 3)), (.cst (.int .i64 2)), (.cst (.int .i64 28))])), none⟩,
 ⟨(some 24), (.r (.pcall (.cst (.fn 26 [] [])) [(.cst (.int .i64 120)), (.cst (.int .i64 4)), (.cst (.int .i64 4)), (.cst (.int .i64 999))])), none⟩,
 ⟨(some 25), (.p (.lit 4 (.agg [(.int .i64 0), (.int .i64 0), (.int .i64 0), (.int .i64 0)]) 24 [(0, (.tmp 1)), (1, (.tmp 2)), (2, (.tmp 3)), (3, (.tmp 4)), (4, (.tmp 5)), (5, (.tmp 6)), (6, (.tmp 7)), (7, (.tmp 8)), (8, (.tmp 9)), (9, (.tmp 10)), (10, (.tmp 11)), (11, (.tmp 12)), (12, (.tmp 13)), (13, (.tmp 14)), (14, (.tmp 15)), (15, (.tmp 16)), (16, (.tmp 17)), (17, (.tmp 18)), (18, (.tmp 19)), (19, (.tmp 20)), (20, (.tmp 21)), (21, (.tmp 22)), (22, (.tmp 23)), (23, (.tmp 24))])), none⟩,
 ⟨(some 0), (.p (.mov (.tmp 25))), none⟩])
 .ret))
def f18 : VF := { body := b18, res := [(.tmp 0)] }
-- comptoir/element.size
def b19 : VC := (.seq (.reg [⟨(some 2), (.w (.box 4 (.tmp 0))), none⟩,
 ⟨(some 4), (.p (.mov (.cst (.int .i64 0)))), none⟩,
 ⟨(some 5), (.p (.mov (.cst (.int .i64 0)))), none⟩])
 (.seq (.seq (.reg [⟨(some 8), (.p (.fieldA 2 (.tmp 2))), none⟩,
 ⟨(some 9), (.r (.load none (.tmp 8))), none⟩,
 ⟨(some 10), (.p (.ibin .eql (.tmp 9) (.cst (.int .i64 0)))), none⟩])
 (.cond (.tmp 10) (.seq (.reg [⟨(some 11), (.p (.fieldA 3 (.tmp 2))), none⟩,
 ⟨(some 12), (.r (.load none (.tmp 11))), none⟩,
 ⟨(some 4), (.p (.mov (.tmp 12))), none⟩,
 ⟨(some 5), (.p (.mov (.cst (.int .i64 0)))), none⟩])
 .ret)
 .skip))
 (.seq (.seq (.reg [⟨(some 13), (.p (.mov (.tmp 1))), none⟩,
 ⟨(some 14), (.p (.len (.tmp 13))), none⟩,
 ⟨(some 15), (.p (.fieldA 2 (.tmp 2))), none⟩,
 ⟨(some 16), (.r (.load none (.tmp 15))), none⟩,
 ⟨(some 17), (.p (.ibin .lss (.tmp 14) (.tmp 16))), none⟩])
 (.cond (.tmp 17) (.seq (.reg [⟨(some 4), (.p (.mov (.cst (.int .i64 0)))), none⟩,
 ⟨(some 5), (.p (.mov (.cst (.int .i64 3)))), none⟩])
 .ret)
 .skip))
 (.seq (.reg [⟨(some 19), (.p (.mov (.tmp 1))), none⟩,
 ⟨(some 20), (.p (.fieldA 2 (.tmp 2))), none⟩,
 ⟨(some 21), (.r (.load none (.tmp 20))), none⟩,
 ⟨(some 22), (.p (.slice 1 (.tmp 19) none (some (.tmp 21)))), none⟩,
 ⟨(some 23), (.r (.bytesStr (.tmp 22))), none⟩,
 ⟨(some 24), (.r (.pcall (.cst (.fn 27 [] [])) [(.tmp 23)])), none⟩,
 ⟨(some 18), (.p (.mov (.tmp 24))), none⟩,
 ⟨(some 25), (.p (.ext (.tmp 18) 0)), none⟩,
 ⟨(some 26), (.p (.ext (.tmp 18) 1)), none⟩,
 ⟨(some 6), (.p (.mov (.tmp 25))), none⟩,
 ⟨(some 7), (.p (.mov (.tmp 26))), none⟩])
 (.seq (.block 0 (.seq (.reg [⟨(some 28), (.p (.mov (.tmp 7))), none⟩,
 ⟨(some 29), (.p (.ibin .neq (.tmp 28) (.cst (.int .i64 0)))), none⟩,
 ⟨(some 27), (.p (.mov (.tmp 29))), none⟩])
 (.cond (.tmp 27) (.seq (.reg [⟨(some 30), (.p (.mov (.tmp 7))), none⟩,
 ⟨(some 4), (.p (.mov (.cst (.int .i64 0)))), none⟩,
 ⟨(some 5), (.p (.mov (.tmp 30))), none⟩])
 .ret)
 (.seq (.reg [⟨(some 32), (.r (.load (some 4) (.tmp 2))), none⟩,
 ⟨(some 33), (.p (.mov (.tmp 6))), none⟩,
 ⟨(some 34), (.p (.conv (.toInt .i64) (.tmp 33))), none⟩,
 ⟨(some 35), (.r (.pcall (.cst (.fn 25 [] [])) [(.tmp 32), (.tmp 34)])), none⟩,
 ⟨(some 36), (.p (.un .not (.tmp 35))), none⟩,
 ⟨(some 31), (.p (.mov (.tmp 36))), none⟩])
 (.cond (.tmp 31) (.seq (.reg [⟨(some 4), (.p (.mov (.cst (.int .i64 0)))), none⟩,
 ⟨(some 5), (.p (.mov (.cst (.int .i64 17)))), none⟩])
 .ret)
 .skip)))))
 (.seq (.reg [⟨(some 37), (.p (.mov (.tmp 6))), none⟩,
 ⟨(some 38), (.p (.conv (.toInt .i64) (.tmp 37))), none⟩,
 ⟨(some 4), (.p (.mov (.tmp 38))), none⟩,
 ⟨(some 5), (.p (.mov (.cst (.int .i64 0)))), none⟩])
 .ret))))))
def f19 : VF := { body := b19, res := [(.tmp 4), (.tmp 5)] }
-- comptoir/element.right
def b20 : VC := (.seq (.reg [⟨(some 2), (.w (.box 4 (.tmp 0))), none⟩,
 ⟨(some 4), (.p (.mov (.cst (.int .i64 0)))), none⟩])
 (.seq (.seq (.draw [(⟨(some 5), (.p (.fieldA 1 (.tmp 2))), none⟩, 0, 0),
 (⟨(some 6), (.r (.load none (.tmp 5))), none⟩, 0, 0),
 (⟨(some 7), (.r (.pcall (.cst (.fn 28 [] [])) [(.tmp 6)])), none⟩, 0, 0),
 (⟨(some 8), (.p (.mov (.tmp 1))), none⟩, 0, 0),
 (⟨(some 9), (.r (.bytesStr (.tmp 8))), none⟩, 0, 0),
 (⟨(some 10), (.p (.fieldA 3 (.tmp 2))), none⟩, 0, 0),
 (⟨(some 11), (.r (.load none (.tmp 10))), none⟩, 0, 0),
 (⟨(some 12), (.r (.pcall (.tmp 7) [(.tmp 9), (.tmp 11)])), none⟩, 0, 0),
 (⟨(some 13), (.p (.un .not (.tmp 12))), none⟩, 0, 0)])
 (.cond (.tmp 13) (.seq (.reg [⟨(some 4), (.p (.mov (.cst (.int .i64 14)))), none⟩])
 .ret)
 .skip))
 (.seq (.reg [⟨(some 4), (.p (.mov (.cst (.int .i64 0)))), none⟩])
 .ret)))
def f20 : VF := { body := b20, res := [(.tmp 4)] }
-- comptoir/comptoirref01.Number
def b21 : VC := (.seq (.reg [⟨(some 2), (.p (.mov (.cst (.int .u64 0)))), none⟩,
 ⟨(some 3), (.p (.mov (.cst (.int .i64 0)))), none⟩])
 (.seq (.seq (.reg [⟨(some 6), (.p (.mov (.tmp 0))), none⟩,
 ⟨(some 7), (.r (.pcall (.cst (.fn 29 [] [])) [(.tmp 6), (.cst (.int .i64 1)), (.cst (.int .i64 18))])), none⟩,
 ⟨(some 8), (.p (.un .not (.tmp 7))), none⟩])
 (.cond (.tmp 8) (.seq (.reg [⟨(some 2), (.p (.mov (.cst (.int .u64 0)))), none⟩,
 ⟨(some 3), (.p (.mov (.cst (.int .i64 5)))), none⟩])
 .ret)
 .skip))
 (.seq (.reg [⟨(some 4), (.p (.mov (.cst (.int .u64 0)))), none⟩])
 (.seq (.seq (.reg [⟨(some 5), (.p (.mov (.cst (.int .i64 0)))), none⟩])
 (.block 0 (.loop (.seq (.seq (.reg [⟨(some 9), (.p (.mov (.tmp 5))), none⟩,
 ⟨(some 10), (.p (.mov (.tmp 0))), none⟩,
 ⟨(some 11), (.p (.lenStr (.tmp 10))), none⟩,
 ⟨(some 12), (.p (.ibin .lss (.tmp 9) (.tmp 11))), none⟩])
 (.cond (.tmp 12) .skip
 (.exit 0)))
 (.seq (.block 1 (.reg [⟨(some 15), (.p (.mov (.tmp 4))), none⟩,
 ⟨(some 16), (.p (.ibin .mul (.tmp 15) (.cst (.int .u64 10)))), none⟩,
 ⟨(some 17), (.p (.mov (.tmp 0))), none⟩,
 ⟨(some 18), (.p (.mov (.tmp 5))), none⟩,
 ⟨(some 19), (.p (.idxStr (.tmp 17) (.tmp 18))), none⟩,
 ⟨(some 20), (.p (.ibin .sub (.tmp 19) (.cst (.int .u8 48)))), none⟩,
 ⟨(some 21), (.p (.conv (.toInt .u64) (.tmp 20))), none⟩,
 ⟨(some 22), (.p (.ibin .add (.tmp 16) (.tmp 21))), none⟩,
 ⟨(some 4), (.p (.mov (.tmp 22))), none⟩]))
 (.reg [⟨(some 13), (.p (.mov (.tmp 5))), none⟩,
 ⟨(some 14), (.p (.ibin .add (.tmp 13) (.cst (.int .i64 1)))), none⟩,
 ⟨(some 5), (.p (.mov (.tmp 14))), none⟩]))))))
 (.seq (.reg [⟨(some 23), (.p (.mov (.tmp 4))), none⟩,
 ⟨(some 2), (.p (.mov (.tmp 23))), none⟩,
 ⟨(some 3), (.p (.mov (.cst (.int .i64 0)))), none⟩])
 .ret)))))
def f21 : VF := { body := b21, res := [(.tmp 2), (.tmp 3)] }
-- comptoir/comptoirref16.typed
def b22 : VC := (.seq (.reg [⟨(some 2), (.w (.box 4 (.tmp 0))), none⟩,
 ⟨(some 4), (.p (.mov (.cst (.bool false)))), none⟩])
 (.seq (.reg [⟨(some 6), (.p (.mov (.tmp 1))), none⟩,
 ⟨(some 7), (.r (.bytesStr (.tmp 6))), none⟩,
 ⟨(some 5), (.p (.mov (.tmp 7))), none⟩])
 (.seq (.seq (.reg [⟨(some 8), (.p (.fieldA 1 (.tmp 2))), none⟩,
 ⟨(some 9), (.r (.load none (.tmp 8))), none⟩])
 (.block 0 (.seq (.reg [⟨(some 11), (.p (.ibin .eql (.tmp 9) (.cst (.int .i64 1)))), none⟩,
 ⟨(some 10), (.p (.mov (.tmp 11))), none⟩])
 (.cond (.tmp 10) (.seq (.reg [⟨(some 12), (.p (.mov (.tmp 5))), none⟩,
 ⟨(some 13), (.p (.mov (.tmp 5))), none⟩,
 ⟨(some 14), (.p (.lenStr (.tmp 13))), none⟩,
 ⟨(some 15), (.r (.pcall (.cst (.fn 29 [] [])) [(.tmp 12), (.cst (.int .i64 0)), (.tmp 14)])), none⟩,
 ⟨(some 4), (.p (.mov (.tmp 15))), none⟩])
 .ret)
 (.seq (.reg [⟨(some 17), (.p (.ibin .eql (.tmp 9) (.cst (.int .i64 2)))), none⟩,
 ⟨(some 16), (.p (.mov (.tmp 17))), none⟩])
 (.cond (.tmp 16) (.seq (.reg [⟨(some 18), (.p (.mov (.tmp 5))), none⟩,
 ⟨(some 19), (.p (.mov (.tmp 5))), none⟩,
 ⟨(some 20), (.p (.lenStr (.tmp 19))), none⟩,
 ⟨(some 21), (.r (.pcall (.cst (.fn 30 [] [])) [(.tmp 18), (.cst (.int .i64 0)), (.tmp 20)])), none⟩,
 ⟨(some 4), (.p (.mov (.tmp 21))), none⟩])
 .ret)
 (.seq (.reg [⟨(some 23), (.p (.ibin .eql (.tmp 9) (.cst (.int .i64 3)))), none⟩,
 ⟨(some 22), (.p (.mov (.tmp 23))), none⟩])
 (.cond (.tmp 22) (.seq (.reg [⟨(some 24), (.p (.mov (.tmp 5))), none⟩,
 ⟨(some 25), (.p (.ibin .eql (.tmp 24) (.cst (.str [])))), none⟩,
 ⟨(some 26), (.p (.mov (.tmp 25))), none⟩,
 ⟨(some 27), (.p (.mov (.tmp 5))), (some (26, false))⟩,
 ⟨(some 28), (.p (.mov (.tmp 5))), (some (26, false))⟩,
 ⟨(some 29), (.p (.lenStr (.tmp 28))), (some (26, false))⟩,
 ⟨(some 30), (.r (.pcall (.cst (.fn 31 [] [])) [(.tmp 27), (.tmp 29)])), (some (26, false))⟩,
 ⟨(some 31), (.p (.pick (.tmp 26) (.cst (.bool true)) (.tmp 30))), none⟩,
 ⟨(some 4), (.p (.mov (.tmp 31))), none⟩])
 .ret)
 .skip))))))))
 (.seq (.reg [⟨(some 4), (.p (.mov (.cst (.bool true)))), none⟩])
 .ret))))
def f22 : VF := { body := b22, res := [(.tmp 4)] }
-- comptoir/digits.Text
def b23 : VC := (.seq (.reg [⟨(some 4), (.p (.mov (.cst (.str [])))), none⟩,
 ⟨(some 5), (.p (.mov (.cst (.int .i64 0)))), none⟩])
 (.seq (.seq (.reg [⟨(some 7), (.p (.mov (.tmp 1))), none⟩,
 ⟨(some 8), (.p (.ibin .lss (.tmp 7) (.cst (.int .i64 1)))), none⟩,
 ⟨(some 9), (.p (.mov (.tmp 8))), none⟩,
 ⟨(some 10), (.p (.mov (.tmp 1))), (some (9, false))⟩,
 ⟨(some 11), (.p (.ibin .gtr (.tmp 10) (.cst (.int .i64 20)))), (some (9, false))⟩,
 ⟨(some 12), (.p (.pick (.tmp 9) (.cst (.bool true)) (.tmp 11))), none⟩])
 (.cond (.tmp 12) (.seq (.reg [⟨(some 4), (.p (.mov (.cst (.str [])))), none⟩,
 ⟨(some 5), (.p (.mov (.cst (.int .i64 1)))), none⟩])
 .ret)
 .skip))
 (.seq (.reg [⟨(some 13), (.p (.mov (.tmp 0))), none⟩,
 ⟨(some 14), (.r (.pcall (.cst (.fn 32 [] [])) [(.tmp 13), (.cst (.int .i64 10))])), none⟩,
 ⟨(some 6), (.p (.mov (.tmp 14))), none⟩])
 (.seq (.seq (.reg [⟨(some 15), (.p (.mov (.tmp 6))), none⟩,
 ⟨(some 16), (.p (.lenStr (.tmp 15))), none⟩,
 ⟨(some 17), (.p (.mov (.tmp 1))), none⟩,
 ⟨(some 18), (.p (.ibin .gtr (.tmp 16) (.tmp 17))), none⟩])
 (.cond (.tmp 18) (.seq (.reg [⟨(some 4), (.p (.mov (.cst (.str [])))), none⟩,
 ⟨(some 5), (.p (.mov (.cst (.int .i64 4)))), none⟩])
 .ret)
 .skip))
 (.seq (.reg [⟨(some 19), (.p (.mov (.tmp 1))), none⟩,
 ⟨(some 20), (.p (.mov (.tmp 6))), none⟩,
 ⟨(some 21), (.p (.lenStr (.tmp 20))), none⟩,
 ⟨(some 22), (.p (.ibin .sub (.tmp 19) (.tmp 21))), none⟩,
 ⟨(some 23), (.r (.pcall (.cst (.fn 33 [] [])) [(.cst (.str [48])), (.tmp 22)])), none⟩,
 ⟨(some 24), (.p (.mov (.tmp 6))), none⟩,
 ⟨(some 25), (.p (.ibin .add (.tmp 23) (.tmp 24))), none⟩,
 ⟨(some 4), (.p (.mov (.tmp 25))), none⟩,
 ⟨(some 5), (.p (.mov (.cst (.int .i64 0)))), none⟩])
 .ret)))))
def f23 : VF := { body := b23, res := [(.tmp 4), (.tmp 5)] }
-- comptoir/comptoirref01.Digits
def b24 : VC := (.seq (.reg [⟨(some 4), (.p (.mov (.cst (.str [])))), none⟩,
 ⟨(some 5), (.p (.mov (.cst (.int .i64 0)))), none⟩])
 (.seq (.seq (.reg [⟨(some 7), (.p (.mov (.tmp 1))), none⟩,
 ⟨(some 8), (.p (.ibin .lss (.tmp 7) (.cst (.int .i64 1)))), none⟩,
 ⟨(some 9), (.p (.mov (.tmp 8))), none⟩,
 ⟨(some 10), (.p (.mov (.tmp 1))), (some (9, false))⟩,
 ⟨(some 11), (.p (.ibin .gtr (.tmp 10) (.cst (.int .i64 20)))), (some (9, false))⟩,
 ⟨(some 12), (.p (.pick (.tmp 9) (.cst (.bool true)) (.tmp 11))), none⟩])
 (.cond (.tmp 12) (.seq (.reg [⟨(some 4), (.p (.mov (.cst (.str [])))), none⟩,
 ⟨(some 5), (.p (.mov (.cst (.int .i64 1)))), none⟩])
 .ret)
 .skip))
 (.seq (.reg [⟨(some 13), (.p (.mov (.tmp 0))), none⟩,
 ⟨(some 14), (.r (.pcall (.cst (.fn 34 [] [])) [(.tmp 13)])), none⟩,
 ⟨(some 6), (.p (.mov (.tmp 14))), none⟩])
 (.seq (.seq (.reg [⟨(some 15), (.p (.mov (.tmp 6))), none⟩,
 ⟨(some 16), (.p (.lenStr (.tmp 15))), none⟩,
 ⟨(some 17), (.p (.mov (.tmp 1))), none⟩,
 ⟨(some 18), (.p (.ibin .gtr (.tmp 16) (.tmp 17))), none⟩])
 (.cond (.tmp 18) (.seq (.reg [⟨(some 4), (.p (.mov (.cst (.str [])))), none⟩,
 ⟨(some 5), (.p (.mov (.cst (.int .i64 4)))), none⟩])
 .ret)
 .skip))
 (.seq (.block 0 (.loop (.seq (.seq (.reg [⟨(some 19), (.p (.mov (.tmp 6))), none⟩,
 ⟨(some 20), (.p (.lenStr (.tmp 19))), none⟩,
 ⟨(some 21), (.p (.mov (.tmp 1))), none⟩,
 ⟨(some 22), (.p (.ibin .lss (.tmp 20) (.tmp 21))), none⟩])
 (.cond (.tmp 22) .skip
 (.exit 0)))
 (.block 1 (.reg [⟨(some 23), (.p (.mov (.tmp 6))), none⟩,
 ⟨(some 24), (.p (.ibin .add (.cst (.str [48])) (.tmp 23))), none⟩,
 ⟨(some 6), (.p (.mov (.tmp 24))), none⟩])))))
 (.seq (.reg [⟨(some 25), (.p (.mov (.tmp 6))), none⟩,
 ⟨(some 4), (.p (.mov (.tmp 25))), none⟩,
 ⟨(some 5), (.p (.mov (.cst (.int .i64 0)))), none⟩])
 .ret))))))
def f24 : VF := { body := b24, res := [(.tmp 4), (.tmp 5)] }
-- comptoir/element.long
def b25 : VC := (.seq (.reg [⟨(some 2), (.w (.box 4 (.tmp 0))), none⟩,
 ⟨(some 4), (.p (.mov (.cst (.bool false)))), none⟩])
 (.seq (.reg [⟨(some 5), (.p (.mov (.tmp 1))), none⟩,
 ⟨(some 6), (.p (.fieldA 3 (.tmp 2))), none⟩,
 ⟨(some 7), (.r (.load none (.tmp 6))), none⟩,
 ⟨(some 8), (.p (.ibin .eql (.tmp 5) (.tmp 7))), none⟩,
 ⟨(some 9), (.p (.mov (.tmp 8))), none⟩,
 ⟨(some 10), (.p (.fieldA 2 (.tmp 2))), (some (9, false))⟩,
 ⟨(some 11), (.r (.load none (.tmp 10))), (some (9, false))⟩,
 ⟨(some 12), (.p (.ibin .gtr (.tmp 11) (.cst (.int .i64 0)))), (some (9, false))⟩,
 ⟨(some 13), (.p (.mov (.tmp 12))), (some (9, false))⟩,
 ⟨(some 14), (.p (.mov (.tmp 1))), (some (13, true))⟩,
 ⟨(some 15), (.p (.ibin .geq (.tmp 14) (.cst (.int .i64 1)))), (some (13, true))⟩,
 ⟨(some 16), (.p (.pick (.tmp 13) (.tmp 15) (.cst (.bool false)))), (some (9, false))⟩,
 ⟨(some 17), (.p (.mov (.tmp 16))), (some (9, false))⟩,
 ⟨(some 18), (.p (.mov (.tmp 1))), (some (17, true))⟩,
 ⟨(some 19), (.p (.fieldA 3 (.tmp 2))), (some (17, true))⟩,
 ⟨(some 20), (.r (.load none (.tmp 19))), (some (17, true))⟩,
 ⟨(some 21), (.p (.ibin .leq (.tmp 18) (.tmp 20))), (some (17, true))⟩,
 ⟨(some 22), (.p (.pick (.tmp 17) (.tmp 21) (.cst (.bool false)))), (some (9, false))⟩,
 ⟨(some 23), (.p (.pick (.tmp 9) (.cst (.bool true)) (.tmp 22))), none⟩,
 ⟨(some 4), (.p (.mov (.tmp 23))), none⟩])
 .ret))
def f25 : VF := { body := b25, res := [(.tmp 4)] }
-- comptoir/comptoirref16.form
def b26 : VC := (.seq (.reg [⟨(some 8), (.w (.alloc [(.int .i64 0), (.int .i64 0), (.int .i64 0), (.int .i64 0)])), none⟩])
 (.seq (.reg [⟨(some 9), (.p (.mov (.tmp 0))), none⟩,
 ⟨(some 10), (.p (.mov (.tmp 1))), none⟩,
 ⟨(some 11), (.p (.mov (.tmp 2))), none⟩,
 ⟨(some 12), (.p (.mov (.tmp 3))), none⟩,
 ⟨(some 13), (.p (.build [(.int .i64 0), (.int .i64 0), (.int .i64 0), (.int .i64 0)] [(0, 1, (.tmp 9)), (1, 1, (.tmp 10)), (2, 1, (.tmp 11)), (3, 1, (.tmp 12))])), none⟩,
 ⟨none, (.w (.store 4 (.tmp 8) (.tmp 13))), none⟩])
 .ret))
def f26 : VF := { body := b26, res := [(.cell 8 (some 4))] }
-- comptoir/digits.Number
def b27 : VC := (.seq (.reg [⟨(some 2), (.p (.mov (.cst (.int .u64 0)))), none⟩,
 ⟨(some 3), (.p (.mov (.cst (.int .i64 0)))), none⟩])
 (.seq (.seq (.reg [⟨(some 6), (.p (.mov (.tmp 0))), none⟩,
 ⟨(some 7), (.r (.pcall (.cst (.fn 35 [] [])) [(.tmp 6), (.cst (.int .i64 1)), (.cst (.int .i64 18))])), none⟩,
 ⟨(some 8), (.p (.un .not (.tmp 7))), none⟩])
 (.cond (.tmp 8) (.seq (.reg [⟨(some 2), (.p (.mov (.cst (.int .u64 0)))), none⟩,
 ⟨(some 3), (.p (.mov (.cst (.int .i64 5)))), none⟩])
 .ret)
 .skip))
 (.seq (.reg [⟨(some 4), (.p (.mov (.cst (.int .u64 0)))), none⟩])
 (.seq (.seq (.reg [⟨(some 9), (.p (.mov (.tmp 0))), none⟩,
 ⟨(some 10), (.p (.lenStr (.tmp 9))), none⟩,
 ⟨(some 11), (.p (.mov (.cst (.int .i64 0)))), none⟩])
 (.block 0 (.loop (.seq (.reg [⟨(some 12), (.p (.ibin .lss (.tmp 11) (.tmp 10))), none⟩])
 (.seq (.cond (.tmp 12) .skip
 (.exit 0))
 (.seq (.block 1 (.seq (.reg [⟨(some 13), (.p (.mov (.tmp 11))), none⟩,
 ⟨(some 5), (.p (.mov (.tmp 13))), none⟩])
 (.reg [⟨(some 14), (.p (.mov (.tmp 4))), none⟩,
 ⟨(some 15), (.p (.ibin .mul (.tmp 14) (.cst (.int .u64 10)))), none⟩,
 ⟨(some 16), (.p (.mov (.tmp 0))), none⟩,
 ⟨(some 17), (.p (.mov (.tmp 5))), none⟩,
 ⟨(some 18), (.p (.idxStr (.tmp 16) (.tmp 17))), none⟩,
 ⟨(some 19), (.p (.ibin .sub (.tmp 18) (.cst (.int .u8 48)))), none⟩,
 ⟨(some 20), (.p (.conv (.toInt .u64) (.tmp 19))), none⟩,
 ⟨(some 21), (.p (.ibin .add (.tmp 15) (.tmp 20))), none⟩,
 ⟨(some 4), (.p (.mov (.tmp 21))), none⟩])))
 (.reg [⟨(some 22), (.p (.ibin .add (.tmp 11) (.cst (.int .i64 1)))), none⟩,
 ⟨(some 11), (.p (.mov (.tmp 22))), none⟩])))))))
 (.seq (.reg [⟨(some 23), (.p (.mov (.tmp 4))), none⟩,
 ⟨(some 2), (.p (.mov (.tmp 23))), none⟩,
 ⟨(some 3), (.p (.mov (.cst (.int .i64 0)))), none⟩])
 .ret)))))
def f27 : VF := { body := b27, res := [(.tmp 2), (.tmp 3)] }
-- comptoir/element.test
def b28 : VC := (.seq (.reg [⟨(some 2), (.p (.mov (.cst .nilfn))), none⟩])
 (.seq (.seq (.reg [⟨(some 3), (.p (.mov (.tmp 0))), none⟩])
 (.block 0 (.seq (.reg [⟨(some 5), (.p (.ibin .eql (.tmp 3) (.cst (.int .i64 1)))), none⟩,
 ⟨(some 4), (.p (.mov (.tmp 5))), none⟩])
 (.cond (.tmp 4) (.seq (.reg [⟨(some 2), (.p (.mov (.cst (.fn 36 [] [])))), none⟩])
 .ret)
 (.seq (.reg [⟨(some 7), (.p (.ibin .eql (.tmp 3) (.cst (.int .i64 2)))), none⟩,
 ⟨(some 6), (.p (.mov (.tmp 7))), none⟩])
 (.cond (.tmp 6) (.seq (.reg [⟨(some 2), (.p (.mov (.cst (.fn 37 [] [])))), none⟩])
 .ret)
 (.seq (.reg [⟨(some 9), (.p (.ibin .eql (.tmp 3) (.cst (.int .i64 3)))), none⟩,
 ⟨(some 8), (.p (.mov (.tmp 9))), none⟩])
 (.cond (.tmp 8) (.seq (.reg [⟨(some 2), (.p (.mov (.cst (.fn 38 [] [])))), none⟩])
 .ret)
 .skip))))))))
 (.seq (.reg [⟨(some 2), (.p (.mov (.cst (.fn 39 [] [])))), none⟩])
 .ret)))
def f28 : VF := { body := b28, res := [(.tmp 2)] }
-- comptoir/comptoirref01.Right
def b29 : VC := (.seq (.reg [⟨(some 6), (.p (.mov (.cst (.bool false)))), none⟩])
 (.seq (.seq (.reg [⟨(some 7), (.p (.mov (.cst (.int .i64 0)))), none⟩])
 (.block 0 (.loop (.seq (.seq (.reg [⟨(some 8), (.p (.mov (.tmp 7))), none⟩,
 ⟨(some 9), (.p (.mov (.tmp 0))), none⟩,
 ⟨(some 10), (.p (.lenStr (.tmp 9))), none⟩,
 ⟨(some 11), (.p (.ibin .lss (.tmp 8) (.tmp 10))), none⟩])
 (.cond (.tmp 11) .skip
 (.exit 0)))
 (.seq (.block 1 (.seq (.reg [⟨(some 14), (.p (.mov (.tmp 0))), none⟩,
 ⟨(some 15), (.p (.mov (.tmp 7))), none⟩,
 ⟨(some 16), (.p (.idxStr (.tmp 14) (.tmp 15))), none⟩,
 ⟨(some 17), (.p (.ibin .lss (.tmp 16) (.cst (.int .u8 48)))), none⟩,
 ⟨(some 18), (.p (.mov (.tmp 17))), none⟩,
 ⟨(some 19), (.p (.mov (.tmp 0))), (some (18, false))⟩,
 ⟨(some 20), (.p (.mov (.tmp 7))), (some (18, false))⟩,
 ⟨(some 21), (.p (.idxStr (.tmp 19) (.tmp 20))), (some (18, false))⟩,
 ⟨(some 22), (.p (.ibin .gtr (.tmp 21) (.cst (.int .u8 57)))), (some (18, false))⟩,
 ⟨(some 23), (.p (.pick (.tmp 18) (.cst (.bool true)) (.tmp 22))), none⟩])
 (.cond (.tmp 23) (.seq (.reg [⟨(some 6), (.p (.mov (.cst (.bool false)))), none⟩])
 .ret)
 .skip)))
 (.reg [⟨(some 12), (.p (.mov (.tmp 7))), none⟩,
 ⟨(some 13), (.p (.ibin .add (.tmp 12) (.cst (.int .i64 1)))), none⟩,
 ⟨(some 7), (.p (.mov (.tmp 13))), none⟩]))))))
 (.seq (.reg [⟨(some 24), (.p (.mov (.tmp 0))), none⟩,
 ⟨(some 25), (.p (.lenStr (.tmp 24))), none⟩,
 ⟨(some 26), (.p (.mov (.tmp 1))), none⟩,
 ⟨(some 27), (.p (.ibin .geq (.tmp 25) (.tmp 26))), none⟩,
 ⟨(some 28), (.p (.mov (.tmp 27))), none⟩,
 ⟨(some 29), (.p (.mov (.tmp 0))), (some (28, true))⟩,
 ⟨(some 30), (.p (.lenStr (.tmp 29))), (some (28, true))⟩,
 ⟨(some 31), (.p (.mov (.tmp 2))), (some (28, true))⟩,
 ⟨(some 32), (.p (.ibin .leq (.tmp 30) (.tmp 31))), (some (28, true))⟩,
 ⟨(some 33), (.p (.pick (.tmp 28) (.tmp 32) (.cst (.bool false)))), none⟩,
 ⟨(some 6), (.p (.mov (.tmp 33))), none⟩])
 .ret)))
def f29 : VF := { body := b29, res := [(.tmp 6)] }
-- comptoir/comptoirref01.Aln
def b30 : VC := (.seq (.reg [⟨(some 6), (.p (.mov (.cst (.bool false)))), none⟩])
 (.seq (.seq (.reg [⟨(some 7), (.p (.mov (.cst (.int .i64 0)))), none⟩])
 (.block 0 (.loop (.seq (.seq (.reg [⟨(some 9), (.p (.mov (.tmp 7))), none⟩,
 ⟨(some 10), (.p (.mov (.tmp 0))), none⟩,
 ⟨(some 11), (.p (.lenStr (.tmp 10))), none⟩,
 ⟨(some 12), (.p (.ibin .lss (.tmp 9) (.tmp 11))), none⟩])
 (.cond (.tmp 12) .skip
 (.exit 0)))
 (.seq (.block 1 (.seq (.reg [⟨(some 15), (.p (.mov (.tmp 0))), none⟩,
 ⟨(some 16), (.p (.mov (.tmp 7))), none⟩,
 ⟨(some 17), (.p (.idxStr (.tmp 15) (.tmp 16))), none⟩,
 ⟨(some 8), (.p (.mov (.tmp 17))), none⟩])
 (.seq (.reg [⟨(some 18), (.p (.mov (.tmp 8))), none⟩,
 ⟨(some 19), (.p (.ibin .geq (.tmp 18) (.cst (.int .u8 48)))), none⟩,
 ⟨(some 20), (.p (.mov (.tmp 19))), none⟩,
 ⟨(some 21), (.p (.mov (.tmp 8))), (some (20, true))⟩,
 ⟨(some 22), (.p (.ibin .leq (.tmp 21) (.cst (.int .u8 57)))), (some (20, true))⟩,
 ⟨(some 23), (.p (.pick (.tmp 20) (.tmp 22) (.cst (.bool false)))), none⟩,
 ⟨(some 24), (.p (.mov (.tmp 23))), none⟩,
 ⟨(some 25), (.p (.mov (.tmp 8))), (some (24, false))⟩,
 ⟨(some 26), (.p (.ibin .geq (.tmp 25) (.cst (.int .u8 65)))), (some (24, false))⟩,
 ⟨(some 27), (.p (.mov (.tmp 26))), (some (24, false))⟩,
 ⟨(some 28), (.p (.mov (.tmp 8))), (some (27, true))⟩,
 ⟨(some 29), (.p (.ibin .leq (.tmp 28) (.cst (.int .u8 90)))), (some (27, true))⟩,
 ⟨(some 30), (.p (.pick (.tmp 27) (.tmp 29) (.cst (.bool false)))), (some (24, false))⟩,
 ⟨(some 31), (.p (.pick (.tmp 24) (.cst (.bool true)) (.tmp 30))), none⟩,
 ⟨(some 32), (.p (.mov (.tmp 31))), none⟩,
 ⟨(some 33), (.p (.mov (.tmp 8))), (some (32, false))⟩,
 ⟨(some 34), (.p (.ibin .geq (.tmp 33) (.cst (.int .u8 97)))), (some (32, false))⟩,
 ⟨(some 35), (.p (.mov (.tmp 34))), (some (32, false))⟩,
 ⟨(some 36), (.p (.mov (.tmp 8))), (some (35, true))⟩,
 ⟨(some 37), (.p (.ibin .leq (.tmp 36) (.cst (.int .u8 122)))), (some (35, true))⟩,
 ⟨(some 38), (.p (.pick (.tmp 35) (.tmp 37) (.cst (.bool false)))), (some (32, false))⟩,
 ⟨(some 39), (.p (.pick (.tmp 32) (.cst (.bool true)) (.tmp 38))), none⟩,
 ⟨(some 40), (.p (.un .not (.tmp 39))), none⟩])
 (.cond (.tmp 40) (.seq (.reg [⟨(some 6), (.p (.mov (.cst (.bool false)))), none⟩])
 .ret)
 .skip))))
 (.reg [⟨(some 13), (.p (.mov (.tmp 7))), none⟩,
 ⟨(some 14), (.p (.ibin .add (.tmp 13) (.cst (.int .i64 1)))), none⟩,
 ⟨(some 7), (.p (.mov (.tmp 14))), none⟩]))))))
 (.seq (.reg [⟨(some 41), (.p (.mov (.tmp 0))), none⟩,
 ⟨(some 42), (.p (.lenStr (.tmp 41))), none⟩,
 ⟨(some 43), (.p (.mov (.tmp 1))), none⟩,
 ⟨(some 44), (.p (.ibin .geq (.tmp 42) (.tmp 43))), none⟩,
 ⟨(some 45), (.p (.mov (.tmp 44))), none⟩,
 ⟨(some 46), (.p (.mov (.tmp 0))), (some (45, true))⟩,
 ⟨(some 47), (.p (.lenStr (.tmp 46))), (some (45, true))⟩,
 ⟨(some 48), (.p (.mov (.tmp 2))), (some (45, true))⟩,
 ⟨(some 49), (.p (.ibin .leq (.tmp 47) (.tmp 48))), (some (45, true))⟩,
 ⟨(some 50), (.p (.pick (.tmp 45) (.tmp 49) (.cst (.bool false)))), none⟩,
 ⟨(some 6), (.p (.mov (.tmp 50))), none⟩])
 .ret)))
def f30 : VF := { body := b30, res := [(.tmp 6)] }
-- comptoir/comptoirref01.Ans
def b31 : VC := (.seq (.reg [⟨(some 4), (.p (.mov (.cst (.bool false)))), none⟩])
 (.seq (.seq (.reg [⟨(some 5), (.p (.mov (.cst (.int .i64 0)))), none⟩])
 (.block 0 (.loop (.seq (.seq (.reg [⟨(some 6), (.p (.mov (.tmp 5))), none⟩,
 ⟨(some 7), (.p (.mov (.tmp 0))), none⟩,
 ⟨(some 8), (.p (.lenStr (.tmp 7))), none⟩,
 ⟨(some 9), (.p (.ibin .lss (.tmp 6) (.tmp 8))), none⟩])
 (.cond (.tmp 9) .skip
 (.exit 0)))
 (.seq (.block 1 (.seq (.reg [⟨(some 12), (.p (.mov (.tmp 0))), none⟩,
 ⟨(some 13), (.p (.mov (.tmp 5))), none⟩,
 ⟨(some 14), (.p (.idxStr (.tmp 12) (.tmp 13))), none⟩,
 ⟨(some 15), (.p (.ibin .lss (.tmp 14) (.cst (.int .u8 32)))), none⟩,
 ⟨(some 16), (.p (.mov (.tmp 15))), none⟩,
 ⟨(some 17), (.p (.mov (.tmp 0))), (some (16, false))⟩,
 ⟨(some 18), (.p (.mov (.tmp 5))), (some (16, false))⟩,
 ⟨(some 19), (.p (.idxStr (.tmp 17) (.tmp 18))), (some (16, false))⟩,
 ⟨(some 20), (.p (.ibin .gtr (.tmp 19) (.cst (.int .u8 126)))), (some (16, false))⟩,
 ⟨(some 21), (.p (.pick (.tmp 16) (.cst (.bool true)) (.tmp 20))), none⟩])
 (.cond (.tmp 21) (.seq (.reg [⟨(some 4), (.p (.mov (.cst (.bool false)))), none⟩])
 .ret)
 .skip)))
 (.reg [⟨(some 10), (.p (.mov (.tmp 5))), none⟩,
 ⟨(some 11), (.p (.ibin .add (.tmp 10) (.cst (.int .i64 1)))), none⟩,
 ⟨(some 5), (.p (.mov (.tmp 11))), none⟩]))))))
 (.seq (.reg [⟨(some 22), (.p (.mov (.tmp 0))), none⟩,
 ⟨(some 23), (.p (.lenStr (.tmp 22))), none⟩,
 ⟨(some 24), (.p (.ibin .geq (.tmp 23) (.cst (.int .i64 1)))), none⟩,
 ⟨(some 25), (.p (.mov (.tmp 24))), none⟩,
 ⟨(some 26), (.p (.mov (.tmp 0))), (some (25, true))⟩,
 ⟨(some 27), (.p (.lenStr (.tmp 26))), (some (25, true))⟩,
 ⟨(some 28), (.p (.mov (.tmp 1))), (some (25, true))⟩,
 ⟨(some 29), (.p (.ibin .leq (.tmp 27) (.tmp 28))), (some (25, true))⟩,
 ⟨(some 30), (.p (.pick (.tmp 25) (.tmp 29) (.cst (.bool false)))), none⟩,
 ⟨(some 4), (.p (.mov (.tmp 30))), none⟩])
 .ret)))
def f31 : VF := { body := b31, res := [(.tmp 4)] }
-- strconv.FormatUint
def b32 : VC := (.seq (.reg [⟨(some 4), (.p (.mov (.cst (.str [])))), none⟩])
 (.seq (.reg [⟨(some 5), (.p (.mov (.tmp 0))), none⟩,
 ⟨(some 6), (.p (.mov (.tmp 1))), none⟩,
 ⟨(some 7), (.r (.pcall (.cst (.fn 40 [] [])) [(.tmp 5), (.tmp 6)])), none⟩,
 ⟨(some 4), (.p (.mov (.tmp 7))), none⟩])
 .ret))
def f32 : VF := { body := b32, res := [(.tmp 4)] }
-- comptoir/comptoirhelp.Digits
def b34 : VC := (.seq (.reg [⟨(some 2), (.p (.mov (.cst (.str [])))), none⟩])
 (.seq (.seq (.reg [⟨(some 3), (.p (.mov (.tmp 0))), none⟩,
 ⟨(some 4), (.p (.ibin .lss (.tmp 3) (.cst (.int .u64 10)))), none⟩])
 (.cond (.tmp 4) (.seq (.reg [⟨(some 5), (.p (.mov (.tmp 0))), none⟩,
 ⟨(some 6), (.p (.ibin .add (.cst (.int .u64 48)) (.tmp 5))), none⟩,
 ⟨(some 7), (.p (.conv (.toInt .u8) (.tmp 6))), none⟩,
 ⟨(some 8), (.p (.lit 1 (.int .u8 0) 1 [(0, (.tmp 7))])), none⟩,
 ⟨(some 9), (.r (.bytesStr (.tmp 8))), none⟩,
 ⟨(some 2), (.p (.mov (.tmp 9))), none⟩])
 .ret)
 .skip))
 (.seq (.draw [(⟨(some 10), (.p (.mov (.tmp 0))), none⟩, 0, 0),
 (⟨(some 11), (.p (.ibin .quo (.tmp 10) (.cst (.int .u64 10)))), none⟩, 0, 0),
 (⟨(some 12), (.r (.pcall (.cst (.fn 34 [] [])) [(.tmp 11)])), none⟩, 0, 0),
 (⟨(some 13), (.p (.mov (.tmp 0))), none⟩, 0, 0),
 (⟨(some 14), (.p (.ibin .rem (.tmp 13) (.cst (.int .u64 10)))), none⟩, 0, 0),
 (⟨(some 15), (.p (.ibin .add (.cst (.int .u64 48)) (.tmp 14))), none⟩, 0, 0),
 (⟨(some 16), (.p (.conv (.toInt .u8) (.tmp 15))), none⟩, 0, 0),
 (⟨(some 17), (.p (.lit 1 (.int .u8 0) 1 [(0, (.tmp 16))])), none⟩, 0, 0),
 (⟨(some 18), (.r (.bytesStr (.tmp 17))), none⟩, 0, 0),
 (⟨(some 19), (.p (.ibin .add (.tmp 12) (.tmp 18))), none⟩, 0, 0),
 (⟨(some 2), (.p (.mov (.tmp 19))), none⟩, 0, 0)])
 .ret)))
def f34 : VF := { body := b34, res := [(.tmp 2)] }
-- comptoir/digits.Right
def b35 : VC := (.seq (.reg [⟨(some 6), (.p (.mov (.cst (.bool false)))), none⟩])
 (.seq (.reg [⟨(some 7), (.p (.mov (.tmp 0))), none⟩,
 ⟨(some 8), (.p (.lenStr (.tmp 7))), none⟩,
 ⟨(some 9), (.p (.mov (.tmp 1))), none⟩,
 ⟨(some 10), (.p (.ibin .geq (.tmp 8) (.tmp 9))), none⟩,
 ⟨(some 11), (.p (.mov (.tmp 10))), none⟩,
 ⟨(some 12), (.p (.mov (.tmp 0))), (some (11, true))⟩,
 ⟨(some 13), (.p (.lenStr (.tmp 12))), (some (11, true))⟩,
 ⟨(some 14), (.p (.mov (.tmp 2))), (some (11, true))⟩,
 ⟨(some 15), (.p (.ibin .leq (.tmp 13) (.tmp 14))), (some (11, true))⟩,
 ⟨(some 16), (.p (.pick (.tmp 11) (.tmp 15) (.cst (.bool false)))), none⟩,
 ⟨(some 17), (.p (.mov (.tmp 16))), none⟩,
 ⟨(some 18), (.p (.mov (.tmp 0))), (some (17, true))⟩,
 ⟨(some 19), (.p (.mkfn 48 [(.cst (.str [48, 49, 50, 51, 52, 53, 54, 55, 56, 57]))] [])), (some (17, true))⟩,
 ⟨(some 20), (.r (.pcall (.cst (.fn 47 [] [])) [(.tmp 18), (.tmp 19)])), (some (17, true))⟩,
 ⟨(some 21), (.p (.pick (.tmp 17) (.tmp 20) (.cst (.bool false)))), none⟩,
 ⟨(some 6), (.p (.mov (.tmp 21))), none⟩])
 .ret))
def f35 : VF := { body := b35, res := [(.tmp 6)] }
-- (comptoir/element.data).numbers
def b36 : VC := (.seq (.reg [⟨(some 4), (.p (.mov (.cst (.bool false)))), none⟩])
 (.seq (.reg [⟨(some 5), (.p (.mov (.tmp 0))), none⟩,
 ⟨(some 6), (.p (.mov (.tmp 1))), none⟩,
 ⟨(some 7), (.r (.pcall (.cst (.fn 35 [] [])) [(.tmp 5), (.cst (.int .i64 0)), (.tmp 6)])), none⟩,
 ⟨(some 4), (.p (.mov (.tmp 7))), none⟩])
 .ret))
def f36 : VF := { body := b36, res := [(.tmp 4)] }
-- (comptoir/element.data).letters
def b37 : VC := (.seq (.reg [⟨(some 4), (.p (.mov (.cst (.bool false)))), none⟩])
 (.seq (.reg [⟨(some 5), (.p (.mov (.tmp 0))), none⟩,
 ⟨(some 6), (.p (.mov (.tmp 1))), none⟩,
 ⟨(some 7), (.r (.pcall (.cst (.fn 49 [] [])) [(.tmp 5), (.cst (.int .i64 0)), (.tmp 6)])), none⟩,
 ⟨(some 4), (.p (.mov (.tmp 7))), none⟩])
 .ret))
def f37 : VF := { body := b37, res := [(.tmp 4)] }
-- (comptoir/element.data).signs
def b38 : VC := (.seq (.reg [⟨(some 4), (.p (.mov (.cst (.bool false)))), none⟩])
 (.seq (.reg [⟨(some 5), (.p (.mov (.tmp 0))), none⟩,
 ⟨(some 6), (.p (.mov (.tmp 1))), none⟩,
 ⟨(some 7), (.r (.pcall (.cst (.fn 50 [] [])) [(.tmp 5), (.tmp 6)])), none⟩,
 ⟨(some 4), (.p (.mov (.tmp 7))), none⟩])
 .ret))
def f38 : VF := { body := b38, res := [(.tmp 4)] }
-- (comptoir/element.data).any
def b39 : VC := (.seq (.reg [⟨(some 4), (.p (.mov (.cst (.bool false)))), none⟩])
 (.seq (.reg [⟨(some 4), (.p (.mov (.cst (.bool true)))), none⟩])
 .ret))
def f39 : VF := { body := b39, res := [(.tmp 4)] }
-- comptoir/digits.all
def b47 : VC := (.seq (.reg [⟨(some 4), (.p (.mov (.cst (.bool false)))), none⟩])
 (.seq (.seq (.reg [⟨(some 6), (.p (.mov (.tmp 0))), none⟩,
 ⟨(some 7), (.p (.lenStr (.tmp 6))), none⟩,
 ⟨(some 8), (.p (.mov (.cst (.int .i64 0)))), none⟩])
 (.block 0 (.loop (.seq (.reg [⟨(some 9), (.p (.ibin .lss (.tmp 8) (.tmp 7))), none⟩])
 (.seq (.cond (.tmp 9) .skip
 (.exit 0))
 (.seq (.block 1 (.seq (.reg [⟨(some 10), (.p (.mov (.tmp 8))), none⟩,
 ⟨(some 5), (.p (.mov (.tmp 10))), none⟩])
 (.seq (.reg [⟨(some 11), (.p (.mov (.tmp 1))), none⟩,
 ⟨(some 12), (.p (.mov (.tmp 0))), none⟩,
 ⟨(some 13), (.p (.mov (.tmp 5))), none⟩,
 ⟨(some 14), (.p (.idxStr (.tmp 12) (.tmp 13))), none⟩,
 ⟨(some 15), (.r (.pcall (.tmp 11) [(.tmp 14)])), none⟩,
 ⟨(some 16), (.p (.un .not (.tmp 15))), none⟩])
 (.cond (.tmp 16) (.seq (.reg [⟨(some 4), (.p (.mov (.cst (.bool false)))), none⟩])
 .ret)
 .skip))))
 (.reg [⟨(some 17), (.p (.ibin .add (.tmp 8) (.cst (.int .i64 1)))), none⟩,
 ⟨(some 8), (.p (.mov (.tmp 17))), none⟩])))))))
 (.seq (.reg [⟨(some 4), (.p (.mov (.cst (.bool true)))), none⟩])
 .ret)))
def f47 : VF := { body := b47, res := [(.tmp 4)] }
-- (comptoir/digits.signs).has
def b48 : VC := (.seq (.reg [⟨(some 4), (.p (.mov (.cst (.bool false)))), none⟩])
 (.seq (.reg [⟨(some 5), (.p (.mov (.tmp 0))), none⟩,
 ⟨(some 6), (.p (.mov (.tmp 1))), none⟩,
 ⟨(some 7), (.r (.pcall (.cst (.fn 60 [] [])) [(.tmp 5), (.tmp 6)])), none⟩,
 ⟨(some 8), (.p (.ibin .geq (.tmp 7) (.cst (.int .i64 0)))), none⟩,
 ⟨(some 4), (.p (.mov (.tmp 8))), none⟩])
 .ret))
def f48 : VF := { body := b48, res := [(.tmp 4)] }
-- comptoir/text.Aln
def b49 : VC := (.seq (.reg [⟨(some 6), (.p (.mov (.cst (.bool false)))), none⟩])
 (.seq (.reg [⟨(some 7), (.p (.mov (.tmp 0))), none⟩,
 ⟨(some 8), (.p (.lenStr (.tmp 7))), none⟩,
 ⟨(some 9), (.p (.mov (.tmp 1))), none⟩,
 ⟨(some 10), (.p (.ibin .geq (.tmp 8) (.tmp 9))), none⟩,
 ⟨(some 11), (.p (.mov (.tmp 10))), none⟩,
 ⟨(some 12), (.p (.mov (.tmp 0))), (some (11, true))⟩,
 ⟨(some 13), (.p (.lenStr (.tmp 12))), (some (11, true))⟩,
 ⟨(some 14), (.p (.mov (.tmp 2))), (some (11, true))⟩,
 ⟨(some 15), (.p (.ibin .leq (.tmp 13) (.tmp 14))), (some (11, true))⟩,
 ⟨(some 16), (.p (.pick (.tmp 11) (.tmp 15) (.cst (.bool false)))), none⟩,
 ⟨(some 17), (.p (.mov (.tmp 16))), none⟩,
 ⟨(some 18), (.p (.mov (.tmp 0))), (some (17, true))⟩,
 ⟨(some 19), (.p (.build [(.int .u8 0), (.int .u8 0)] [(0, 1, (.cst (.int .u8 48))), (1, 1, (.cst (.int .u8 57)))])), (some (17, true))⟩,
 ⟨(some 20), (.p (.mkfn 62 [(.tmp 19)] [])), (some (17, true))⟩,
 ⟨(some 21), (.p (.build [(.int .u8 0), (.int .u8 0)] [(0, 1, (.cst (.int .u8 65))), (1, 1, (.cst (.int .u8 90)))])), (some (17, true))⟩,
 ⟨(some 22), (.p (.mkfn 62 [(.tmp 21)] [])), (some (17, true))⟩,
 ⟨(some 23), (.p (.build [(.int .u8 0), (.int .u8 0)] [(0, 1, (.cst (.int .u8 97))), (1, 1, (.cst (.int .u8 122)))])), (some (17, true))⟩,
 ⟨(some 24), (.p (.mkfn 62 [(.tmp 23)] [])), (some (17, true))⟩,
 ⟨(some 25), (.p (.lit 1 .nilfn 3 [(0, (.tmp 20)), (1, (.tmp 22)), (2, (.tmp 24))])), (some (17, true))⟩,
 ⟨(some 26), (.r (.pcall (.cst (.fn 61 [] [])) [(.tmp 18), (.tmp 25)])), (some (17, true))⟩,
 ⟨(some 27), (.p (.pick (.tmp 17) (.tmp 26) (.cst (.bool false)))), none⟩,
 ⟨(some 6), (.p (.mov (.tmp 27))), none⟩])
 .ret))
def f49 : VF := { body := b49, res := [(.tmp 6)] }
-- comptoir/text.Ans
def b50 : VC := (.seq (.reg [⟨(some 4), (.p (.mov (.cst (.bool false)))), none⟩])
 (.seq (.reg [⟨(some 5), (.p (.mov (.tmp 0))), none⟩,
 ⟨(some 6), (.p (.lenStr (.tmp 5))), none⟩,
 ⟨(some 7), (.p (.ibin .geq (.tmp 6) (.cst (.int .i64 1)))), none⟩,
 ⟨(some 8), (.p (.mov (.tmp 7))), none⟩,
 ⟨(some 9), (.p (.mov (.tmp 0))), (some (8, true))⟩,
 ⟨(some 10), (.p (.lenStr (.tmp 9))), (some (8, true))⟩,
 ⟨(some 11), (.p (.mov (.tmp 1))), (some (8, true))⟩,
 ⟨(some 12), (.p (.ibin .leq (.tmp 10) (.tmp 11))), (some (8, true))⟩,
 ⟨(some 13), (.p (.pick (.tmp 8) (.tmp 12) (.cst (.bool false)))), none⟩,
 ⟨(some 14), (.p (.mov (.tmp 13))), none⟩,
 ⟨(some 15), (.p (.mov (.tmp 0))), (some (14, true))⟩,
 ⟨(some 16), (.p (.build [(.int .u8 0), (.int .u8 0)] [(0, 1, (.cst (.int .u8 32))), (1, 1, (.cst (.int .u8 126)))])), (some (14, true))⟩,
 ⟨(some 17), (.p (.mkfn 62 [(.tmp 16)] [])), (some (14, true))⟩,
 ⟨(some 18), (.p (.lit 1 .nilfn 1 [(0, (.tmp 17))])), (some (14, true))⟩,
 ⟨(some 19), (.r (.pcall (.cst (.fn 61 [] [])) [(.tmp 15), (.tmp 18)])), (some (14, true))⟩,
 ⟨(some 20), (.p (.pick (.tmp 14) (.tmp 19) (.cst (.bool false)))), none⟩,
 ⟨(some 4), (.p (.mov (.tmp 20))), none⟩])
 .ret))
def f50 : VF := { body := b50, res := [(.tmp 4)] }
-- comptoir/text.all
def b61 : VC := (.seq (.reg [⟨(some 4), (.p (.mov (.cst (.bool false)))), none⟩])
 (.seq (.seq (.reg [⟨(some 9), (.p (.mov (.tmp 0))), none⟩,
 ⟨(some 10), (.p (.lenStr (.tmp 9))), none⟩,
 ⟨(some 11), (.p (.mov (.cst (.int .i64 0)))), none⟩])
 (.block 0 (.loop (.seq (.reg [⟨(some 12), (.p (.ibin .lss (.tmp 11) (.tmp 10))), none⟩])
 (.seq (.cond (.tmp 12) .skip
 (.exit 0))
 (.seq (.block 1 (.seq (.reg [⟨(some 13), (.p (.mov (.tmp 11))), none⟩,
 ⟨(some 5), (.p (.mov (.tmp 13))), none⟩])
 (.seq (.reg [⟨(some 6), (.p (.mov (.cst (.bool false)))), none⟩])
 (.seq (.seq (.reg [⟨(some 14), (.p (.mov (.tmp 1))), none⟩,
 ⟨(some 15), (.p (.len (.tmp 14))), none⟩,
 ⟨(some 16), (.p (.mov (.cst (.int .i64 0)))), none⟩])
 (.block 2 (.loop (.seq (.reg [⟨(some 17), (.p (.ibin .lss (.tmp 16) (.tmp 15))), none⟩])
 (.seq (.cond (.tmp 17) .skip
 (.exit 2))
 (.seq (.block 3 (.seq (.reg [⟨(some 18), (.p (.idxA 1 (.tmp 14) (.tmp 16))), none⟩,
 ⟨(some 19), (.r (.load none (.tmp 18))), none⟩,
 ⟨(some 8), (.p (.mov (.tmp 19))), none⟩])
 (.reg [⟨(some 20), (.p (.mov (.tmp 6))), none⟩,
 ⟨(some 21), (.p (.mov (.tmp 20))), none⟩,
 ⟨(some 22), (.p (.mov (.tmp 8))), (some (21, false))⟩,
 ⟨(some 23), (.p (.mov (.tmp 0))), (some (21, false))⟩,
 ⟨(some 24), (.p (.mov (.tmp 5))), (some (21, false))⟩,
 ⟨(some 25), (.p (.idxStr (.tmp 23) (.tmp 24))), (some (21, false))⟩,
 ⟨(some 26), (.r (.pcall (.tmp 22) [(.tmp 25)])), (some (21, false))⟩,
 ⟨(some 27), (.p (.pick (.tmp 21) (.cst (.bool true)) (.tmp 26))), none⟩,
 ⟨(some 6), (.p (.mov (.tmp 27))), none⟩])))
 (.reg [⟨(some 28), (.p (.ibin .add (.tmp 16) (.cst (.int .i64 1)))), none⟩,
 ⟨(some 16), (.p (.mov (.tmp 28))), none⟩])))))))
 (.seq (.reg [⟨(some 29), (.p (.mov (.tmp 6))), none⟩,
 ⟨(some 30), (.p (.un .not (.tmp 29))), none⟩])
 (.cond (.tmp 30) (.seq (.reg [⟨(some 4), (.p (.mov (.cst (.bool false)))), none⟩])
 .ret)
 .skip))))))
 (.reg [⟨(some 31), (.p (.ibin .add (.tmp 11) (.cst (.int .i64 1)))), none⟩,
 ⟨(some 11), (.p (.mov (.tmp 31))), none⟩])))))))
 (.seq (.reg [⟨(some 4), (.p (.mov (.cst (.bool true)))), none⟩])
 .ret)))
def f61 : VF := { body := b61, res := [(.tmp 4)] }
-- (comptoir/text.span).has
def b62 : VC := (.seq (.reg [⟨(some 2), (.w (.box 2 (.tmp 0))), none⟩,
 ⟨(some 4), (.p (.mov (.cst (.bool false)))), none⟩])
 (.seq (.reg [⟨(some 5), (.p (.mov (.tmp 1))), none⟩,
 ⟨(some 6), (.p (.fieldA 0 (.tmp 2))), none⟩,
 ⟨(some 7), (.r (.load none (.tmp 6))), none⟩,
 ⟨(some 8), (.p (.ibin .geq (.tmp 5) (.tmp 7))), none⟩,
 ⟨(some 9), (.p (.mov (.tmp 8))), none⟩,
 ⟨(some 10), (.p (.mov (.tmp 1))), (some (9, true))⟩,
 ⟨(some 11), (.p (.fieldA 1 (.tmp 2))), (some (9, true))⟩,
 ⟨(some 12), (.r (.load none (.tmp 11))), (some (9, true))⟩,
 ⟨(some 13), (.p (.ibin .leq (.tmp 10) (.tmp 12))), (some (9, true))⟩,
 ⟨(some 14), (.p (.pick (.tmp 9) (.tmp 13) (.cst (.bool false)))), none⟩,
 ⟨(some 4), (.p (.mov (.tmp 14))), none⟩])
 .ret))
def f62 : VF := { body := b62, res := [(.tmp 4)] }
def tbl : List (Nat × VFn) := [(3, .code f3), (4, .code f4), (5, .code f5), (6, .code f6), (7, .code f7), (8, .code f8), (9, .code f9), (10, .code f10), (11, .code f11), (12, .code f12), (13, .code f13), (14, .code f14), (15, .code f15), (16, .code f16), (17, .code f17), (18, .code f18), (19, .code f19), (20, .code f20), (21, .code f21), (22, .code f22), (23, .code f23), (24, .code f24), (25, .code f25), (26, .code f26), (27, .code f27), (28, .code f28), (29, .code f29), (30, .code f30), (31, .code f31), (32, .code f32), (34, .code f34), (35, .code f35), (36, .code f36), (37, .code f37), (38, .code f38), (39, .code f39), (47, .code f47), (48, .code f48), (49, .code f49), (50, .code f50), (61, .code f61), (62, .code f62), (33, .ext repeatV), (40, .ext formatUintV), (60, .ext indexByteV)]
end Go.Vx.YtmeffbagkloagaaDoor
