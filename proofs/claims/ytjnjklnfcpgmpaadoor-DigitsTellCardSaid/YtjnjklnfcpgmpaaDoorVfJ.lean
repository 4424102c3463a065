/- V's code is the loaded program's: each function by the kernel. -/
import Derived.Test.YtjnjklnfcpgmpaaDoorRows
import Derived.Test.YtjnjklnfcpgmpaaDoorVxJ
import Derived.Test.YtjnjklnfcpgmpaaDoorVcJ
import Derived.Test.YtjnjklnfcpgmpaaDoorVyJ
set_option maxRecDepth 100000
namespace Go.Vx.YtjnjklnfcpgmpaaDoor
open Go.Proofs
def pures : List Nat := [3, 4, 5, 6, 7, 8, 9, 10, 11, 12, 13, 14, 15, 16, 17, 18, 19, 20, 21, 22, 23, 24, 25, 26, 27, 28, 29, 32, 33, 34, 38, 40, 41, 43, 44, 45, 46, 50, 51, 52, 53, 54, 56, 57, 26]
def keeps : List (Nat × Nat) := []
def clones : List (Nat × Nat) := []
def pol (fn : Nat) : Pol := { pure := fun _ g => pures.contains g && !keeps.contains (fn, g), dyn := fun _ => [(26 : Nat)].contains fn, muts := false, clone := fun r => clones.contains (fn, r) }
theorem fit3 : cFunc Tryd.prog (pol 3) Tryd.f3 = .code f3 := by kernel_rfl
theorem nm3 : (Tryd.f3.name == "runtime.NumGoroutine") = false := by kernel_rfl
theorem fit4 : cFunc Tryd.prog (pol 4) Tryd.f4 = .code f4 := by kernel_rfl
theorem nm4 : (Tryd.f4.name == "runtime.NumGoroutine") = false := by kernel_rfl
theorem fit5 : cFunc Tryd.prog (pol 5) Tryd.f5 = .code f5 := by kernel_rfl
theorem nm5 : (Tryd.f5.name == "runtime.NumGoroutine") = false := by kernel_rfl
theorem fit6 : cFunc Tryd.prog (pol 6) Tryd.f6 = .code f6 := by kernel_rfl
theorem nm6 : (Tryd.f6.name == "runtime.NumGoroutine") = false := by kernel_rfl
theorem fit7 : cFunc Tryd.prog (pol 7) Tryd.f7 = .code f7 := by kernel_rfl
theorem nm7 : (Tryd.f7.name == "runtime.NumGoroutine") = false := by kernel_rfl
theorem fit8 : cFunc Tryd.prog (pol 8) Tryd.f8 = .code f8 := by kernel_rfl
theorem nm8 : (Tryd.f8.name == "runtime.NumGoroutine") = false := by kernel_rfl
theorem fit9 : cFunc Tryd.prog (pol 9) Tryd.f9 = .code f9 := by kernel_rfl
theorem nm9 : (Tryd.f9.name == "runtime.NumGoroutine") = false := by kernel_rfl
theorem fit10 : cFunc Tryd.prog (pol 10) Tryd.f10 = .code f10 := by kernel_rfl
theorem nm10 : (Tryd.f10.name == "runtime.NumGoroutine") = false := by kernel_rfl
theorem fit11 : cFunc Tryd.prog (pol 11) Tryd.f11 = .code f11 := by kernel_rfl
theorem nm11 : (Tryd.f11.name == "runtime.NumGoroutine") = false := by kernel_rfl
theorem fit12 : cFunc Tryd.prog (pol 12) Tryd.f12 = .code f12 := by kernel_rfl
theorem nm12 : (Tryd.f12.name == "runtime.NumGoroutine") = false := by kernel_rfl
theorem fit13 : cFunc Tryd.prog (pol 13) Tryd.f13 = .code f13 := by kernel_rfl
theorem nm13 : (Tryd.f13.name == "runtime.NumGoroutine") = false := by kernel_rfl
theorem fit14 : cFunc Tryd.prog (pol 14) Tryd.f14 = .code f14 := by kernel_rfl
theorem nm14 : (Tryd.f14.name == "runtime.NumGoroutine") = false := by kernel_rfl
theorem fit15 : cFunc Tryd.prog (pol 15) Tryd.f15 = .code f15 := by kernel_rfl
theorem nm15 : (Tryd.f15.name == "runtime.NumGoroutine") = false := by kernel_rfl
theorem fit16 : cFunc Tryd.prog (pol 16) Tryd.f16 = .code f16 := by kernel_rfl
theorem nm16 : (Tryd.f16.name == "runtime.NumGoroutine") = false := by kernel_rfl
theorem fit17 : cFunc Tryd.prog (pol 17) Tryd.f17 = .code f17 := by kernel_rfl
theorem nm17 : (Tryd.f17.name == "runtime.NumGoroutine") = false := by kernel_rfl
theorem fit18 : cFunc Tryd.prog (pol 18) Tryd.f18 = .code f18 := by kernel_rfl
theorem nm18 : (Tryd.f18.name == "runtime.NumGoroutine") = false := by kernel_rfl
theorem fit19 : cFunc Tryd.prog (pol 19) Tryd.f19 = .code f19 := by kernel_rfl
theorem nm19 : (Tryd.f19.name == "runtime.NumGoroutine") = false := by kernel_rfl
theorem fit20 : cFunc Tryd.prog (pol 20) Tryd.f20 = .code f20 := by kernel_rfl
theorem nm20 : (Tryd.f20.name == "runtime.NumGoroutine") = false := by kernel_rfl
theorem fit22 : cFunc Tryd.prog (pol 22) Tryd.f22 = .code f22 := by kernel_rfl
theorem nm22 : (Tryd.f22.name == "runtime.NumGoroutine") = false := by kernel_rfl
theorem fit23 : cFunc Tryd.prog (pol 23) Tryd.f23 = .code f23 := by kernel_rfl
theorem nm23 : (Tryd.f23.name == "runtime.NumGoroutine") = false := by kernel_rfl
theorem fit25 : cFunc Tryd.prog (pol 25) Tryd.f25 = .code f25 := by kernel_rfl
theorem nm25 : (Tryd.f25.name == "runtime.NumGoroutine") = false := by kernel_rfl
theorem fit26 : cFunc Tryd.prog (pol 26) Tryd.f26 = .code f26 := by kernel_rfl
theorem nm26 : (Tryd.f26.name == "runtime.NumGoroutine") = false := by kernel_rfl
theorem fit27 : cFunc Tryd.prog (pol 27) Tryd.f27 = .code f27 := by kernel_rfl
theorem nm27 : (Tryd.f27.name == "runtime.NumGoroutine") = false := by kernel_rfl
theorem fit29 : cFunc Tryd.prog (pol 29) Tryd.f29 = .code f29 := by kernel_rfl
theorem nm29 : (Tryd.f29.name == "runtime.NumGoroutine") = false := by kernel_rfl
theorem fits {W : World} (hT : tabOk W) : Fits Tryd.prog (gl W) (vlook tbl) := fits_of (fit_cons (fit_code (pol 3) Tryd.func3 nm3 fit3) (fit_cons (fit_code (pol 4) Tryd.func4 nm4 fit4) (fit_cons (fit_code (pol 5) Tryd.func5 nm5 fit5) (fit_cons (fit_code (pol 6) Tryd.func6 nm6 fit6) (fit_cons (fit_code (pol 7) Tryd.func7 nm7 fit7) (fit_cons (fit_code (pol 8) Tryd.func8 nm8 fit8) (fit_cons (fit_code (pol 9) Tryd.func9 nm9 fit9) (fit_cons (fit_code (pol 10) Tryd.func10 nm10 fit10) (fit_cons (fit_code (pol 11) Tryd.func11 nm11 fit11) (fit_cons (fit_code (pol 12) Tryd.func12 nm12 fit12) (fit_cons (fit_code (pol 13) Tryd.func13 nm13 fit13) (fit_cons (fit_code (pol 14) Tryd.func14 nm14 fit14) (fit_cons (fit_code (pol 15) Tryd.func15 nm15 fit15) (fit_cons (fit_code (pol 16) Tryd.func16 nm16 fit16) (fit_cons (fit_code (pol 17) Tryd.func17 nm17 fit17) (fit_cons (fit_code (pol 18) Tryd.func18 nm18 fit18) (fit_cons (fit_code (pol 19) Tryd.func19 nm19 fit19) (fit_cons (fit_code (pol 20) Tryd.func20 nm20 fit20) (fit_cons (fit_code (pol 22) Tryd.func22 nm22 fit22) (fit_cons (fit_code (pol 23) Tryd.func23 nm23 fit23) (fit_cons (fit_code (pol 25) Tryd.func25 nm25 fit25) (fit_cons (fit_code (pol 26) Tryd.func26 nm26 fit26) (fit_cons (fit_code (pol 27) Tryd.func27 nm27 fit27) (fit_cons (fit_code (pol 29) Tryd.func29 nm29 fit29) (fit_cons fitx21 (fit_cons fitx24 (fit_cons fitx28 (fit_cons (fitx32 hT) fit_nil))))))))))))))))))))))))))))
end Go.Vx.YtjnjklnfcpgmpaaDoor
