/- V's code is the loaded program's: each function by the kernel. -/
import Derived.Test.YtmeffbagkloagaaDoorRows
import Derived.Test.YtmeffbagkloagaaDoorVxJ
import Derived.Test.YtmeffbagkloagaaDoorVcD
import Derived.Test.YtmeffbagkloagaaDoorVyD
set_option maxRecDepth 100000
namespace Go.Vx.YtmeffbagkloagaaDoor
open Go.Proofs
def pures : List Nat := [3, 4, 5, 6, 7, 8, 9, 10, 11, 12, 13, 14, 15, 16, 17, 18, 19, 20, 21, 22, 23, 24, 25, 26, 27, 28, 29, 30, 31, 32, 33, 34, 35, 36, 37, 38, 39, 40, 41, 42, 47, 48, 49, 50, 51, 52, 54, 55, 56, 57, 60, 62, 63, 64, 65, 66, 67, 70, 71, 72, 61]
def keeps : List (Nat × Nat) := []
def clones : List (Nat × Nat) := []
def pol (fn : Nat) : Pol := { pure := fun _ g => pures.contains g && !keeps.contains (fn, g), dyn := fun _ => [(47 : Nat), (61 : Nat), (20 : Nat)].contains fn, muts := [(6 : Nat)].contains fn, clone := fun r => clones.contains (fn, r) }
theorem fit3 : cFunc Tryd.prog (pol 3) Tryd.f3 = .code f3 := by kernel_rfl
theorem nm3 : (Tryd.f3.name == "runtime.NumGoroutine") = false := by kernel_rfl
theorem fit4 : cFunc Tryd.prog (pol 4) Tryd.f4 = .code f4 := by kernel_rfl
theorem nm4 : (Tryd.f4.name == "runtime.NumGoroutine") = false := by kernel_rfl
theorem fit5 : cFunc Tryd.prog (pol 5) Tryd.f5 = .code f5 := by kernel_rfl
theorem nm5 : (Tryd.f5.name == "runtime.NumGoroutine") = false := by kernel_rfl
theorem fit6 : cFunc Tryd.prog (pol 6) Tryd.f6 = .code f6 := by kernel_rfl
theorem nm6 : (Tryd.f6.name == "runtime.NumGoroutine") = false := by kernel_rfl
theorem fit7 : cFunc Tryd.prog (pol 7) Tryd.f7 = .code f7 := by kernel_rfl
theorem nm7 : (Tryd.f7.name == "runtime.NumGoroutine") = false := by kernel_rfl
theorem fit8 : cFunc Tryd.prog (pol 8) Tryd.f8 = .code f8 := by kernel_rfl
theorem nm8 : (Tryd.f8.name == "runtime.NumGoroutine") = false := by kernel_rfl
theorem fit9 : cFunc Tryd.prog (pol 9) Tryd.f9 = .code f9 := by kernel_rfl
theorem nm9 : (Tryd.f9.name == "runtime.NumGoroutine") = false := by kernel_rfl
theorem fit10 : cFunc Tryd.prog (pol 10) Tryd.f10 = .code f10 := by kernel_rfl
theorem nm10 : (Tryd.f10.name == "runtime.NumGoroutine") = false := by kernel_rfl
theorem fit11 : cFunc Tryd.prog (pol 11) Tryd.f11 = .code f11 := by kernel_rfl
theorem nm11 : (Tryd.f11.name == "runtime.NumGoroutine") = false := by kernel_rfl
theorem fit12 : cFunc Tryd.prog (pol 12) Tryd.f12 = .code f12 := by kernel_rfl
theorem nm12 : (Tryd.f12.name == "runtime.NumGoroutine") = false := by kernel_rfl
theorem fit13 : cFunc Tryd.prog (pol 13) Tryd.f13 = .code f13 := by kernel_rfl
theorem nm13 : (Tryd.f13.name == "runtime.NumGoroutine") = false := by kernel_rfl
theorem fit14 : cFunc Tryd.prog (pol 14) Tryd.f14 = .code f14 := by kernel_rfl
theorem nm14 : (Tryd.f14.name == "runtime.NumGoroutine") = false := by kernel_rfl
theorem fit15 : cFunc Tryd.prog (pol 15) Tryd.f15 = .code f15 := by kernel_rfl
theorem nm15 : (Tryd.f15.name == "runtime.NumGoroutine") = false := by kernel_rfl
theorem fit16 : cFunc Tryd.prog (pol 16) Tryd.f16 = .code f16 := by kernel_rfl
theorem nm16 : (Tryd.f16.name == "runtime.NumGoroutine") = false := by kernel_rfl
theorem fit17 : cFunc Tryd.prog (pol 17) Tryd.f17 = .code f17 := by kernel_rfl
theorem nm17 : (Tryd.f17.name == "runtime.NumGoroutine") = false := by kernel_rfl
theorem fit18 : cFunc Tryd.prog (pol 18) Tryd.f18 = .code f18 := by kernel_rfl
theorem nm18 : (Tryd.f18.name == "runtime.NumGoroutine") = false := by kernel_rfl
theorem fit19 : cFunc Tryd.prog (pol 19) Tryd.f19 = .code f19 := by kernel_rfl
theorem nm19 : (Tryd.f19.name == "runtime.NumGoroutine") = false := by kernel_rfl
theorem fit20 : cFunc Tryd.prog (pol 20) Tryd.f20 = .code f20 := by kernel_rfl
theorem nm20 : (Tryd.f20.name == "runtime.NumGoroutine") = false := by kernel_rfl
theorem fit21 : cFunc Tryd.prog (pol 21) Tryd.f21 = .code f21 := by kernel_rfl
theorem nm21 : (Tryd.f21.name == "runtime.NumGoroutine") = false := by kernel_rfl
theorem fit22 : cFunc Tryd.prog (pol 22) Tryd.f22 = .code f22 := by kernel_rfl
theorem nm22 : (Tryd.f22.name == "runtime.NumGoroutine") = false := by kernel_rfl
theorem fit23 : cFunc Tryd.prog (pol 23) Tryd.f23 = .code f23 := by kernel_rfl
theorem nm23 : (Tryd.f23.name == "runtime.NumGoroutine") = false := by kernel_rfl
theorem fit24 : cFunc Tryd.prog (pol 24) Tryd.f24 = .code f24 := by kernel_rfl
theorem nm24 : (Tryd.f24.name == "runtime.NumGoroutine") = false := by kernel_rfl
theorem fit25 : cFunc Tryd.prog (pol 25) Tryd.f25 = .code f25 := by kernel_rfl
theorem nm25 : (Tryd.f25.name == "runtime.NumGoroutine") = false := by kernel_rfl
theorem fit26 : cFunc Tryd.prog (pol 26) Tryd.f26 = .code f26 := by kernel_rfl
theorem nm26 : (Tryd.f26.name == "runtime.NumGoroutine") = false := by kernel_rfl
theorem fit27 : cFunc Tryd.prog (pol 27) Tryd.f27 = .code f27 := by kernel_rfl
theorem nm27 : (Tryd.f27.name == "runtime.NumGoroutine") = false := by kernel_rfl
theorem fit28 : cFunc Tryd.prog (pol 28) Tryd.f28 = .code f28 := by kernel_rfl
theorem nm28 : (Tryd.f28.name == "runtime.NumGoroutine") = false := by kernel_rfl
theorem fit29 : cFunc Tryd.prog (pol 29) Tryd.f29 = .code f29 := by kernel_rfl
theorem nm29 : (Tryd.f29.name == "runtime.NumGoroutine") = false := by kernel_rfl
theorem fit30 : cFunc Tryd.prog (pol 30) Tryd.f30 = .code f30 := by kernel_rfl
theorem nm30 : (Tryd.f30.name == "runtime.NumGoroutine") = false := by kernel_rfl
theorem fit31 : cFunc Tryd.prog (pol 31) Tryd.f31 = .code f31 := by kernel_rfl
theorem nm31 : (Tryd.f31.name == "runtime.NumGoroutine") = false := by kernel_rfl
theorem fit32 : cFunc Tryd.prog (pol 32) Tryd.f32 = .code f32 := by kernel_rfl
theorem nm32 : (Tryd.f32.name == "runtime.NumGoroutine") = false := by kernel_rfl
theorem fit34 : cFunc Tryd.prog (pol 34) Tryd.f34 = .code f34 := by kernel_rfl
theorem nm34 : (Tryd.f34.name == "runtime.NumGoroutine") = false := by kernel_rfl
theorem fit35 : cFunc Tryd.prog (pol 35) Tryd.f35 = .code f35 := by kernel_rfl
theorem nm35 : (Tryd.f35.name == "runtime.NumGoroutine") = false := by kernel_rfl
theorem fit36 : cFunc Tryd.prog (pol 36) Tryd.f36 = .code f36 := by kernel_rfl
theorem nm36 : (Tryd.f36.name == "runtime.NumGoroutine") = false := by kernel_rfl
theorem fit37 : cFunc Tryd.prog (pol 37) Tryd.f37 = .code f37 := by kernel_rfl
theorem nm37 : (Tryd.f37.name == "runtime.NumGoroutine") = false := by kernel_rfl
theorem fit38 : cFunc Tryd.prog (pol 38) Tryd.f38 = .code f38 := by kernel_rfl
theorem nm38 : (Tryd.f38.name == "runtime.NumGoroutine") = false := by kernel_rfl
theorem fit39 : cFunc Tryd.prog (pol 39) Tryd.f39 = .code f39 := by kernel_rfl
theorem nm39 : (Tryd.f39.name == "runtime.NumGoroutine") = false := by kernel_rfl
theorem fit47 : cFunc Tryd.prog (pol 47) Tryd.f47 = .code f47 := by kernel_rfl
theorem nm47 : (Tryd.f47.name == "runtime.NumGoroutine") = false := by kernel_rfl
theorem fit48 : cFunc Tryd.prog (pol 48) Tryd.f48 = .code f48 := by kernel_rfl
theorem nm48 : (Tryd.f48.name == "runtime.NumGoroutine") = false := by kernel_rfl
theorem fit49 : cFunc Tryd.prog (pol 49) Tryd.f49 = .code f49 := by kernel_rfl
theorem nm49 : (Tryd.f49.name == "runtime.NumGoroutine") = false := by kernel_rfl
theorem fit50 : cFunc Tryd.prog (pol 50) Tryd.f50 = .code f50 := by kernel_rfl
theorem nm50 : (Tryd.f50.name == "runtime.NumGoroutine") = false := by kernel_rfl
theorem fit61 : cFunc Tryd.prog (pol 61) Tryd.f61 = .code f61 := by kernel_rfl
theorem nm61 : (Tryd.f61.name == "runtime.NumGoroutine") = false := by kernel_rfl
theorem fit62 : cFunc Tryd.prog (pol 62) Tryd.f62 = .code f62 := by kernel_rfl
theorem nm62 : (Tryd.f62.name == "runtime.NumGoroutine") = false := by kernel_rfl
theorem fits {W : World} (hT : tabOk W) : Fits Tryd.prog (gl W) (vlook tbl) := fits_of (fit_cons (fit_code (pol 3) Tryd.func3 nm3 fit3) (fit_cons (fit_code (pol 4) Tryd.func4 nm4 fit4) (fit_cons (fit_code (pol 5) Tryd.func5 nm5 fit5) (fit_cons (fit_code (pol 6) Tryd.func6 nm6 fit6) (fit_cons (fit_code (pol 7) Tryd.func7 nm7 fit7) (fit_cons (fit_code (pol 8) Tryd.func8 nm8 fit8) (fit_cons (fit_code (pol 9) Tryd.func9 nm9 fit9) (fit_cons (fit_code (pol 10) Tryd.func10 nm10 fit10) (fit_cons (fit_code (pol 11) Tryd.func11 nm11 fit11) (fit_cons (fit_code (pol 12) Tryd.func12 nm12 fit12) (fit_cons (fit_code (pol 13) Tryd.func13 nm13 fit13) (fit_cons (fit_code (pol 14) Tryd.func14 nm14 fit14) (fit_cons (fit_code (pol 15) Tryd.func15 nm15 fit15) (fit_cons (fit_code (pol 16) Tryd.func16 nm16 fit16) (fit_cons (fit_code (pol 17) Tryd.func17 nm17 fit17) (fit_cons (fit_code (pol 18) Tryd.func18 nm18 fit18) (fit_cons (fit_code (pol 19) Tryd.func19 nm19 fit19) (fit_cons (fit_code (pol 20) Tryd.func20 nm20 fit20) (fit_cons (fit_code (pol 21) Tryd.func21 nm21 fit21) (fit_cons (fit_code (pol 22) Tryd.func22 nm22 fit22) (fit_cons (fit_code (pol 23) Tryd.func23 nm23 fit23) (fit_cons (fit_code (pol 24) Tryd.func24 nm24 fit24) (fit_cons (fit_code (pol 25) Tryd.func25 nm25 fit25) (fit_cons (fit_code (pol 26) Tryd.func26 nm26 fit26) (fit_cons (fit_code (pol 27) Tryd.func27 nm27 fit27) (fit_cons (fit_code (pol 28) Tryd.func28 nm28 fit28) (fit_cons (fit_code (pol 29) Tryd.func29 nm29 fit29) (fit_cons (fit_code (pol 30) Tryd.func30 nm30 fit30) (fit_cons (fit_code (pol 31) Tryd.func31 nm31 fit31) (fit_cons (fit_code (pol 32) Tryd.func32 nm32 fit32) (fit_cons (fit_code (pol 34) Tryd.func34 nm34 fit34) (fit_cons (fit_code (pol 35) Tryd.func35 nm35 fit35) (fit_cons (fit_code (pol 36) Tryd.func36 nm36 fit36) (fit_cons (fit_code (pol 37) Tryd.func37 nm37 fit37) (fit_cons (fit_code (pol 38) Tryd.func38 nm38 fit38) (fit_cons (fit_code (pol 39) Tryd.func39 nm39 fit39) (fit_cons (fit_code (pol 47) Tryd.func47 nm47 fit47) (fit_cons (fit_code (pol 48) Tryd.func48 nm48 fit48) (fit_cons (fit_code (pol 49) Tryd.func49 nm49 fit49) (fit_cons (fit_code (pol 50) Tryd.func50 nm50 fit50) (fit_cons (fit_code (pol 61) Tryd.func61 nm61 fit61) (fit_cons (fit_code (pol 62) Tryd.func62 nm62 fit62) (fit_cons fitx33 (fit_cons (fitx40 hT) (fit_cons fitx60 fit_nil)))))))))))))))))))))))))))))))))))))))))))))
end Go.Vx.YtmeffbagkloagaaDoor
