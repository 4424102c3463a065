/- V's code is the loaded program's: each function by the kernel. -/
import Derived.Test.YtbjcimdflehfjaaRows
import Derived.Test.YtbjcimdflehfjaaVxJ
import Derived.Test.YtbjcimdflehfjaaVcA
set_option maxRecDepth 100000
namespace Go.Vx.Ytbjcimdflehfjaa
open Go.Proofs
def pures : List Nat := [67, 70, 42, 64, 55, 59, 82, 60, 38, 37, 36, 58, 79, 80, 81, 20, 40, 96, 74, 52, 75, 54, 28, 39, 108, 95, 51, 53, 65, 34, 43, 94, 19, 25, 23, 24, 29, 26, 47, 49, 69, 72, 68, 71, 73, 99, 83, 110, 111, 30, 9, 27, 32, 35, 41, 45, 21, 44, 22, 62, 78]
def keeps : List (Nat × Nat) := [(58, 81), (37, 55), (55, 42), (42, 64)]
def clones : List (Nat × Nat) := [(36, 6)]
def pol (fn : Nat) : Pol := { pure := fun _ g => pures.contains g && !keeps.contains (fn, g), dyn := fun _ => [(39 : Nat), (108 : Nat), (95 : Nat), (51 : Nat), (53 : Nat), (65 : Nat), (34 : Nat), (68 : Nat), (71 : Nat), (46 : Nat), (48 : Nat), (99 : Nat), (110 : Nat), (111 : Nat), (102 : Nat), (106 : Nat), (44 : Nat)].contains fn, muts := false, clone := fun r => clones.contains (fn, r) }
theorem fit3 : cFunc Try.prog (pol 3) Try.f3 = .code f3 := by kernel_rfl
theorem nm3 : (Try.f3.name == "runtime.NumGoroutine") = false := by kernel_rfl
theorem fit4 : cFunc Try.prog (pol 4) Try.f4 = .code f4 := by kernel_rfl
theorem nm4 : (Try.f4.name == "runtime.NumGoroutine") = false := by kernel_rfl
theorem fit5 : cFunc Try.prog (pol 5) Try.f5 = .code f5 := by kernel_rfl
theorem nm5 : (Try.f5.name == "runtime.NumGoroutine") = false := by kernel_rfl
theorem fit6 : cFunc Try.prog (pol 6) Try.f6 = .code f6 := by kernel_rfl
theorem nm6 : (Try.f6.name == "runtime.NumGoroutine") = false := by kernel_rfl
theorem fit7 : cFunc Try.prog (pol 7) Try.f7 = .code f7 := by kernel_rfl
theorem nm7 : (Try.f7.name == "runtime.NumGoroutine") = false := by kernel_rfl
theorem fit8 : cFunc Try.prog (pol 8) Try.f8 = .code f8 := by kernel_rfl
theorem nm8 : (Try.f8.name == "runtime.NumGoroutine") = false := by kernel_rfl
theorem fit9 : cFunc Try.prog (pol 9) Try.f9 = .code f9 := by kernel_rfl
theorem nm9 : (Try.f9.name == "runtime.NumGoroutine") = false := by kernel_rfl
theorem fit10 : cFunc Try.prog (pol 10) Try.f10 = .code f10 := by kernel_rfl
theorem nm10 : (Try.f10.name == "runtime.NumGoroutine") = false := by kernel_rfl
theorem fit11 : cFunc Try.prog (pol 11) Try.f11 = .code f11 := by kernel_rfl
theorem nm11 : (Try.f11.name == "runtime.NumGoroutine") = false := by kernel_rfl
theorem fit12 : cFunc Try.prog (pol 12) Try.f12 = .code f12 := by kernel_rfl
theorem nm12 : (Try.f12.name == "runtime.NumGoroutine") = false := by kernel_rfl
theorem fit13 : cFunc Try.prog (pol 13) Try.f13 = .code f13 := by kernel_rfl
theorem nm13 : (Try.f13.name == "runtime.NumGoroutine") = false := by kernel_rfl
theorem fit14 : cFunc Try.prog (pol 14) Try.f14 = .code f14 := by kernel_rfl
theorem nm14 : (Try.f14.name == "runtime.NumGoroutine") = false := by kernel_rfl
theorem fit15 : cFunc Try.prog (pol 15) Try.f15 = .code f15 := by kernel_rfl
theorem nm15 : (Try.f15.name == "runtime.NumGoroutine") = false := by kernel_rfl
theorem fit16 : cFunc Try.prog (pol 16) Try.f16 = .code f16 := by kernel_rfl
theorem nm16 : (Try.f16.name == "runtime.NumGoroutine") = false := by kernel_rfl
theorem fit17 : cFunc Try.prog (pol 17) Try.f17 = .code f17 := by kernel_rfl
theorem nm17 : (Try.f17.name == "runtime.NumGoroutine") = false := by kernel_rfl
theorem fit18 : cFunc Try.prog (pol 18) Try.f18 = .code f18 := by kernel_rfl
theorem nm18 : (Try.f18.name == "runtime.NumGoroutine") = false := by kernel_rfl
theorem fit19 : cFunc Try.prog (pol 19) Try.f19 = .code f19 := by kernel_rfl
theorem nm19 : (Try.f19.name == "runtime.NumGoroutine") = false := by kernel_rfl
theorem fit20 : cFunc Try.prog (pol 20) Try.f20 = .code f20 := by kernel_rfl
theorem nm20 : (Try.f20.name == "runtime.NumGoroutine") = false := by kernel_rfl
theorem fit21 : cFunc Try.prog (pol 21) Try.f21 = .code f21 := by kernel_rfl
theorem nm21 : (Try.f21.name == "runtime.NumGoroutine") = false := by kernel_rfl
theorem fit22 : cFunc Try.prog (pol 22) Try.f22 = .code f22 := by kernel_rfl
theorem nm22 : (Try.f22.name == "runtime.NumGoroutine") = false := by kernel_rfl
theorem fit23 : cFunc Try.prog (pol 23) Try.f23 = .code f23 := by kernel_rfl
theorem nm23 : (Try.f23.name == "runtime.NumGoroutine") = false := by kernel_rfl
theorem fit24 : cFunc Try.prog (pol 24) Try.f24 = .code f24 := by kernel_rfl
theorem nm24 : (Try.f24.name == "runtime.NumGoroutine") = false := by kernel_rfl
theorem fit25 : cFunc Try.prog (pol 25) Try.f25 = .code f25 := by kernel_rfl
theorem nm25 : (Try.f25.name == "runtime.NumGoroutine") = false := by kernel_rfl
theorem fit26 : cFunc Try.prog (pol 26) Try.f26 = .code f26 := by kernel_rfl
theorem nm26 : (Try.f26.name == "runtime.NumGoroutine") = false := by kernel_rfl
theorem fit27 : cFunc Try.prog (pol 27) Try.f27 = .code f27 := by kernel_rfl
theorem nm27 : (Try.f27.name == "runtime.NumGoroutine") = false := by kernel_rfl
theorem fit28 : cFunc Try.prog (pol 28) Try.f28 = .code f28 := by kernel_rfl
theorem nm28 : (Try.f28.name == "runtime.NumGoroutine") = false := by kernel_rfl
theorem fit29 : cFunc Try.prog (pol 29) Try.f29 = .code f29 := by kernel_rfl
theorem nm29 : (Try.f29.name == "runtime.NumGoroutine") = false := by kernel_rfl
theorem fit30 : cFunc Try.prog (pol 30) Try.f30 = .code f30 := by kernel_rfl
theorem nm30 : (Try.f30.name == "runtime.NumGoroutine") = false := by kernel_rfl
theorem fit31 : cFunc Try.prog (pol 31) Try.f31 = .code f31 := by kernel_rfl
theorem nm31 : (Try.f31.name == "runtime.NumGoroutine") = false := by kernel_rfl
theorem fit32 : cFunc Try.prog (pol 32) Try.f32 = .code f32 := by kernel_rfl
theorem nm32 : (Try.f32.name == "runtime.NumGoroutine") = false := by kernel_rfl
theorem fit33 : cFunc Try.prog (pol 33) Try.f33 = .code f33 := by kernel_rfl
theorem nm33 : (Try.f33.name == "runtime.NumGoroutine") = false := by kernel_rfl
theorem fit34 : cFunc Try.prog (pol 34) Try.f34 = .code f34 := by kernel_rfl
theorem nm34 : (Try.f34.name == "runtime.NumGoroutine") = false := by kernel_rfl
theorem fit35 : cFunc Try.prog (pol 35) Try.f35 = .code f35 := by kernel_rfl
theorem nm35 : (Try.f35.name == "runtime.NumGoroutine") = false := by kernel_rfl
theorem fit36 : cFunc Try.prog (pol 36) Try.f36 = .code f36 := by kernel_rfl
theorem nm36 : (Try.f36.name == "runtime.NumGoroutine") = false := by kernel_rfl
theorem fit37 : cFunc Try.prog (pol 37) Try.f37 = .code f37 := by kernel_rfl
theorem nm37 : (Try.f37.name == "runtime.NumGoroutine") = false := by kernel_rfl
theorem fit38 : cFunc Try.prog (pol 38) Try.f38 = .code f38 := by kernel_rfl
theorem nm38 : (Try.f38.name == "runtime.NumGoroutine") = false := by kernel_rfl
theorem fit39 : cFunc Try.prog (pol 39) Try.f39 = .code f39 := by kernel_rfl
theorem nm39 : (Try.f39.name == "runtime.NumGoroutine") = false := by kernel_rfl
theorem fit40 : cFunc Try.prog (pol 40) Try.f40 = .code f40 := by kernel_rfl
theorem nm40 : (Try.f40.name == "runtime.NumGoroutine") = false := by kernel_rfl
theorem fit41 : cFunc Try.prog (pol 41) Try.f41 = .code f41 := by kernel_rfl
theorem nm41 : (Try.f41.name == "runtime.NumGoroutine") = false := by kernel_rfl
theorem fit42 : cFunc Try.prog (pol 42) Try.f42 = .code f42 := by kernel_rfl
theorem nm42 : (Try.f42.name == "runtime.NumGoroutine") = false := by kernel_rfl
theorem fit43 : cFunc Try.prog (pol 43) Try.f43 = .code f43 := by kernel_rfl
theorem nm43 : (Try.f43.name == "runtime.NumGoroutine") = false := by kernel_rfl
theorem fit44 : cFunc Try.prog (pol 44) Try.f44 = .code f44 := by kernel_rfl
theorem nm44 : (Try.f44.name == "runtime.NumGoroutine") = false := by kernel_rfl
theorem fit45 : cFunc Try.prog (pol 45) Try.f45 = .code f45 := by kernel_rfl
theorem nm45 : (Try.f45.name == "runtime.NumGoroutine") = false := by kernel_rfl
theorem fit46 : cFunc Try.prog (pol 46) Try.f46 = .code f46 := by kernel_rfl
theorem nm46 : (Try.f46.name == "runtime.NumGoroutine") = false := by kernel_rfl
theorem fit47 : cFunc Try.prog (pol 47) Try.f47 = .code f47 := by kernel_rfl
theorem nm47 : (Try.f47.name == "runtime.NumGoroutine") = false := by kernel_rfl
theorem fit48 : cFunc Try.prog (pol 48) Try.f48 = .code f48 := by kernel_rfl
theorem nm48 : (Try.f48.name == "runtime.NumGoroutine") = false := by kernel_rfl
theorem fit49 : cFunc Try.prog (pol 49) Try.f49 = .code f49 := by kernel_rfl
theorem nm49 : (Try.f49.name == "runtime.NumGoroutine") = false := by kernel_rfl
theorem fit50 : cFunc Try.prog (pol 50) Try.f50 = .code f50 := by kernel_rfl
theorem nm50 : (Try.f50.name == "runtime.NumGoroutine") = false := by kernel_rfl
theorem fit51 : cFunc Try.prog (pol 51) Try.f51 = .code f51 := by kernel_rfl
theorem nm51 : (Try.f51.name == "runtime.NumGoroutine") = false := by kernel_rfl
theorem fit52 : cFunc Try.prog (pol 52) Try.f52 = .code f52 := by kernel_rfl
theorem nm52 : (Try.f52.name == "runtime.NumGoroutine") = false := by kernel_rfl
theorem fit53 : cFunc Try.prog (pol 53) Try.f53 = .code f53 := by kernel_rfl
theorem nm53 : (Try.f53.name == "runtime.NumGoroutine") = false := by kernel_rfl
theorem fit54 : cFunc Try.prog (pol 54) Try.f54 = .code f54 := by kernel_rfl
theorem nm54 : (Try.f54.name == "runtime.NumGoroutine") = false := by kernel_rfl
theorem fit55 : cFunc Try.prog (pol 55) Try.f55 = .code f55 := by kernel_rfl
theorem nm55 : (Try.f55.name == "runtime.NumGoroutine") = false := by kernel_rfl
theorem fit56 : cFunc Try.prog (pol 56) Try.f56 = .code f56 := by kernel_rfl
theorem nm56 : (Try.f56.name == "runtime.NumGoroutine") = false := by kernel_rfl
theorem fit57 : cFunc Try.prog (pol 57) Try.f57 = .code f57 := by kernel_rfl
theorem nm57 : (Try.f57.name == "runtime.NumGoroutine") = false := by kernel_rfl
theorem fit58 : cFunc Try.prog (pol 58) Try.f58 = .code f58 := by kernel_rfl
theorem nm58 : (Try.f58.name == "runtime.NumGoroutine") = false := by kernel_rfl
theorem fit59 : cFunc Try.prog (pol 59) Try.f59 = .code f59 := by kernel_rfl
theorem nm59 : (Try.f59.name == "runtime.NumGoroutine") = false := by kernel_rfl
theorem fit60 : cFunc Try.prog (pol 60) Try.f60 = .code f60 := by kernel_rfl
theorem nm60 : (Try.f60.name == "runtime.NumGoroutine") = false := by kernel_rfl
theorem fit61 : cFunc Try.prog (pol 61) Try.f61 = .code f61 := by kernel_rfl
theorem nm61 : (Try.f61.name == "runtime.NumGoroutine") = false := by kernel_rfl
theorem fit62 : cFunc Try.prog (pol 62) Try.f62 = .code f62 := by kernel_rfl
theorem nm62 : (Try.f62.name == "runtime.NumGoroutine") = false := by kernel_rfl
theorem fit63 : cFunc Try.prog (pol 63) Try.f63 = .code f63 := by kernel_rfl
theorem nm63 : (Try.f63.name == "runtime.NumGoroutine") = false := by kernel_rfl
theorem fit64 : cFunc Try.prog (pol 64) Try.f64 = .code f64 := by kernel_rfl
theorem nm64 : (Try.f64.name == "runtime.NumGoroutine") = false := by kernel_rfl
theorem fit65 : cFunc Try.prog (pol 65) Try.f65 = .code f65 := by kernel_rfl
theorem nm65 : (Try.f65.name == "runtime.NumGoroutine") = false := by kernel_rfl
theorem fit66 : cFunc Try.prog (pol 66) Try.f66 = .code f66 := by kernel_rfl
theorem nm66 : (Try.f66.name == "runtime.NumGoroutine") = false := by kernel_rfl
theorem fit67 : cFunc Try.prog (pol 67) Try.f67 = .code f67 := by kernel_rfl
theorem nm67 : (Try.f67.name == "runtime.NumGoroutine") = false := by kernel_rfl
theorem fit68 : cFunc Try.prog (pol 68) Try.f68 = .code f68 := by kernel_rfl
theorem nm68 : (Try.f68.name == "runtime.NumGoroutine") = false := by kernel_rfl
theorem fit69 : cFunc Try.prog (pol 69) Try.f69 = .code f69 := by kernel_rfl
theorem nm69 : (Try.f69.name == "runtime.NumGoroutine") = false := by kernel_rfl
theorem fit70 : cFunc Try.prog (pol 70) Try.f70 = .code f70 := by kernel_rfl
theorem nm70 : (Try.f70.name == "runtime.NumGoroutine") = false := by kernel_rfl
theorem fit71 : cFunc Try.prog (pol 71) Try.f71 = .code f71 := by kernel_rfl
theorem nm71 : (Try.f71.name == "runtime.NumGoroutine") = false := by kernel_rfl
theorem fit72 : cFunc Try.prog (pol 72) Try.f72 = .code f72 := by kernel_rfl
theorem nm72 : (Try.f72.name == "runtime.NumGoroutine") = false := by kernel_rfl
theorem fit73 : cFunc Try.prog (pol 73) Try.f73 = .code f73 := by kernel_rfl
theorem nm73 : (Try.f73.name == "runtime.NumGoroutine") = false := by kernel_rfl
theorem fit74 : cFunc Try.prog (pol 74) Try.f74 = .code f74 := by kernel_rfl
theorem nm74 : (Try.f74.name == "runtime.NumGoroutine") = false := by kernel_rfl
theorem fit75 : cFunc Try.prog (pol 75) Try.f75 = .code f75 := by kernel_rfl
theorem nm75 : (Try.f75.name == "runtime.NumGoroutine") = false := by kernel_rfl
theorem fit76 : cFunc Try.prog (pol 76) Try.f76 = .code f76 := by kernel_rfl
theorem nm76 : (Try.f76.name == "runtime.NumGoroutine") = false := by kernel_rfl
theorem fit77 : cFunc Try.prog (pol 77) Try.f77 = .code f77 := by kernel_rfl
theorem nm77 : (Try.f77.name == "runtime.NumGoroutine") = false := by kernel_rfl
theorem fit78 : cFunc Try.prog (pol 78) Try.f78 = .code f78 := by kernel_rfl
theorem nm78 : (Try.f78.name == "runtime.NumGoroutine") = false := by kernel_rfl
theorem fit79 : cFunc Try.prog (pol 79) Try.f79 = .code f79 := by kernel_rfl
theorem nm79 : (Try.f79.name == "runtime.NumGoroutine") = false := by kernel_rfl
theorem fit80 : cFunc Try.prog (pol 80) Try.f80 = .code f80 := by kernel_rfl
theorem nm80 : (Try.f80.name == "runtime.NumGoroutine") = false := by kernel_rfl
theorem fit81 : cFunc Try.prog (pol 81) Try.f81 = .code f81 := by kernel_rfl
theorem nm81 : (Try.f81.name == "runtime.NumGoroutine") = false := by kernel_rfl
theorem fit82 : cFunc Try.prog (pol 82) Try.f82 = .code f82 := by kernel_rfl
theorem nm82 : (Try.f82.name == "runtime.NumGoroutine") = false := by kernel_rfl
theorem fit83 : cFunc Try.prog (pol 83) Try.f83 = .code f83 := by kernel_rfl
theorem nm83 : (Try.f83.name == "runtime.NumGoroutine") = false := by kernel_rfl
theorem fit84 : cFunc Try.prog (pol 84) Try.f84 = .code f84 := by kernel_rfl
theorem nm84 : (Try.f84.name == "runtime.NumGoroutine") = false := by kernel_rfl
theorem fit85 : cFunc Try.prog (pol 85) Try.f85 = .code f85 := by kernel_rfl
theorem nm85 : (Try.f85.name == "runtime.NumGoroutine") = false := by kernel_rfl
theorem fit86 : cFunc Try.prog (pol 86) Try.f86 = .code f86 := by kernel_rfl
theorem nm86 : (Try.f86.name == "runtime.NumGoroutine") = false := by kernel_rfl
theorem fit87 : cFunc Try.prog (pol 87) Try.f87 = .code f87 := by kernel_rfl
theorem nm87 : (Try.f87.name == "runtime.NumGoroutine") = false := by kernel_rfl
theorem fit88 : cFunc Try.prog (pol 88) Try.f88 = .code f88 := by kernel_rfl
theorem nm88 : (Try.f88.name == "runtime.NumGoroutine") = false := by kernel_rfl
theorem fit89 : cFunc Try.prog (pol 89) Try.f89 = .code f89 := by kernel_rfl
theorem nm89 : (Try.f89.name == "runtime.NumGoroutine") = false := by kernel_rfl
theorem fit90 : cFunc Try.prog (pol 90) Try.f90 = .code f90 := by kernel_rfl
theorem nm90 : (Try.f90.name == "runtime.NumGoroutine") = false := by kernel_rfl
theorem fit91 : cFunc Try.prog (pol 91) Try.f91 = .code f91 := by kernel_rfl
theorem nm91 : (Try.f91.name == "runtime.NumGoroutine") = false := by kernel_rfl
theorem fit92 : cFunc Try.prog (pol 92) Try.f92 = .code f92 := by kernel_rfl
theorem nm92 : (Try.f92.name == "runtime.NumGoroutine") = false := by kernel_rfl
theorem fit93 : cFunc Try.prog (pol 93) Try.f93 = .code f93 := by kernel_rfl
theorem nm93 : (Try.f93.name == "runtime.NumGoroutine") = false := by kernel_rfl
theorem fit94 : cFunc Try.prog (pol 94) Try.f94 = .code f94 := by kernel_rfl
theorem nm94 : (Try.f94.name == "runtime.NumGoroutine") = false := by kernel_rfl
theorem fit95 : cFunc Try.prog (pol 95) Try.f95 = .code f95 := by kernel_rfl
theorem nm95 : (Try.f95.name == "runtime.NumGoroutine") = false := by kernel_rfl
theorem fit96 : cFunc Try.prog (pol 96) Try.f96 = .code f96 := by kernel_rfl
theorem nm96 : (Try.f96.name == "runtime.NumGoroutine") = false := by kernel_rfl
theorem fit97 : cFunc Try.prog (pol 97) Try.f97 = .code f97 := by kernel_rfl
theorem nm97 : (Try.f97.name == "runtime.NumGoroutine") = false := by kernel_rfl
theorem fit98 : cFunc Try.prog (pol 98) Try.f98 = .code f98 := by kernel_rfl
theorem nm98 : (Try.f98.name == "runtime.NumGoroutine") = false := by kernel_rfl
theorem fit99 : cFunc Try.prog (pol 99) Try.f99 = .code f99 := by kernel_rfl
theorem nm99 : (Try.f99.name == "runtime.NumGoroutine") = false := by kernel_rfl
theorem fit100 : cFunc Try.prog (pol 100) Try.f100 = .code f100 := by kernel_rfl
theorem nm100 : (Try.f100.name == "runtime.NumGoroutine") = false := by kernel_rfl
theorem fit101 : cFunc Try.prog (pol 101) Try.f101 = .code f101 := by kernel_rfl
theorem nm101 : (Try.f101.name == "runtime.NumGoroutine") = false := by kernel_rfl
theorem fit102 : cFunc Try.prog (pol 102) Try.f102 = .code f102 := by kernel_rfl
theorem nm102 : (Try.f102.name == "runtime.NumGoroutine") = false := by kernel_rfl
theorem fit103 : cFunc Try.prog (pol 103) Try.f103 = .code f103 := by kernel_rfl
theorem nm103 : (Try.f103.name == "runtime.NumGoroutine") = false := by kernel_rfl
theorem fit104 : cFunc Try.prog (pol 104) Try.f104 = .code f104 := by kernel_rfl
theorem nm104 : (Try.f104.name == "runtime.NumGoroutine") = false := by kernel_rfl
theorem fit105 : cFunc Try.prog (pol 105) Try.f105 = .code f105 := by kernel_rfl
theorem nm105 : (Try.f105.name == "runtime.NumGoroutine") = false := by kernel_rfl
theorem fit106 : cFunc Try.prog (pol 106) Try.f106 = .code f106 := by kernel_rfl
theorem nm106 : (Try.f106.name == "runtime.NumGoroutine") = false := by kernel_rfl
theorem fit107 : cFunc Try.prog (pol 107) Try.f107 = .code f107 := by kernel_rfl
theorem nm107 : (Try.f107.name == "runtime.NumGoroutine") = false := by kernel_rfl
theorem fit108 : cFunc Try.prog (pol 108) Try.f108 = .code f108 := by kernel_rfl
theorem nm108 : (Try.f108.name == "runtime.NumGoroutine") = false := by kernel_rfl
theorem fit109 : cFunc Try.prog (pol 109) Try.f109 = .code f109 := by kernel_rfl
theorem nm109 : (Try.f109.name == "runtime.NumGoroutine") = false := by kernel_rfl
theorem fit110 : cFunc Try.prog (pol 110) Try.f110 = .code f110 := by kernel_rfl
theorem nm110 : (Try.f110.name == "runtime.NumGoroutine") = false := by kernel_rfl
theorem fit111 : cFunc Try.prog (pol 111) Try.f111 = .code f111 := by kernel_rfl
theorem nm111 : (Try.f111.name == "runtime.NumGoroutine") = false := by kernel_rfl
theorem fits : Fits Try.prog (vlook tbl) := fits_of (fit_cons (fit_code (pol 3) Try.func3 nm3 fit3) (fit_cons (fit_code (pol 4) Try.func4 nm4 fit4) (fit_cons (fit_code (pol 5) Try.func5 nm5 fit5) (fit_cons (fit_code (pol 6) Try.func6 nm6 fit6) (fit_cons (fit_code (pol 7) Try.func7 nm7 fit7) (fit_cons (fit_code (pol 8) Try.func8 nm8 fit8) (fit_cons (fit_code (pol 9) Try.func9 nm9 fit9) (fit_cons (fit_code (pol 10) Try.func10 nm10 fit10) (fit_cons (fit_code (pol 11) Try.func11 nm11 fit11) (fit_cons (fit_code (pol 12) Try.func12 nm12 fit12) (fit_cons (fit_code (pol 13) Try.func13 nm13 fit13) (fit_cons (fit_code (pol 14) Try.func14 nm14 fit14) (fit_cons (fit_code (pol 15) Try.func15 nm15 fit15) (fit_cons (fit_code (pol 16) Try.func16 nm16 fit16) (fit_cons (fit_code (pol 17) Try.func17 nm17 fit17) (fit_cons (fit_code (pol 18) Try.func18 nm18 fit18) (fit_cons (fit_code (pol 19) Try.func19 nm19 fit19) (fit_cons (fit_code (pol 20) Try.func20 nm20 fit20) (fit_cons (fit_code (pol 21) Try.func21 nm21 fit21) (fit_cons (fit_code (pol 22) Try.func22 nm22 fit22) (fit_cons (fit_code (pol 23) Try.func23 nm23 fit23) (fit_cons (fit_code (pol 24) Try.func24 nm24 fit24) (fit_cons (fit_code (pol 25) Try.func25 nm25 fit25) (fit_cons (fit_code (pol 26) Try.func26 nm26 fit26) (fit_cons (fit_code (pol 27) Try.func27 nm27 fit27) (fit_cons (fit_code (pol 28) Try.func28 nm28 fit28) (fit_cons (fit_code (pol 29) Try.func29 nm29 fit29) (fit_cons (fit_code (pol 30) Try.func30 nm30 fit30) (fit_cons (fit_code (pol 31) Try.func31 nm31 fit31) (fit_cons (fit_code (pol 32) Try.func32 nm32 fit32) (fit_cons (fit_code (pol 33) Try.func33 nm33 fit33) (fit_cons (fit_code (pol 34) Try.func34 nm34 fit34) (fit_cons (fit_code (pol 35) Try.func35 nm35 fit35) (fit_cons (fit_code (pol 36) Try.func36 nm36 fit36) (fit_cons (fit_code (pol 37) Try.func37 nm37 fit37) (fit_cons (fit_code (pol 38) Try.func38 nm38 fit38) (fit_cons (fit_code (pol 39) Try.func39 nm39 fit39) (fit_cons (fit_code (pol 40) Try.func40 nm40 fit40) (fit_cons (fit_code (pol 41) Try.func41 nm41 fit41) (fit_cons (fit_code (pol 42) Try.func42 nm42 fit42) (fit_cons (fit_code (pol 43) Try.func43 nm43 fit43) (fit_cons (fit_code (pol 44) Try.func44 nm44 fit44) (fit_cons (fit_code (pol 45) Try.func45 nm45 fit45) (fit_cons (fit_code (pol 46) Try.func46 nm46 fit46) (fit_cons (fit_code (pol 47) Try.func47 nm47 fit47) (fit_cons (fit_code (pol 48) Try.func48 nm48 fit48) (fit_cons (fit_code (pol 49) Try.func49 nm49 fit49) (fit_cons (fit_code (pol 50) Try.func50 nm50 fit50) (fit_cons (fit_code (pol 51) Try.func51 nm51 fit51) (fit_cons (fit_code (pol 52) Try.func52 nm52 fit52) (fit_cons (fit_code (pol 53) Try.func53 nm53 fit53) (fit_cons (fit_code (pol 54) Try.func54 nm54 fit54) (fit_cons (fit_code (pol 55) Try.func55 nm55 fit55) (fit_cons (fit_code (pol 56) Try.func56 nm56 fit56) (fit_cons (fit_code (pol 57) Try.func57 nm57 fit57) (fit_cons (fit_code (pol 58) Try.func58 nm58 fit58) (fit_cons (fit_code (pol 59) Try.func59 nm59 fit59) (fit_cons (fit_code (pol 60) Try.func60 nm60 fit60) (fit_cons (fit_code (pol 61) Try.func61 nm61 fit61) (fit_cons (fit_code (pol 62) Try.func62 nm62 fit62) (fit_cons (fit_code (pol 63) Try.func63 nm63 fit63) (fit_cons (fit_code (pol 64) Try.func64 nm64 fit64) (fit_cons (fit_code (pol 65) Try.func65 nm65 fit65) (fit_cons (fit_code (pol 66) Try.func66 nm66 fit66) (fit_cons (fit_code (pol 67) Try.func67 nm67 fit67) (fit_cons (fit_code (pol 68) Try.func68 nm68 fit68) (fit_cons (fit_code (pol 69) Try.func69 nm69 fit69) (fit_cons (fit_code (pol 70) Try.func70 nm70 fit70) (fit_cons (fit_code (pol 71) Try.func71 nm71 fit71) (fit_cons (fit_code (pol 72) Try.func72 nm72 fit72) (fit_cons (fit_code (pol 73) Try.func73 nm73 fit73) (fit_cons (fit_code (pol 74) Try.func74 nm74 fit74) (fit_cons (fit_code (pol 75) Try.func75 nm75 fit75) (fit_cons (fit_code (pol 76) Try.func76 nm76 fit76) (fit_cons (fit_code (pol 77) Try.func77 nm77 fit77) (fit_cons (fit_code (pol 78) Try.func78 nm78 fit78) (fit_cons (fit_code (pol 79) Try.func79 nm79 fit79) (fit_cons (fit_code (pol 80) Try.func80 nm80 fit80) (fit_cons (fit_code (pol 81) Try.func81 nm81 fit81) (fit_cons (fit_code (pol 82) Try.func82 nm82 fit82) (fit_cons (fit_code (pol 83) Try.func83 nm83 fit83) (fit_cons (fit_code (pol 84) Try.func84 nm84 fit84) (fit_cons (fit_code (pol 85) Try.func85 nm85 fit85) (fit_cons (fit_code (pol 86) Try.func86 nm86 fit86) (fit_cons (fit_code (pol 87) Try.func87 nm87 fit87) (fit_cons (fit_code (pol 88) Try.func88 nm88 fit88) (fit_cons (fit_code (pol 89) Try.func89 nm89 fit89) (fit_cons (fit_code (pol 90) Try.func90 nm90 fit90) (fit_cons (fit_code (pol 91) Try.func91 nm91 fit91) (fit_cons (fit_code (pol 92) Try.func92 nm92 fit92) (fit_cons (fit_code (pol 93) Try.func93 nm93 fit93) (fit_cons (fit_code (pol 94) Try.func94 nm94 fit94) (fit_cons (fit_code (pol 95) Try.func95 nm95 fit95) (fit_cons (fit_code (pol 96) Try.func96 nm96 fit96) (fit_cons (fit_code (pol 97) Try.func97 nm97 fit97) (fit_cons (fit_code (pol 98) Try.func98 nm98 fit98) (fit_cons (fit_code (pol 99) Try.func99 nm99 fit99) (fit_cons (fit_code (pol 100) Try.func100 nm100 fit100) (fit_cons (fit_code (pol 101) Try.func101 nm101 fit101) (fit_cons (fit_code (pol 102) Try.func102 nm102 fit102) (fit_cons (fit_code (pol 103) Try.func103 nm103 fit103) (fit_cons (fit_code (pol 104) Try.func104 nm104 fit104) (fit_cons (fit_code (pol 105) Try.func105 nm105 fit105) (fit_cons (fit_code (pol 106) Try.func106 nm106 fit106) (fit_cons (fit_code (pol 107) Try.func107 nm107 fit107) (fit_cons (fit_code (pol 108) Try.func108 nm108 fit108) (fit_cons (fit_code (pol 109) Try.func109 nm109 fit109) (fit_cons (fit_code (pol 110) Try.func110 nm110 fit110) (fit_cons (fit_code (pol 111) Try.func111 nm111 fit111) fit_nil)))))))))))))))))))))))))))))))))))))))))))))))))))))))))))))))))))))))))))))))))))))))))))))))))))))))))))))
end Go.Vx.Ytbjcimdflehfjaa
