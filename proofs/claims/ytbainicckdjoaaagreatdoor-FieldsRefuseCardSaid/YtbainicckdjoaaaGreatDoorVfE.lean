/- V's code is the loaded program's: each function by the kernel. -/
import Derived.Test.YtbainicckdjoaaaGreatDoorRows
import Derived.Test.YtbainicckdjoaaaGreatDoorVxJ
import Derived.Test.YtbainicckdjoaaaGreatDoorVcE
import Derived.Test.YtbainicckdjoaaaGreatDoorVyE
set_option maxRecDepth 100000
namespace Go.Vx.YtbainicckdjoaaaGreatDoor
open Go.Proofs
def pures : List Nat := [3, 4, 5, 6, 7, 8, 9, 10, 11, 12, 13, 14, 15, 16, 17, 18, 19, 20, 21, 22, 23, 24, 25, 26, 27, 28, 29, 30, 31, 32, 33, 34, 35, 36, 39, 40, 43, 44, 45, 46, 47, 48, 49, 50, 51, 52, 53, 54, 55, 56, 57, 58, 59, 60, 61, 62, 63, 64, 65, 66, 67, 68, 69, 72, 73, 74, 75, 76, 77, 78, 79, 80, 81, 82, 83, 84, 87, 88, 89, 90, 91, 92, 94, 95, 97, 98, 99, 100, 101, 102, 104, 105, 106, 107, 108, 109, 111, 112, 113, 114, 115, 117, 118, 119, 120, 123, 124, 125, 126, 129, 130, 131, 133, 134, 135, 136, 137, 138, 139, 140, 141, 142, 143, 145, 146, 147, 148, 150, 151, 152, 153, 154, 162, 163, 164, 165, 166, 167, 168, 169, 170, 171, 172, 173, 174, 178, 179, 180, 181, 183, 184, 186, 190, 191, 192, 193, 194, 195, 196]
def keeps : List (Nat × Nat) := [(57, 91)]
def clones : List (Nat × Nat) := []
def pol (fn : Nat) : Pol := { pure := fun _ g => pures.contains g && !keeps.contains (fn, g), dyn := fun _ => false, muts := [(3 : Nat), (4 : Nat)].contains fn, clone := fun r => clones.contains (fn, r) }
theorem fit3 : cFunc Tryz.prog (pol 3) Tryz.f3 = .code f3 := by kernel_rfl
theorem nm3 : (Tryz.f3.name == "runtime.NumGoroutine") = false := by kernel_rfl
theorem fit4 : cFunc Tryz.prog (pol 4) Tryz.f4 = .code f4 := by kernel_rfl
theorem nm4 : (Tryz.f4.name == "runtime.NumGoroutine") = false := by kernel_rfl
theorem fit5 : cFunc Tryz.prog (pol 5) Tryz.f5 = .code f5 := by kernel_rfl
theorem nm5 : (Tryz.f5.name == "runtime.NumGoroutine") = false := by kernel_rfl
theorem fit6 : cFunc Tryz.prog (pol 6) Tryz.f6 = .code f6 := by kernel_rfl
theorem nm6 : (Tryz.f6.name == "runtime.NumGoroutine") = false := by kernel_rfl
theorem fit7 : cFunc Tryz.prog (pol 7) Tryz.f7 = .code f7 := by kernel_rfl
theorem nm7 : (Tryz.f7.name == "runtime.NumGoroutine") = false := by kernel_rfl
theorem fit8 : cFunc Tryz.prog (pol 8) Tryz.f8 = .code f8 := by kernel_rfl
theorem nm8 : (Tryz.f8.name == "runtime.NumGoroutine") = false := by kernel_rfl
theorem fit9 : cFunc Tryz.prog (pol 9) Tryz.f9 = .code f9 := by kernel_rfl
theorem nm9 : (Tryz.f9.name == "runtime.NumGoroutine") = false := by kernel_rfl
theorem fit10 : cFunc Tryz.prog (pol 10) Tryz.f10 = .code f10 := by kernel_rfl
theorem nm10 : (Tryz.f10.name == "runtime.NumGoroutine") = false := by kernel_rfl
theorem fit11 : cFunc Tryz.prog (pol 11) Tryz.f11 = .code f11 := by kernel_rfl
theorem nm11 : (Tryz.f11.name == "runtime.NumGoroutine") = false := by kernel_rfl
theorem fit12 : cFunc Tryz.prog (pol 12) Tryz.f12 = .code f12 := by kernel_rfl
theorem nm12 : (Tryz.f12.name == "runtime.NumGoroutine") = false := by kernel_rfl
theorem fit13 : cFunc Tryz.prog (pol 13) Tryz.f13 = .code f13 := by kernel_rfl
theorem nm13 : (Tryz.f13.name == "runtime.NumGoroutine") = false := by kernel_rfl
theorem fit14 : cFunc Tryz.prog (pol 14) Tryz.f14 = .code f14 := by kernel_rfl
theorem nm14 : (Tryz.f14.name == "runtime.NumGoroutine") = false := by kernel_rfl
theorem fit15 : cFunc Tryz.prog (pol 15) Tryz.f15 = .code f15 := by kernel_rfl
theorem nm15 : (Tryz.f15.name == "runtime.NumGoroutine") = false := by kernel_rfl
theorem fit16 : cFunc Tryz.prog (pol 16) Tryz.f16 = .code f16 := by kernel_rfl
theorem nm16 : (Tryz.f16.name == "runtime.NumGoroutine") = false := by kernel_rfl
theorem fit17 : cFunc Tryz.prog (pol 17) Tryz.f17 = .code f17 := by kernel_rfl
theorem nm17 : (Tryz.f17.name == "runtime.NumGoroutine") = false := by kernel_rfl
theorem fit18 : cFunc Tryz.prog (pol 18) Tryz.f18 = .code f18 := by kernel_rfl
theorem nm18 : (Tryz.f18.name == "runtime.NumGoroutine") = false := by kernel_rfl
theorem fit19 : cFunc Tryz.prog (pol 19) Tryz.f19 = .code f19 := by kernel_rfl
theorem nm19 : (Tryz.f19.name == "runtime.NumGoroutine") = false := by kernel_rfl
theorem fit20 : cFunc Tryz.prog (pol 20) Tryz.f20 = .code f20 := by kernel_rfl
theorem nm20 : (Tryz.f20.name == "runtime.NumGoroutine") = false := by kernel_rfl
theorem fit21 : cFunc Tryz.prog (pol 21) Tryz.f21 = .code f21 := by kernel_rfl
theorem nm21 : (Tryz.f21.name == "runtime.NumGoroutine") = false := by kernel_rfl
theorem fit22 : cFunc Tryz.prog (pol 22) Tryz.f22 = .code f22 := by kernel_rfl
theorem nm22 : (Tryz.f22.name == "runtime.NumGoroutine") = false := by kernel_rfl
theorem fit23 : cFunc Tryz.prog (pol 23) Tryz.f23 = .code f23 := by kernel_rfl
theorem nm23 : (Tryz.f23.name == "runtime.NumGoroutine") = false := by kernel_rfl
theorem fit24 : cFunc Tryz.prog (pol 24) Tryz.f24 = .code f24 := by kernel_rfl
theorem nm24 : (Tryz.f24.name == "runtime.NumGoroutine") = false := by kernel_rfl
theorem fit25 : cFunc Tryz.prog (pol 25) Tryz.f25 = .code f25 := by kernel_rfl
theorem nm25 : (Tryz.f25.name == "runtime.NumGoroutine") = false := by kernel_rfl
theorem fit26 : cFunc Tryz.prog (pol 26) Tryz.f26 = .code f26 := by kernel_rfl
theorem nm26 : (Tryz.f26.name == "runtime.NumGoroutine") = false := by kernel_rfl
theorem fit27 : cFunc Tryz.prog (pol 27) Tryz.f27 = .code f27 := by kernel_rfl
theorem nm27 : (Tryz.f27.name == "runtime.NumGoroutine") = false := by kernel_rfl
theorem fit28 : cFunc Tryz.prog (pol 28) Tryz.f28 = .code f28 := by kernel_rfl
theorem nm28 : (Tryz.f28.name == "runtime.NumGoroutine") = false := by kernel_rfl
theorem fit29 : cFunc Tryz.prog (pol 29) Tryz.f29 = .code f29 := by kernel_rfl
theorem nm29 : (Tryz.f29.name == "runtime.NumGoroutine") = false := by kernel_rfl
theorem fit30 : cFunc Tryz.prog (pol 30) Tryz.f30 = .code f30 := by kernel_rfl
theorem nm30 : (Tryz.f30.name == "runtime.NumGoroutine") = false := by kernel_rfl
theorem fit32 : cFunc Tryz.prog (pol 32) Tryz.f32 = .code f32 := by kernel_rfl
theorem nm32 : (Tryz.f32.name == "runtime.NumGoroutine") = false := by kernel_rfl
theorem fit33 : cFunc Tryz.prog (pol 33) Tryz.f33 = .code f33 := by kernel_rfl
theorem nm33 : (Tryz.f33.name == "runtime.NumGoroutine") = false := by kernel_rfl
theorem fit35 : cFunc Tryz.prog (pol 35) Tryz.f35 = .code f35 := by kernel_rfl
theorem nm35 : (Tryz.f35.name == "runtime.NumGoroutine") = false := by kernel_rfl
theorem fit36 : cFunc Tryz.prog (pol 36) Tryz.f36 = .code f36 := by kernel_rfl
theorem nm36 : (Tryz.f36.name == "runtime.NumGoroutine") = false := by kernel_rfl
theorem fit37 : cFunc Tryz.prog (pol 37) Tryz.f37 = .code f37 := by kernel_rfl
theorem nm37 : (Tryz.f37.name == "runtime.NumGoroutine") = false := by kernel_rfl
theorem fit38 : cFunc Tryz.prog (pol 38) Tryz.f38 = .code f38 := by kernel_rfl
theorem nm38 : (Tryz.f38.name == "runtime.NumGoroutine") = false := by kernel_rfl
theorem fit39 : cFunc Tryz.prog (pol 39) Tryz.f39 = .code f39 := by kernel_rfl
theorem nm39 : (Tryz.f39.name == "runtime.NumGoroutine") = false := by kernel_rfl
theorem fit40 : cFunc Tryz.prog (pol 40) Tryz.f40 = .code f40 := by kernel_rfl
theorem nm40 : (Tryz.f40.name == "runtime.NumGoroutine") = false := by kernel_rfl
theorem fit41 : cFunc Tryz.prog (pol 41) Tryz.f41 = .code f41 := by kernel_rfl
theorem nm41 : (Tryz.f41.name == "runtime.NumGoroutine") = false := by kernel_rfl
theorem fit42 : cFunc Tryz.prog (pol 42) Tryz.f42 = .code f42 := by kernel_rfl
theorem nm42 : (Tryz.f42.name == "runtime.NumGoroutine") = false := by kernel_rfl
theorem fit43 : cFunc Tryz.prog (pol 43) Tryz.f43 = .code f43 := by kernel_rfl
theorem nm43 : (Tryz.f43.name == "runtime.NumGoroutine") = false := by kernel_rfl
theorem fit44 : cFunc Tryz.prog (pol 44) Tryz.f44 = .code f44 := by kernel_rfl
theorem nm44 : (Tryz.f44.name == "runtime.NumGoroutine") = false := by kernel_rfl
theorem fit46 : cFunc Tryz.prog (pol 46) Tryz.f46 = .code f46 := by kernel_rfl
theorem nm46 : (Tryz.f46.name == "runtime.NumGoroutine") = false := by kernel_rfl
theorem fit47 : cFunc Tryz.prog (pol 47) Tryz.f47 = .code f47 := by kernel_rfl
theorem nm47 : (Tryz.f47.name == "runtime.NumGoroutine") = false := by kernel_rfl
theorem fit48 : cFunc Tryz.prog (pol 48) Tryz.f48 = .code f48 := by kernel_rfl
theorem nm48 : (Tryz.f48.name == "runtime.NumGoroutine") = false := by kernel_rfl
theorem fit49 : cFunc Tryz.prog (pol 49) Tryz.f49 = .code f49 := by kernel_rfl
theorem nm49 : (Tryz.f49.name == "runtime.NumGoroutine") = false := by kernel_rfl
theorem fit50 : cFunc Tryz.prog (pol 50) Tryz.f50 = .code f50 := by kernel_rfl
theorem nm50 : (Tryz.f50.name == "runtime.NumGoroutine") = false := by kernel_rfl
theorem fit51 : cFunc Tryz.prog (pol 51) Tryz.f51 = .code f51 := by kernel_rfl
theorem nm51 : (Tryz.f51.name == "runtime.NumGoroutine") = false := by kernel_rfl
theorem fit52 : cFunc Tryz.prog (pol 52) Tryz.f52 = .code f52 := by kernel_rfl
theorem nm52 : (Tryz.f52.name == "runtime.NumGoroutine") = false := by kernel_rfl
theorem fit53 : cFunc Tryz.prog (pol 53) Tryz.f53 = .code f53 := by kernel_rfl
theorem nm53 : (Tryz.f53.name == "runtime.NumGoroutine") = false := by kernel_rfl
theorem fit54 : cFunc Tryz.prog (pol 54) Tryz.f54 = .code f54 := by kernel_rfl
theorem nm54 : (Tryz.f54.name == "runtime.NumGoroutine") = false := by kernel_rfl
theorem fit55 : cFunc Tryz.prog (pol 55) Tryz.f55 = .code f55 := by kernel_rfl
theorem nm55 : (Tryz.f55.name == "runtime.NumGoroutine") = false := by kernel_rfl
theorem fit56 : cFunc Tryz.prog (pol 56) Tryz.f56 = .code f56 := by kernel_rfl
theorem nm56 : (Tryz.f56.name == "runtime.NumGoroutine") = false := by kernel_rfl
theorem fit57 : cFunc Tryz.prog (pol 57) Tryz.f57 = .code f57 := by kernel_rfl
theorem nm57 : (Tryz.f57.name == "runtime.NumGoroutine") = false := by kernel_rfl
theorem fit58 : cFunc Tryz.prog (pol 58) Tryz.f58 = .code f58 := by kernel_rfl
theorem nm58 : (Tryz.f58.name == "runtime.NumGoroutine") = false := by kernel_rfl
theorem fit59 : cFunc Tryz.prog (pol 59) Tryz.f59 = .code f59 := by kernel_rfl
theorem nm59 : (Tryz.f59.name == "runtime.NumGoroutine") = false := by kernel_rfl
theorem fit60 : cFunc Tryz.prog (pol 60) Tryz.f60 = .code f60 := by kernel_rfl
theorem nm60 : (Tryz.f60.name == "runtime.NumGoroutine") = false := by kernel_rfl
theorem fit61 : cFunc Tryz.prog (pol 61) Tryz.f61 = .code f61 := by kernel_rfl
theorem nm61 : (Tryz.f61.name == "runtime.NumGoroutine") = false := by kernel_rfl
theorem fit62 : cFunc Tryz.prog (pol 62) Tryz.f62 = .code f62 := by kernel_rfl
theorem nm62 : (Tryz.f62.name == "runtime.NumGoroutine") = false := by kernel_rfl
theorem fit63 : cFunc Tryz.prog (pol 63) Tryz.f63 = .code f63 := by kernel_rfl
theorem nm63 : (Tryz.f63.name == "runtime.NumGoroutine") = false := by kernel_rfl
theorem fit65 : cFunc Tryz.prog (pol 65) Tryz.f65 = .code f65 := by kernel_rfl
theorem nm65 : (Tryz.f65.name == "runtime.NumGoroutine") = false := by kernel_rfl
theorem fit67 : cFunc Tryz.prog (pol 67) Tryz.f67 = .code f67 := by kernel_rfl
theorem nm67 : (Tryz.f67.name == "runtime.NumGoroutine") = false := by kernel_rfl
theorem fit68 : cFunc Tryz.prog (pol 68) Tryz.f68 = .code f68 := by kernel_rfl
theorem nm68 : (Tryz.f68.name == "runtime.NumGoroutine") = false := by kernel_rfl
theorem fit69 : cFunc Tryz.prog (pol 69) Tryz.f69 = .code f69 := by kernel_rfl
theorem nm69 : (Tryz.f69.name == "runtime.NumGoroutine") = false := by kernel_rfl
theorem fit70 : cFunc Tryz.prog (pol 70) Tryz.f70 = .code f70 := by kernel_rfl
theorem nm70 : (Tryz.f70.name == "runtime.NumGoroutine") = false := by kernel_rfl
theorem fit71 : cFunc Tryz.prog (pol 71) Tryz.f71 = .code f71 := by kernel_rfl
theorem nm71 : (Tryz.f71.name == "runtime.NumGoroutine") = false := by kernel_rfl
theorem fit72 : cFunc Tryz.prog (pol 72) Tryz.f72 = .code f72 := by kernel_rfl
theorem nm72 : (Tryz.f72.name == "runtime.NumGoroutine") = false := by kernel_rfl
theorem fit73 : cFunc Tryz.prog (pol 73) Tryz.f73 = .code f73 := by kernel_rfl
theorem nm73 : (Tryz.f73.name == "runtime.NumGoroutine") = false := by kernel_rfl
theorem fit74 : cFunc Tryz.prog (pol 74) Tryz.f74 = .code f74 := by kernel_rfl
theorem nm74 : (Tryz.f74.name == "runtime.NumGoroutine") = false := by kernel_rfl
theorem fit75 : cFunc Tryz.prog (pol 75) Tryz.f75 = .code f75 := by kernel_rfl
theorem nm75 : (Tryz.f75.name == "runtime.NumGoroutine") = false := by kernel_rfl
theorem fit76 : cFunc Tryz.prog (pol 76) Tryz.f76 = .code f76 := by kernel_rfl
theorem nm76 : (Tryz.f76.name == "runtime.NumGoroutine") = false := by kernel_rfl
theorem fit77 : cFunc Tryz.prog (pol 77) Tryz.f77 = .code f77 := by kernel_rfl
theorem nm77 : (Tryz.f77.name == "runtime.NumGoroutine") = false := by kernel_rfl
theorem fit78 : cFunc Tryz.prog (pol 78) Tryz.f78 = .code f78 := by kernel_rfl
theorem nm78 : (Tryz.f78.name == "runtime.NumGoroutine") = false := by kernel_rfl
theorem fit79 : cFunc Tryz.prog (pol 79) Tryz.f79 = .code f79 := by kernel_rfl
theorem nm79 : (Tryz.f79.name == "runtime.NumGoroutine") = false := by kernel_rfl
theorem fit81 : cFunc Tryz.prog (pol 81) Tryz.f81 = .code f81 := by kernel_rfl
theorem nm81 : (Tryz.f81.name == "runtime.NumGoroutine") = false := by kernel_rfl
theorem fit82 : cFunc Tryz.prog (pol 82) Tryz.f82 = .code f82 := by kernel_rfl
theorem nm82 : (Tryz.f82.name == "runtime.NumGoroutine") = false := by kernel_rfl
theorem fit83 : cFunc Tryz.prog (pol 83) Tryz.f83 = .code f83 := by kernel_rfl
theorem nm83 : (Tryz.f83.name == "runtime.NumGoroutine") = false := by kernel_rfl
theorem fit84 : cFunc Tryz.prog (pol 84) Tryz.f84 = .code f84 := by kernel_rfl
theorem nm84 : (Tryz.f84.name == "runtime.NumGoroutine") = false := by kernel_rfl
theorem fit85 : cFunc Tryz.prog (pol 85) Tryz.f85 = .code f85 := by kernel_rfl
theorem nm85 : (Tryz.f85.name == "runtime.NumGoroutine") = false := by kernel_rfl
theorem fit86 : cFunc Tryz.prog (pol 86) Tryz.f86 = .code f86 := by kernel_rfl
theorem nm86 : (Tryz.f86.name == "runtime.NumGoroutine") = false := by kernel_rfl
theorem fit87 : cFunc Tryz.prog (pol 87) Tryz.f87 = .code f87 := by kernel_rfl
theorem nm87 : (Tryz.f87.name == "runtime.NumGoroutine") = false := by kernel_rfl
theorem fit88 : cFunc Tryz.prog (pol 88) Tryz.f88 = .code f88 := by kernel_rfl
theorem nm88 : (Tryz.f88.name == "runtime.NumGoroutine") = false := by kernel_rfl
theorem fit89 : cFunc Tryz.prog (pol 89) Tryz.f89 = .code f89 := by kernel_rfl
theorem nm89 : (Tryz.f89.name == "runtime.NumGoroutine") = false := by kernel_rfl
theorem fit90 : cFunc Tryz.prog (pol 90) Tryz.f90 = .code f90 := by kernel_rfl
theorem nm90 : (Tryz.f90.name == "runtime.NumGoroutine") = false := by kernel_rfl
theorem fit91 : cFunc Tryz.prog (pol 91) Tryz.f91 = .code f91 := by kernel_rfl
theorem nm91 : (Tryz.f91.name == "runtime.NumGoroutine") = false := by kernel_rfl
theorem fit92 : cFunc Tryz.prog (pol 92) Tryz.f92 = .code f92 := by kernel_rfl
theorem nm92 : (Tryz.f92.name == "runtime.NumGoroutine") = false := by kernel_rfl
theorem fit93 : cFunc Tryz.prog (pol 93) Tryz.f93 = .code f93 := by kernel_rfl
theorem nm93 : (Tryz.f93.name == "runtime.NumGoroutine") = false := by kernel_rfl
theorem fit94 : cFunc Tryz.prog (pol 94) Tryz.f94 = .code f94 := by kernel_rfl
theorem nm94 : (Tryz.f94.name == "runtime.NumGoroutine") = false := by kernel_rfl
theorem fit95 : cFunc Tryz.prog (pol 95) Tryz.f95 = .code f95 := by kernel_rfl
theorem nm95 : (Tryz.f95.name == "runtime.NumGoroutine") = false := by kernel_rfl
theorem fit96 : cFunc Tryz.prog (pol 96) Tryz.f96 = .code f96 := by kernel_rfl
theorem nm96 : (Tryz.f96.name == "runtime.NumGoroutine") = false := by kernel_rfl
theorem fit97 : cFunc Tryz.prog (pol 97) Tryz.f97 = .code f97 := by kernel_rfl
theorem nm97 : (Tryz.f97.name == "runtime.NumGoroutine") = false := by kernel_rfl
theorem fit98 : cFunc Tryz.prog (pol 98) Tryz.f98 = .code f98 := by kernel_rfl
theorem nm98 : (Tryz.f98.name == "runtime.NumGoroutine") = false := by kernel_rfl
theorem fit99 : cFunc Tryz.prog (pol 99) Tryz.f99 = .code f99 := by kernel_rfl
theorem nm99 : (Tryz.f99.name == "runtime.NumGoroutine") = false := by kernel_rfl
theorem fit101 : cFunc Tryz.prog (pol 101) Tryz.f101 = .code f101 := by kernel_rfl
theorem nm101 : (Tryz.f101.name == "runtime.NumGoroutine") = false := by kernel_rfl
theorem fit102 : cFunc Tryz.prog (pol 102) Tryz.f102 = .code f102 := by kernel_rfl
theorem nm102 : (Tryz.f102.name == "runtime.NumGoroutine") = false := by kernel_rfl
theorem fit103 : cFunc Tryz.prog (pol 103) Tryz.f103 = .code f103 := by kernel_rfl
theorem nm103 : (Tryz.f103.name == "runtime.NumGoroutine") = false := by kernel_rfl
theorem fit105 : cFunc Tryz.prog (pol 105) Tryz.f105 = .code f105 := by kernel_rfl
theorem nm105 : (Tryz.f105.name == "runtime.NumGoroutine") = false := by kernel_rfl
theorem fit106 : cFunc Tryz.prog (pol 106) Tryz.f106 = .code f106 := by kernel_rfl
theorem nm106 : (Tryz.f106.name == "runtime.NumGoroutine") = false := by kernel_rfl
theorem fit107 : cFunc Tryz.prog (pol 107) Tryz.f107 = .code f107 := by kernel_rfl
theorem nm107 : (Tryz.f107.name == "runtime.NumGoroutine") = false := by kernel_rfl
theorem fit110 : cFunc Tryz.prog (pol 110) Tryz.f110 = .code f110 := by kernel_rfl
theorem nm110 : (Tryz.f110.name == "runtime.NumGoroutine") = false := by kernel_rfl
theorem fit111 : cFunc Tryz.prog (pol 111) Tryz.f111 = .code f111 := by kernel_rfl
theorem nm111 : (Tryz.f111.name == "runtime.NumGoroutine") = false := by kernel_rfl
theorem fit118 : cFunc Tryz.prog (pol 118) Tryz.f118 = .code f118 := by kernel_rfl
theorem nm118 : (Tryz.f118.name == "runtime.NumGoroutine") = false := by kernel_rfl
theorem fit119 : cFunc Tryz.prog (pol 119) Tryz.f119 = .code f119 := by kernel_rfl
theorem nm119 : (Tryz.f119.name == "runtime.NumGoroutine") = false := by kernel_rfl
theorem fit120 : cFunc Tryz.prog (pol 120) Tryz.f120 = .code f120 := by kernel_rfl
theorem nm120 : (Tryz.f120.name == "runtime.NumGoroutine") = false := by kernel_rfl
theorem fit121 : cFunc Tryz.prog (pol 121) Tryz.f121 = .code f121 := by kernel_rfl
theorem nm121 : (Tryz.f121.name == "runtime.NumGoroutine") = false := by kernel_rfl
theorem fit123 : cFunc Tryz.prog (pol 123) Tryz.f123 = .code f123 := by kernel_rfl
theorem nm123 : (Tryz.f123.name == "runtime.NumGoroutine") = false := by kernel_rfl
theorem fit126 : cFunc Tryz.prog (pol 126) Tryz.f126 = .code f126 := by kernel_rfl
theorem nm126 : (Tryz.f126.name == "runtime.NumGoroutine") = false := by kernel_rfl
theorem fit127 : cFunc Tryz.prog (pol 127) Tryz.f127 = .code f127 := by kernel_rfl
theorem nm127 : (Tryz.f127.name == "runtime.NumGoroutine") = false := by kernel_rfl
theorem fit128 : cFunc Tryz.prog (pol 128) Tryz.f128 = .code f128 := by kernel_rfl
theorem nm128 : (Tryz.f128.name == "runtime.NumGoroutine") = false := by kernel_rfl
theorem fit129 : cFunc Tryz.prog (pol 129) Tryz.f129 = .code f129 := by kernel_rfl
theorem nm129 : (Tryz.f129.name == "runtime.NumGoroutine") = false := by kernel_rfl
theorem fit130 : cFunc Tryz.prog (pol 130) Tryz.f130 = .code f130 := by kernel_rfl
theorem nm130 : (Tryz.f130.name == "runtime.NumGoroutine") = false := by kernel_rfl
theorem fit132 : cFunc Tryz.prog (pol 132) Tryz.f132 = .code f132 := by kernel_rfl
theorem nm132 : (Tryz.f132.name == "runtime.NumGoroutine") = false := by kernel_rfl
theorem fit133 : cFunc Tryz.prog (pol 133) Tryz.f133 = .code f133 := by kernel_rfl
theorem nm133 : (Tryz.f133.name == "runtime.NumGoroutine") = false := by kernel_rfl
theorem fit135 : cFunc Tryz.prog (pol 135) Tryz.f135 = .code f135 := by kernel_rfl
theorem nm135 : (Tryz.f135.name == "runtime.NumGoroutine") = false := by kernel_rfl
theorem fit136 : cFunc Tryz.prog (pol 136) Tryz.f136 = .code f136 := by kernel_rfl
theorem nm136 : (Tryz.f136.name == "runtime.NumGoroutine") = false := by kernel_rfl
theorem fit147 : cFunc Tryz.prog (pol 147) Tryz.f147 = .code f147 := by kernel_rfl
theorem nm147 : (Tryz.f147.name == "runtime.NumGoroutine") = false := by kernel_rfl
theorem fit148 : cFunc Tryz.prog (pol 148) Tryz.f148 = .code f148 := by kernel_rfl
theorem nm148 : (Tryz.f148.name == "runtime.NumGoroutine") = false := by kernel_rfl
theorem fit149 : cFunc Tryz.prog (pol 149) Tryz.f149 = .code f149 := by kernel_rfl
theorem nm149 : (Tryz.f149.name == "runtime.NumGoroutine") = false := by kernel_rfl
theorem fit150 : cFunc Tryz.prog (pol 150) Tryz.f150 = .code f150 := by kernel_rfl
theorem nm150 : (Tryz.f150.name == "runtime.NumGoroutine") = false := by kernel_rfl
theorem fit153 : cFunc Tryz.prog (pol 153) Tryz.f153 = .code f153 := by kernel_rfl
theorem nm153 : (Tryz.f153.name == "runtime.NumGoroutine") = false := by kernel_rfl
theorem fit159 : cFunc Tryz.prog (pol 159) Tryz.f159 = .code f159 := by kernel_rfl
theorem nm159 : (Tryz.f159.name == "runtime.NumGoroutine") = false := by kernel_rfl
theorem fit162 : cFunc Tryz.prog (pol 162) Tryz.f162 = .code f162 := by kernel_rfl
theorem nm162 : (Tryz.f162.name == "runtime.NumGoroutine") = false := by kernel_rfl
theorem fit164 : cFunc Tryz.prog (pol 164) Tryz.f164 = .code f164 := by kernel_rfl
theorem nm164 : (Tryz.f164.name == "runtime.NumGoroutine") = false := by kernel_rfl
theorem fit165 : cFunc Tryz.prog (pol 165) Tryz.f165 = .code f165 := by kernel_rfl
theorem nm165 : (Tryz.f165.name == "runtime.NumGoroutine") = false := by kernel_rfl
theorem fit172 : cFunc Tryz.prog (pol 172) Tryz.f172 = .code f172 := by kernel_rfl
theorem nm172 : (Tryz.f172.name == "runtime.NumGoroutine") = false := by kernel_rfl
theorem fit183 : cFunc Tryz.prog (pol 183) Tryz.f183 = .code f183 := by kernel_rfl
theorem nm183 : (Tryz.f183.name == "runtime.NumGoroutine") = false := by kernel_rfl
theorem fits : Fits Tryz.prog (vlook tbl) := fits_of (fit_cons (fit_code (pol 3) Tryz.func3 nm3 fit3) (fit_cons (fit_code (pol 4) Tryz.func4 nm4 fit4) (fit_cons (fit_code (pol 5) Tryz.func5 nm5 fit5) (fit_cons (fit_code (pol 6) Tryz.func6 nm6 fit6) (fit_cons (fit_code (pol 7) Tryz.func7 nm7 fit7) (fit_cons (fit_code (pol 8) Tryz.func8 nm8 fit8) (fit_cons (fit_code (pol 9) Tryz.func9 nm9 fit9) (fit_cons (fit_code (pol 10) Tryz.func10 nm10 fit10) (fit_cons (fit_code (pol 11) Tryz.func11 nm11 fit11) (fit_cons (fit_code (pol 12) Tryz.func12 nm12 fit12) (fit_cons (fit_code (pol 13) Tryz.func13 nm13 fit13) (fit_cons (fit_code (pol 14) Tryz.func14 nm14 fit14) (fit_cons (fit_code (pol 15) Tryz.func15 nm15 fit15) (fit_cons (fit_code (pol 16) Tryz.func16 nm16 fit16) (fit_cons (fit_code (pol 17) Tryz.func17 nm17 fit17) (fit_cons (fit_code (pol 18) Tryz.func18 nm18 fit18) (fit_cons (fit_code (pol 19) Tryz.func19 nm19 fit19) (fit_cons (fit_code (pol 20) Tryz.func20 nm20 fit20) (fit_cons (fit_code (pol 21) Tryz.func21 nm21 fit21) (fit_cons (fit_code (pol 22) Tryz.func22 nm22 fit22) (fit_cons (fit_code (pol 23) Tryz.func23 nm23 fit23) (fit_cons (fit_code (pol 24) Tryz.func24 nm24 fit24) (fit_cons (fit_code (pol 25) Tryz.func25 nm25 fit25) (fit_cons (fit_code (pol 26) Tryz.func26 nm26 fit26) (fit_cons (fit_code (pol 27) Tryz.func27 nm27 fit27) (fit_cons (fit_code (pol 28) Tryz.func28 nm28 fit28) (fit_cons (fit_code (pol 29) Tryz.func29 nm29 fit29) (fit_cons (fit_code (pol 30) Tryz.func30 nm30 fit30) (fit_cons (fit_code (pol 32) Tryz.func32 nm32 fit32) (fit_cons (fit_code (pol 33) Tryz.func33 nm33 fit33) (fit_cons (fit_code (pol 35) Tryz.func35 nm35 fit35) (fit_cons (fit_code (pol 36) Tryz.func36 nm36 fit36) (fit_cons (fit_code (pol 37) Tryz.func37 nm37 fit37) (fit_cons (fit_code (pol 38) Tryz.func38 nm38 fit38) (fit_cons (fit_code (pol 39) Tryz.func39 nm39 fit39) (fit_cons (fit_code (pol 40) Tryz.func40 nm40 fit40) (fit_cons (fit_code (pol 41) Tryz.func41 nm41 fit41) (fit_cons (fit_code (pol 42) Tryz.func42 nm42 fit42) (fit_cons (fit_code (pol 43) Tryz.func43 nm43 fit43) (fit_cons (fit_code (pol 44) Tryz.func44 nm44 fit44) (fit_cons (fit_code (pol 46) Tryz.func46 nm46 fit46) (fit_cons (fit_code (pol 47) Tryz.func47 nm47 fit47) (fit_cons (fit_code (pol 48) Tryz.func48 nm48 fit48) (fit_cons (fit_code (pol 49) Tryz.func49 nm49 fit49) (fit_cons (fit_code (pol 50) Tryz.func50 nm50 fit50) (fit_cons (fit_code (pol 51) Tryz.func51 nm51 fit51) (fit_cons (fit_code (pol 52) Tryz.func52 nm52 fit52) (fit_cons (fit_code (pol 53) Tryz.func53 nm53 fit53) (fit_cons (fit_code (pol 54) Tryz.func54 nm54 fit54) (fit_cons (fit_code (pol 55) Tryz.func55 nm55 fit55) (fit_cons (fit_code (pol 56) Tryz.func56 nm56 fit56) (fit_cons (fit_code (pol 57) Tryz.func57 nm57 fit57) (fit_cons (fit_code (pol 58) Tryz.func58 nm58 fit58) (fit_cons (fit_code (pol 59) Tryz.func59 nm59 fit59) (fit_cons (fit_code (pol 60) Tryz.func60 nm60 fit60) (fit_cons (fit_code (pol 61) Tryz.func61 nm61 fit61) (fit_cons (fit_code (pol 62) Tryz.func62 nm62 fit62) (fit_cons (fit_code (pol 63) Tryz.func63 nm63 fit63) (fit_cons (fit_code (pol 65) Tryz.func65 nm65 fit65) (fit_cons (fit_code (pol 67) Tryz.func67 nm67 fit67) (fit_cons (fit_code (pol 68) Tryz.func68 nm68 fit68) (fit_cons (fit_code (pol 69) Tryz.func69 nm69 fit69) (fit_cons (fit_code (pol 70) Tryz.func70 nm70 fit70) (fit_cons (fit_code (pol 71) Tryz.func71 nm71 fit71) (fit_cons (fit_code (pol 72) Tryz.func72 nm72 fit72) (fit_cons (fit_code (pol 73) Tryz.func73 nm73 fit73) (fit_cons (fit_code (pol 74) Tryz.func74 nm74 fit74) (fit_cons (fit_code (pol 75) Tryz.func75 nm75 fit75) (fit_cons (fit_code (pol 76) Tryz.func76 nm76 fit76) (fit_cons (fit_code (pol 77) Tryz.func77 nm77 fit77) (fit_cons (fit_code (pol 78) Tryz.func78 nm78 fit78) (fit_cons (fit_code (pol 79) Tryz.func79 nm79 fit79) (fit_cons (fit_code (pol 81) Tryz.func81 nm81 fit81) (fit_cons (fit_code (pol 82) Tryz.func82 nm82 fit82) (fit_cons (fit_code (pol 83) Tryz.func83 nm83 fit83) (fit_cons (fit_code (pol 84) Tryz.func84 nm84 fit84) (fit_cons (fit_code (pol 85) Tryz.func85 nm85 fit85) (fit_cons (fit_code (pol 86) Tryz.func86 nm86 fit86) (fit_cons (fit_code (pol 87) Tryz.func87 nm87 fit87) (fit_cons (fit_code (pol 88) Tryz.func88 nm88 fit88) (fit_cons (fit_code (pol 89) Tryz.func89 nm89 fit89) (fit_cons (fit_code (pol 90) Tryz.func90 nm90 fit90) (fit_cons (fit_code (pol 91) Tryz.func91 nm91 fit91) (fit_cons (fit_code (pol 92) Tryz.func92 nm92 fit92) (fit_cons (fit_code (pol 93) Tryz.func93 nm93 fit93) (fit_cons (fit_code (pol 94) Tryz.func94 nm94 fit94) (fit_cons (fit_code (pol 95) Tryz.func95 nm95 fit95) (fit_cons (fit_code (pol 96) Tryz.func96 nm96 fit96) (fit_cons (fit_code (pol 97) Tryz.func97 nm97 fit97) (fit_cons (fit_code (pol 98) Tryz.func98 nm98 fit98) (fit_cons (fit_code (pol 99) Tryz.func99 nm99 fit99) (fit_cons (fit_code (pol 101) Tryz.func101 nm101 fit101) (fit_cons (fit_code (pol 102) Tryz.func102 nm102 fit102) (fit_cons (fit_code (pol 103) Tryz.func103 nm103 fit103) (fit_cons (fit_code (pol 105) Tryz.func105 nm105 fit105) (fit_cons (fit_code (pol 106) Tryz.func106 nm106 fit106) (fit_cons (fit_code (pol 107) Tryz.func107 nm107 fit107) (fit_cons (fit_code (pol 110) Tryz.func110 nm110 fit110) (fit_cons (fit_code (pol 111) Tryz.func111 nm111 fit111) (fit_cons (fit_code (pol 118) Tryz.func118 nm118 fit118) (fit_cons (fit_code (pol 119) Tryz.func119 nm119 fit119) (fit_cons (fit_code (pol 120) Tryz.func120 nm120 fit120) (fit_cons (fit_code (pol 121) Tryz.func121 nm121 fit121) (fit_cons (fit_code (pol 123) Tryz.func123 nm123 fit123) (fit_cons (fit_code (pol 126) Tryz.func126 nm126 fit126) (fit_cons (fit_code (pol 127) Tryz.func127 nm127 fit127) (fit_cons (fit_code (pol 128) Tryz.func128 nm128 fit128) (fit_cons (fit_code (pol 129) Tryz.func129 nm129 fit129) (fit_cons (fit_code (pol 130) Tryz.func130 nm130 fit130) (fit_cons (fit_code (pol 132) Tryz.func132 nm132 fit132) (fit_cons (fit_code (pol 133) Tryz.func133 nm133 fit133) (fit_cons (fit_code (pol 135) Tryz.func135 nm135 fit135) (fit_cons (fit_code (pol 136) Tryz.func136 nm136 fit136) (fit_cons (fit_code (pol 147) Tryz.func147 nm147 fit147) (fit_cons (fit_code (pol 148) Tryz.func148 nm148 fit148) (fit_cons (fit_code (pol 149) Tryz.func149 nm149 fit149) (fit_cons (fit_code (pol 150) Tryz.func150 nm150 fit150) (fit_cons (fit_code (pol 153) Tryz.func153 nm153 fit153) (fit_cons (fit_code (pol 159) Tryz.func159 nm159 fit159) (fit_cons (fit_code (pol 162) Tryz.func162 nm162 fit162) (fit_cons (fit_code (pol 164) Tryz.func164 nm164 fit164) (fit_cons (fit_code (pol 165) Tryz.func165 nm165 fit165) (fit_cons (fit_code (pol 172) Tryz.func172 nm172 fit172) (fit_cons (fit_code (pol 183) Tryz.func183 nm183 fit183) (fit_cons fitx104 (fit_cons fitx131 fit_nil))))))))))))))))))))))))))))))))))))))))))))))))))))))))))))))))))))))))))))))))))))))))))))))))))))))))))))))))))))))))))))))
end Go.Vx.YtbainicckdjoaaaGreatDoor
