/- The shelf's contracts on sorting strings, slices.Sorted and maps.Clone, laid at this program: the texts below were printed by the kit's lay-plain and turned into a template. -/
import Derived.Shelf.SlIter.Sorted
import Derived.Shelf.SortM.Plain
import Derived.Shelf.SortM.SortNone
import Derived.Shelf.SlMaps.Clone
import Derived.Ground.GgzProg
import Derived.Ground.SlgmProg
import Derived.Ground.SlmcProg
import Derived.Test.YtoaegleieacokaaProg
namespace Go.Proofs.Ytoaegleieacokaa
open Go.RowKit Go.Maps Go.Sort Go.Shelf
def sortedL_ren : Go.Shelf.Ren := ⟨fun | 6 => 122 | 8 => 129 | 9 => 130 | 11 => 133 | 13 => 135 | 12 => 134 | 23 => 145 | 24 => 146 | 14 => 136 | 15 => 137 | 16 => 138 | 17 => 139 | 18 => 140 | 19 => 141 | 20 => 142 | 21 => 143 | 22 => 144 | 25 => 147 | 26 => 148 | 27 => 149 | 28 => 150 | 29 => 151 | 30 => 152 | 31 => 153 | n => n, fun | 26 => 9 | 28 => 159 | 24 => 80 | 0 => 0 | 3 => 3 | 37 => 45 | 48 => 44 | 50 => 69 | 4 => 4 | 40 => 175 | 39 => 174 | 45 => 180 | 5 => 5 | 9 => 9 | 51 => 184 | 55 => 188 | 57 => 190 | 58 => 73 | 33 => 31 | n => n, fun | n => n⟩
theorem sortedL : Go.Proofs.SlLaysZ.n6 Try.prog sortedL_ren := {
  mixed := by kernel_rfl
  f6 := ⟨Try.f122.name, by decide, Try.func122.trans (congrArg some (by kernel_rfl))⟩
  f8 := ⟨Try.f129.name, by decide, Try.func129.trans (congrArg some (by kernel_rfl))⟩
  f11 := ⟨Try.f133.name, by decide, Try.func133.trans (congrArg some (by kernel_rfl))⟩
  t0 := Try.underlying0
  a0 := Try.isAgg0
  z0 := Try.sizeOf0
  v0 := Try.zeroValue0
  t24 := Try.underlying80
  a24 := Try.isAgg80
  z24 := Try.sizeOf80
  v24 := Try.zeroValue80
  t26 := Try.underlying9
  a26 := Try.isAgg9
  z26 := Try.sizeOf9
  v26 := Try.zeroValue9
  t28 := Try.underlying159
  a28 := Try.isAgg159
  z28 := Try.sizeOf159
  v28 := Try.zeroValue159
  i26 := by kernel_rfl }
def sortL_ren : Go.Shelf.Ren := ⟨fun | 6 => 130 | 8 => 135 | 9 => 134 | 19 => 145 | 20 => 146 | 21 => 136 | 22 => 137 | 23 => 138 | 24 => 139 | 25 => 140 | 26 => 141 | 27 => 142 | 28 => 143 | 29 => 144 | 36 => 147 | 31 => 148 | 32 => 149 | 37 => 150 | 38 => 151 | 39 => 152 | 41 => 153 | n => n, fun | 27 => 80 | 29 => 9 | 3 => 3 | 32 => 45 | 26 => 80 | 0 => 0 | 44 => 44 | 46 => 69 | 4 => 4 | 36 => 175 | 35 => 174 | 41 => 180 | 5 => 5 | 9 => 9 | 53 => 184 | 57 => 188 | 63 => 190 | 64 => 73 | n => n, fun | n => n⟩
theorem sortL : Go.Proofs.SlLaysM.n6 Try.prog sortL_ren := {
  mixed := by kernel_rfl
  f6 := ⟨Try.f130.name, by decide, Try.func130.trans (congrArg some (by kernel_rfl))⟩
  f8 := Try.func135.trans (congrArg some (by kernel_rfl))
  f9 := ⟨Try.f134.name, by decide, Try.func134.trans (congrArg some (by kernel_rfl))⟩
  f19 := Try.func145.trans (congrArg some (by kernel_rfl))
  f20 := Try.func146.trans (congrArg some (by kernel_rfl))
  f21 := ⟨Try.f136.name, by decide, Try.func136.trans (congrArg some (by kernel_rfl))⟩
  f22 := ⟨Try.f137.name, by decide, Try.func137.trans (congrArg some (by kernel_rfl))⟩
  f23 := ⟨Try.f138.name, by decide, Try.func138.trans (congrArg some (by kernel_rfl))⟩
  f24 := ⟨Try.f139.name, by decide, Try.func139.trans (congrArg some (by kernel_rfl))⟩
  f25 := ⟨Try.f140.name, by decide, Try.func140.trans (congrArg some (by kernel_rfl))⟩
  f26 := ⟨Try.f141.name, by decide, Try.func141.trans (congrArg some (by kernel_rfl))⟩
  f27 := ⟨Try.f142.name, by decide, Try.func142.trans (congrArg some (by kernel_rfl))⟩
  f28 := ⟨Try.f143.name, by decide, Try.func143.trans (congrArg some (by kernel_rfl))⟩
  f29 := ⟨Try.f144.name, by decide, Try.func144.trans (congrArg some (by kernel_rfl))⟩
  f31 := Try.func148.trans (congrArg some (by kernel_rfl))
  f32 := Try.func149.trans (congrArg some (by kernel_rfl))
  f36 := ⟨Try.f147.name, by decide, Try.func147.trans (congrArg some (by kernel_rfl))⟩
  f37 := ⟨Try.f150.name, by decide, Try.func150.trans (congrArg some (by kernel_rfl))⟩
  f38 := ⟨Try.f151.name, by decide, Try.func151.trans (congrArg some (by kernel_rfl))⟩
  f39 := ⟨Try.f152.name, by decide, Try.func152.trans (congrArg some (by kernel_rfl))⟩
  f41 := ⟨Try.f153.name, by decide, Try.func153.trans (congrArg some (by kernel_rfl))⟩
  t0 := Try.underlying0
  a0 := Try.isAgg0
  z0 := Try.sizeOf0
  v0 := Try.zeroValue0
  t3 := Try.underlying3
  a3 := Try.isAgg3
  z3 := Try.sizeOf3
  v3 := Try.zeroValue3
  t4 := Try.underlying4
  a4 := Try.isAgg4
  z4 := Try.sizeOf4
  v4 := Try.zeroValue4
  t5 := Try.underlying5
  a5 := Try.isAgg5
  z5 := Try.sizeOf5
  v5 := Try.zeroValue5
  t9 := Try.underlying9
  a9 := Try.isAgg9
  z9 := Try.sizeOf9
  v9 := Try.zeroValue9
  t26 := Try.underlying80
  a26 := Try.isAgg80
  z26 := Try.sizeOf80
  v26 := Try.zeroValue80
  t27 := Try.underlying80
  a27 := Try.isAgg80
  z27 := Try.sizeOf80
  v27 := Try.zeroValue80
  t29 := Try.underlying9
  a29 := Try.isAgg9
  z29 := Try.sizeOf9
  v29 := Try.zeroValue9
  t32 := Try.underlying45
  a32 := Try.isAgg45
  z32 := Try.sizeOf45
  v32 := Try.zeroValue45
  t35 := Try.underlying174
  a35 := Try.isAgg174
  z35 := Try.sizeOf174
  v35 := Try.zeroValue174
  t36 := Try.underlying175
  a36 := Try.isAgg175
  z36 := Try.sizeOf175
  v36 := Try.zeroValue175
  t41 := Try.underlying180
  a41 := Try.isAgg180
  z41 := Try.sizeOf180
  v41 := Try.zeroValue180
  t44 := Try.underlying44
  a44 := Try.isAgg44
  z44 := Try.sizeOf44
  v44 := Try.zeroValue44
  t46 := Try.underlying69
  a46 := Try.isAgg69
  z46 := Try.sizeOf69
  v46 := Try.zeroValue69
  t53 := Try.underlying184
  a53 := Try.isAgg184
  z53 := Try.sizeOf184
  v53 := Try.zeroValue184
  t57 := Try.underlying188
  a57 := Try.isAgg188
  z57 := Try.sizeOf188
  v57 := Try.zeroValue188
  t63 := Try.underlying190
  a63 := Try.isAgg190
  z63 := Try.sizeOf190
  v63 := Try.zeroValue190
  t64 := Try.underlying73
  a64 := Try.isAgg73
  z64 := Try.sizeOf73
  v64 := Try.zeroValue73 }
def mcloneL_ren : Go.Shelf.Ren := ⟨fun | 5 => 90 | 7 => 118 | n => n, fun | 23 => 100 | 25 => 9 | 3 => 106 | 4 => 4 | 20 => 20 | n => n, fun | n => n⟩
theorem mcloneL : Go.Proofs.SlLaysW.n5 Try.prog mcloneL_ren := {
  mixed := by kernel_rfl
  f5 := ⟨Try.f90.name, by decide, Try.func90.trans (congrArg some (by kernel_rfl))⟩
  f7 := Try.func118.trans (congrArg some (by kernel_rfl))
  t4 := Try.underlying4
  a4 := Try.isAgg4
  z4 := Try.sizeOf4
  v4 := Try.zeroValue4
  t20 := Try.underlying20
  a20 := Try.isAgg20
  z20 := Try.sizeOf20
  v20 := Try.zeroValue20
  t23 := Try.underlying100
  a23 := Try.isAgg100
  z23 := Try.sizeOf100
  v23 := Try.zeroValue100 }
/-- slices.Sort's two contracts at this program, at the fence that asks nothing. -/
theorem sortsL (m : Nat) : AnyZ.SortsIn Try.prog sortedL_ren Fence.wide m :=
  ⟨fun blk off cap ss W hH hblk hsz => callsIn_wide.2 (AnyM.slices_Sort_string sortL blk off cap ss W hH hblk hsz),
   fun p cap W => callsIn_wide.2 (AnyM.slices_Sort_string_none sortL p cap W)⟩
end Go.Proofs.Ytoaegleieacokaa
