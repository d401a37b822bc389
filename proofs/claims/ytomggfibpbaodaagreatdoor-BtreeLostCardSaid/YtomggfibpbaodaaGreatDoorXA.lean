/-
  The contracts of maps.Keys, slices.Sorted and slices.Sort at this program, in plain words.
-/
import Derived.Shelf.SlIterI.Nil
import Derived.Shelf.SortM.Plain
import Derived.Shelf.SortM.SortNone
import Derived.Ground.GgzProg
import Derived.Ground.SlgmProg
import Derived.Shelf.SlGeneric
import Derived.Test.YtomggfibpbaodaaGreatDoorProg
namespace Go.Proofs
open Go.Shelf
def Tryz.keysA_ren : Go.Shelf.Ren := ⟨fun | 7 => 166 | 10 => 226 | n => n, fun | 23 => 190 | 26 => 3 | 3 => 195 | 28 => 270 | 0 => 0 | 27 => 269 | 33 => 148 | 4 => 4 | n => n, fun | n => n⟩
theorem Tryz.keysA : Go.Proofs.SlLaysZI.n7 Tryz.prog Tryz.keysA_ren := {
  mixed := by kernel_rfl
  f7 := ⟨Tryz.f166.name, by decide, Tryz.func166.trans (congrArg some (by kernel_rfl))⟩
  f10 := ⟨Tryz.f226.name, by decide, Tryz.func226.trans (congrArg some (by kernel_rfl))⟩
  t0 := Tryz.underlying0
  a0 := Tryz.isAgg0
  z0 := Tryz.sizeOf0
  v0 := Tryz.zeroValue0
  t4 := Tryz.underlying4
  a4 := Tryz.isAgg4
  z4 := Tryz.sizeOf4
  v4 := Tryz.zeroValue4
  t23 := Tryz.underlying190
  a23 := Tryz.isAgg190
  z23 := Tryz.sizeOf190
  v23 := Tryz.zeroValue190
  t26 := Tryz.underlying3
  a26 := Tryz.isAgg3
  z26 := Tryz.sizeOf3
  v26 := Tryz.zeroValue3
  t27 := Tryz.underlying269
  a27 := Tryz.isAgg269
  z27 := Tryz.sizeOf269
  v27 := Tryz.zeroValue269
  t28 := Tryz.underlying270
  a28 := Tryz.isAgg270
  z28 := Tryz.sizeOf270
  v28 := Tryz.zeroValue270
  t33 := Tryz.underlying148
  a33 := Tryz.isAgg148
  z33 := Tryz.sizeOf148
  v33 := Tryz.zeroValue148 }
def Tryz.sortedA_ren : Go.Shelf.Ren := ⟨fun | 6 => 165 | 8 => 224 | 9 => 225 | 11 => 270 | 13 => 272 | 12 => 271 | 23 => 296 | 24 => 297 | 14 => 287 | 15 => 288 | 16 => 289 | 17 => 290 | 18 => 291 | 19 => 292 | 20 => 293 | 21 => 294 | 22 => 295 | 25 => 302 | 26 => 303 | 27 => 304 | 28 => 305 | 29 => 306 | 30 => 307 | 31 => 310 | n => n, fun | 26 => 3 | 28 => 270 | 24 => 48 | 0 => 0 | 3 => 3 | 37 => 50 | 48 => 406 | 50 => 321 | 4 => 4 | 40 => 400 | 39 => 399 | 45 => 178 | 5 => 5 | 9 => 9 | 51 => 408 | 55 => 412 | 57 => 415 | 58 => 416 | 33 => 148 | n => n, fun | n => n⟩
theorem Tryz.sortedA : Go.Proofs.SlLaysZI.n6 Tryz.prog Tryz.sortedA_ren := {
  mixed := by kernel_rfl
  f6 := ⟨Tryz.f165.name, by decide, Tryz.func165.trans (congrArg some (by kernel_rfl))⟩
  f8 := ⟨Tryz.f224.name, by decide, Tryz.func224.trans (congrArg some (by kernel_rfl))⟩
  f11 := ⟨Tryz.f270.name, by decide, Tryz.func270.trans (congrArg some (by kernel_rfl))⟩
  t0 := Tryz.underlying0
  a0 := Tryz.isAgg0
  z0 := Tryz.sizeOf0
  v0 := Tryz.zeroValue0
  t24 := Tryz.underlying48
  a24 := Tryz.isAgg48
  z24 := Tryz.sizeOf48
  v24 := Tryz.zeroValue48
  t26 := Tryz.underlying3
  a26 := Tryz.isAgg3
  z26 := Tryz.sizeOf3
  v26 := Tryz.zeroValue3
  t28 := Tryz.underlying270
  a28 := Tryz.isAgg270
  z28 := Tryz.sizeOf270
  v28 := Tryz.zeroValue270
  i26 := by kernel_rfl }
def Tryz.sortA_ren : Go.Shelf.Ren := ⟨fun | 5 => 225 | 8 => 272 | 7 => 271 | 19 => 296 | 20 => 297 | 10 => 287 | 11 => 288 | 12 => 289 | 13 => 290 | 14 => 291 | 15 => 292 | 16 => 293 | 17 => 294 | 18 => 295 | 30 => 302 | 31 => 303 | 32 => 304 | 33 => 305 | 34 => 306 | 35 => 307 | 40 => 310 | n => n, fun | 23 => 48 | 25 => 3 | 3 => 3 | 32 => 50 | 22 => 48 | 0 => 0 | 44 => 406 | 46 => 321 | 4 => 4 | 36 => 400 | 35 => 399 | 41 => 178 | 5 => 5 | 9 => 9 | 53 => 408 | 57 => 412 | 63 => 415 | 64 => 416 | n => n, fun | n => n⟩
theorem Tryz.sortA : Go.Proofs.SlLaysM.n5 Tryz.prog Tryz.sortA_ren := {
  mixed := by kernel_rfl
  f5 := ⟨Tryz.f225.name, by decide, Tryz.func225.trans (congrArg some (by kernel_rfl))⟩
  f7 := ⟨Tryz.f271.name, by decide, Tryz.func271.trans (congrArg some (by kernel_rfl))⟩
  f8 := Tryz.func272.trans (congrArg some (by kernel_rfl))
  f10 := ⟨Tryz.f287.name, by decide, Tryz.func287.trans (congrArg some (by kernel_rfl))⟩
  f11 := ⟨Tryz.f288.name, by decide, Tryz.func288.trans (congrArg some (by kernel_rfl))⟩
  f12 := ⟨Tryz.f289.name, by decide, Tryz.func289.trans (congrArg some (by kernel_rfl))⟩
  f13 := ⟨Tryz.f290.name, by decide, Tryz.func290.trans (congrArg some (by kernel_rfl))⟩
  f14 := ⟨Tryz.f291.name, by decide, Tryz.func291.trans (congrArg some (by kernel_rfl))⟩
  f15 := ⟨Tryz.f292.name, by decide, Tryz.func292.trans (congrArg some (by kernel_rfl))⟩
  f16 := ⟨Tryz.f293.name, by decide, Tryz.func293.trans (congrArg some (by kernel_rfl))⟩
  f17 := ⟨Tryz.f294.name, by decide, Tryz.func294.trans (congrArg some (by kernel_rfl))⟩
  f18 := ⟨Tryz.f295.name, by decide, Tryz.func295.trans (congrArg some (by kernel_rfl))⟩
  f19 := Tryz.func296.trans (congrArg some (by kernel_rfl))
  f20 := Tryz.func297.trans (congrArg some (by kernel_rfl))
  f30 := ⟨Tryz.f302.name, by decide, Tryz.func302.trans (congrArg some (by kernel_rfl))⟩
  f31 := Tryz.func303.trans (congrArg some (by kernel_rfl))
  f32 := Tryz.func304.trans (congrArg some (by kernel_rfl))
  f33 := ⟨Tryz.f305.name, by decide, Tryz.func305.trans (congrArg some (by kernel_rfl))⟩
  f34 := ⟨Tryz.f306.name, by decide, Tryz.func306.trans (congrArg some (by kernel_rfl))⟩
  f35 := ⟨Tryz.f307.name, by decide, Tryz.func307.trans (congrArg some (by kernel_rfl))⟩
  f40 := ⟨Tryz.f310.name, by decide, Tryz.func310.trans (congrArg some (by kernel_rfl))⟩
  t0 := Tryz.underlying0
  a0 := Tryz.isAgg0
  z0 := Tryz.sizeOf0
  v0 := Tryz.zeroValue0
  t3 := Tryz.underlying3
  a3 := Tryz.isAgg3
  z3 := Tryz.sizeOf3
  v3 := Tryz.zeroValue3
  t4 := Tryz.underlying4
  a4 := Tryz.isAgg4
  z4 := Tryz.sizeOf4
  v4 := Tryz.zeroValue4
  t5 := Tryz.underlying5
  a5 := Tryz.isAgg5
  z5 := Tryz.sizeOf5
  v5 := Tryz.zeroValue5
  t9 := Tryz.underlying9
  a9 := Tryz.isAgg9
  z9 := Tryz.sizeOf9
  v9 := Tryz.zeroValue9
  t22 := Tryz.underlying48
  a22 := Tryz.isAgg48
  z22 := Tryz.sizeOf48
  v22 := Tryz.zeroValue48
  t23 := Tryz.underlying48
  a23 := Tryz.isAgg48
  z23 := Tryz.sizeOf48
  v23 := Tryz.zeroValue48
  t25 := Tryz.underlying3
  a25 := Tryz.isAgg3
  z25 := Tryz.sizeOf3
  v25 := Tryz.zeroValue3
  t32 := Tryz.underlying50
  a32 := Tryz.isAgg50
  z32 := Tryz.sizeOf50
  v32 := Tryz.zeroValue50
  t35 := Tryz.underlying399
  a35 := Tryz.isAgg399
  z35 := Tryz.sizeOf399
  v35 := Tryz.zeroValue399
  t36 := Tryz.underlying400
  a36 := Tryz.isAgg400
  z36 := Tryz.sizeOf400
  v36 := Tryz.zeroValue400
  t41 := Tryz.underlying178
  a41 := Tryz.isAgg178
  z41 := Tryz.sizeOf178
  v41 := Tryz.zeroValue178
  t44 := Tryz.underlying406
  a44 := Tryz.isAgg406
  z44 := Tryz.sizeOf406
  v44 := Tryz.zeroValue406
  t46 := Tryz.underlying321
  a46 := Tryz.isAgg321
  z46 := Tryz.sizeOf321
  v46 := Tryz.zeroValue321
  t53 := Tryz.underlying408
  a53 := Tryz.isAgg408
  z53 := Tryz.sizeOf408
  v53 := Tryz.zeroValue408
  t57 := Tryz.underlying412
  a57 := Tryz.isAgg412
  z57 := Tryz.sizeOf412
  v57 := Tryz.zeroValue412
  t63 := Tryz.underlying415
  a63 := Tryz.isAgg415
  z63 := Tryz.sizeOf415
  v63 := Tryz.zeroValue415
  t64 := Tryz.underlying416
  a64 := Tryz.isAgg416
  z64 := Tryz.sizeOf416
  v64 := Tryz.zeroValue416 }
end Go.Proofs
