/-
  The shelf s contracts at this program, in plain words: written by the kit s lay-plain tool.
-/
import Derived.Shelf.SlGeneric
import Derived.Shelf.SlIterI.Nil
import Derived.Shelf.SortM.Plain
import Derived.Shelf.SortM.SortNone
import Derived.Ground.GgzProg
import Derived.Ground.SlgmProg
import Derived.Test.YtcfdalmllegefaaGreatDoorProg
namespace Go.Proofs
open Go.Shelf
def Tryz.sortedA_ren : Go.Shelf.Ren := ⟨fun | 6 => 200 | 8 => 263 | 9 => 264 | 11 => 316 | 13 => 318 | 12 => 317 | 23 => 342 | 24 => 343 | 14 => 334 | 15 => 335 | 16 => 336 | 17 => 337 | 18 => 338 | 19 => 339 | 20 => 307 | 21 => 340 | 22 => 341 | 25 => 358 | 26 => 359 | 27 => 360 | 28 => 361 | 29 => 362 | 30 => 320 | 31 => 366 | n => n, fun | 26 => 3 | 28 => 232 | 24 => 88 | 0 => 0 | 3 => 3 | 37 => 169 | 48 => 248 | 50 => 251 | 4 => 4 | 40 => 344 | 39 => 343 | 45 => 93 | 5 => 5 | 9 => 9 | 51 => 363 | 55 => 367 | 57 => 371 | 58 => 74 | 33 => 76 | n => n, fun | n => n⟩
theorem Tryz.sortedA : Go.Proofs.SlLaysZI.n6 Tryz.prog Tryz.sortedA_ren := {
  mixed := by kernel_rfl
  f6 := ⟨Tryz.f200.name, by decide, Tryz.func200.trans (congrArg some (by kernel_rfl))⟩
  f8 := ⟨Tryz.f263.name, by decide, Tryz.func263.trans (congrArg some (by kernel_rfl))⟩
  f11 := ⟨Tryz.f316.name, by decide, Tryz.func316.trans (congrArg some (by kernel_rfl))⟩
  t0 := Tryz.underlying0
  a0 := Tryz.isAgg0
  z0 := Tryz.sizeOf0
  v0 := Tryz.zeroValue0
  t24 := Tryz.underlying88
  a24 := Tryz.isAgg88
  z24 := Tryz.sizeOf88
  v24 := Tryz.zeroValue88
  t26 := Tryz.underlying3
  a26 := Tryz.isAgg3
  z26 := Tryz.sizeOf3
  v26 := Tryz.zeroValue3
  t28 := Tryz.underlying232
  a28 := Tryz.isAgg232
  z28 := Tryz.sizeOf232
  v28 := Tryz.zeroValue232
  i26 := by kernel_rfl }
def Tryz.sortA_ren : Go.Shelf.Ren := ⟨fun | 5 => 264 | 8 => 318 | 7 => 317 | 19 => 342 | 20 => 343 | 10 => 334 | 11 => 335 | 12 => 336 | 13 => 337 | 14 => 338 | 15 => 339 | 16 => 307 | 17 => 340 | 18 => 341 | 30 => 358 | 31 => 359 | 32 => 360 | 33 => 361 | 34 => 362 | 35 => 320 | 40 => 366 | n => n, fun | 23 => 88 | 25 => 3 | 3 => 3 | 32 => 169 | 22 => 88 | 0 => 0 | 44 => 248 | 46 => 251 | 4 => 4 | 36 => 344 | 35 => 343 | 41 => 93 | 5 => 5 | 9 => 9 | 53 => 363 | 57 => 367 | 63 => 371 | 64 => 74 | n => n, fun | n => n⟩
theorem Tryz.sortA : Go.Proofs.SlLaysM.n5 Tryz.prog Tryz.sortA_ren := {
  mixed := by kernel_rfl
  f5 := ⟨Tryz.f264.name, by decide, Tryz.func264.trans (congrArg some (by kernel_rfl))⟩
  f7 := ⟨Tryz.f317.name, by decide, Tryz.func317.trans (congrArg some (by kernel_rfl))⟩
  f8 := Tryz.func318.trans (congrArg some (by kernel_rfl))
  f10 := ⟨Tryz.f334.name, by decide, Tryz.func334.trans (congrArg some (by kernel_rfl))⟩
  f11 := ⟨Tryz.f335.name, by decide, Tryz.func335.trans (congrArg some (by kernel_rfl))⟩
  f12 := ⟨Tryz.f336.name, by decide, Tryz.func336.trans (congrArg some (by kernel_rfl))⟩
  f13 := ⟨Tryz.f337.name, by decide, Tryz.func337.trans (congrArg some (by kernel_rfl))⟩
  f14 := ⟨Tryz.f338.name, by decide, Tryz.func338.trans (congrArg some (by kernel_rfl))⟩
  f15 := ⟨Tryz.f339.name, by decide, Tryz.func339.trans (congrArg some (by kernel_rfl))⟩
  f16 := ⟨Tryz.f307.name, by decide, Tryz.func307.trans (congrArg some (by kernel_rfl))⟩
  f17 := ⟨Tryz.f340.name, by decide, Tryz.func340.trans (congrArg some (by kernel_rfl))⟩
  f18 := ⟨Tryz.f341.name, by decide, Tryz.func341.trans (congrArg some (by kernel_rfl))⟩
  f19 := Tryz.func342.trans (congrArg some (by kernel_rfl))
  f20 := Tryz.func343.trans (congrArg some (by kernel_rfl))
  f30 := ⟨Tryz.f358.name, by decide, Tryz.func358.trans (congrArg some (by kernel_rfl))⟩
  f31 := Tryz.func359.trans (congrArg some (by kernel_rfl))
  f32 := Tryz.func360.trans (congrArg some (by kernel_rfl))
  f33 := ⟨Tryz.f361.name, by decide, Tryz.func361.trans (congrArg some (by kernel_rfl))⟩
  f34 := ⟨Tryz.f362.name, by decide, Tryz.func362.trans (congrArg some (by kernel_rfl))⟩
  f35 := ⟨Tryz.f320.name, by decide, Tryz.func320.trans (congrArg some (by kernel_rfl))⟩
  f40 := ⟨Tryz.f366.name, by decide, Tryz.func366.trans (congrArg some (by kernel_rfl))⟩
  t0 := Tryz.underlying0
  a0 := Tryz.isAgg0
  z0 := Tryz.sizeOf0
  v0 := Tryz.zeroValue0
  t3 := Tryz.underlying3
  a3 := Tryz.isAgg3
  z3 := Tryz.sizeOf3
  v3 := Tryz.zeroValue3
  t4 := Tryz.underlying4
  a4 := Tryz.isAgg4
  z4 := Tryz.sizeOf4
  v4 := Tryz.zeroValue4
  t5 := Tryz.underlying5
  a5 := Tryz.isAgg5
  z5 := Tryz.sizeOf5
  v5 := Tryz.zeroValue5
  t9 := Tryz.underlying9
  a9 := Tryz.isAgg9
  z9 := Tryz.sizeOf9
  v9 := Tryz.zeroValue9
  t22 := Tryz.underlying88
  a22 := Tryz.isAgg88
  z22 := Tryz.sizeOf88
  v22 := Tryz.zeroValue88
  t23 := Tryz.underlying88
  a23 := Tryz.isAgg88
  z23 := Tryz.sizeOf88
  v23 := Tryz.zeroValue88
  t25 := Tryz.underlying3
  a25 := Tryz.isAgg3
  z25 := Tryz.sizeOf3
  v25 := Tryz.zeroValue3
  t32 := Tryz.underlying169
  a32 := Tryz.isAgg169
  z32 := Tryz.sizeOf169
  v32 := Tryz.zeroValue169
  t35 := Tryz.underlying343
  a35 := Tryz.isAgg343
  z35 := Tryz.sizeOf343
  v35 := Tryz.zeroValue343
  t36 := Tryz.underlying344
  a36 := Tryz.isAgg344
  z36 := Tryz.sizeOf344
  v36 := Tryz.zeroValue344
  t41 := Tryz.underlying93
  a41 := Tryz.isAgg93
  z41 := Tryz.sizeOf93
  v41 := Tryz.zeroValue93
  t44 := Tryz.underlying248
  a44 := Tryz.isAgg248
  z44 := Tryz.sizeOf248
  v44 := Tryz.zeroValue248
  t46 := Tryz.underlying251
  a46 := Tryz.isAgg251
  z46 := Tryz.sizeOf251
  v46 := Tryz.zeroValue251
  t53 := Tryz.underlying363
  a53 := Tryz.isAgg363
  z53 := Tryz.sizeOf363
  v53 := Tryz.zeroValue363
  t57 := Tryz.underlying367
  a57 := Tryz.isAgg367
  z57 := Tryz.sizeOf367
  v57 := Tryz.zeroValue367
  t63 := Tryz.underlying371
  a63 := Tryz.isAgg371
  z63 := Tryz.sizeOf371
  v63 := Tryz.zeroValue371
  t64 := Tryz.underlying74
  a64 := Tryz.isAgg74
  z64 := Tryz.sizeOf74
  v64 := Tryz.zeroValue74 }
end Go.Proofs
