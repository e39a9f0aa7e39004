/-
  The shelf s contracts at this program, in plain words: written by the kit s lay-plain tool.
-/
import Derived.Shelf.Slices.SearchI
import Derived.Shelf.Spec.SlicesInsertGrow
import Derived.Shelf.Slices.Cells
import Derived.Shelf.Slices.Empties
import Derived.Ground.Names2Prog
import Derived.Test.YtkpoodjhjfmfjaaGreatDoorProg
namespace Go.Proofs
open Go.Shelf
def Tryz.laysInsert_ren : Go.Shelf.Ren := ⟨fun | 21 => 238 | 27 => 274 | 28 => 275 | 35 => 308 | 39 => 328 | n => n, fun | 22 => 78 | 3 => 3 | 4 => 4 | 0 => 0 | n => n, fun | n => n⟩
theorem Tryz.laysInsert : Go.Proofs.Lays2.n21 Tryz.prog Tryz.laysInsert_ren := {
  mixed := by kernel_rfl
  f21 := Tryz.func238.trans (congrArg some (by kernel_rfl))
  f27 := Tryz.func274.trans (congrArg some (by kernel_rfl))
  f28 := Tryz.func275.trans (congrArg some (by kernel_rfl))
  f35 := Tryz.func308.trans (congrArg some (by kernel_rfl))
  f39 := Tryz.func328.trans (congrArg some (by kernel_rfl))
  t0 := Tryz.underlying0
  a0 := Tryz.isAgg0
  z0 := Tryz.sizeOf0
  v0 := Tryz.zeroValue0
  t3 := Tryz.underlying3
  a3 := Tryz.isAgg3
  z3 := Tryz.sizeOf3
  v3 := Tryz.zeroValue3
  t4 := Tryz.underlying4
  a4 := Tryz.isAgg4
  z4 := Tryz.sizeOf4
  v4 := Tryz.zeroValue4
  t22 := Tryz.underlying78
  a22 := Tryz.isAgg78
  z22 := Tryz.sizeOf78
  v22 := Tryz.zeroValue78
  i3 := by kernel_rfl }
def Tryz.laysSearch_ren : Go.Shelf.Ren := ⟨fun | 25 => 221 | 31 => 268 | 32 => 269 | 37 => 266 | n => n, fun | 22 => 78 | 3 => 3 | 4 => 4 | 40 => 251 | 0 => 0 | n => n, fun | n => n⟩
theorem Tryz.laysSearch : Go.Proofs.Lays2.n25 Tryz.prog Tryz.laysSearch_ren := {
  mixed := by kernel_rfl
  f25 := Tryz.func221.trans (congrArg some (by kernel_rfl))
  f31 := Tryz.func268.trans (congrArg some (by kernel_rfl))
  f32 := Tryz.func269.trans (congrArg some (by kernel_rfl))
  f37 := Tryz.func266.trans (congrArg some (by kernel_rfl))
  t0 := Tryz.underlying0
  a0 := Tryz.isAgg0
  z0 := Tryz.sizeOf0
  v0 := Tryz.zeroValue0
  t3 := Tryz.underlying3
  a3 := Tryz.isAgg3
  z3 := Tryz.sizeOf3
  v3 := Tryz.zeroValue3
  t4 := Tryz.underlying4
  a4 := Tryz.isAgg4
  z4 := Tryz.sizeOf4
  v4 := Tryz.zeroValue4
  t22 := Tryz.underlying78
  a22 := Tryz.isAgg78
  z22 := Tryz.sizeOf78
  v22 := Tryz.zeroValue78
  t40 := Tryz.underlying251
  a40 := Tryz.isAgg251
  z40 := Tryz.sizeOf251
  v40 := Tryz.zeroValue251 }
def Tryz.laysDelete_ren : Go.Shelf.Ren := ⟨fun | 23 => 222 | n => n, fun | 22 => 78 | 3 => 3 | 4 => 4 | 0 => 0 | n => n, fun | n => n⟩
theorem Tryz.laysDelete : Go.Proofs.Lays2.n23 Tryz.prog Tryz.laysDelete_ren := {
  mixed := by kernel_rfl
  f23 := Tryz.func222.trans (congrArg some (by kernel_rfl))
  t0 := Tryz.underlying0
  a0 := Tryz.isAgg0
  z0 := Tryz.sizeOf0
  v0 := Tryz.zeroValue0
  t3 := Tryz.underlying3
  a3 := Tryz.isAgg3
  z3 := Tryz.sizeOf3
  v3 := Tryz.zeroValue3
  t4 := Tryz.underlying4
  a4 := Tryz.isAgg4
  z4 := Tryz.sizeOf4
  v4 := Tryz.zeroValue4
  t22 := Tryz.underlying78
  a22 := Tryz.isAgg78
  z22 := Tryz.sizeOf78
  v22 := Tryz.zeroValue78
  i3 := by kernel_rfl }
end Go.Proofs
