/-
  DERIVED: THE SHELF's CONTRACTS AT THIS DUMP, IN PLAIN WORDS (tools/lay-plain.mjs out of 'TryzShelf.lean', which tools/lay-shelf.mjs wrote): THE SAME DECLARATIONS UNDER THE SAME NAMES: 'import', 'namespace', 'open', 'def', 'theorem' AND NOTHING ELSE: no command of the shelf's: FOR A HAND-IN. Each laying: the table of numbers ('.._ren') and one theorem, a field a fact of the dump's own or the kernel's comparison; each contract: ONE APPLICATION.
-/
import Derived.Test.YtlkgdpdnhnakoaaGreatDoorShelfB
import Derived.Shelf.SlIterI.Nil
import Derived.Shelf.SortM.Plain
import Derived.Shelf.SortM.SortNone
import Derived.Ground.GgzProg
import Derived.Ground.SlgmProg
import Derived.Ground.SlgnProg
import Derived.Shelf.SlicesE.Clone
import Derived.Shelf.SlMaps.Clone
import Derived.Ground.SlmcProg
import Derived.Test.YtlkgdpdnhnakoaaGreatDoorProg
namespace Go.Proofs
open Go.Shelf
def Tryz.keysA_ren : Go.Shelf.Ren := ⟨fun | 7 => 171 | 10 => 255 | n => n, fun | 23 => 86 | 26 => 3 | 3 => 161 | 28 => 296 | 0 => 0 | 27 => 295 | 33 => 250 | 4 => 4 | n => n, fun | n => n⟩
theorem Tryz.keysA : Go.Proofs.SlLaysZI.n7 Tryz.prog Tryz.keysA_ren := {
  mixed := by kernel_rfl
  f7 := ⟨Tryz.f171.name, by decide, Tryz.func171.trans (congrArg some (by kernel_rfl))⟩
  f10 := ⟨Tryz.f255.name, by decide, Tryz.func255.trans (congrArg some (by kernel_rfl))⟩
  t0 := Tryz.underlying0
  a0 := Tryz.isAgg0
  z0 := Tryz.sizeOf0
  v0 := Tryz.zeroValue0
  t4 := Tryz.underlying4
  a4 := Tryz.isAgg4
  z4 := Tryz.sizeOf4
  v4 := Tryz.zeroValue4
  t23 := Tryz.underlying86
  a23 := Tryz.isAgg86
  z23 := Tryz.sizeOf86
  v23 := Tryz.zeroValue86
  t26 := Tryz.underlying3
  a26 := Tryz.isAgg3
  z26 := Tryz.sizeOf3
  v26 := Tryz.zeroValue3
  t27 := Tryz.underlying295
  a27 := Tryz.isAgg295
  z27 := Tryz.sizeOf295
  v27 := Tryz.zeroValue295
  t28 := Tryz.underlying296
  a28 := Tryz.isAgg296
  z28 := Tryz.sizeOf296
  v28 := Tryz.zeroValue296
  t33 := Tryz.underlying250
  a33 := Tryz.isAgg250
  z33 := Tryz.sizeOf250
  v33 := Tryz.zeroValue250 }
def Tryz.sortedA_ren : Go.Shelf.Ren := ⟨fun | 6 => 170 | 8 => 254 | 9 => 133 | 11 => 343 | 13 => 223 | 12 => 222 | 23 => 320 | 24 => 321 | 14 => 311 | 15 => 312 | 16 => 313 | 17 => 314 | 18 => 315 | 19 => 316 | 20 => 317 | 21 => 318 | 22 => 319 | 25 => 393 | 26 => 394 | 27 => 395 | 28 => 396 | 29 => 397 | 30 => 398 | 31 => 447 | n => n, fun | 26 => 3 | 28 => 296 | 24 => 47 | 0 => 0 | 3 => 3 | 37 => 312 | 48 => 201 | 50 => 251 | 4 => 4 | 40 => 445 | 39 => 444 | 45 => 153 | 5 => 5 | 9 => 9 | 51 => 519 | 55 => 523 | 57 => 556 | 58 => 95 | 33 => 250 | n => n, fun | n => n⟩
theorem Tryz.sortedA : Go.Proofs.SlLaysZI.n6 Tryz.prog Tryz.sortedA_ren := {
  mixed := by kernel_rfl
  f6 := ⟨Tryz.f170.name, by decide, Tryz.func170.trans (congrArg some (by kernel_rfl))⟩
  f8 := ⟨Tryz.f254.name, by decide, Tryz.func254.trans (congrArg some (by kernel_rfl))⟩
  f11 := ⟨Tryz.f343.name, by decide, Tryz.func343.trans (congrArg some (by kernel_rfl))⟩
  t0 := Tryz.underlying0
  a0 := Tryz.isAgg0
  z0 := Tryz.sizeOf0
  v0 := Tryz.zeroValue0
  t24 := Tryz.underlying47
  a24 := Tryz.isAgg47
  z24 := Tryz.sizeOf47
  v24 := Tryz.zeroValue47
  t26 := Tryz.underlying3
  a26 := Tryz.isAgg3
  z26 := Tryz.sizeOf3
  v26 := Tryz.zeroValue3
  t28 := Tryz.underlying296
  a28 := Tryz.isAgg296
  z28 := Tryz.sizeOf296
  v28 := Tryz.zeroValue296
  i26 := by kernel_rfl }
def Tryz.sortA_ren : Go.Shelf.Ren := ⟨fun | 5 => 133 | 8 => 223 | 7 => 222 | 19 => 320 | 20 => 321 | 10 => 311 | 11 => 312 | 12 => 313 | 13 => 314 | 14 => 315 | 15 => 316 | 16 => 317 | 17 => 318 | 18 => 319 | 30 => 393 | 31 => 394 | 32 => 395 | 33 => 396 | 34 => 397 | 35 => 398 | 40 => 447 | n => n, fun | 23 => 47 | 25 => 3 | 3 => 3 | 32 => 312 | 22 => 47 | 0 => 0 | 44 => 201 | 46 => 251 | 4 => 4 | 36 => 445 | 35 => 444 | 41 => 153 | 5 => 5 | 9 => 9 | 53 => 519 | 57 => 523 | 63 => 556 | 64 => 95 | n => n, fun | n => n⟩
theorem Tryz.sortA : Go.Proofs.SlLaysM.n5 Tryz.prog Tryz.sortA_ren := {
  mixed := by kernel_rfl
  f5 := ⟨Tryz.f133.name, by decide, Tryz.func133.trans (congrArg some (by kernel_rfl))⟩
  f7 := ⟨Tryz.f222.name, by decide, Tryz.func222.trans (congrArg some (by kernel_rfl))⟩
  f8 := Tryz.func223.trans (congrArg some (by kernel_rfl))
  f10 := ⟨Tryz.f311.name, by decide, Tryz.func311.trans (congrArg some (by kernel_rfl))⟩
  f11 := ⟨Tryz.f312.name, by decide, Tryz.func312.trans (congrArg some (by kernel_rfl))⟩
  f12 := ⟨Tryz.f313.name, by decide, Tryz.func313.trans (congrArg some (by kernel_rfl))⟩
  f13 := ⟨Tryz.f314.name, by decide, Tryz.func314.trans (congrArg some (by kernel_rfl))⟩
  f14 := ⟨Tryz.f315.name, by decide, Tryz.func315.trans (congrArg some (by kernel_rfl))⟩
  f15 := ⟨Tryz.f316.name, by decide, Tryz.func316.trans (congrArg some (by kernel_rfl))⟩
  f16 := ⟨Tryz.f317.name, by decide, Tryz.func317.trans (congrArg some (by kernel_rfl))⟩
  f17 := ⟨Tryz.f318.name, by decide, Tryz.func318.trans (congrArg some (by kernel_rfl))⟩
  f18 := ⟨Tryz.f319.name, by decide, Tryz.func319.trans (congrArg some (by kernel_rfl))⟩
  f19 := Tryz.func320.trans (congrArg some (by kernel_rfl))
  f20 := Tryz.func321.trans (congrArg some (by kernel_rfl))
  f30 := ⟨Tryz.f393.name, by decide, Tryz.func393.trans (congrArg some (by kernel_rfl))⟩
  f31 := Tryz.func394.trans (congrArg some (by kernel_rfl))
  f32 := Tryz.func395.trans (congrArg some (by kernel_rfl))
  f33 := ⟨Tryz.f396.name, by decide, Tryz.func396.trans (congrArg some (by kernel_rfl))⟩
  f34 := ⟨Tryz.f397.name, by decide, Tryz.func397.trans (congrArg some (by kernel_rfl))⟩
  f35 := ⟨Tryz.f398.name, by decide, Tryz.func398.trans (congrArg some (by kernel_rfl))⟩
  f40 := ⟨Tryz.f447.name, by decide, Tryz.func447.trans (congrArg some (by kernel_rfl))⟩
  t0 := Tryz.underlying0
  a0 := Tryz.isAgg0
  z0 := Tryz.sizeOf0
  v0 := Tryz.zeroValue0
  t3 := Tryz.underlying3
  a3 := Tryz.isAgg3
  z3 := Tryz.sizeOf3
  v3 := Tryz.zeroValue3
  t4 := Tryz.underlying4
  a4 := Tryz.isAgg4
  z4 := Tryz.sizeOf4
  v4 := Tryz.zeroValue4
  t5 := Tryz.underlying5
  a5 := Tryz.isAgg5
  z5 := Tryz.sizeOf5
  v5 := Tryz.zeroValue5
  t9 := Tryz.underlying9
  a9 := Tryz.isAgg9
  z9 := Tryz.sizeOf9
  v9 := Tryz.zeroValue9
  t22 := Tryz.underlying47
  a22 := Tryz.isAgg47
  z22 := Tryz.sizeOf47
  v22 := Tryz.zeroValue47
  t23 := Tryz.underlying47
  a23 := Tryz.isAgg47
  z23 := Tryz.sizeOf47
  v23 := Tryz.zeroValue47
  t25 := Tryz.underlying3
  a25 := Tryz.isAgg3
  z25 := Tryz.sizeOf3
  v25 := Tryz.zeroValue3
  t32 := Tryz.underlying312
  a32 := Tryz.isAgg312
  z32 := Tryz.sizeOf312
  v32 := Tryz.zeroValue312
  t35 := Tryz.underlying444
  a35 := Tryz.isAgg444
  z35 := Tryz.sizeOf444
  v35 := Tryz.zeroValue444
  t36 := Tryz.underlying445
  a36 := Tryz.isAgg445
  z36 := Tryz.sizeOf445
  v36 := Tryz.zeroValue445
  t41 := Tryz.underlying153
  a41 := Tryz.isAgg153
  z41 := Tryz.sizeOf153
  v41 := Tryz.zeroValue153
  t44 := Tryz.underlying201
  a44 := Tryz.isAgg201
  z44 := Tryz.sizeOf201
  v44 := Tryz.zeroValue201
  t46 := Tryz.underlying251
  a46 := Tryz.isAgg251
  z46 := Tryz.sizeOf251
  v46 := Tryz.zeroValue251
  t53 := Tryz.underlying519
  a53 := Tryz.isAgg519
  z53 := Tryz.sizeOf519
  v53 := Tryz.zeroValue519
  t57 := Tryz.underlying523
  a57 := Tryz.isAgg523
  z57 := Tryz.sizeOf523
  v57 := Tryz.zeroValue523
  t63 := Tryz.underlying556
  a63 := Tryz.isAgg556
  z63 := Tryz.sizeOf556
  v63 := Tryz.zeroValue556
  t64 := Tryz.underlying95
  a64 := Tryz.isAgg95
  z64 := Tryz.sizeOf95
  v64 := Tryz.zeroValue95 }
def Tryz.cloneA_ren : Go.Shelf.Ren := ⟨fun | 41 => 144 | n => n, fun | 22 => 85 | 23 => 161 | 4 => 4 | n => n, fun | n => n⟩
theorem Tryz.cloneA : Go.Proofs.SlLaysE0.n41 Tryz.prog Tryz.cloneA_ren := {
  mixed := by kernel_rfl
  f41 := ⟨Tryz.f144.name, by decide, Tryz.func144.trans (congrArg some (by kernel_rfl))⟩
  t4 := Tryz.underlying4
  a4 := Tryz.isAgg4
  z4 := Tryz.sizeOf4
  v4 := Tryz.zeroValue4
  t22 := Tryz.underlying85
  a22 := Tryz.isAgg85
  z22 := Tryz.sizeOf85
  v22 := Tryz.zeroValue85 }
def Tryz.mcloneA_ren : Go.Shelf.Ren := ⟨fun | 5 => 145 | 7 => 226 | n => n, fun | 23 => 86 | 25 => 3 | 3 => 161 | 4 => 4 | 20 => 20 | n => n, fun | n => n⟩
theorem Tryz.mcloneA : Go.Proofs.SlLaysW.n5 Tryz.prog Tryz.mcloneA_ren := {
  mixed := by kernel_rfl
  f5 := ⟨Tryz.f145.name, by decide, Tryz.func145.trans (congrArg some (by kernel_rfl))⟩
  f7 := Tryz.func226.trans (congrArg some (by kernel_rfl))
  t4 := Tryz.underlying4
  a4 := Tryz.isAgg4
  z4 := Tryz.sizeOf4
  v4 := Tryz.zeroValue4
  t20 := Tryz.underlying20
  a20 := Tryz.isAgg20
  z20 := Tryz.sizeOf20
  v20 := Tryz.zeroValue20
  t23 := Tryz.underlying86
  a23 := Tryz.isAgg86
  z23 := Tryz.sizeOf86
  v23 := Tryz.zeroValue86 }
end Go.Proofs
