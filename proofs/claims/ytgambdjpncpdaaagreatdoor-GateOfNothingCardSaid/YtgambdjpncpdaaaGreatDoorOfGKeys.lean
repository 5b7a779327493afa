/- What slices.Sorted comes to at what maps.Keys hands back, at this program: the kit's contracts laid in plain words. -/
import Derived.Shelf.SlIter.Nil
import Derived.Shelf.SlIterI.Nil
import Derived.Shelf.SlIter.Sorted
import Derived.Shelf.SlIterI.Sorted
import Derived.Shelf.SortM.Plain
import Derived.Shelf.SortM.SortNone
import Derived.Ground.GgzProg
import Derived.Ground.SlgmProg
import Derived.Test.YtgambdjpncpdaaaGreatDoorProg
import Derived.Test.YtgambdjpncpdaaaGreatDoorEvKeys
namespace Go.Proofs.YtgambdjpncpdaaaGreatDoor
open Go.Shelf Go.RowKit Go.Maps Go.Sort Go.AE
open Go.Proofs (encStr)
def Tryz.keys184_ren : Go.Shelf.Ren := ⟨fun | 7 => 184 | 10 => 245 | n => n, fun | 23 => 273 | 26 => 9 | 3 => 345 | 28 => 354 | 0 => 0 | 27 => 353 | 33 => 86 | 4 => 4 | n => n, fun | n => n⟩
theorem Tryz.keys184 : Go.Proofs.SlLaysZ.n7 Tryz.prog Tryz.keys184_ren := {
  mixed := by kernel_rfl
  f7 := ⟨Tryz.f184.name, by decide, Tryz.func184.trans (congrArg some (by kernel_rfl))⟩
  f10 := ⟨Tryz.f245.name, by decide, Tryz.func245.trans (congrArg some (by kernel_rfl))⟩
  t0 := Tryz.underlying0
  a0 := Tryz.isAgg0
  z0 := Tryz.sizeOf0
  v0 := Tryz.zeroValue0
  t4 := Tryz.underlying4
  a4 := Tryz.isAgg4
  z4 := Tryz.sizeOf4
  v4 := Tryz.zeroValue4
  t23 := Tryz.underlying273
  a23 := Tryz.isAgg273
  z23 := Tryz.sizeOf273
  v23 := Tryz.zeroValue273
  t26 := Tryz.underlying9
  a26 := Tryz.isAgg9
  z26 := Tryz.sizeOf9
  v26 := Tryz.zeroValue9
  t27 := Tryz.underlying353
  a27 := Tryz.isAgg353
  z27 := Tryz.sizeOf353
  v27 := Tryz.zeroValue353
  t28 := Tryz.underlying354
  a28 := Tryz.isAgg354
  z28 := Tryz.sizeOf354
  v28 := Tryz.zeroValue354
  t33 := Tryz.underlying86
  a33 := Tryz.isAgg86
  z33 := Tryz.sizeOf86
  v33 := Tryz.zeroValue86 }
def Tryz.keys42_ren : Go.Shelf.Ren := ⟨fun | 7 => 42 | 10 => 104 | n => n, fun | 23 => 119 | 26 => 3 | 3 => 123 | 28 => 132 | 0 => 0 | 27 => 131 | 33 => 208 | 4 => 4 | n => n, fun | n => n⟩
theorem Tryz.keys42 : Go.Proofs.SlLaysZI.n7 Tryz.prog Tryz.keys42_ren := {
  mixed := by kernel_rfl
  f7 := ⟨Tryz.f42.name, by decide, Tryz.func42.trans (congrArg some (by kernel_rfl))⟩
  f10 := ⟨Tryz.f104.name, by decide, Tryz.func104.trans (congrArg some (by kernel_rfl))⟩
  t0 := Tryz.underlying0
  a0 := Tryz.isAgg0
  z0 := Tryz.sizeOf0
  v0 := Tryz.zeroValue0
  t4 := Tryz.underlying4
  a4 := Tryz.isAgg4
  z4 := Tryz.sizeOf4
  v4 := Tryz.zeroValue4
  t23 := Tryz.underlying119
  a23 := Tryz.isAgg119
  z23 := Tryz.sizeOf119
  v23 := Tryz.zeroValue119
  t26 := Tryz.underlying3
  a26 := Tryz.isAgg3
  z26 := Tryz.sizeOf3
  v26 := Tryz.zeroValue3
  t27 := Tryz.underlying131
  a27 := Tryz.isAgg131
  z27 := Tryz.sizeOf131
  v27 := Tryz.zeroValue131
  t28 := Tryz.underlying132
  a28 := Tryz.isAgg132
  z28 := Tryz.sizeOf132
  v28 := Tryz.zeroValue132
  t33 := Tryz.underlying208
  a33 := Tryz.isAgg208
  z33 := Tryz.sizeOf208
  v33 := Tryz.zeroValue208 }
def Tryz.keys384_ren : Go.Shelf.Ren := ⟨fun | 7 => 384 | 10 => 431 | n => n, fun | 23 => 265 | 26 => 3 | 3 => 339 | 28 => 132 | 0 => 0 | 27 => 131 | 33 => 208 | 4 => 4 | n => n, fun | n => n⟩
theorem Tryz.keys384 : Go.Proofs.SlLaysZI.n7 Tryz.prog Tryz.keys384_ren := {
  mixed := by kernel_rfl
  f7 := ⟨Tryz.f384.name, by decide, Tryz.func384.trans (congrArg some (by kernel_rfl))⟩
  f10 := ⟨Tryz.f431.name, by decide, Tryz.func431.trans (congrArg some (by kernel_rfl))⟩
  t0 := Tryz.underlying0
  a0 := Tryz.isAgg0
  z0 := Tryz.sizeOf0
  v0 := Tryz.zeroValue0
  t4 := Tryz.underlying4
  a4 := Tryz.isAgg4
  z4 := Tryz.sizeOf4
  v4 := Tryz.zeroValue4
  t23 := Tryz.underlying265
  a23 := Tryz.isAgg265
  z23 := Tryz.sizeOf265
  v23 := Tryz.zeroValue265
  t26 := Tryz.underlying3
  a26 := Tryz.isAgg3
  z26 := Tryz.sizeOf3
  v26 := Tryz.zeroValue3
  t27 := Tryz.underlying131
  a27 := Tryz.isAgg131
  z27 := Tryz.sizeOf131
  v27 := Tryz.zeroValue131
  t28 := Tryz.underlying132
  a28 := Tryz.isAgg132
  z28 := Tryz.sizeOf132
  v28 := Tryz.zeroValue132
  t33 := Tryz.underlying208
  a33 := Tryz.isAgg208
  z33 := Tryz.sizeOf208
  v33 := Tryz.zeroValue208 }
def Tryz.sorted183_ren : Go.Shelf.Ren := ⟨fun | 6 => 183 | 8 => 244 | 9 => 154 | 11 => 320 | 13 => 167 | 12 => 213 | 23 => 230 | 24 => 231 | 14 => 292 | 15 => 293 | 16 => 294 | 17 => 295 | 18 => 296 | 19 => 297 | 20 => 298 | 21 => 299 | 22 => 300 | 25 => 365 | 26 => 307 | 27 => 308 | 28 => 366 | 29 => 367 | 30 => 368 | 31 => 414 | n => n, fun | 26 => 9 | 28 => 354 | 24 => 179 | 0 => 0 | 3 => 3 | 37 => 319 | 48 => 333 | 50 => 324 | 4 => 4 | 40 => 412 | 39 => 411 | 45 => 87 | 5 => 5 | 9 => 9 | 51 => 486 | 55 => 490 | 57 => 546 | 58 => 145 | 33 => 86 | n => n, fun | n => n⟩
theorem Tryz.sorted183 : Go.Proofs.SlLaysZ.n6 Tryz.prog Tryz.sorted183_ren := {
  mixed := by kernel_rfl
  f6 := ⟨Tryz.f183.name, by decide, Tryz.func183.trans (congrArg some (by kernel_rfl))⟩
  f8 := ⟨Tryz.f244.name, by decide, Tryz.func244.trans (congrArg some (by kernel_rfl))⟩
  f11 := ⟨Tryz.f320.name, by decide, Tryz.func320.trans (congrArg some (by kernel_rfl))⟩
  t0 := Tryz.underlying0
  a0 := Tryz.isAgg0
  z0 := Tryz.sizeOf0
  v0 := Tryz.zeroValue0
  t24 := Tryz.underlying179
  a24 := Tryz.isAgg179
  z24 := Tryz.sizeOf179
  v24 := Tryz.zeroValue179
  t26 := Tryz.underlying9
  a26 := Tryz.isAgg9
  z26 := Tryz.sizeOf9
  v26 := Tryz.zeroValue9
  t28 := Tryz.underlying354
  a28 := Tryz.isAgg354
  z28 := Tryz.sizeOf354
  v28 := Tryz.zeroValue354
  i26 := by kernel_rfl }
def Tryz.sort154_ren : Go.Shelf.Ren := ⟨fun | 6 => 154 | 8 => 167 | 9 => 213 | 19 => 230 | 20 => 231 | 21 => 292 | 22 => 293 | 23 => 294 | 24 => 295 | 25 => 296 | 26 => 297 | 27 => 298 | 28 => 299 | 29 => 300 | 36 => 365 | 31 => 307 | 32 => 308 | 37 => 366 | 38 => 367 | 39 => 368 | 41 => 414 | n => n, fun | 27 => 179 | 29 => 9 | 3 => 3 | 32 => 319 | 26 => 179 | 0 => 0 | 44 => 333 | 46 => 324 | 4 => 4 | 36 => 412 | 35 => 411 | 41 => 87 | 5 => 5 | 9 => 9 | 53 => 486 | 57 => 490 | 63 => 546 | 64 => 145 | n => n, fun | n => n⟩
theorem Tryz.sort154 : Go.Proofs.SlLaysM.n6 Tryz.prog Tryz.sort154_ren := {
  mixed := by kernel_rfl
  f6 := ⟨Tryz.f154.name, by decide, Tryz.func154.trans (congrArg some (by kernel_rfl))⟩
  f8 := Tryz.func167.trans (congrArg some (by kernel_rfl))
  f9 := ⟨Tryz.f213.name, by decide, Tryz.func213.trans (congrArg some (by kernel_rfl))⟩
  f19 := Tryz.func230.trans (congrArg some (by kernel_rfl))
  f20 := Tryz.func231.trans (congrArg some (by kernel_rfl))
  f21 := ⟨Tryz.f292.name, by decide, Tryz.func292.trans (congrArg some (by kernel_rfl))⟩
  f22 := ⟨Tryz.f293.name, by decide, Tryz.func293.trans (congrArg some (by kernel_rfl))⟩
  f23 := ⟨Tryz.f294.name, by decide, Tryz.func294.trans (congrArg some (by kernel_rfl))⟩
  f24 := ⟨Tryz.f295.name, by decide, Tryz.func295.trans (congrArg some (by kernel_rfl))⟩
  f25 := ⟨Tryz.f296.name, by decide, Tryz.func296.trans (congrArg some (by kernel_rfl))⟩
  f26 := ⟨Tryz.f297.name, by decide, Tryz.func297.trans (congrArg some (by kernel_rfl))⟩
  f27 := ⟨Tryz.f298.name, by decide, Tryz.func298.trans (congrArg some (by kernel_rfl))⟩
  f28 := ⟨Tryz.f299.name, by decide, Tryz.func299.trans (congrArg some (by kernel_rfl))⟩
  f29 := ⟨Tryz.f300.name, by decide, Tryz.func300.trans (congrArg some (by kernel_rfl))⟩
  f31 := Tryz.func307.trans (congrArg some (by kernel_rfl))
  f32 := Tryz.func308.trans (congrArg some (by kernel_rfl))
  f36 := ⟨Tryz.f365.name, by decide, Tryz.func365.trans (congrArg some (by kernel_rfl))⟩
  f37 := ⟨Tryz.f366.name, by decide, Tryz.func366.trans (congrArg some (by kernel_rfl))⟩
  f38 := ⟨Tryz.f367.name, by decide, Tryz.func367.trans (congrArg some (by kernel_rfl))⟩
  f39 := ⟨Tryz.f368.name, by decide, Tryz.func368.trans (congrArg some (by kernel_rfl))⟩
  f41 := ⟨Tryz.f414.name, by decide, Tryz.func414.trans (congrArg some (by kernel_rfl))⟩
  t0 := Tryz.underlying0
  a0 := Tryz.isAgg0
  z0 := Tryz.sizeOf0
  v0 := Tryz.zeroValue0
  t3 := Tryz.underlying3
  a3 := Tryz.isAgg3
  z3 := Tryz.sizeOf3
  v3 := Tryz.zeroValue3
  t4 := Tryz.underlying4
  a4 := Tryz.isAgg4
  z4 := Tryz.sizeOf4
  v4 := Tryz.zeroValue4
  t5 := Tryz.underlying5
  a5 := Tryz.isAgg5
  z5 := Tryz.sizeOf5
  v5 := Tryz.zeroValue5
  t9 := Tryz.underlying9
  a9 := Tryz.isAgg9
  z9 := Tryz.sizeOf9
  v9 := Tryz.zeroValue9
  t26 := Tryz.underlying179
  a26 := Tryz.isAgg179
  z26 := Tryz.sizeOf179
  v26 := Tryz.zeroValue179
  t27 := Tryz.underlying179
  a27 := Tryz.isAgg179
  z27 := Tryz.sizeOf179
  v27 := Tryz.zeroValue179
  t29 := Tryz.underlying9
  a29 := Tryz.isAgg9
  z29 := Tryz.sizeOf9
  v29 := Tryz.zeroValue9
  t32 := Tryz.underlying319
  a32 := Tryz.isAgg319
  z32 := Tryz.sizeOf319
  v32 := Tryz.zeroValue319
  t35 := Tryz.underlying411
  a35 := Tryz.isAgg411
  z35 := Tryz.sizeOf411
  v35 := Tryz.zeroValue411
  t36 := Tryz.underlying412
  a36 := Tryz.isAgg412
  z36 := Tryz.sizeOf412
  v36 := Tryz.zeroValue412
  t41 := Tryz.underlying87
  a41 := Tryz.isAgg87
  z41 := Tryz.sizeOf87
  v41 := Tryz.zeroValue87
  t44 := Tryz.underlying333
  a44 := Tryz.isAgg333
  z44 := Tryz.sizeOf333
  v44 := Tryz.zeroValue333
  t46 := Tryz.underlying324
  a46 := Tryz.isAgg324
  z46 := Tryz.sizeOf324
  v46 := Tryz.zeroValue324
  t53 := Tryz.underlying486
  a53 := Tryz.isAgg486
  z53 := Tryz.sizeOf486
  v53 := Tryz.zeroValue486
  t57 := Tryz.underlying490
  a57 := Tryz.isAgg490
  z57 := Tryz.sizeOf490
  v57 := Tryz.zeroValue490
  t63 := Tryz.underlying546
  a63 := Tryz.isAgg546
  z63 := Tryz.sizeOf546
  v63 := Tryz.zeroValue546
  t64 := Tryz.underlying145
  a64 := Tryz.isAgg145
  z64 := Tryz.sizeOf145
  v64 := Tryz.zeroValue145 }
def Tryz.sorted41_ren : Go.Shelf.Ren := ⟨fun | 6 => 41 | 8 => 102 | 9 => 103 | 11 => 165 | 13 => 167 | 12 => 166 | 23 => 230 | 24 => 231 | 14 => 221 | 15 => 222 | 16 => 223 | 17 => 224 | 18 => 225 | 19 => 226 | 20 => 227 | 21 => 228 | 22 => 229 | 25 => 306 | 26 => 307 | 27 => 308 | 28 => 309 | 29 => 310 | 30 => 311 | 31 => 378 | n => n, fun | 26 => 3 | 28 => 132 | 24 => 31 | 0 => 0 | 3 => 3 | 37 => 319 | 48 => 333 | 50 => 324 | 4 => 4 | 40 => 412 | 39 => 411 | 45 => 87 | 5 => 5 | 9 => 9 | 51 => 486 | 55 => 490 | 57 => 546 | 58 => 145 | 33 => 208 | n => n, fun | n => n⟩
theorem Tryz.sorted41 : Go.Proofs.SlLaysZI.n6 Tryz.prog Tryz.sorted41_ren := {
  mixed := by kernel_rfl
  f6 := ⟨Tryz.f41.name, by decide, Tryz.func41.trans (congrArg some (by kernel_rfl))⟩
  f8 := ⟨Tryz.f102.name, by decide, Tryz.func102.trans (congrArg some (by kernel_rfl))⟩
  f11 := ⟨Tryz.f165.name, by decide, Tryz.func165.trans (congrArg some (by kernel_rfl))⟩
  t0 := Tryz.underlying0
  a0 := Tryz.isAgg0
  z0 := Tryz.sizeOf0
  v0 := Tryz.zeroValue0
  t24 := Tryz.underlying31
  a24 := Tryz.isAgg31
  z24 := Tryz.sizeOf31
  v24 := Tryz.zeroValue31
  t26 := Tryz.underlying3
  a26 := Tryz.isAgg3
  z26 := Tryz.sizeOf3
  v26 := Tryz.zeroValue3
  t28 := Tryz.underlying132
  a28 := Tryz.isAgg132
  z28 := Tryz.sizeOf132
  v28 := Tryz.zeroValue132
  i26 := by kernel_rfl }
def Tryz.sort103_ren : Go.Shelf.Ren := ⟨fun | 5 => 103 | 8 => 167 | 7 => 166 | 19 => 230 | 20 => 231 | 10 => 221 | 11 => 222 | 12 => 223 | 13 => 224 | 14 => 225 | 15 => 226 | 16 => 227 | 17 => 228 | 18 => 229 | 30 => 306 | 31 => 307 | 32 => 308 | 33 => 309 | 34 => 310 | 35 => 311 | 40 => 378 | n => n, fun | 23 => 31 | 25 => 3 | 3 => 3 | 32 => 319 | 22 => 31 | 0 => 0 | 44 => 333 | 46 => 324 | 4 => 4 | 36 => 412 | 35 => 411 | 41 => 87 | 5 => 5 | 9 => 9 | 53 => 486 | 57 => 490 | 63 => 546 | 64 => 145 | n => n, fun | n => n⟩
theorem Tryz.sort103 : Go.Proofs.SlLaysM.n5 Tryz.prog Tryz.sort103_ren := {
  mixed := by kernel_rfl
  f5 := ⟨Tryz.f103.name, by decide, Tryz.func103.trans (congrArg some (by kernel_rfl))⟩
  f7 := ⟨Tryz.f166.name, by decide, Tryz.func166.trans (congrArg some (by kernel_rfl))⟩
  f8 := Tryz.func167.trans (congrArg some (by kernel_rfl))
  f10 := ⟨Tryz.f221.name, by decide, Tryz.func221.trans (congrArg some (by kernel_rfl))⟩
  f11 := ⟨Tryz.f222.name, by decide, Tryz.func222.trans (congrArg some (by kernel_rfl))⟩
  f12 := ⟨Tryz.f223.name, by decide, Tryz.func223.trans (congrArg some (by kernel_rfl))⟩
  f13 := ⟨Tryz.f224.name, by decide, Tryz.func224.trans (congrArg some (by kernel_rfl))⟩
  f14 := ⟨Tryz.f225.name, by decide, Tryz.func225.trans (congrArg some (by kernel_rfl))⟩
  f15 := ⟨Tryz.f226.name, by decide, Tryz.func226.trans (congrArg some (by kernel_rfl))⟩
  f16 := ⟨Tryz.f227.name, by decide, Tryz.func227.trans (congrArg some (by kernel_rfl))⟩
  f17 := ⟨Tryz.f228.name, by decide, Tryz.func228.trans (congrArg some (by kernel_rfl))⟩
  f18 := ⟨Tryz.f229.name, by decide, Tryz.func229.trans (congrArg some (by kernel_rfl))⟩
  f19 := Tryz.func230.trans (congrArg some (by kernel_rfl))
  f20 := Tryz.func231.trans (congrArg some (by kernel_rfl))
  f30 := ⟨Tryz.f306.name, by decide, Tryz.func306.trans (congrArg some (by kernel_rfl))⟩
  f31 := Tryz.func307.trans (congrArg some (by kernel_rfl))
  f32 := Tryz.func308.trans (congrArg some (by kernel_rfl))
  f33 := ⟨Tryz.f309.name, by decide, Tryz.func309.trans (congrArg some (by kernel_rfl))⟩
  f34 := ⟨Tryz.f310.name, by decide, Tryz.func310.trans (congrArg some (by kernel_rfl))⟩
  f35 := ⟨Tryz.f311.name, by decide, Tryz.func311.trans (congrArg some (by kernel_rfl))⟩
  f40 := ⟨Tryz.f378.name, by decide, Tryz.func378.trans (congrArg some (by kernel_rfl))⟩
  t0 := Tryz.underlying0
  a0 := Tryz.isAgg0
  z0 := Tryz.sizeOf0
  v0 := Tryz.zeroValue0
  t3 := Tryz.underlying3
  a3 := Tryz.isAgg3
  z3 := Tryz.sizeOf3
  v3 := Tryz.zeroValue3
  t4 := Tryz.underlying4
  a4 := Tryz.isAgg4
  z4 := Tryz.sizeOf4
  v4 := Tryz.zeroValue4
  t5 := Tryz.underlying5
  a5 := Tryz.isAgg5
  z5 := Tryz.sizeOf5
  v5 := Tryz.zeroValue5
  t9 := Tryz.underlying9
  a9 := Tryz.isAgg9
  z9 := Tryz.sizeOf9
  v9 := Tryz.zeroValue9
  t22 := Tryz.underlying31
  a22 := Tryz.isAgg31
  z22 := Tryz.sizeOf31
  v22 := Tryz.zeroValue31
  t23 := Tryz.underlying31
  a23 := Tryz.isAgg31
  z23 := Tryz.sizeOf31
  v23 := Tryz.zeroValue31
  t25 := Tryz.underlying3
  a25 := Tryz.isAgg3
  z25 := Tryz.sizeOf3
  v25 := Tryz.zeroValue3
  t32 := Tryz.underlying319
  a32 := Tryz.isAgg319
  z32 := Tryz.sizeOf319
  v32 := Tryz.zeroValue319
  t35 := Tryz.underlying411
  a35 := Tryz.isAgg411
  z35 := Tryz.sizeOf411
  v35 := Tryz.zeroValue411
  t36 := Tryz.underlying412
  a36 := Tryz.isAgg412
  z36 := Tryz.sizeOf412
  v36 := Tryz.zeroValue412
  t41 := Tryz.underlying87
  a41 := Tryz.isAgg87
  z41 := Tryz.sizeOf87
  v41 := Tryz.zeroValue87
  t44 := Tryz.underlying333
  a44 := Tryz.isAgg333
  z44 := Tryz.sizeOf333
  v44 := Tryz.zeroValue333
  t46 := Tryz.underlying324
  a46 := Tryz.isAgg324
  z46 := Tryz.sizeOf324
  v46 := Tryz.zeroValue324
  t53 := Tryz.underlying486
  a53 := Tryz.isAgg486
  z53 := Tryz.sizeOf486
  v53 := Tryz.zeroValue486
  t57 := Tryz.underlying490
  a57 := Tryz.isAgg490
  z57 := Tryz.sizeOf490
  v57 := Tryz.zeroValue490
  t63 := Tryz.underlying546
  a63 := Tryz.isAgg546
  z63 := Tryz.sizeOf546
  v63 := Tryz.zeroValue546
  t64 := Tryz.underlying145
  a64 := Tryz.isAgg145
  z64 := Tryz.sizeOf145
  v64 := Tryz.zeroValue145 }
theorem Tryz.sorts183 (m : Nat) : AnyZ.SortsIn Tryz.prog Tryz.sorted183_ren Fence.wide m :=
  ⟨fun blk off cap ss W hH hblk hsz => callsIn_wide.2 (AnyM.slices_Sort_string Tryz.sort154 blk off cap ss W hH hblk hsz),
   fun p cap W => callsIn_wide.2 (AnyM.slices_Sort_string_none Tryz.sort154 p cap W)⟩
set_option maxHeartbeats 1000000 in
theorem Tryz.keysOne245 (w : World) (Bm b nn : Nat) (D0 : DataW Unit) (R : Value → Option (DataW Unit × List MemPlace)) (hB : Bm < w.heap.size) (hc : w.cell? ⟨Bm, 0, none⟩ = some (.map (some b)))
    (ho : w.ownsMap Tryz.prog 9 R b nn D0) (hs : Maps.size D0 ≤ 1000000) : Calls Tryz.prog 183 #[.func (.func 245) #[] #[.pointer (some ⟨Bm, 0, none⟩)]] w fun e w' => ∃ (v : Value) (ss : List (List UInt8)), e = .returned v ∧ ss.Perm (strKeys D0) ∧
      w'.ownsRow w.heap.size 9 1 v ss.length ((ss.mergeSort leB).map encStr) ∧ (v = .slice none 0 0 ↔ ss = []) ∧ Below w.heap.size w w' := by
  have hseq : SeqGives Fence.wide 2 Tryz.prog 245 #[.pointer (some ⟨Bm, 0, none⟩)] encStr (fun ss => ss.Perm (strKeys D0)) (Maps.size D0) w :=
    AnyZ.keys_gives (ρ := Tryz.keys184_ren) { Tryz.keys184 with } Fence.wide _ trivial rfl (by omega) Bm b nn D0 w hB hc ho
  exact callsIn_wide.1 (AnyZ.sorted_in Tryz.sorted183 Fence.wide 5 trivial trivial trivial trivial rfl (by omega) (Tryz.sorts183 _) (enters_of Tryz.func154 (by kernel_rfl) rfl) 245 #[.pointer (some ⟨Bm, 0, none⟩)] trivial (enters_of Tryz.func245 (by kernel_rfl) rfl) _ _ (by unfold maxLen; omega) (by omega) _ hseq)
set_option maxHeartbeats 1000000 in
theorem Tryz.keysZero245 (w : World) (Bm : Nat) (hB : Bm < w.heap.size) (hc : w.cell? ⟨Bm, 0, none⟩ = some (.map none)) :
    Calls Tryz.prog 183 #[.func (.func 245) #[] #[.pointer (some ⟨Bm, 0, none⟩)]] w fun e w' => ∃ (v : Value) (ss : List (List UInt8)), e = .returned v ∧ ss = [] ∧
      w'.ownsRow w.heap.size 9 1 v ss.length ((ss.mergeSort leB).map encStr) ∧ (v = .slice none 0 0 ↔ ss = []) ∧ Below w.heap.size w w' := by
  have hseq : SeqGives Fence.wide 2 Tryz.prog 245 #[.pointer (some ⟨Bm, 0, none⟩)] encStr (fun ss : List (List UInt8) => ss = []) 0 w :=
    AnyZ.keys_gives_nil (ρ := Tryz.keys184_ren) { Tryz.keys184 with } Fence.wide _ trivial rfl Bm w hB hc
  exact callsIn_wide.1 (AnyZ.sorted_in Tryz.sorted183 Fence.wide 5 trivial trivial trivial trivial rfl (by omega) (Tryz.sorts183 _) (enters_of Tryz.func154 (by kernel_rfl) rfl) 245 #[.pointer (some ⟨Bm, 0, none⟩)] trivial (enters_of Tryz.func245 (by kernel_rfl) rfl) _ 0 (Nat.zero_le _) (by omega) _ hseq)
theorem Tryz.sorted183_is : Sorts Tryz.prog 183 [245] 9 (List UInt8) strKeys leB encStr := by
  constructor
  · intro k hk w Bm b nn D0 R hB hc ho hs
    simp only [List.mem_cons, List.not_mem_nil, or_false] at hk
    subst hk
    · exact Tryz.keysOne245 w Bm b nn D0 R hB hc ho hs
  · intro k hk w Bm hB hc
    simp only [List.mem_cons, List.not_mem_nil, or_false] at hk
    subst hk
    · exact Tryz.keysZero245 w Bm hB hc
theorem Tryz.sorts41 (m : Nat) : AnyZI.SortsIn Tryz.prog Tryz.sorted41_ren Fence.wide m :=
  ⟨fun blk off cap ss W hH hblk hsz => callsIn_wide.2 (AnyM.slices_Sort_int Tryz.sort103 blk off cap ss W hH hblk hsz),
   fun p cap W => callsIn_wide.2 (AnyM.slices_Sort_int_none Tryz.sort103 p cap W)⟩
set_option maxHeartbeats 1000000 in
theorem Tryz.keysOne104 (w : World) (Bm b nn : Nat) (D0 : DataW Unit) (R : Value → Option (DataW Unit × List MemPlace)) (hB : Bm < w.heap.size) (hc : w.cell? ⟨Bm, 0, none⟩ = some (.map (some b)))
    (ho : w.ownsMap Tryz.prog 3 R b nn D0) (hs : Maps.size D0 ≤ 1000000) : Calls Tryz.prog 41 #[.func (.func 104) #[] #[.pointer (some ⟨Bm, 0, none⟩)]] w fun e w' => ∃ (v : Value) (ss : List Int), e = .returned v ∧ ss.Perm (intKeys D0) ∧
      w'.ownsRow w.heap.size 3 1 v ss.length ((ss.mergeSort leI).map encZ) ∧ (v = .slice none 0 0 ↔ ss = []) ∧ Below w.heap.size w w' := by
  have hseq : SeqGives Fence.wide 2 Tryz.prog 104 #[.pointer (some ⟨Bm, 0, none⟩)] encZ (fun ss => ss.Perm (intKeys D0)) (Maps.size D0) w :=
    AnyZI.keys_gives (ρ := Tryz.keys42_ren) { Tryz.keys42 with } Fence.wide _ trivial rfl (by omega) Bm b nn D0 w hB hc ho
  exact callsIn_wide.1 (AnyZI.sorted_in Tryz.sorted41 Fence.wide 5 trivial trivial trivial trivial rfl (by omega) (Tryz.sorts41 _) (enters_of Tryz.func103 (by kernel_rfl) rfl) 104 #[.pointer (some ⟨Bm, 0, none⟩)] trivial (enters_of Tryz.func104 (by kernel_rfl) rfl) _ _ (by unfold maxLen; omega) (by omega) _ hseq)
set_option maxHeartbeats 1000000 in
theorem Tryz.keysZero104 (w : World) (Bm : Nat) (hB : Bm < w.heap.size) (hc : w.cell? ⟨Bm, 0, none⟩ = some (.map none)) :
    Calls Tryz.prog 41 #[.func (.func 104) #[] #[.pointer (some ⟨Bm, 0, none⟩)]] w fun e w' => ∃ (v : Value) (ss : List Int), e = .returned v ∧ ss = [] ∧
      w'.ownsRow w.heap.size 3 1 v ss.length ((ss.mergeSort leI).map encZ) ∧ (v = .slice none 0 0 ↔ ss = []) ∧ Below w.heap.size w w' := by
  have hseq : SeqGives Fence.wide 2 Tryz.prog 104 #[.pointer (some ⟨Bm, 0, none⟩)] encZ (fun ss : List Int => ss = []) 0 w :=
    AnyZI.keys_gives_nil (ρ := Tryz.keys42_ren) { Tryz.keys42 with } Fence.wide _ trivial rfl Bm w hB hc
  exact callsIn_wide.1 (AnyZI.sorted_in Tryz.sorted41 Fence.wide 5 trivial trivial trivial trivial rfl (by omega) (Tryz.sorts41 _) (enters_of Tryz.func103 (by kernel_rfl) rfl) 104 #[.pointer (some ⟨Bm, 0, none⟩)] trivial (enters_of Tryz.func104 (by kernel_rfl) rfl) _ 0 (Nat.zero_le _) (by omega) _ hseq)
set_option maxHeartbeats 1000000 in
theorem Tryz.keysOne431 (w : World) (Bm b nn : Nat) (D0 : DataW Unit) (R : Value → Option (DataW Unit × List MemPlace)) (hB : Bm < w.heap.size) (hc : w.cell? ⟨Bm, 0, none⟩ = some (.map (some b)))
    (ho : w.ownsMap Tryz.prog 3 R b nn D0) (hs : Maps.size D0 ≤ 1000000) : Calls Tryz.prog 41 #[.func (.func 431) #[] #[.pointer (some ⟨Bm, 0, none⟩)]] w fun e w' => ∃ (v : Value) (ss : List Int), e = .returned v ∧ ss.Perm (intKeys D0) ∧
      w'.ownsRow w.heap.size 3 1 v ss.length ((ss.mergeSort leI).map encZ) ∧ (v = .slice none 0 0 ↔ ss = []) ∧ Below w.heap.size w w' := by
  have hseq : SeqGives Fence.wide 2 Tryz.prog 431 #[.pointer (some ⟨Bm, 0, none⟩)] encZ (fun ss => ss.Perm (intKeys D0)) (Maps.size D0) w :=
    AnyZI.keys_gives (ρ := Tryz.keys384_ren) { Tryz.keys384 with } Fence.wide _ trivial rfl (by omega) Bm b nn D0 w hB hc ho
  exact callsIn_wide.1 (AnyZI.sorted_in Tryz.sorted41 Fence.wide 5 trivial trivial trivial trivial rfl (by omega) (Tryz.sorts41 _) (enters_of Tryz.func103 (by kernel_rfl) rfl) 431 #[.pointer (some ⟨Bm, 0, none⟩)] trivial (enters_of Tryz.func431 (by kernel_rfl) rfl) _ _ (by unfold maxLen; omega) (by omega) _ hseq)
set_option maxHeartbeats 1000000 in
theorem Tryz.keysZero431 (w : World) (Bm : Nat) (hB : Bm < w.heap.size) (hc : w.cell? ⟨Bm, 0, none⟩ = some (.map none)) :
    Calls Tryz.prog 41 #[.func (.func 431) #[] #[.pointer (some ⟨Bm, 0, none⟩)]] w fun e w' => ∃ (v : Value) (ss : List Int), e = .returned v ∧ ss = [] ∧
      w'.ownsRow w.heap.size 3 1 v ss.length ((ss.mergeSort leI).map encZ) ∧ (v = .slice none 0 0 ↔ ss = []) ∧ Below w.heap.size w w' := by
  have hseq : SeqGives Fence.wide 2 Tryz.prog 431 #[.pointer (some ⟨Bm, 0, none⟩)] encZ (fun ss : List Int => ss = []) 0 w :=
    AnyZI.keys_gives_nil (ρ := Tryz.keys384_ren) { Tryz.keys384 with } Fence.wide _ trivial rfl Bm w hB hc
  exact callsIn_wide.1 (AnyZI.sorted_in Tryz.sorted41 Fence.wide 5 trivial trivial trivial trivial rfl (by omega) (Tryz.sorts41 _) (enters_of Tryz.func103 (by kernel_rfl) rfl) 431 #[.pointer (some ⟨Bm, 0, none⟩)] trivial (enters_of Tryz.func431 (by kernel_rfl) rfl) _ 0 (Nat.zero_le _) (by omega) _ hseq)
theorem Tryz.sorted41_is : Sorts Tryz.prog 41 [104, 431] 3 Int intKeys leI encZ := by
  constructor
  · intro k hk w Bm b nn D0 R hB hc ho hs
    simp only [List.mem_cons, List.not_mem_nil, or_false] at hk
    rcases hk with rfl | rfl
    · exact Tryz.keysOne104 w Bm b nn D0 R hB hc ho hs
    · exact Tryz.keysOne431 w Bm b nn D0 R hB hc ho hs
  · intro k hk w Bm hB hc
    simp only [List.mem_cons, List.not_mem_nil, or_false] at hk
    rcases hk with rfl | rfl
    · exact Tryz.keysZero104 w Bm hB hc
    · exact Tryz.keysZero431 w Bm hB hc
noncomputable def Tt : Tab := Tab.of Tryz.prog
/-- What is known of functions. -/
noncomputable def Xk : PM ConF := (PM.set (PM.set PM.leaf 183 (strC Tt [245] 9)) 41 (intC Tt [104, 431] 3))
theorem xk_ok : ConOk Tryz.prog Xk := by
  intro f g hg
  unfold Xk at hg
  simp only [PM.set_get] at hg
  by_cases e1 : f = 41
  · rw [if_pos e1] at hg
    cases hg
    subst e1
    exact intC_ok (tabOk Tryz.prog) Tryz.sorted41_is (by kernel_rfl) Tryz.underlying3
  rw [if_neg e1] at hg
  by_cases e2 : f = 183
  · rw [if_pos e2] at hg
    cases hg
    subst e2
    exact strC_ok (tabOk Tryz.prog) Tryz.sorted183_is (by kernel_rfl) Tryz.underlying9
  rw [if_neg e2] at hg
  cases hg
end Go.Proofs.YtgambdjpncpdaaaGreatDoor
