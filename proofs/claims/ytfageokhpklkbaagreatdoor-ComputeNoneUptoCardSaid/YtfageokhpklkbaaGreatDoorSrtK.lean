/-
 A map's keys,sorted: the library's contract,laid at this translation.
 No conditions: contracts.
-/
import Derived.Test.YtfageokhpklkbaaGreatDoorSrtO
import Derived.Test.YtfageokhpklkbaaGreatDoorTab
import Derived.Shelf.SlIter.Sorted
import Derived.Shelf.SlIter.Collect
import Derived.Shelf.SortM.Plain
import Derived.Shelf.SortM.SortNone
import Derived.Ground.GgzProg
import Derived.Ground.SlgmProg
set_option linter.unusedVariables false
set_option linter.unusedSimpArgs false
namespace Go.Proofs.YtfageokhpklkbaaGreatDoor
open Go Go.RowKit Go.Maps Go.Sort Go.Shelf Go.Aw
def L.keysA_ren : Go.Shelf.Ren := ⟨fun | 7 => 73 | 10 => 114 | n => n, fun | 23 => 143 | 26 => 9 | 3 => 4 | 28 => 147 | 0 => 0 | 27 => 146 | 33 => 144 | 4 => 4 | n => n, fun | n => n⟩
theorem L.keysA : Go.Proofs.SlLaysZ.n7 Tryz.prog L.keysA_ren := {
  mixed := by kernel_rfl
  f7 := ⟨Tryz.f73.name, by decide, Tryz.func73.trans (congrArg some (by kernel_rfl))⟩
  f10 := ⟨Tryz.f114.name, by decide, Tryz.func114.trans (congrArg some (by kernel_rfl))⟩
  t0 := Tryz.underlying0
  a0 := Tryz.isAgg0
  z0 := Tryz.sizeOf0
  v0 := Tryz.zeroValue0
  t4 := Tryz.underlying4
  a4 := Tryz.isAgg4
  z4 := Tryz.sizeOf4
  v4 := Tryz.zeroValue4
  t23 := Tryz.underlying143
  a23 := Tryz.isAgg143
  z23 := Tryz.sizeOf143
  v23 := Tryz.zeroValue143
  t26 := Tryz.underlying9
  a26 := Tryz.isAgg9
  z26 := Tryz.sizeOf9
  v26 := Tryz.zeroValue9
  t27 := Tryz.underlying146
  a27 := Tryz.isAgg146
  z27 := Tryz.sizeOf146
  v27 := Tryz.zeroValue146
  t28 := Tryz.underlying147
  a28 := Tryz.isAgg147
  z28 := Tryz.sizeOf147
  v28 := Tryz.zeroValue147
  t33 := Tryz.underlying144
  a33 := Tryz.isAgg144
  z33 := Tryz.sizeOf144
  v33 := Tryz.zeroValue144 }
def L.sortedA_ren : Go.Shelf.Ren := ⟨fun | 6 => 72 | 8 => 112 | 9 => 113 | 11 => 154 | 13 => 156 | 12 => 155 | 23 => 201 | 24 => 202 | 14 => 192 | 15 => 193 | 16 => 194 | 17 => 195 | 18 => 196 | 19 => 197 | 20 => 198 | 21 => 199 | 22 => 200 | 25 => 237 | 26 => 238 | 27 => 239 | 28 => 240 | 29 => 241 | 30 => 242 | 31 => 265 | n => n, fun | 26 => 9 | 28 => 147 | 24 => 39 | 0 => 0 | 3 => 3 | 37 => 263 | 48 => 225 | 50 => 218 | 4 => 4 | 40 => 311 | 39 => 310 | 45 => 315 | 5 => 5 | 9 => 9 | 51 => 337 | 55 => 341 | 57 => 354 | 58 => 253 | 33 => 144 | n => n, fun | n => n⟩
theorem L.sortedA : Go.Proofs.SlLaysZ.n6 Tryz.prog L.sortedA_ren := {
  mixed := by kernel_rfl
  f6 := ⟨Tryz.f72.name, by decide, Tryz.func72.trans (congrArg some (by kernel_rfl))⟩
  f8 := ⟨Tryz.f112.name, by decide, Tryz.func112.trans (congrArg some (by kernel_rfl))⟩
  f11 := ⟨Tryz.f154.name, by decide, Tryz.func154.trans (congrArg some (by kernel_rfl))⟩
  t0 := Tryz.underlying0
  a0 := Tryz.isAgg0
  z0 := Tryz.sizeOf0
  v0 := Tryz.zeroValue0
  t24 := Tryz.underlying39
  a24 := Tryz.isAgg39
  z24 := Tryz.sizeOf39
  v24 := Tryz.zeroValue39
  t26 := Tryz.underlying9
  a26 := Tryz.isAgg9
  z26 := Tryz.sizeOf9
  v26 := Tryz.zeroValue9
  t28 := Tryz.underlying147
  a28 := Tryz.isAgg147
  z28 := Tryz.sizeOf147
  v28 := Tryz.zeroValue147
  i26 := by kernel_rfl }
def L.sortA_ren : Go.Shelf.Ren := ⟨fun | 6 => 113 | 8 => 156 | 9 => 155 | 19 => 201 | 20 => 202 | 21 => 192 | 22 => 193 | 23 => 194 | 24 => 195 | 25 => 196 | 26 => 197 | 27 => 198 | 28 => 199 | 29 => 200 | 36 => 237 | 31 => 238 | 32 => 239 | 37 => 240 | 38 => 241 | 39 => 242 | 41 => 265 | n => n, fun | 27 => 39 | 29 => 9 | 3 => 3 | 32 => 263 | 26 => 39 | 0 => 0 | 44 => 225 | 46 => 218 | 4 => 4 | 36 => 311 | 35 => 310 | 41 => 315 | 5 => 5 | 9 => 9 | 53 => 337 | 57 => 341 | 63 => 354 | 64 => 253 | n => n, fun | n => n⟩
theorem L.sortA : Go.Proofs.SlLaysM.n6 Tryz.prog L.sortA_ren := {
  mixed := by kernel_rfl
  f6 := ⟨Tryz.f113.name, by decide, Tryz.func113.trans (congrArg some (by kernel_rfl))⟩
  f8 := Tryz.func156.trans (congrArg some (by kernel_rfl))
  f9 := ⟨Tryz.f155.name, by decide, Tryz.func155.trans (congrArg some (by kernel_rfl))⟩
  f19 := Tryz.func201.trans (congrArg some (by kernel_rfl))
  f20 := Tryz.func202.trans (congrArg some (by kernel_rfl))
  f21 := ⟨Tryz.f192.name, by decide, Tryz.func192.trans (congrArg some (by kernel_rfl))⟩
  f22 := ⟨Tryz.f193.name, by decide, Tryz.func193.trans (congrArg some (by kernel_rfl))⟩
  f23 := ⟨Tryz.f194.name, by decide, Tryz.func194.trans (congrArg some (by kernel_rfl))⟩
  f24 := ⟨Tryz.f195.name, by decide, Tryz.func195.trans (congrArg some (by kernel_rfl))⟩
  f25 := ⟨Tryz.f196.name, by decide, Tryz.func196.trans (congrArg some (by kernel_rfl))⟩
  f26 := ⟨Tryz.f197.name, by decide, Tryz.func197.trans (congrArg some (by kernel_rfl))⟩
  f27 := ⟨Tryz.f198.name, by decide, Tryz.func198.trans (congrArg some (by kernel_rfl))⟩
  f28 := ⟨Tryz.f199.name, by decide, Tryz.func199.trans (congrArg some (by kernel_rfl))⟩
  f29 := ⟨Tryz.f200.name, by decide, Tryz.func200.trans (congrArg some (by kernel_rfl))⟩
  f31 := Tryz.func238.trans (congrArg some (by kernel_rfl))
  f32 := Tryz.func239.trans (congrArg some (by kernel_rfl))
  f36 := ⟨Tryz.f237.name, by decide, Tryz.func237.trans (congrArg some (by kernel_rfl))⟩
  f37 := ⟨Tryz.f240.name, by decide, Tryz.func240.trans (congrArg some (by kernel_rfl))⟩
  f38 := ⟨Tryz.f241.name, by decide, Tryz.func241.trans (congrArg some (by kernel_rfl))⟩
  f39 := ⟨Tryz.f242.name, by decide, Tryz.func242.trans (congrArg some (by kernel_rfl))⟩
  f41 := ⟨Tryz.f265.name, by decide, Tryz.func265.trans (congrArg some (by kernel_rfl))⟩
  t0 := Tryz.underlying0
  a0 := Tryz.isAgg0
  z0 := Tryz.sizeOf0
  v0 := Tryz.zeroValue0
  t3 := Tryz.underlying3
  a3 := Tryz.isAgg3
  z3 := Tryz.sizeOf3
  v3 := Tryz.zeroValue3
  t4 := Tryz.underlying4
  a4 := Tryz.isAgg4
  z4 := Tryz.sizeOf4
  v4 := Tryz.zeroValue4
  t5 := Tryz.underlying5
  a5 := Tryz.isAgg5
  z5 := Tryz.sizeOf5
  v5 := Tryz.zeroValue5
  t9 := Tryz.underlying9
  a9 := Tryz.isAgg9
  z9 := Tryz.sizeOf9
  v9 := Tryz.zeroValue9
  t26 := Tryz.underlying39
  a26 := Tryz.isAgg39
  z26 := Tryz.sizeOf39
  v26 := Tryz.zeroValue39
  t27 := Tryz.underlying39
  a27 := Tryz.isAgg39
  z27 := Tryz.sizeOf39
  v27 := Tryz.zeroValue39
  t29 := Tryz.underlying9
  a29 := Tryz.isAgg9
  z29 := Tryz.sizeOf9
  v29 := Tryz.zeroValue9
  t32 := Tryz.underlying263
  a32 := Tryz.isAgg263
  z32 := Tryz.sizeOf263
  v32 := Tryz.zeroValue263
  t35 := Tryz.underlying310
  a35 := Tryz.isAgg310
  z35 := Tryz.sizeOf310
  v35 := Tryz.zeroValue310
  t36 := Tryz.underlying311
  a36 := Tryz.isAgg311
  z36 := Tryz.sizeOf311
  v36 := Tryz.zeroValue311
  t41 := Tryz.underlying315
  a41 := Tryz.isAgg315
  z41 := Tryz.sizeOf315
  v41 := Tryz.zeroValue315
  t44 := Tryz.underlying225
  a44 := Tryz.isAgg225
  z44 := Tryz.sizeOf225
  v44 := Tryz.zeroValue225
  t46 := Tryz.underlying218
  a46 := Tryz.isAgg218
  z46 := Tryz.sizeOf218
  v46 := Tryz.zeroValue218
  t53 := Tryz.underlying337
  a53 := Tryz.isAgg337
  z53 := Tryz.sizeOf337
  v53 := Tryz.zeroValue337
  t57 := Tryz.underlying341
  a57 := Tryz.isAgg341
  z57 := Tryz.sizeOf341
  v57 := Tryz.zeroValue341
  t63 := Tryz.underlying354
  a63 := Tryz.isAgg354
  z63 := Tryz.sizeOf354
  v63 := Tryz.zeroValue354
  t64 := Tryz.underlying253
  a64 := Tryz.isAgg253
  z64 := Tryz.sizeOf253
  v64 := Tryz.zeroValue253 }
theorem Mm (m : Nat) : AnyZ.SortsIn Tryz.prog L.sortedA_ren Fence.wide m :=
 ⟨fun blk off cap ss W hH hblk hsz=>callsIn_wide.2 (AnyM.slices_Sort_string L.sortA blk off cap ss W hH hblk hsz),
  fun p cap W=>callsIn_wide.2 (AnyM.slices_Sort_string_none L.sortA p cap W)⟩
theorem O9 (Bm b nn : Nat) (D0 : DataW Unit) (w : World) (h1 : Bm < w.heap.size) (h2 : w.cell? ⟨Bm,0,none⟩ = some (.map (some b))) (h3 : w.ownsMap Tryz.prog 9 l9 b nn D0) (hmax : Maps.size D0 ≤ maxLen) (hbytes : Maps.size D0 * 16 ≤ 140737488355328) :
 Calls Tryz.prog 72 #[.func (.func 114) #[] #[.pointer (some ⟨Bm,0,none⟩)]] w fun e w' => ∃ (v : Value) (ss : List (List UInt8)),e = .returned v ∧ ss.Perm (strKeys D0) ∧
  w'.ownsRow w.heap.size 9 1 v ss.length ((ss.mergeSort leB).map encStr) ∧ (v = .slice none 0 0 ↔ ss = []) ∧ Below w.heap.size w w':=by
 have hseq : SeqGives Fence.wide 2 Tryz.prog 114 #[.pointer (some ⟨Bm,0,none⟩)] encStr (fun ss=>ss.Perm (strKeys D0)) (Maps.size D0) w :=
  AnyZ.keys_gives (ρ:=L.keysA_ren) { L.keysA with } Fence.wide _ trivial rfl (by omega) Bm b nn D0 w h1 h2 h3
 have cS:=AnyZ.sorted_in L.sortedA Fence.wide 5 trivial trivial trivial trivial rfl (by omega) (Mm _) (enters_of Tryz.func113 (by kernel_rfl) rfl) 114 #[.pointer (some ⟨Bm,0,none⟩)] trivial (enters_of Tryz.func114 (by kernel_rfl) rfl) _ _ hmax hbytes _ hseq
 exact (callsIn_wide (n:=5)).1 cS
theorem yC {id mid c : Nat} {h : aa} {x : Blk} {es : List (Nat × AV × AV)} {r : AV} (hid : h[id]? = some (.blk x)) (hx : x.cells[0]? = some (.mp mid)) (hmid : h[mid]? = some (.mp c es)) (hr : qD c es = some r) :
 ct Tryz.prog 72 [.fn (.func 114) [] [.op id 0]] h fun r' hh=>r' = r ∧ hh = h :=
 HE Tryz.underlying9 O9 hid hx hmid hr
end Go.Proofs.YtfageokhpklkbaaGreatDoor

