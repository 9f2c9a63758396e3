/-
  The replacer that cleans texts, as it is built: run by the kernel.
  No conditions.
-/
import Derived.Test.YtfijncpmhnnpiaaGreatDoorO1
import Derived.Test.YtfijncpmhnnpiaaGreatDoorCfg
import Derived.Test.YtfijncpmhnnpiaaGreatDoorClW
set_option linter.unusedVariables false
set_option linter.unusedSimpArgs false
namespace Go.Proofs.YtfijncpmhnnpiaaGreatDoor
open Go Go.Aw
set_option maxRecDepth 1000000
variable [MaxL]
/-- What the replacer's tables hold. -/
def mapN : List Nat := [0, 4, 4, 4, 4, 4, 4, 4, 4, 4, 1, 4, 2, 3, 4, 4, 4, 4, 4, 4, 4, 4, 4, 4, 4, 4, 4, 4, 4, 4, 4, 4, 4, 4, 4, 4, 4, 4, 4, 4, 4, 4, 4, 4, 4, 4, 4, 4, 4, 4, 4, 4, 4, 4, 4, 4, 4, 4, 4, 4, 4, 4, 4, 4, 4, 4, 4, 4, 4, 4, 4, 4, 4, 4, 4, 4, 4, 4, 4, 4, 4, 4, 4, 4, 4, 4, 4, 4, 4, 4, 4, 4, 4, 4, 4, 4, 4, 4, 4, 4, 4, 4, 4, 4, 4, 4, 4, 4, 4, 4, 4, 4, 4, 4, 4, 4, 4, 4, 4, 4, 4, 4, 4, 4, 4, 4, 4, 4, 4, 4, 4, 4, 4, 4, 4, 4, 4, 4, 4, 4, 4, 4, 4, 4, 4, 4, 4, 4, 4, 4, 4, 4, 4, 4, 4, 4, 4, 4, 4, 4, 4, 4, 4, 4, 4, 4, 4, 4, 4, 4, 4, 4, 4, 4, 4, 4, 4, 4, 4, 4, 4, 4, 4, 4, 4, 4, 4, 4, 4, 4, 4, 4, 4, 4, 4, 4, 4, 4, 4, 4, 4, 4, 4, 4, 4, 4, 4, 4, 4, 4, 4, 4, 4, 4, 4, 4, 4, 4, 4, 4, 4, 4, 4, 4, 4, 4, 4, 4, 4, 4, 4, 4, 4, 4, 4, 4, 4, 4, 4, 4, 4, 4, 4, 4, 4, 4, 4, 4, 4, 4, 4, 4, 4, 4, 4, 4]
def rb : List AV := .str [] :: int 0 :: .str [] :: .v (.pointer none) :: .own 4 0 4 1 :: int 4 :: mapN.map fun n => .v (.int .u8 (Int.ofNat n))
def tb : List AV := [.op 8 0, .v (.pointer none), .op 7 0, .op 5 0]
def e0 : Ent := .blk ⟨9, [.str [13, 10], .str [10], .str [13], .str [10], .str [12], .str [10], .str [0], .str [239, 191, 189]], true⟩
def e1 : Ent := .tok 9 1 8
def rpl (once mu : Int) (r s : AV) : Blk := ⟨111, [.v (.int .u32 once), .v (.int .i32 mu), .v (.int .u32 0), r, s], true⟩
def keys : AV := .sb 1 1 [[.str [13, 10]], [.str [10]], [.str [13]], [.str [10]], [.str [12]], [.str [10]], [.str [0]], [.str [239, 191, 189]]]
def tail5 : Heap := [.blk ⟨175, [.str [10], int 6, .str [10], .op 6 0, .v (.slice none 0 0)], true⟩, .blk ⟨175, [.str [10], int 8, .str [], .v (.pointer none), .v (.slice none 0 0)], true⟩, .blk ⟨175, [.str [10], int 4, .str [], .v (.pointer none), .v (.slice none 0 0)], true⟩, .blk ⟨175, [.str [239, 191, 189], int 2, .str [], .v (.pointer none), .v (.slice none 0 0)], true⟩]
def Hb (mu : Int) : Heap := [e0, e1, .blk (rpl 0 mu (.v .nilIface) keys)]
def Ha (once mu : Int) : Heap := e0 :: e1 :: .blk (rpl once mu (.ifc 148 (.op 3 0)) (.v (.slice none 0 0))) :: .blk ⟨177, rb, true⟩ :: .blk ⟨172, tb, true⟩ :: tail5
section
variable [Laid]
def known0 : CallF := fun _ _ _ => none
omit [MaxL] in
theorem known0_ok : CallOK Tryz.prog known0 := fun _ _ _ _ _ e => by cases e
end
theorem run86 : callD Tryz.prog cfg known0 30 37 [] [] = some (.op 2 0, some (Hb 0)) := by kernel_rfl
theorem run127 : callD Tryz.prog cfg known0 30 63 [.op 2 0] (Hb 1) = some (.tup [], some (Ha 0 1)) := by kernel_rfl
end Go.Proofs.YtfijncpmhnnpiaaGreatDoor
