/-
  What functions of the translation ask, held against their code by the kernel. Printed by a program.
  No conditions.
-/
import Derived.Test.YtdngilegbpgjgaaGreatDoorL2
import Derived.Test.YtdngilegbpgjgaaGreatDoorProg
import Derived.KernelRfl
set_option linter.unusedVariables false
set_option linter.unusedSimpArgs false
namespace Go.Proofs.YtdngilegbpgjgaaGreatDoor
open Go Go.Aw
set_option maxRecDepth 1000000
variable [Laid]

/-- vitrine/vitrinelaw24.long (n) -/
def W12 (x0 : AV) (h : Heap) (K : AV → Heap → Prop) : Prop :=
  iMake 5 1 1 (u8 0) x0 x0 h fun v1 g2 => iLoop [(int 0)] g2 fun N3 s4 g5 =>
  /- i -/ iBin .lss (nx s4 0) x0 fun v6 => iCond v6 (iIdxP 1 v1 (nx s4 0) fun v7 => iStore 1 v7 (u8 120) g5 fun g8 => iBin .add (nx s4 0) (int 1) fun v9 => [x0, v1] = [x0, v1] ∧ N3 [v9] g8) (iOfBytes v1 g5 fun v10 => K v10 g5)
noncomputable def c12 : Code := (Tryz.f12.body).getD .skip
theorem V12 (x0 : AV) : Body Tryz.prog 12 [x0] (W12 x0) := ⟨c12, (.seq .nil (.seq .nil (.seq (.seq .nil (.one (.loop [0, 3] [4] .nil))) .nil))), 17, [.tmp 2], ⟨Tryz.f12, Tryz.func12, rfl, by kernel_rfl, by kernel_rfl, by kernel_rfl⟩, by simp, fun h K => by kernel_rfl⟩
end Go.Proofs.YtdngilegbpgjgaaGreatDoor
