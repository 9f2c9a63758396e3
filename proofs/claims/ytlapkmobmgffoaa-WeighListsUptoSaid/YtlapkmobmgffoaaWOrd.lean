/-
  What functions of the translation ask, held against their code by the kernel. Printed by a program.
  No conditions.
-/
import Derived.Test.YtlapkmobmgffoaaL2
import Derived.Test.YtlapkmobmgffoaaProg
import Derived.KernelRfl
set_option linter.unusedVariables false
set_option linter.unusedSimpArgs false
namespace Go.Proofs.Ytlapkmobmgffoaa
open Go Go.Aw
set_option maxRecDepth 1000000
variable [Laid]

/-- vitrine/weigh.compare (a, b) -/
def W27 (x0 x1 : AV) (h : Heap) (K : AV → Heap → Prop) : Prop :=
  iNew 31 x0 h fun v1 g2 => iNew 31 x1 g2 fun v3 g4 => iSlA 3 1 v1 none none g4 fun v5 => iSlA 3 1 v3 none none g4 fun v6 => iCallQ Try.prog (.fn (.func 35) [] []) [v5, v6] g4 fun v7 => K v7 g4
noncomputable def c27 : Code := (Try.f27.body).getD .skip
theorem V27 (x0 x1 : AV) : Body Try.prog 27 [x0, x1] (W27 x0 x1) := ⟨c27, (.seq .nil (.seq (.draw 4 [.op 0 false, .op 1 false, .op 2 false, .op 3 false] [] []) .nil)), 8, [.tmp 4], ⟨Try.f27, Try.func27, rfl, by kernel_rfl, by kernel_rfl, by kernel_rfl⟩, by simp, fun h K => by kernel_rfl⟩

/-- vitrine/weigh.add (w, by) -/
def W33 (x0 x1 : AV) (h : Heap) (K : AV → Heap → Prop) : Prop :=
  iNew 31 x1 h fun v1 g2 => iLoop [(int 0)] g2 fun N3 s4 g5 =>
  /- - -/ iBin .lss (nx s4 0) (int 3) fun v6 => iCond v6 (iNilF Try.prog x0 fun v7 => iIdxQ 3 1 v7 (nx s4 0) fun v8 => iLoad false 1 v8 g5 fun v9 => iIdxQ 3 1 v1 (nx s4 0) fun v10 => iLoad false 1 v10 g5 fun v11 => iBin .add v9 v11 fun v12 => iNilF Try.prog x0 fun v13 => iIdxQ 3 1 v13 (nx s4 0) fun v14 => iStore 1 v14 v12 g5 fun g15 => iBin .add (nx s4 0) (int 1) fun v16 => [x0, v1] = [x0, v1] ∧ N3 [v16] g15) (K (.tup []) g5)
noncomputable def c33 : Code := (Try.f33.body).getD .skip
theorem V33 (x0 x1 : AV) : Body Try.prog 33 [x0, x1] (W33 x0 x1) := ⟨c33, (.seq .nil (.seq .nil (.one (.loop [0, 3] [5] (.seq .nil (.seq .nil (.seq (.one (.seq .nil (.draw 11 [.op 0 false, .op 1 false, .op 2 false, .op 3 false, .op 4 false, .op 5 false, .op 6 false, .op 7 false, .op 8 false, .op 9 false, .op 10 false] [.op 11 false] []))) .nil))))))), 20, [], ⟨Try.f33, Try.func33, rfl, by kernel_rfl, by kernel_rfl, by kernel_rfl⟩, by simp, fun h K => by kernel_rfl⟩

/-- slices.Compare[[]int,int] (s1, s2) -/
def W35 (x0 x1 : AV) (h : Heap) (K : AV → Heap → Prop) : Prop :=
  iLen x0 fun v1 => iLoop [(int 0)] h fun N2 s3 g4 =>
  /- - -/ iBin .lss (nx s3 0) v1 fun v5 => iCond v5 (iIdxP 1 x0 (nx s3 0) fun v6 => iLoad false 1 v6 g4 fun v7 => iLen x1 fun v8 => iBin .geq (nx s3 0) v8 fun v9 => iCond v9 (K (int 1) g4) (iIdxP 1 x1 (nx s3 0) fun v10 => iLoad false 1 v10 g4 fun v11 => iCall Try.prog (.fn (.func 40) [] []) [v7, v11] g4 fun v12 g13 => iBin .neq v12 (int 0) fun v14 => iCond v14 (K v12 g13) (iBin .add (nx s3 0) (int 1) fun v15 => [x0, x1, x0, v1] = [x0, x1, x0, v1] ∧ N2 [v15] g13))) (iLen x0 fun v16 => iLen x1 fun v17 => iBin .lss v16 v17 fun v18 => iCond v18 (K (int (-1)) g4) (K (int 0) g4))
noncomputable def c35 : Code := (Try.f35.body).getD .skip
theorem V35 (x0 x1 : AV) : Body Try.prog 35 [x0, x1] (W35 x0 x1) := ⟨c35, (.seq .nil (.seq (.seq .nil (.one (.loop [0, 1, 9, 10] [11] .nil))) .nil)), 36, [.tmp 4], ⟨Try.f35, Try.func35, rfl, by kernel_rfl, by kernel_rfl, by kernel_rfl⟩, by simp, fun h K => by kernel_rfl⟩

/-- cmp.Compare[int] (x, y) -/
def W40 (x0 x1 : AV) (h : Heap) (K : AV → Heap → Prop) : Prop :=
  iCall Try.prog (.fn (.func 50) [] []) [x0] h fun v1 g2 => iCall Try.prog (.fn (.func 50) [] []) [x1] g2 fun v3 g4 => iCond v1 (iCond v3 (K (int 0) g4) (K (int (-1)) g4)) (iCond v3 (K (int 1) g4) (iBin .lss x0 x1 fun v5 => iCond v5 (K (int (-1)) g4) (iBin .gtr x0 x1 fun v6 => iCond v6 (K (int 1) g4) (K (int 0) g4))))
noncomputable def c40 : Code := (Try.f40.body).getD .skip
theorem V40 (x0 x1 : AV) : Body Try.prog 40 [x0, x1] (W40 x0 x1) := ⟨c40, .nil, 20, [.tmp 4], ⟨Try.f40, Try.func40, rfl, by kernel_rfl, by kernel_rfl, by kernel_rfl⟩, by simp, fun h K => by kernel_rfl⟩

/-- cmp.isNaN[int] (x) -/
def W50 (x0 : AV) (h : Heap) (K : AV → Heap → Prop) : Prop :=
  iBin .neq x0 x0 fun v1 => K v1 h
noncomputable def c50 : Code := (Try.f50.body).getD .skip
theorem V50 (x0 : AV) : Body Try.prog 50 [x0] (W50 x0) := ⟨c50, .nil, 6, [.tmp 2], ⟨Try.f50, Try.func50, rfl, by kernel_rfl, by kernel_rfl, by kernel_rfl⟩, by simp, fun h K => by kernel_rfl⟩
end Go.Proofs.Ytlapkmobmgffoaa
