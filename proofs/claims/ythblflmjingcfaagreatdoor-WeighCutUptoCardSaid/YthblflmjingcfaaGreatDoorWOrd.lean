/-
  What functions of the translation ask, held against their code by the kernel. Printed by a program.
  No conditions.
-/
import Derived.Test.YthblflmjingcfaaGreatDoorL2
import Derived.Test.YthblflmjingcfaaGreatDoorProg
import Derived.KernelRfl
set_option linter.unusedVariables false
set_option linter.unusedSimpArgs false
namespace Go.Proofs.YthblflmjingcfaaGreatDoor
open Go Go.Aw
set_option maxRecDepth 1000000
variable [Laid]

/-- vitrine/weigh.compare (a, b) -/
def W49 (x0 x1 : AV) (h : Heap) (K : AV → Heap → Prop) : Prop :=
  iNew 44 x0 h fun v1 g2 => iNew 44 x1 g2 fun v3 g4 => iSlA 3 1 v1 none none g4 fun v5 => iSlA 3 1 v3 none none g4 fun v6 => iCallQ Tryz.prog (.fn (.func 67) [] []) [v5, v6] g4 fun v7 => K v7 g4
noncomputable def c49 : Code := (Tryz.f49.body).getD .skip
theorem V49 (x0 x1 : AV) : Body Tryz.prog 49 [x0, x1] (W49 x0 x1) := ⟨c49, (.seq .nil (.seq (.draw 4 [.op 0 false, .op 1 false, .op 2 false, .op 3 false] [] []) .nil)), 8, [.tmp 4], ⟨Tryz.f49, Tryz.func49, rfl, by kernel_rfl, by kernel_rfl, by kernel_rfl⟩, by simp, fun h K => by kernel_rfl⟩

/-- vitrine/weigh.add (w, by) -/
def W30 (x0 x1 : AV) (h : Heap) (K : AV → Heap → Prop) : Prop :=
  iNew 44 x1 h fun v1 g2 => iLoop [(int 0)] g2 fun N3 s4 g5 =>
  /- - -/ iBin .lss (nx s4 0) (int 3) fun v6 => iCond v6 (iNilF Tryz.prog x0 fun v7 => iIdxQ 3 1 v7 (nx s4 0) fun v8 => iLoad false 1 v8 g5 fun v9 => iIdxQ 3 1 v1 (nx s4 0) fun v10 => iLoad false 1 v10 g5 fun v11 => iBin .add v9 v11 fun v12 => iNilF Tryz.prog x0 fun v13 => iIdxQ 3 1 v13 (nx s4 0) fun v14 => iStore 1 v14 v12 g5 fun g15 => iBin .add (nx s4 0) (int 1) fun v16 => [x0, v1] = [x0, v1] ∧ N3 [v16] g15) (K (.tup []) g5)
noncomputable def c30 : Code := (Tryz.f30.body).getD .skip
theorem V30 (x0 x1 : AV) : Body Tryz.prog 30 [x0, x1] (W30 x0 x1) := ⟨c30, (.seq .nil (.seq .nil (.one (.loop [0, 3] [5] (.seq .nil (.seq .nil (.seq (.one (.seq .nil (.draw 11 [.op 0 false, .op 1 false, .op 2 false, .op 3 false, .op 4 false, .op 5 false, .op 6 false, .op 7 false, .op 8 false, .op 9 false, .op 10 false] [.op 11 false] []))) .nil))))))), 20, [], ⟨Tryz.f30, Tryz.func30, rfl, by kernel_rfl, by kernel_rfl, by kernel_rfl⟩, by simp, fun h K => by kernel_rfl⟩

/-- slices.Compare[[]int,int] (s1, s2) -/
def W67 (x0 x1 : AV) (h : Heap) (K : AV → Heap → Prop) : Prop :=
  iLen x0 fun v1 => iLoop [(int 0)] h fun N2 s3 g4 =>
  /- - -/ iBin .lss (nx s3 0) v1 fun v5 => iCond v5 (iIdxP 1 x0 (nx s3 0) fun v6 => iLoad false 1 v6 g4 fun v7 => iLen x1 fun v8 => iBin .geq (nx s3 0) v8 fun v9 => iCond v9 (K (int 1) g4) (iIdxP 1 x1 (nx s3 0) fun v10 => iLoad false 1 v10 g4 fun v11 => iCall Tryz.prog (.fn (.func 93) [] []) [v7, v11] g4 fun v12 g13 => iBin .neq v12 (int 0) fun v14 => iCond v14 (K v12 g13) (iBin .add (nx s3 0) (int 1) fun v15 => [x0, x1, x0, v1] = [x0, x1, x0, v1] ∧ N2 [v15] g13))) (iLen x0 fun v16 => iLen x1 fun v17 => iBin .lss v16 v17 fun v18 => iCond v18 (K (int (-1)) g4) (K (int 0) g4))
noncomputable def c67 : Code := (Tryz.f67.body).getD .skip
theorem V67 (x0 x1 : AV) : Body Tryz.prog 67 [x0, x1] (W67 x0 x1) := ⟨c67, (.seq .nil (.seq (.seq .nil (.one (.loop [0, 1, 9, 10] [11] .nil))) .nil)), 36, [.tmp 4], ⟨Tryz.f67, Tryz.func67, rfl, by kernel_rfl, by kernel_rfl, by kernel_rfl⟩, by simp, fun h K => by kernel_rfl⟩

/-- cmp.Compare[int] (x, y) -/
def W93 (x0 x1 : AV) (h : Heap) (K : AV → Heap → Prop) : Prop :=
  iCall Tryz.prog (.fn (.func 121) [] []) [x0] h fun v1 g2 => iCall Tryz.prog (.fn (.func 121) [] []) [x1] g2 fun v3 g4 => iCond v1 (iCond v3 (K (int 0) g4) (K (int (-1)) g4)) (iCond v3 (K (int 1) g4) (iBin .lss x0 x1 fun v5 => iCond v5 (K (int (-1)) g4) (iBin .gtr x0 x1 fun v6 => iCond v6 (K (int 1) g4) (K (int 0) g4))))
noncomputable def c93 : Code := (Tryz.f93.body).getD .skip
theorem V93 (x0 x1 : AV) : Body Tryz.prog 93 [x0, x1] (W93 x0 x1) := ⟨c93, .nil, 20, [.tmp 4], ⟨Tryz.f93, Tryz.func93, rfl, by kernel_rfl, by kernel_rfl, by kernel_rfl⟩, by simp, fun h K => by kernel_rfl⟩

/-- cmp.isNaN[int] (x) -/
def W121 (x0 : AV) (h : Heap) (K : AV → Heap → Prop) : Prop :=
  iBin .neq x0 x0 fun v1 => K v1 h
noncomputable def c121 : Code := (Tryz.f121.body).getD .skip
theorem V121 (x0 : AV) : Body Tryz.prog 121 [x0] (W121 x0) := ⟨c121, .nil, 6, [.tmp 2], ⟨Tryz.f121, Tryz.func121, rfl, by kernel_rfl, by kernel_rfl, by kernel_rfl⟩, by simp, fun h K => by kernel_rfl⟩

/-- vitrine/weigh.fine (w) -/
def W29 (x0 : AV) (h : Heap) (K : AV → Heap → Prop) : Prop :=
  iNew 44 x0 h fun v1 g2 => iSlA 3 1 v1 none none g2 fun v3 => iCall Tryz.prog (.fn (.func 46) [] []) [v3] g2 fun v4 g5 => iBin .geq v4 (int 0) fun v6 => iLet (fun J7 => iGuard v6 true (iSlA 3 1 v1 none none g5 fun v8 => iCall Tryz.prog (.fn (.func 47) [] []) [v8] g5 fun v9 g10 => iBin .leq v9 (int 4000) fun v11 => J7 [tt, v11] g10) (J7 [(negA true v6), un] g5)) fun s12 g13 => iPick (nx s12 0) (nx s12 1) ff fun v14 => K v14 g13
noncomputable def c29 : Code := (Tryz.f29.body).getD .skip
theorem V29 (x0 : AV) : Body Tryz.prog 29 [x0] (W29 x0) := ⟨c29, (.seq .nil (.seq (.segs [.op 0 false, .op 1 false, .op 2 false, .op 3 false, .grp 3 true [(4, false), (5, false), (6, false)] [] [6, 9], .op 7 false, .op 8 false]) .nil)), 11, [.tmp 2], ⟨Tryz.f29, Tryz.func29, rfl, by kernel_rfl, by kernel_rfl, by kernel_rfl⟩, by simp, fun h K => by kernel_rfl⟩

/-- vitrine/weigh.Sum (a, b) -/
def W15 (x0 x1 : AV) (h : Heap) (K : AV → Heap → Prop) : Prop :=
  iNew 44 x0 h fun v1 g2 => iNew 44 x1 g2 fun v3 g4 => iNew 44 (.agg [(int 0), (int 0), (int 0)]) g4 fun v5 g6 => iLoad true 3 v1 g6 fun v7 => iCall Tryz.prog (.fn (.func 29) [] []) [v7] g6 fun v8 g9 => iNot v8 fun v10 => iLet (fun J11 => iGuard v10 false (iLoad true 3 v3 g9 fun v12 => iCall Tryz.prog (.fn (.func 29) [] []) [v12] g9 fun v13 g14 => iNot v13 fun v15 => [v1, v3, v5] = [v1, v3, v5] ∧ J11 [ff, v15] g14) ([v1, v3, v5] = [v1, v3, v5] ∧ J11 [(negA false v10), un] g9)) fun s16 g17 => iPick (nx s16 0) tt (nx s16 1) fun v18 => iCond v18 (iBuild (.agg [(int 0), (int 0), (int 0)]) [] fun v19 => iStore 3 v5 v19 g17 fun g20 => iLoad true 3 v5 g20 fun r21 => K (.tup [r21, (int 8)]) g20) (iLoad true 3 v3 g17 fun v22 => iCall Tryz.prog (.fn (.func 30) [] []) [v1, v22] g17 fun v23 g24 => iLoad true 3 v1 g24 fun v25 => iCall Tryz.prog (.fn (.func 29) [] []) [v25] g24 fun v26 g27 => iNot v26 fun v28 => iCond v28 (iBuild (.agg [(int 0), (int 0), (int 0)]) [] fun v29 => iStore 3 v5 v29 g27 fun g30 => iLoad true 3 v5 g30 fun r31 => K (.tup [r31, (int 8)]) g30) (iLoad true 3 v1 g27 fun v32 => iStore 3 v5 v32 g27 fun g33 => iLoad true 3 v5 g33 fun r34 => K (.tup [r34, (int 0)]) g33))
noncomputable def c15 : Code := (Tryz.f15.body).getD .skip
theorem V15 (x0 x1 : AV) : Body Tryz.prog 15 [x0, x1] (W15 x0 x1) := ⟨c15, (.seq .nil (.seq (.seq (.segs [.op 0 false, .op 1 false, .op 2 false, .op 3 false, .grp 3 false [(4, false), (5, false), (6, false)] [2, 3, 4] [9, 12], .op 7 false]) .nil) .nil)), 22, [.cell 4 44, .tmp 5], ⟨Tryz.f15, Tryz.func15, rfl, by kernel_rfl, by kernel_rfl, by kernel_rfl⟩, by simp, fun h K => by kernel_rfl⟩

/-- slices.Min[[]int,int] (x) -/
def W46 (x0 : AV) (h : Heap) (K : AV → Heap → Prop) : Prop :=
  iLet (fun J1 => iLen x0 fun v2 => iBin .lss v2 (int 1) fun v3 => iCond v3 (iMkI 9 (.str [115, 108, 105, 99, 101, 115, 46, 77, 105, 110, 58, 32, 101, 109, 112, 116, 121, 32, 108, 105, 115, 116]) fun v4 => False) ([x0] = [x0] ∧ J1 [] h)) fun s5 g6 => iIdxP 1 x0 (int 0) fun v7 => iLoad false 1 v7 g6 fun v8 => iLoop [v8, (int 1)] g6 fun N9 s10 g11 =>
  /- m i -/ iLen x0 fun v12 => iBin .lss (nx s10 1) v12 fun v13 => iCond v13 (iIdxP 1 x0 (nx s10 1) fun v14 => iLoad false 1 v14 g11 fun v15 => iMin (nx s10 0) v15 fun v16 => iBin .add (nx s10 1) (int 1) fun v17 => [x0] = [x0] ∧ N9 [v16, v17] g11) (K (nx s10 0) g11)
noncomputable def c46 : Code := (Tryz.f46.body).getD .skip
theorem V46 (x0 : AV) : Body Tryz.prog 46 [x0] (W46 x0) := ⟨c46, (.seq .nil (.join [0] [] .nil (.seq .nil (.seq (.seq .nil (.one (.loop [0] [3, 4] .nil))) .nil)))), 25, [.tmp 2], ⟨Tryz.f46, Tryz.func46, rfl, by kernel_rfl, by kernel_rfl, by kernel_rfl⟩, by simp, fun h K => by kernel_rfl⟩

/-- slices.Max[[]int,int] (x) -/
def W47 (x0 : AV) (h : Heap) (K : AV → Heap → Prop) : Prop :=
  iLet (fun J1 => iLen x0 fun v2 => iBin .lss v2 (int 1) fun v3 => iCond v3 (iMkI 9 (.str [115, 108, 105, 99, 101, 115, 46, 77, 97, 120, 58, 32, 101, 109, 112, 116, 121, 32, 108, 105, 115, 116]) fun v4 => False) ([x0] = [x0] ∧ J1 [] h)) fun s5 g6 => iIdxP 1 x0 (int 0) fun v7 => iLoad false 1 v7 g6 fun v8 => iLoop [v8, (int 1)] g6 fun N9 s10 g11 =>
  /- m i -/ iLen x0 fun v12 => iBin .lss (nx s10 1) v12 fun v13 => iCond v13 (iIdxP 1 x0 (nx s10 1) fun v14 => iLoad false 1 v14 g11 fun v15 => iMax (nx s10 0) v15 fun v16 => iBin .add (nx s10 1) (int 1) fun v17 => [x0] = [x0] ∧ N9 [v16, v17] g11) (K (nx s10 0) g11)
noncomputable def c47 : Code := (Tryz.f47.body).getD .skip
theorem V47 (x0 : AV) : Body Tryz.prog 47 [x0] (W47 x0) := ⟨c47, (.seq .nil (.join [0] [] .nil (.seq .nil (.seq (.seq .nil (.one (.loop [0] [3, 4] .nil))) .nil)))), 25, [.tmp 2], ⟨Tryz.f47, Tryz.func47, rfl, by kernel_rfl, by kernel_rfl, by kernel_rfl⟩, by simp, fun h K => by kernel_rfl⟩
end Go.Proofs.YthblflmjingcfaaGreatDoor
