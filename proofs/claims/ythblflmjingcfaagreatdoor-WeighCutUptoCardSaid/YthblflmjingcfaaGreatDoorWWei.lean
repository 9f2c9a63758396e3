/-
  What functions of the translation ask, held against their code by the kernel. Printed by a program.
  No conditions.
-/
import Derived.Test.YthblflmjingcfaaGreatDoorL2
import Derived.Test.YthblflmjingcfaaGreatDoorProg
import Derived.KernelRfl
set_option linter.unusedVariables false
set_option linter.unusedSimpArgs false
namespace Go.Proofs.YthblflmjingcfaaGreatDoor
open Go Go.Aw
set_option maxRecDepth 1000000
variable [Laid]

/-- vitrine/weigh.Each (l) -/
def W14 (x0 : AV) (h : Heap) (K : AV → Heap → Prop) : Prop :=
  iCall Tryz.prog (.fn (.func 10) [] []) [x0] h fun v1 g2 => iBin .neq v1 (int 0) fun v3 => iCond v3 (K (.tup [(.v (.slice none 0 0)), v1]) g2) (iCall Tryz.prog (.fn (.func 28) [] []) [x0] g2 fun v4 g5 => K (.tup [v4, (int 0)]) g5)
noncomputable def c14 : Code := (Tryz.f14.body).getD .skip
theorem V14 (x0 : AV) : Body Tryz.prog 14 [x0] (W14 x0) := ⟨c14, .nil, 12, [.tmp 2, .tmp 3], ⟨Tryz.f14, Tryz.func14, rfl, by kernel_rfl, by kernel_rfl, by kernel_rfl⟩, by simp, fun h K => by kernel_rfl⟩

/-- vitrine/weigh.Most (l) -/
def W16 (x0 : AV) (h : Heap) (K : AV → Heap → Prop) : Prop :=
  iNew 44 (.agg [(int 0), (int 0), (int 0)]) h fun v1 g2 => iCall Tryz.prog (.fn (.func 10) [] []) [x0] g2 fun v3 g4 => iBin .neq v3 (int 0) fun v5 => iCond v5 (iBuild (.agg [(int 0), (int 0), (int 0)]) [] fun v6 => iStore 3 v1 v6 g4 fun g7 => iLoad true 3 v1 g7 fun r8 => K (.tup [r8, v3]) g7) (iCall Tryz.prog (.fn (.func 31) [] []) [x0] g4 fun v9 g10 => iStore 3 v1 v9 g10 fun g11 => iLoad true 3 v1 g11 fun r12 => K (.tup [r12, (int 0)]) g11)
noncomputable def c16 : Code := (Tryz.f16.body).getD .skip
theorem V16 (x0 : AV) : Body Tryz.prog 16 [x0] (W16 x0) := ⟨c16, .nil, 13, [.cell 2 44, .tmp 3], ⟨Tryz.f16, Tryz.func16, rfl, by kernel_rfl, by kernel_rfl, by kernel_rfl⟩, by simp, fun h K => by kernel_rfl⟩

/-- vitrine/weigh.each (l) -/
def W28 (x0 : AV) (h : Heap) (K : AV → Heap → Prop) : Prop :=
  iLen x0 fun v1 => iLoop [(.v (.slice none 0 0)), (int 0)] h fun N2 s3 g4 =>
  /- out - -/ iBin .lss (nx s3 1) v1 fun v5 => iCond v5 (iIdxP 3 x0 (nx s3 1) fun v6 => iLoad true 3 v6 g4 fun v7 => iNew 42 (.agg [(u8 0), (.v (.slice none 0 0)), (.v (.slice none 0 0))]) g4 fun v8 g9 => iStore 3 v8 v7 g9 fun g10 => iLoad true 3 v8 g10 fun v11 => iCall Tryz.prog (.fn (.func 45) [] []) [v11] g10 fun v12 g13 => iMkSl 44 1 3 (.agg [(int 0), (int 0), (int 0)]) [(0, 3, v12)] g13 fun v14 g15 => iApp false 44 3 24 (nx s3 0) v14 g15 fun v16 g17 => iBin .add (nx s3 1) (int 1) fun v18 => [x0, v1] = [x0, v1] ∧ N2 [v16, v18] g17) (K (nx s3 0) g4)
noncomputable def c28 : Code := (Tryz.f28.body).getD .skip
theorem V28 (x0 : AV) : Body Tryz.prog 28 [x0] (W28 x0) := ⟨c28, (.seq .nil (.seq .nil (.seq (.seq .nil (.one (.loop [6, 7] [3, 8] .nil))) .nil))), 19, [.tmp 2], ⟨Tryz.f28, Tryz.func28, rfl, by kernel_rfl, by kernel_rfl, by kernel_rfl⟩, by simp, fun h K => by kernel_rfl⟩

/-- vitrine/weigh.most (l) -/
def W31 (x0 : AV) (h : Heap) (K : AV → Heap → Prop) : Prop :=
  iNew 44 (.agg [(int 0), (int 0), (int 0)]) h fun v1 g2 => iLen x0 fun v3 => iBin .eql v3 (int 0) fun v4 => iCond v4 (iBuild (.agg [(int 0), (int 0), (int 0)]) [] fun v5 => iStore 3 v1 v5 g2 fun g6 => iLoad true 3 v1 g6 fun r7 => K r7 g6) (iCall Tryz.prog (.fn (.func 28) [] []) [x0] g2 fun v8 g9 => iCall Tryz.prog (.fn (.func 48) [] []) [v8, (.fn (.func 49) [] [])] g9 fun v10 g11 => iStore 3 v1 v10 g11 fun g12 => iLoad true 3 v1 g12 fun r13 => K r13 g12)
noncomputable def c31 : Code := (Tryz.f31.body).getD .skip
theorem V31 (x0 : AV) : Body Tryz.prog 31 [x0] (W31 x0) := ⟨c31, .nil, 10, [.cell 2 44], ⟨Tryz.f31, Tryz.func31, rfl, by kernel_rfl, by kernel_rfl, by kernel_rfl⟩, by simp, fun h K => by kernel_rfl⟩

/-- vitrine/weigh.one (c) -/
def W45 (x0 : AV) (h : Heap) (K : AV → Heap → Prop) : Prop :=
  iNew 42 x0 h fun v1 g2 => iNew 44 (.agg [(int 0), (int 0), (int 0)]) g2 fun v3 g4 => iNew 44 (.agg [(int 0), (int 0), (int 0)]) g4 fun v5 g6 => iFad 1 v1 fun v7 => iLoad false 1 v7 g6 fun v8 => iLen v8 fun v9 => iLoop [(int 0)] g6 fun N10 s11 g12 =>
  /- - -/ iBin .lss (nx s11 0) v9 fun v13 => iCond v13 (iIdxP 2 v8 (nx s11 0) fun v14 => iLoad true 2 v14 g12 fun v15 => iNew 49 (.agg [(.str []), (.v (.slice none 0 0))]) g12 fun v16 g17 => iStore 2 v16 v15 g17 fun g18 => iLet (fun J19 => iFad 0 v16 fun v20 => iLoad false 1 v20 g18 fun v21 => iBin .neq v21 (.str []) fun v22 => iLet (fun J23 => iGuard v22 true (iFad 0 v16 fun v24 => iLoad false 1 v24 g18 fun v25 => iBin .neq v25 (.str [42]) fun v26 => [v3, v5, v16, v8, v9, (nx s11 0)] = [v3, v5, v16, v8, v9, (nx s11 0)] ∧ J23 [tt, v26] g18) ([v3, v5, v16, v8, v9, (nx s11 0)] = [v3, v5, v16, v8, v9, (nx s11 0)] ∧ J23 [(negA true v22), un] g18)) fun s27 g28 => iPick (nx s27 0) (nx s27 1) ff fun v29 => iCond v29 (iIdxQ 3 1 v5 (int 2) fun v30 => iLoad false 1 v30 g28 fun v31 => iBin .add v31 (int 1) fun v32 => iIdxQ 3 1 v5 (int 2) fun v33 => iStore 1 v33 v32 g28 fun g34 => [v3, v5, v16, v8, v9, (nx s11 0)] = [v3, v5, v16, v8, v9, (nx s11 0)] ∧ J19 [] g34) ([v3, v5, v16, v8, v9, (nx s11 0)] = [v3, v5, v16, v8, v9, (nx s11 0)] ∧ J19 [] g28)) fun s35 g36 => iFad 1 v16 fun v37 => iLoad false 1 v37 g36 fun v38 => iLen v38 fun v39 => iLoop [(int 0)] g36 fun N40 s41 g42 =>
  /- - -/ iBin .lss (nx s41 0) v39 fun v43 => iCond v43 (iLet (fun J44 => iIdxP 9 v38 (nx s41 0) fun v45 => iLoad true 9 v45 g42 fun v46 => iNew 53 (.agg [(u8 0), (.str []), (u8 0), (.str []), ff, (int 0), (int 0), ff, (.v (.slice none 0 0))]) g42 fun v47 g48 => iStore 9 v47 v46 g48 fun g49 => iLet (fun J50 => iFad 0 v47 fun v51 => iLoad false 1 v51 g49 fun v52 => iBin .eql v52 (u8 12) fun v53 => iCond v53 ([v3, v5, v8, v9, (nx s11 0), v38, v39, (nx s41 0)] = [v3, v5, v8, v9, (nx s11 0), v38, v39, (nx s41 0)] ∧ J44 [] g49) (iBin .eql v52 (u8 1) fun v54 => iCond v54 (iIdxQ 3 1 v5 (int 0) fun v55 => iLoad false 1 v55 g49 fun v56 => iBin .add v56 (int 1) fun v57 => iIdxQ 3 1 v5 (int 0) fun v58 => iStore 1 v58 v57 g49 fun g59 => [v3, v5, v8, v9, (nx s11 0), v38, v39, (nx s41 0)] = [v3, v5, v8, v9, (nx s11 0), v38, v39, (nx s41 0)] ∧ J44 [] g59) (iLet (fun J60 => iBin .eql v52 (u8 11) fun v61 => iCond v61 ([v3, v5, v47, v8, v9, (nx s11 0), v38, v39, (nx s41 0)] = [v3, v5, v47, v8, v9, (nx s11 0), v38, v39, (nx s41 0)] ∧ J60 [tt] g49) (iBin .eql v52 (u8 13) fun v62 => iCond v62 ([v3, v5, v47, v8, v9, (nx s11 0), v38, v39, (nx s41 0)] = [v3, v5, v47, v8, v9, (nx s11 0), v38, v39, (nx s41 0)] ∧ J60 [tt] g49) (iBin .eql v52 (u8 14) fun v63 => [v3, v5, v47, v8, v9, (nx s11 0), v38, v39, (nx s41 0)] = [v3, v5, v47, v8, v9, (nx s11 0), v38, v39, (nx s41 0)] ∧ J60 [v63] g49))) fun s64 g65 => iCond (nx s64 0) ([v3, v5, v47, v8, v9, (nx s11 0), v38, v39, (nx s41 0)] = [v3, v5, v47, v8, v9, (nx s11 0), v38, v39, (nx s41 0)] ∧ J50 [] g65) (iIdxQ 3 1 v5 (int 1) fun v66 => iLoad false 1 v66 g65 fun v67 => iBin .add v67 (int 1) fun v68 => iIdxQ 3 1 v5 (int 1) fun v69 => iStore 1 v69 v68 g65 fun g70 => [v3, v5, v47, v8, v9, (nx s11 0), v38, v39, (nx s41 0)] = [v3, v5, v47, v8, v9, (nx s11 0), v38, v39, (nx s41 0)] ∧ J50 [] g70)))) fun s71 g72 => iFad 8 v47 fun v73 => iLoad false 1 v73 g72 fun v74 => iCall Tryz.prog (.fn (.func 31) [] []) [v74] g72 fun v75 g76 => iCall Tryz.prog (.fn (.func 30) [] []) [v5, v75] g76 fun v77 g78 => [v3, v5, v8, v9, (nx s11 0), v38, v39, (nx s41 0)] = [v3, v5, v8, v9, (nx s11 0), v38, v39, (nx s41 0)] ∧ J44 [] g78) fun s79 g80 => iBin .add (nx s41 0) (int 1) fun v81 => [v3, v5, v8, v9, (nx s11 0), v38, v39] = [v3, v5, v8, v9, (nx s11 0), v38, v39] ∧ N40 [v81] g80) (iBin .add (nx s11 0) (int 1) fun v82 => [v3, v5, v8, v9] = [v3, v5, v8, v9] ∧ N10 [v82] g42)) (iLoad true 3 v5 g12 fun v83 => iStore 3 v3 v83 g12 fun g84 => iLoad true 3 v3 g84 fun r85 => K r85 g84)
noncomputable def c45 : Code := (Tryz.f45.body).getD .skip
theorem V45 (x0 : AV) : Body Tryz.prog 45 [x0] (W45 x0) := ⟨c45, (.seq .nil (.seq .nil (.seq (.seq .nil (.one (.loop [2, 3, 9, 10] [11] (.seq .nil (.seq .nil (.seq (.one (.seq .nil (.join [2, 3, 5, 9, 10, 11] [] (.seq (.segs [.op 0 false, .op 1 false, .op 2 false, .op 3 false, .grp 3 true [(4, false), (5, false), (6, false)] [2, 3, 5, 9, 10, 11] [18, 21], .op 7 false]) .nil) (.seq .nil (.one (.loop [2, 3, 9, 10, 11, 28, 29] [30] (.seq .nil (.seq .nil (.join [2, 3, 9, 10, 11, 28, 29, 30] [] (.one (.seq .nil (.join [2, 3, 7, 9, 10, 11, 28, 29, 30] [] (.seq .nil (.one (.seq .nil (.two .nil (.seq .nil (.two .nil (.join [2, 3, 7, 9, 10, 11, 28, 29, 30] [48] .nil .nil))))))) .nil))) .nil))))))))) .nil)))))) .nil))), 59, [.cell 2 44], ⟨Tryz.f45, Tryz.func45, rfl, by kernel_rfl, by kernel_rfl, by kernel_rfl⟩, by simp, fun h K => by kernel_rfl⟩

/-- slices.MaxFunc[[]vitrine/api.Weight,vitrine/api.Weight] (x, cmp) -/
def W48 (x0 x1 : AV) (h : Heap) (K : AV → Heap → Prop) : Prop :=
  iNew 44 (.agg [(int 0), (int 0), (int 0)]) h fun v1 g2 => iLet (fun J3 => iLen x0 fun v4 => iBin .lss v4 (int 1) fun v5 => iCond v5 (iMkI 9 (.str [115, 108, 105, 99, 101, 115, 46, 77, 97, 120, 70, 117, 110, 99, 58, 32, 101, 109, 112, 116, 121, 32, 108, 105, 115, 116]) fun v6 => False) ([x0, x1, v1] = [x0, x1, v1] ∧ J3 [] g2)) fun s7 g8 => iIdxP 3 x0 (int 0) fun v9 => iLoad true 3 v9 g8 fun v10 => iNew 44 (.agg [(int 0), (int 0), (int 0)]) g8 fun v11 g12 => iStore 3 v11 v10 g12 fun g13 => iLoop [(int 1)] g13 fun N14 s15 g16 =>
  /- i -/ iLen x0 fun v17 => iBin .lss (nx s15 0) v17 fun v18 => iCond v18 (iLet (fun J19 => iIdxP 3 x0 (nx s15 0) fun v20 => iLoad true 3 v20 g16 fun v21 => iLoad true 3 v11 g16 fun v22 => iCallQ Tryz.prog x1 [v21, v22] g16 fun v23 => iBin .gtr v23 (int 0) fun v24 => iCond v24 (iIdxP 3 x0 (nx s15 0) fun v25 => iLoad true 3 v25 g16 fun v26 => iStore 3 v11 v26 g16 fun g27 => [x0, x1, v1, v11, (nx s15 0)] = [x0, x1, v1, v11, (nx s15 0)] ∧ J19 [] g27) ([x0, x1, v1, v11, (nx s15 0)] = [x0, x1, v1, v11, (nx s15 0)] ∧ J19 [] g16)) fun s28 g29 => iBin .add (nx s15 0) (int 1) fun v30 => [x0, x1, v1, v11] = [x0, x1, v1, v11] ∧ N14 [v30] g29) (iLoad true 3 v11 g16 fun v31 => iStore 3 v1 v31 g16 fun g32 => iLoad true 3 v1 g32 fun r33 => K r33 g32)
noncomputable def c48 : Code := (Tryz.f48.body).getD .skip
theorem V48 (x0 x1 : AV) : Body Tryz.prog 48 [x0, x1] (W48 x0 x1) := ⟨c48, (.seq .nil (.join [0, 1, 4] [] .nil (.seq .nil (.seq (.seq .nil (.one (.loop [0, 1, 4, 5] [6] (.seq .nil (.join [0, 1, 4, 5, 6] [] (.one (.seq (.draw 8 [.op 0 false, .op 1 false, .op 2 false, .op 3 false, .op 4 false, .op 5 false, .op 6 false, .op 7 false] [] []) .nil)) .nil))))) .nil)))), 33, [.cell 4 44], ⟨Tryz.f48, Tryz.func48, rfl, by kernel_rfl, by kernel_rfl, by kernel_rfl⟩, by simp, fun h K => by kernel_rfl⟩
end Go.Proofs.YthblflmjingcfaaGreatDoor
