/-
  What functions of the translation ask, held against their code by the kernel. Printed by a program.
  No conditions.
-/
import Derived.Test.YthblflmjingcfaaGreatDoorL2
import Derived.Test.YthblflmjingcfaaGreatDoorProg
import Derived.KernelRfl
set_option linter.unusedVariables false
set_option linter.unusedSimpArgs false
namespace Go.Proofs.YthblflmjingcfaaGreatDoor
open Go Go.Aw
set_option maxRecDepth 1000000
variable [Laid]

/-- vitrine/vitrineref07.Written (a) -/
def W59 (x0 : AV) (h : Heap) (K : AV → Heap → Prop) : Prop :=
  iNew 51 x0 h fun v1 g2 => iFad 0 v1 fun v3 => iLoad false 1 v3 g2 fun v4 => iBin .eql v4 (int 0) fun v5 => iCond v5 (iFad 1 v1 fun v6 => iLoad false 1 v6 g2 fun v7 => iCall Tryz.prog (.fn (.func 77) [] []) [v7] g2 fun v8 g9 => K v8 g9) (iFad 0 v1 fun v10 => iLoad false 1 v10 g2 fun v11 => iCall Tryz.prog (.fn (.func 77) [] []) [v11] g2 fun v12 g13 => iLet (fun J14 => iFad 0 v1 fun v15 => iLoad false 1 v15 g13 fun v16 => iBin .eql v16 (int 1) fun v17 => iCond v17 ([v1] = [v1] ∧ J14 [(.str [])] g13) ([v1] = [v1] ∧ J14 [v12] g13)) fun s18 g19 => iLet (fun J20 => iFad 0 v1 fun v21 => iLoad false 1 v21 g19 fun v22 => iBin .eql v22 (int (-1)) fun v23 => iCond v23 ([v1] = [v1] ∧ J20 [(.str [45])] g19) ([v1] = [v1] ∧ J20 [(nx s18 0)] g19)) fun s24 g25 => iBin .add (nx s24 0) (.str [110]) fun v26 => iFad 1 v1 fun v27 => iLoad false 1 v27 g25 fun v28 => iBin .gtr v28 (int 0) fun v29 => iCond v29 (iBin .add v26 (.str [43]) fun v30 => iFad 1 v1 fun v31 => iLoad false 1 v31 g25 fun v32 => iCall Tryz.prog (.fn (.func 78) [] []) [v32] g25 fun v33 g34 => iBin .add v30 v33 fun v35 => K v35 g34) (iFad 1 v1 fun v36 => iLoad false 1 v36 g25 fun v37 => iBin .lss v37 (int 0) fun v38 => iCond v38 (iFad 1 v1 fun v39 => iLoad false 1 v39 g25 fun v40 => iCall Tryz.prog (.fn (.func 77) [] []) [v40] g25 fun v41 g42 => iBin .add v26 v41 fun v43 => K v43 g42) (K v26 g25)))
noncomputable def c59 : Code := (Tryz.f59.body).getD .skip
theorem V59 (x0 : AV) : Body Tryz.prog 59 [x0] (W59 x0) := ⟨c59, (.seq .nil (.seq .nil (.seq .nil (.join [1] [3] .nil (.join [1] [3] .nil .nil))))), 39, [.tmp 2], ⟨Tryz.f59, Tryz.func59, rfl, by kernel_rfl, by kernel_rfl, by kernel_rfl⟩, by simp, fun h K => by kernel_rfl⟩

/-- vitrine/vitrineref07.signed (n) -/
def W77 (x0 : AV) (h : Heap) (K : AV → Heap → Prop) : Prop :=
  iBin .lss x0 (int 0) fun v1 => iCond v1 (iNeg x0 fun v2 => iCall Tryz.prog (.fn (.func 78) [] []) [v2] h fun v3 g4 => iBin .add (.str [45]) v3 fun v5 => K v5 g4) (iCall Tryz.prog (.fn (.func 78) [] []) [x0] h fun v6 g7 => K v6 g7)
noncomputable def c77 : Code := (Tryz.f77.body).getD .skip
theorem V77 (x0 : AV) : Body Tryz.prog 77 [x0] (W77 x0) := ⟨c77, .nil, 11, [.tmp 2], ⟨Tryz.f77, Tryz.func77, rfl, by kernel_rfl, by kernel_rfl, by kernel_rfl⟩, by simp, fun h K => by kernel_rfl⟩

/-- vitrine/vitrineref07.digits (n) -/
def W78 (x0 : AV) (h : Heap) (K : AV → Heap → Prop) : Prop :=
  iBin .rem x0 (int 10) fun v1 => iBin .add (int 48) v1 fun v2 => iConv .u8 v2 fun v3 => iMkSlP 1 1 (u8 0) [(0, 1, v3)] fun v4 => iOfBytes v4 h fun v5 => iBin .lss x0 (int 10) fun v6 => iCond v6 (K v5 h) (iBin .quo x0 (int 10) fun v7 => iCall Tryz.prog (.fn (.func 78) [] []) [v7] h fun v8 g9 => iBin .add v8 v5 fun v10 => K v10 g9)
noncomputable def c78 : Code := (Tryz.f78.body).getD .skip
theorem V78 (x0 : AV) : Body Tryz.prog 78 [x0] (W78 x0) := ⟨c78, (.seq .nil (.seq (.segs [.op 0 false, .op 1 false, .op 2 false, .op 3 false, .op 4 true, .op 5 false, .op 6 false]) .nil)), 18, [.tmp 2], ⟨Tryz.f78, Tryz.func78, rfl, by kernel_rfl, by kernel_rfl, by kernel_rfl⟩, by simp, fun h K => by kernel_rfl⟩

/-- vitrine/anb.Text (a) -/
def W53 (x0 : AV) (h : Heap) (K : AV → Heap → Prop) : Prop :=
  iNew 51 x0 h fun v1 g2 => iLoad true 2 v1 g2 fun v3 => iCall Tryz.prog (.fn (.func 71) [] []) [v3] g2 fun v4 g5 => iBin .neq v4 (int 0) fun v6 => iCond v6 (K (.tup [(.str []), v4]) g5) (iFad 1 v1 fun v7 => iLoad false 1 v7 g5 fun v8 => iCall Tryz.prog (.fn (.func 72) [] []) [v8, (int 10)] g5 fun v9 g10 => iFad 0 v1 fun v11 => iLoad false 1 v11 g10 fun v12 => iBin .eql v12 (int 0) fun v13 => iCond v13 (K (.tup [v9, (int 0)]) g10) (iFad 0 v1 fun v14 => iLoad false 1 v14 g10 fun v15 => iCall Tryz.prog (.fn (.func 72) [] []) [v15, (int 10)] g10 fun v16 g17 => iLet (fun J18 => iFad 0 v1 fun v19 => iLoad false 1 v19 g17 fun v20 => iBin .eql v20 (int 1) fun v21 => iLet (fun J22 => iGuard v21 false (iFad 0 v1 fun v23 => iLoad false 1 v23 g17 fun v24 => iBin .eql v24 (int (-1)) fun v25 => [v1, v9, v16] = [v1, v9, v16] ∧ J22 [ff, v25] g17) ([v1, v9, v16] = [v1, v9, v16] ∧ J22 [(negA false v21), un] g17)) fun s26 g27 => iPick (nx s26 0) tt (nx s26 1) fun v28 => iCond v28 (iCall Tryz.prog (.fn (.func 73) [] []) [v16, (.str [49])] g27 fun v29 g30 => [v1, v9] = [v1, v9] ∧ J18 [v29] g30) ([v1, v9] = [v1, v9] ∧ J18 [v16] g27)) fun s31 g32 => iBin .add (nx s31 0) (.str [110]) fun v33 => iFad 1 v1 fun v34 => iLoad false 1 v34 g32 fun v35 => iBin .gtr v35 (int 0) fun v36 => iCond v36 (iBin .add (.str [43]) v9 fun v37 => iBin .add v33 v37 fun v38 => K (.tup [v38, (int 0)]) g32) (iFad 1 v1 fun v39 => iLoad false 1 v39 g32 fun v40 => iBin .lss v40 (int 0) fun v41 => iCond v41 (iBin .add v33 v9 fun v42 => K (.tup [v42, (int 0)]) g32) (K (.tup [v33, (int 0)]) g32))))
noncomputable def c53 : Code := (Tryz.f53.body).getD .skip
theorem V53 (x0 : AV) : Body Tryz.prog 53 [x0] (W53 x0) := ⟨c53, (.seq .nil (.seq .nil (.seq .nil (.seq .nil (.seq .nil (.join [1, 5] [6] (.seq (.segs [.op 0 false, .op 1 false, .op 2 false, .op 3 false, .grp 3 false [(4, false), (5, false), (6, false)] [1, 5, 6] [25, 28], .op 7 false]) .nil) .nil)))))), 50, [.tmp 2, .tmp 3], ⟨Tryz.f53, Tryz.func53, rfl, by kernel_rfl, by kernel_rfl, by kernel_rfl⟩, by simp, fun h K => by kernel_rfl⟩

/-- strings.TrimSuffix (s, suffix) -/
def W73 (x0 x1 : AV) (h : Heap) (K : AV → Heap → Prop) : Prop :=
  iCall Tryz.prog (.fn (.func 106) [] []) [x0, x1] h fun v1 g2 => K v1 g2
noncomputable def c73 : Code := (Tryz.f73.body).getD .skip
theorem V73 (x0 x1 : AV) : Body Tryz.prog 73 [x0, x1] (W73 x0 x1) := ⟨c73, .nil, 8, [.tmp 4], ⟨Tryz.f73, Tryz.func73, rfl, by kernel_rfl, by kernel_rfl, by kernel_rfl⟩, by simp, fun h K => by kernel_rfl⟩

/-- internal/stringslite.TrimSuffix (s, suffix) -/
def W106 (x0 x1 : AV) (h : Heap) (K : AV → Heap → Prop) : Prop :=
  iCall Tryz.prog (.fn (.func 135) [] []) [x0, x1] h fun v1 g2 => iCond v1 (iLenS x0 fun v3 => iLenS x1 fun v4 => iBin .sub v3 v4 fun v5 => iSlS x0 none (some v5) fun v6 => K v6 g2) (K x0 g2)
noncomputable def c106 : Code := (Tryz.f106.body).getD .skip
theorem V106 (x0 x1 : AV) : Body Tryz.prog 106 [x0, x1] (W106 x0 x1) := ⟨c106, .nil, 16, [.tmp 4], ⟨Tryz.f106, Tryz.func106, rfl, by kernel_rfl, by kernel_rfl, by kernel_rfl⟩, by simp, fun h K => by kernel_rfl⟩

/-- internal/stringslite.HasSuffix (s, suffix) -/
def W135 (x0 x1 : AV) (h : Heap) (K : AV → Heap → Prop) : Prop :=
  iLenS x0 fun v1 => iLenS x1 fun v2 => iBin .geq v1 v2 fun v3 => iLet (fun J4 => iGuard v3 true (iLenS x0 fun v5 => iLenS x1 fun v6 => iBin .sub v5 v6 fun v7 => iSlS x0 (some v7) none fun v8 => iBin .eql v8 x1 fun v9 => J4 [tt, v9] h) (J4 [(negA true v3), un] h)) fun s10 g11 => iPick (nx s10 0) (nx s10 1) ff fun v12 => K v12 g11
noncomputable def c135 : Code := (Tryz.f135.body).getD .skip
theorem V135 (x0 x1 : AV) : Body Tryz.prog 135 [x0, x1] (W135 x0 x1) := ⟨c135, (.seq .nil (.seq (.segs [.op 0 false, .op 1 false, .op 2 false, .op 3 false, .op 4 false, .op 5 false, .grp 5 true [(6, false), (7, false), (8, false), (9, false), (10, false), (11, false), (12, false), (13, false), (14, false)] [] [10, 19], .op 15 false, .op 16 false]) .nil)), 21, [.tmp 4], ⟨Tryz.f135, Tryz.func135, rfl, by kernel_rfl, by kernel_rfl, by kernel_rfl⟩, by simp, fun h K => by kernel_rfl⟩
end Go.Proofs.YthblflmjingcfaaGreatDoor
