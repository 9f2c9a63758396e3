/-
  What functions of the translation ask, held against their code by the kernel. Printed by a program.
  No conditions.
-/
import Derived.Test.YtfijncpmhnnpiaaGreatDoorL2
import Derived.Test.YtfijncpmhnnpiaaGreatDoorProg
import Derived.KernelRfl
set_option linter.unusedVariables false
set_option linter.unusedSimpArgs false
namespace Go.Proofs.YtfijncpmhnnpiaaGreatDoor
open Go Go.Aw
set_option maxRecDepth 1000000
variable [Laid]

/-- vitrine/anb.Text (a) -/
def W6 (x0 : AV) (h : Heap) (K : AV → Heap → Prop) : Prop :=
  iNew 23 x0 h fun v1 g2 => iLoad true 2 v1 g2 fun v3 => iCall Tryz.prog (.fn (.func 12) [] []) [v3] g2 fun v4 g5 => iBin .neq v4 (int 0) fun v6 => iCond v6 (K (.tup [(.str []), v4]) g5) (iFad 1 v1 fun v7 => iLoad false 1 v7 g5 fun v8 => iCall Tryz.prog (.fn (.func 13) [] []) [v8, (int 10)] g5 fun v9 g10 => iFad 0 v1 fun v11 => iLoad false 1 v11 g10 fun v12 => iBin .eql v12 (int 0) fun v13 => iCond v13 (K (.tup [v9, (int 0)]) g10) (iFad 0 v1 fun v14 => iLoad false 1 v14 g10 fun v15 => iCall Tryz.prog (.fn (.func 13) [] []) [v15, (int 10)] g10 fun v16 g17 => iLet (fun J18 => iFad 0 v1 fun v19 => iLoad false 1 v19 g17 fun v20 => iBin .eql v20 (int 1) fun v21 => iLet (fun J22 => iGuard v21 false (iFad 0 v1 fun v23 => iLoad false 1 v23 g17 fun v24 => iBin .eql v24 (int (-1)) fun v25 => [v1, v9, v16] = [v1, v9, v16] ∧ J22 [ff, v25] g17) ([v1, v9, v16] = [v1, v9, v16] ∧ J22 [(negA false v21), un] g17)) fun s26 g27 => iPick (nx s26 0) tt (nx s26 1) fun v28 => iCond v28 (iCall Tryz.prog (.fn (.func 14) [] []) [v16, (.str [49])] g27 fun v29 g30 => [v1, v9] = [v1, v9] ∧ J18 [v29] g30) ([v1, v9] = [v1, v9] ∧ J18 [v16] g27)) fun s31 g32 => iBin .add (nx s31 0) (.str [110]) fun v33 => iFad 1 v1 fun v34 => iLoad false 1 v34 g32 fun v35 => iBin .gtr v35 (int 0) fun v36 => iCond v36 (iBin .add (.str [43]) v9 fun v37 => iBin .add v33 v37 fun v38 => K (.tup [v38, (int 0)]) g32) (iFad 1 v1 fun v39 => iLoad false 1 v39 g32 fun v40 => iBin .lss v40 (int 0) fun v41 => iCond v41 (iBin .add v33 v9 fun v42 => K (.tup [v42, (int 0)]) g32) (K (.tup [v33, (int 0)]) g32))))
noncomputable def c6 : Code := (Tryz.f6.body).getD .skip
theorem V6 (x0 : AV) : Body Tryz.prog 6 [x0] (W6 x0) := ⟨c6, (.seq .nil (.seq .nil (.seq .nil (.seq .nil (.seq .nil (.join [1, 5] [6] (.seq (.segs [.op 0 false, .op 1 false, .op 2 false, .op 3 false, .grp 3 false [(4, false), (5, false), (6, false)] [1, 5, 6] [25, 28], .op 7 false]) .nil) .nil)))))), 50, [.tmp 2, .tmp 3], ⟨Tryz.f6, Tryz.func6, rfl, by kernel_rfl, by kernel_rfl, by kernel_rfl⟩, by simp, fun h K => by kernel_rfl⟩

/-- strings.TrimSuffix (s, suffix) -/
def W14 (x0 x1 : AV) (h : Heap) (K : AV → Heap → Prop) : Prop :=
  iCall Tryz.prog (.fn (.func 22) [] []) [x0, x1] h fun v1 g2 => K v1 g2
noncomputable def c14 : Code := (Tryz.f14.body).getD .skip
theorem V14 (x0 x1 : AV) : Body Tryz.prog 14 [x0, x1] (W14 x0 x1) := ⟨c14, .nil, 8, [.tmp 4], ⟨Tryz.f14, Tryz.func14, rfl, by kernel_rfl, by kernel_rfl, by kernel_rfl⟩, by simp, fun h K => by kernel_rfl⟩

/-- internal/stringslite.TrimSuffix (s, suffix) -/
def W22 (x0 x1 : AV) (h : Heap) (K : AV → Heap → Prop) : Prop :=
  iCall Tryz.prog (.fn (.func 36) [] []) [x0, x1] h fun v1 g2 => iCond v1 (iLenS x0 fun v3 => iLenS x1 fun v4 => iBin .sub v3 v4 fun v5 => iSlS x0 none (some v5) fun v6 => K v6 g2) (K x0 g2)
noncomputable def c22 : Code := (Tryz.f22.body).getD .skip
theorem V22 (x0 x1 : AV) : Body Tryz.prog 22 [x0, x1] (W22 x0 x1) := ⟨c22, .nil, 16, [.tmp 4], ⟨Tryz.f22, Tryz.func22, rfl, by kernel_rfl, by kernel_rfl, by kernel_rfl⟩, by simp, fun h K => by kernel_rfl⟩

/-- internal/stringslite.HasSuffix (s, suffix) -/
def W36 (x0 x1 : AV) (h : Heap) (K : AV → Heap → Prop) : Prop :=
  iLenS x0 fun v1 => iLenS x1 fun v2 => iBin .geq v1 v2 fun v3 => iLet (fun J4 => iGuard v3 true (iLenS x0 fun v5 => iLenS x1 fun v6 => iBin .sub v5 v6 fun v7 => iSlS x0 (some v7) none fun v8 => iBin .eql v8 x1 fun v9 => J4 [tt, v9] h) (J4 [(negA true v3), un] h)) fun s10 g11 => iPick (nx s10 0) (nx s10 1) ff fun v12 => K v12 g11
noncomputable def c36 : Code := (Tryz.f36.body).getD .skip
theorem V36 (x0 x1 : AV) : Body Tryz.prog 36 [x0, x1] (W36 x0 x1) := ⟨c36, (.seq .nil (.seq (.segs [.op 0 false, .op 1 false, .op 2 false, .op 3 false, .op 4 false, .op 5 false, .grp 5 true [(6, false), (7, false), (8, false), (9, false), (10, false), (11, false), (12, false), (13, false), (14, false)] [] [10, 19], .op 15 false, .op 16 false]) .nil)), 21, [.tmp 4], ⟨Tryz.f36, Tryz.func36, rfl, by kernel_rfl, by kernel_rfl, by kernel_rfl⟩, by simp, fun h K => by kernel_rfl⟩
end Go.Proofs.YtfijncpmhnnpiaaGreatDoor
