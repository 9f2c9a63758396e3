/-
  What functions of the translation ask, held against their code by the kernel. Printed by a program.
  No conditions.
-/
import Derived.Test.YtmbpiloibhbmbaaDoorL2
import Derived.Test.YtmbpiloibhbmbaaDoorProg
import Derived.KernelRfl
set_option linter.unusedVariables false
set_option linter.unusedSimpArgs false
namespace Go.Proofs.YtmbpiloibhbmbaaDoor
open Go Go.Aw
set_option maxRecDepth 1000000
variable [Laid]

/-- vitrine/vitrineref29.places (l) -/
def W21 (x0 : AV) (h : Heap) (K : AV → Heap → Prop) : Prop :=
  iLoop [(.v (.slice none 0 0)), (int 0)] h fun N1 s2 g3 =>
  /- out i -/ iLen x0 fun v4 => iBin .lss (nx s2 1) v4 fun v5 => iCond v5 (iLen (nx s2 0) fun v6 => iLoop [v6] g3 fun N7 s8 g9 =>
  /- k -/ iBin .gtr (nx s8 0) (int 0) fun v10 => iLet (fun J11 => iGuard v10 true (iIdxP 11 x0 (nx s2 1) fun v12 => iLoad true 11 v12 g9 fun v13 => iBin .sub (nx s8 0) (int 1) fun v14 => iIdxP 1 (nx s2 0) v14 fun v15 => iLoad false 1 v15 g9 fun v16 => iIdxP 11 x0 v16 fun v17 => iLoad true 11 v17 g9 fun v18 => iCallQ Tryd.prog (.fn (.func 29) [] []) [v13, v18] g9 fun v19 => J11 [x0, (nx s2 1), v12, v13, x0, (nx s2 0), (nx s8 0), v14, v15, v16, v17, v18, v19] g9) (J11 [un, un, un, un, un, un, un, un, un, un, un, un, un] g9)) fun s20 _ => iPick v10 (nx s20 12) ff fun v21 => iCond v21 (iBin .sub (nx s8 0) (int 1) fun v22 => [x0, (nx s2 0), (nx s2 1)] = [x0, (nx s2 0), (nx s2 1)] ∧ N7 [v22] g9) (iMkSlP 1 1 (int 0) [(0, 1, (int 0))] fun v23 => iApp true 3 1 8 (nx s2 0) v23 g9 fun v24 g25 => iLen v24 fun v26 => iBin .sub v26 (int 1) fun v27 => iLoop [v27] g25 fun N28 s29 g30 =>
  /- n -/ iBin .gtr (nx s29 0) (nx s8 0) fun v31 => iCond v31 (iBin .sub (nx s29 0) (int 1) fun v32 => iIdxP 1 v24 v32 fun v33 => iLoad false 1 v33 g30 fun v34 => iIdxP 1 v24 (nx s29 0) fun v35 => iStore 1 v35 v34 g30 fun g36 => iBin .sub (nx s29 0) (int 1) fun v37 => [x0, v24, (nx s2 1), (nx s8 0)] = [x0, v24, (nx s2 1), (nx s8 0)] ∧ N28 [v37] g36) (iIdxP 1 v24 (nx s8 0) fun v38 => iStore 1 v38 (nx s2 1) g30 fun g39 => iBin .add (nx s2 1) (int 1) fun v40 => [x0] = [x0] ∧ N1 [v24, v40] g39))) (K (nx s2 0) g3)
noncomputable def c21 : Code := (Tryd.f21.body).getD .skip
theorem V21 (x0 : AV) : Body Tryd.prog 21 [x0] (W21 x0) := ⟨c21, (.seq .nil (.seq .nil (.seq (.seq .nil (.one (.loop [0] [3, 4] (.seq .nil (.seq (.one (.seq .nil (.seq (.one (.loop [0, 3, 4] [5] (.seq (.seq (.draw 17 [.op 0 false, .op 1 false, .op 2 false, .grp 2 true [(3, false), (4, false), (5, false), (6, false), (7, false), (8, false), (9, false), (10, false), (11, false), (12, false), (13, false), (14, false), (15, false)] [] [18, 19, 20, 21, 22, 23, 24, 25, 26, 27, 28, 29, 30], .op 16 false] [] []) .nil) .nil))) (.seq (.segs [.op 0 false, .op 1 true, .op 2 true, .op 3 false]) (.seq (.seq .nil (.one (.loop [0, 3, 4, 5] [6] .nil))) .nil))))) .nil))))) .nil))), 58, [.tmp 2], ⟨Tryd.f21, Tryd.func21, rfl, by kernel_rfl, by kernel_rfl, by kernel_rfl⟩, by simp, fun h K => by kernel_rfl⟩

/-- vitrine/vitrineref29.Sorted (l) -/
def W20 (x0 : AV) (h : Heap) (K : AV → Heap → Prop) : Prop :=
  iCall Tryd.prog (.fn (.func 21) [] []) [x0] h fun v1 g2 => iLoop [(.v (.slice none 0 0)), (int 0)] g2 fun N3 s4 g5 =>
  /- out i -/ iLen v1 fun v6 => iBin .lss (nx s4 1) v6 fun v7 => iCond v7 (iIdxP 1 v1 (nx s4 1) fun v8 => iLoad false 1 v8 g5 fun v9 => iIdxP 1 v1 (nx s4 1) fun v10 => iLoad false 1 v10 g5 fun v11 => iBin .add v11 (int 1) fun v12 => iSl 11 x0 (some v9) (some v12) fun v13 => iCallQ Tryd.prog (.fn (.func 5) [] []) [v13] g5 fun v14 => iApp false 43 11 104 (nx s4 0) v14 g5 fun v15 g16 => iBin .add (nx s4 1) (int 1) fun v17 => [x0, v1] = [x0, v1] ∧ N3 [v15, v17] g16) (K (nx s4 0) g5)
noncomputable def c20 : Code := (Tryd.f20.body).getD .skip
theorem V20 (x0 : AV) : Body Tryd.prog 20 [x0] (W20 x0) := ⟨c20, (.seq .nil (.seq .nil (.seq .nil (.seq (.seq .nil (.one (.loop [0, 4] [3, 5] (.seq .nil (.seq (.one (.draw 13 [.op 0 false, .op 1 false, .op 2 false, .op 3 false, .op 4 false, .op 5 false, .op 6 false, .op 7 false, .op 8 false, .op 9 false, .op 10 false, .op 11 false, .op 12 false] [.op 13 false, .op 14 false] [])) .nil))))) .nil)))), 29, [.tmp 2], ⟨Tryd.f20, Tryd.func20, rfl, by kernel_rfl, by kernel_rfl, by kernel_rfl⟩, by simp, fun h K => by kernel_rfl⟩

/-- vitrine/vitrineref29.Sort (l) -/
def W7 (x0 : AV) (h : Heap) (K : AV → Heap → Prop) : Prop :=
  iCall Tryd.prog (.fn (.func 19) [] []) [x0] h fun v1 g2 => iBin .neq v1 (int 0) fun v3 => iCond v3 (K (.tup [(.v (.slice none 0 0)), v1]) g2) (iCall Tryd.prog (.fn (.func 20) [] []) [x0] g2 fun v4 g5 => K (.tup [v4, (int 0)]) g5)
noncomputable def c7 : Code := (Tryd.f7.body).getD .skip
theorem V7 (x0 : AV) : Body Tryd.prog 7 [x0] (W7 x0) := ⟨c7, .nil, 12, [.tmp 2, .tmp 3], ⟨Tryd.f7, Tryd.func7, rfl, by kernel_rfl, by kernel_rfl, by kernel_rfl⟩, by simp, fun h K => by kernel_rfl⟩

/-- vitrine/vitrineref29.Winner (l, name) -/
def W9 (x0 x1 : AV) (h : Heap) (K : AV → Heap → Prop) : Prop :=
  iCall Tryd.prog (.fn (.func 19) [] []) [x0] h fun v1 g2 => iBin .neq v1 (int 0) fun v3 => iCond v3 (K (.tup [(int 0), v1]) g2) (iCall Tryd.prog (.fn (.func 21) [] []) [x0] g2 fun v4 g5 => iLen v4 fun v6 => iBin .sub v6 (int 1) fun v7 => iLoop [v7] g5 fun N8 s9 g10 =>
  /- i -/ iBin .geq (nx s9 0) (int 0) fun v11 => iCond v11 (iIdxP 1 v4 (nx s9 0) fun v12 => iLoad false 1 v12 g10 fun v13 => iIdxP 11 x0 v13 fun v14 => iFad 0 v14 fun v15 => iFad 0 v15 fun v16 => iLoad false 1 v16 g10 fun v17 => iBin .eql v17 x1 fun v18 => iCond v18 (iIdxP 1 v4 (nx s9 0) fun v19 => iLoad false 1 v19 g10 fun v20 => K (.tup [v20, (int 0)]) g10) (iBin .sub (nx s9 0) (int 1) fun v21 => [x0, x1, v4] = [x0, x1, v4] ∧ N8 [v21] g10)) (K (.tup [(int 0), (int 6)]) g10))
noncomputable def c9 : Code := (Tryd.f9.body).getD .skip
theorem V9 (x0 x1 : AV) : Body Tryd.prog 9 [x0, x1] (W9 x0 x1) := ⟨c9, (.seq .nil (.seq .nil (.seq .nil (.seq (.seq .nil (.one (.loop [0, 1, 7] [8] .nil))) .nil)))), 38, [.tmp 4, .tmp 5], ⟨Tryd.f9, Tryd.func9, rfl, by kernel_rfl, by kernel_rfl, by kernel_rfl⟩, by simp, fun h K => by kernel_rfl⟩

/-- vitrine/vitrineref29.Twin (l) -/
def W5 (x0 : AV) (h : Heap) (K : AV → Heap → Prop) : Prop :=
  iLoop [(.v (.slice none 0 0)), (int 0)] h fun N1 s2 g3 =>
  /- out i -/ iLen x0 fun v4 => iBin .lss (nx s2 1) v4 fun v5 => iCond v5 (iIdxP 11 x0 (nx s2 1) fun v6 => iLoad true 11 v6 g3 fun v7 => iNew 43 (.agg [(.str []), (.v (.slice none 0 0)), (.str []), ff, (u8 0), ff, (int 0), (int 0), (int 0), (int 0), (int 0)]) g3 fun v8 g9 => iStore 11 v8 v7 g9 fun g10 => iFad 0 v8 fun v11 => iFad 1 v11 fun v12 => iLoad false 1 v12 g10 fun v13 => iCall Tryd.prog (.fn (.func 13) [] []) [v13] g10 fun v14 g15 => iFad 0 v8 fun v16 => iFad 1 v16 fun v17 => iStore 1 v17 v14 g15 fun g18 => iLoad true 11 v8 g18 fun v19 => iMkSlP 1 11 (.agg [(.str []), (.v (.slice none 0 0)), (.str []), ff, (u8 0), ff, (int 0), (int 0), (int 0), (int 0), (int 0)]) [(0, 11, v19)] fun v20 => iApp false 43 11 104 (nx s2 0) v20 g18 fun v21 g22 => iBin .add (nx s2 1) (int 1) fun v23 => [x0] = [x0] ∧ N1 [v21, v23] g22) (K (nx s2 0) g3)
noncomputable def c5 : Code := (Tryd.f5.body).getD .skip
theorem V5 (x0 : AV) : Body Tryd.prog 5 [x0] (W5 x0) := ⟨c5, (.seq .nil (.seq .nil (.seq (.seq .nil (.one (.loop [0] [3, 4] (.seq .nil (.seq (.one (.seq .nil (.seq .nil (.segs [.op 0 false, .op 1 false, .op 2 true, .op 3 false, .op 4 false])))) .nil))))) .nil))), 27, [.tmp 2], ⟨Tryd.f5, Tryd.func5, rfl, by kernel_rfl, by kernel_rfl, by kernel_rfl⟩, by simp, fun h K => by kernel_rfl⟩

/-- vitrine/vitrineref26.Twin (l) -/
def W13 (x0 : AV) (h : Heap) (K : AV → Heap → Prop) : Prop :=
  iLoop [(.v (.slice none 0 0)), (int 0)] h fun N1 s2 g3 =>
  /- out i -/ iLen x0 fun v4 => iBin .lss (nx s2 1) v4 fun v5 => iCond v5 (iIdxP 6 x0 (nx s2 1) fun v6 => iFad 0 v6 fun v7 => iLoad true 5 v7 g3 fun v8 => iIdxP 6 x0 (nx s2 1) fun v9 => iFad 5 v9 fun v10 => iLoad false 1 v10 g3 fun v11 => iCallQ Tryd.prog (.fn (.func 13) [] []) [v11] g3 fun v12 => iBuild (.agg [(u8 0), (.str []), (int 0), (.str []), ff, (.v (.slice none 0 0))]) [(0, 5, v8), (5, 1, v12)] fun v13 => iMkSlP 1 6 (.agg [(u8 0), (.str []), (int 0), (.str []), ff, (.v (.slice none 0 0))]) [(0, 6, v13)] fun v14 => iApp false 57 6 80 (nx s2 0) v14 g3 fun v15 g16 => iBin .add (nx s2 1) (int 1) fun v17 => [x0] = [x0] ∧ N1 [v15, v17] g16) (K (nx s2 0) g3)
noncomputable def c13 : Code := (Tryd.f13.body).getD .skip
theorem V13 (x0 : AV) : Body Tryd.prog 13 [x0] (W13 x0) := ⟨c13, (.seq .nil (.seq .nil (.seq (.seq .nil (.one (.loop [0] [3, 4] (.seq .nil (.seq (.one (.draw 14 [.op 0 false, .op 1 false, .op 2 false, .op 3 false, .op 4 false, .op 5 false, .op 6 false, .op 7 false, .op 8 false, .op 9 false, .op 10 false, .op 11 false, .op 12 false, .op 13 true] [.op 14 false, .op 15 false] [])) .nil))))) .nil))), 27, [.tmp 2], ⟨Tryd.f13, Tryd.func13, rfl, by kernel_rfl, by kernel_rfl, by kernel_rfl⟩, by simp, fun h K => by kernel_rfl⟩

/-- vitrine/vitrineref29.Same (a, b) -/
def W10 (x0 x1 : AV) (h : Heap) (K : AV → Heap → Prop) : Prop :=
  iLen x0 fun v1 => iLen x1 fun v2 => iBin .neq v1 v2 fun v3 => iCond v3 (K ff h) (iLoop [(int 0)] h fun N4 s5 g6 =>
  /- i -/ iLen x0 fun v7 => iBin .lss (nx s5 0) v7 fun v8 => iCond v8 (iIdxP 11 x0 (nx s5 0) fun v9 => iLoad true 11 v9 g6 fun v10 => iIdxP 11 x1 (nx s5 0) fun v11 => iLoad true 11 v11 g6 fun v12 => iCallQ Tryd.prog (.fn (.func 22) [] []) [v10, v12] g6 fun v13 => iNot v13 fun v14 => iCond v14 (K ff g6) (iBin .add (nx s5 0) (int 1) fun v15 => [x0, x1] = [x0, x1] ∧ N4 [v15] g6)) (K tt g6))
noncomputable def c10 : Code := (Tryd.f10.body).getD .skip
theorem V10 (x0 x1 : AV) : Body Tryd.prog 10 [x0, x1] (W10 x0 x1) := ⟨c10, (.seq .nil (.seq .nil (.seq (.seq .nil (.one (.loop [0, 1] [5] (.seq .nil (.seq (.one (.seq (.draw 10 [.op 0 false, .op 1 false, .op 2 false, .op 3 false, .op 4 false, .op 5 false, .op 6 false, .op 7 false, .op 8 false, .op 9 false] [] []) .nil)) .nil))))) .nil))), 27, [.tmp 4], ⟨Tryd.f10, Tryd.func10, rfl, by kernel_rfl, by kernel_rfl, by kernel_rfl⟩, by simp, fun h K => by kernel_rfl⟩

/-- vitrine/vitrinelaw29.SorterSorts (l, name) -/
def W3 (x0 x1 : AV) (h : Heap) (K : AV → Heap → Prop) : Prop :=
  iCall Tryd.prog (.fn (.func 4) [] []) [x0] h fun v1 g2 => iLet (fun J3 => iGuard v1 false (iLenS x1 fun v4 => iBin .gtr v4 (int 200) fun v5 => [x0, x1] = [x0, x1] ∧ J3 [ff, v5] g2) ([x0, x1] = [x0, x1] ∧ J3 [(negA false v1), un] g2)) fun s6 g7 => iPick (nx s6 0) tt (nx s6 1) fun v8 => iCond v8 (K tt g7) (iCall Tryd.prog (.fn (.func 5) [] []) [x0] g7 fun v9 g10 => iCall Tryd.prog (.fn (.func 6) [] []) [x0] g10 fun v11 g12 => iExtr 0 v11 fun v13 => iExtr 1 v11 fun v14 => iCall Tryd.prog (.fn (.func 7) [] []) [v9] g12 fun v15 g16 => iExtr 0 v15 fun v17 => iExtr 1 v15 fun v18 => iCall Tryd.prog (.fn (.func 8) [] []) [x0, x1] g16 fun v19 g20 => iExtr 0 v19 fun v21 => iExtr 1 v19 fun v22 => iCall Tryd.prog (.fn (.func 9) [] []) [v9, x1] g20 fun v23 g24 => iExtr 0 v23 fun v25 => iExtr 1 v23 fun v26 => iCall Tryd.prog (.fn (.func 10) [] []) [v13, v17] g24 fun v27 g28 => iLet (fun J29 => iGuard v27 true (iBin .eql v14 v18 fun v30 => [x0, v9, v21, v22, v25, v26] = [x0, v9, v21, v22, v25, v26] ∧ J29 [tt, v30] g28) ([x0, v9, v21, v22, v25, v26] = [x0, v9, v21, v22, v25, v26] ∧ J29 [(negA true v27), un] g28)) fun s31 g32 => iPick (nx s31 0) (nx s31 1) ff fun v33 => iLet (fun J34 => iGuard v33 true (iBin .eql v21 v25 fun v35 => [x0, v9, v22, v26] = [x0, v9, v22, v26] ∧ J34 [tt, v35] g32) ([x0, v9, v22, v26] = [x0, v9, v22, v26] ∧ J34 [(negA true v33), un] g32)) fun s36 g37 => iPick (nx s36 0) (nx s36 1) ff fun v38 => iLet (fun J39 => iGuard v38 true (iBin .eql v22 v26 fun v40 => [x0, v9] = [x0, v9] ∧ J39 [tt, v40] g37) ([x0, v9] = [x0, v9] ∧ J39 [(negA true v38), un] g37)) fun s41 g42 => iPick (nx s41 0) (nx s41 1) ff fun v43 => iLet (fun J44 => iGuard v43 true (iCall Tryd.prog (.fn (.func 10) [] []) [x0, v9] g42 fun v45 g46 => J44 [tt, v45] g46) (J44 [(negA true v43), un] g42)) fun s47 g48 => iPick (nx s47 0) (nx s47 1) ff fun v49 => K v49 g48)
noncomputable def c3 : Code := (Tryd.f3.body).getD .skip
theorem V3 (x0 x1 : AV) : Body Tryd.prog 3 [x0, x1] (W3 x0 x1) := ⟨c3, (.seq .nil (.seq (.seq (.segs [.op 0 false, .op 1 false, .op 2 false, .grp 2 false [(3, false), (4, false), (5, false)] [0, 1] [16, 19], .op 6 false]) .nil) (.seq .nil (.seq .nil (.seq .nil (.seq .nil (.seq .nil (.seq (.segs [.op 0 false, .op 1 false, .op 2 false, .op 3 false, .grp 3 true [(4, false), (5, false), (6, false)] [0, 5, 10, 11, 12, 13] [48, 51], .op 7 false, .op 8 false, .grp 8 true [(9, false), (10, false), (11, false)] [0, 5, 11, 13] [53, 56], .op 12 false, .op 13 false, .grp 13 true [(14, false), (15, false), (16, false)] [0, 5] [58, 61], .op 17 false, .op 18 false, .grp 18 true [(19, false), (20, false), (21, false)] [] [63, 66], .op 22 false, .op 23 false]) .nil)))))))), 68, [.tmp 4], ⟨Tryd.f3, Tryd.func3, rfl, by kernel_rfl, by kernel_rfl, by kernel_rfl⟩, by simp, fun h K => by kernel_rfl⟩
end Go.Proofs.YtmbpiloibhbmbaaDoor
