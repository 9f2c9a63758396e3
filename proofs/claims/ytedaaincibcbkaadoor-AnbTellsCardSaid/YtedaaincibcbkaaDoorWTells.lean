/-
  What functions of the translation ask, held against their code by the kernel. Printed by a program.
  No conditions.
-/
import Derived.Test.YtedaaincibcbkaaDoorTell
import Derived.Test.YtedaaincibcbkaaDoorProg
import Derived.KernelRfl
namespace Go.Proofs.YtedaaincibcbkaaDoor
open Go Go.Aw
set_option maxRecDepth 1000000
variable [Laid]

/-- vitrine/vitrinelaw07.AnbTells (-, -, -) -/
def W3 (x0 x1 x2 : AV) (h : Heap) (K : AV → Heap → Prop) : Prop :=
  iNew 23 x0 h fun v1 g2 => iLoad true 2 v1 g2 fun v3 => iCall Tryd.prog (.fn (.func 7) [] []) [v3, x1] g2 fun v4 g5 => iExtr 0 v4 fun v6 => iExtr 1 v4 fun v7 => iLoad true 2 v1 g5 fun v8 => iCall Tryd.prog (.fn (.func 8) [] []) [v8, x1] g5 fun v9 g10 => iExtr 0 v9 fun v11 => iExtr 1 v9 fun v12 => iLoad true 2 v1 g10 fun v13 => iCall Tryd.prog (.fn (.func 9) [] []) [v13, x2] g10 fun v14 g15 => iExtr 0 v14 fun v16 => iExtr 1 v14 fun v17 => iLoad true 2 v1 g15 fun v18 => iCall Tryd.prog (.fn (.func 10) [] []) [v18, x2] g15 fun v19 g20 => iExtr 0 v19 fun v21 => iExtr 1 v19 fun v22 => iLoad true 2 v1 g20 fun v23 => iCall Tryd.prog (.fn (.func 11) [] []) [v23] g20 fun v24 g25 => iExtr 0 v24 fun v26 => iExtr 1 v24 fun v27 => iLoad true 2 v1 g25 fun v28 => iCall Tryd.prog (.fn (.func 12) [] []) [v28] g25 fun v29 g30 => iExtr 0 v29 fun v31 => iExtr 1 v29 fun v32 => iLen v16 fun v33 => iLen v21 fun v34 => iBin .neq v33 v34 fun v35 => iCond v35 (K ff g30) (iLoop [(int 0)] g30 fun N36 s37 g38 =>
  /- - -/ iLen v16 fun v39 => iBin .lss (nx s37 0) v39 fun v40 => iCond v40 (iIdxP 1 v16 (nx s37 0) fun v41 => iLoad false 1 v41 g38 fun v42 => iIdxP 1 v21 (nx s37 0) fun v43 => iLoad false 1 v43 g38 fun v44 => iBin .neq v42 v44 fun v45 => iCond v45 (K ff g38) (iBin .add (nx s37 0) (int 1) fun v46 => [v1, v6, v7, v11, v12, v16, v17, v21, v22, v26, v27, v31, v32] = [v1, v6, v7, v11, v12, v16, v17, v21, v22, v26, v27, v31, v32] ∧ N36 [v46] g38)) (iLoad true 2 v1 g38 fun v47 => iCallQ Tryd.prog (.fn (.func 13) [] []) [v47] g38 fun v48 => iLoad true 2 v1 g38 fun v49 => iCallQ Tryd.prog (.fn (.func 14) [] []) [v49] g38 fun v50 => iBin .eql v48 v50 fun v51 => iLet (fun J52 => iGuard v51 true (iBinB .eql v6 v11 fun v53 => J52 [v6, v11, v53] g38) (J52 [un, un, un] g38)) fun s54 _ => iPick v51 (nx s54 2) ff fun v55 => iLet (fun J56 => iGuard v55 true (iBin .eql v7 v12 fun v57 => J56 [v7, v12, v57] g38) (J56 [un, un, un] g38)) fun s58 _ => iPick v55 (nx s58 2) ff fun v59 => iLet (fun J60 => iGuard v59 true (iBin .eql v17 v22 fun v61 => J60 [v17, v22, v61] g38) (J60 [un, un, un] g38)) fun s62 _ => iPick v59 (nx s62 2) ff fun v63 => iLet (fun J64 => iGuard v63 true (iBin .eql v26 v31 fun v65 => J64 [v26, v31, v65] g38) (J64 [un, un, un] g38)) fun s66 _ => iPick v63 (nx s66 2) ff fun v67 => iLet (fun J68 => iGuard v67 true (iBin .eql v27 v32 fun v69 => J68 [v27, v32, v69] g38) (J68 [un, un, un] g38)) fun s70 _ => iPick v67 (nx s70 2) ff fun v71 => K v71 g38))
noncomputable def c3 : Code := (Tryd.f3.body).getD .skip
theorem V3 (x0 x1 x2 : AV) : Body Tryd.prog 3 [x0, x1, x2] (W3 x0 x1 x2) := ⟨c3, (.seq .nil (.seq .nil (.seq .nil (.seq .nil (.seq .nil (.seq .nil (.seq .nil (.seq .nil (.seq (.seq .nil (.one (.loop [3, 7, 8, 9, 10, 11, 12, 13, 14, 15, 16, 17, 18] [19] (.seq .nil (.seq (.one (.seq (.draw 9 [.op 0 false, .op 1 false, .op 2 false, .op 3 false, .op 4 false, .op 5 false, .op 6 false, .op 7 false, .op 8 false] [] []) .nil)) .nil))))) (.seq (.draw 31 [.op 0 false, .op 1 false, .op 2 false, .op 3 false, .op 4 false, .op 5 false, .grp 5 true [(6, false), (7, false), (8, false)] [] [80, 81, 82], .op 9 false, .op 10 false, .grp 10 true [(11, false), (12, false), (13, false)] [] [85, 86, 87], .op 14 false, .op 15 false, .grp 15 true [(16, false), (17, false), (18, false)] [] [90, 91, 92], .op 19 false, .op 20 false, .grp 20 true [(21, false), (22, false), (23, false)] [] [95, 96, 97], .op 24 false, .op 25 false, .grp 25 true [(26, false), (27, false), (28, false)] [] [100, 101, 102], .op 29 false, .op 30 false] [] []) .nil)))))))))), 104, [.tmp 6], ⟨Tryd.f3, Tryd.func3, rfl, by kernel_rfl, by kernel_rfl, by kernel_rfl⟩, by simp, fun h K => by kernel_rfl⟩

/-- vitrine/anb.In (a, place) -/
def W7 (x0 x1 : AV) (h : Heap) (K : AV → Heap → Prop) : Prop :=
  iNew 23 x0 h fun v1 g2 => iLoad true 2 v1 g2 fun v3 => iCall Tryd.prog (.fn (.func 13) [] []) [v3] g2 fun v4 g5 => iBin .neq v4 (int 0) fun v6 => iCond v6 (K (.tup [ff, v4]) g5) (iBin .lss x1 (int 1) fun v7 => iLet (fun J8 => iGuard v7 false (iBin .gtr x1 (int 1000000000) fun v9 => [x1, v1] = [x1, v1] ∧ J8 [ff, v9] g5) ([x1, v1] = [x1, v1] ∧ J8 [(negA false v7), un] g5)) fun s10 g11 => iPick (nx s10 0) tt (nx s10 1) fun v12 => iCond v12 (K (.tup [ff, (int 2)]) g11) (iLoad true 2 v1 g11 fun v13 => iCall Tryd.prog (.fn (.func 37) [] []) [v13, x1] g11 fun v14 g15 => K (.tup [v14, (int 0)]) g15))
noncomputable def c7 : Code := (Tryd.f7.body).getD .skip
theorem V7 (x0 x1 : AV) : Body Tryd.prog 7 [x0, x1] (W7 x0 x1) := ⟨c7, (.seq .nil (.seq .nil (.seq (.seq (.segs [.op 0 false, .op 1 false, .op 2 false, .grp 2 false [(3, false), (4, false)] [1, 2] [14, 16], .op 5 false]) .nil) .nil))), 21, [.tmp 4, .tmp 5], ⟨Tryd.f7, Tryd.func7, rfl, by kernel_rfl, by kernel_rfl, by kernel_rfl⟩, by simp, fun h K => by kernel_rfl⟩

/-- vitrine/vitrineref07.In (a, place) -/
def W8 (x0 x1 : AV) (h : Heap) (K : AV → Heap → Prop) : Prop :=
  iNew 23 x0 h fun v1 g2 => iLoad true 2 v1 g2 fun v3 => iCall Tryd.prog (.fn (.func 38) [] []) [v3] g2 fun v4 g5 => iNot v4 fun v6 => iCond v6 (K (.tup [ff, (int 8)]) g5) (iBin .lss x1 (int 1) fun v7 => iLet (fun J8 => iGuard v7 false (iBin .gtr x1 (int 1000000000) fun v9 => [x1, v1] = [x1, v1] ∧ J8 [ff, v9] g5) ([x1, v1] = [x1, v1] ∧ J8 [(negA false v7), un] g5)) fun s10 g11 => iPick (nx s10 0) tt (nx s10 1) fun v12 => iCond v12 (K (.tup [ff, (int 2)]) g11) (iLoad true 2 v1 g11 fun v13 => iCall Tryd.prog (.fn (.func 39) [] []) [v13, x1] g11 fun v14 g15 => K (.tup [v14, (int 0)]) g15))
noncomputable def c8 : Code := (Tryd.f8.body).getD .skip
theorem V8 (x0 x1 : AV) : Body Tryd.prog 8 [x0, x1] (W8 x0 x1) := ⟨c8, (.seq .nil (.seq .nil (.seq (.seq (.segs [.op 0 false, .op 1 false, .op 2 false, .grp 2 false [(3, false), (4, false)] [1, 2] [11, 13], .op 5 false]) .nil) .nil))), 18, [.tmp 4, .tmp 5], ⟨Tryd.f8, Tryd.func8, rfl, by kernel_rfl, by kernel_rfl, by kernel_rfl⟩, by simp, fun h K => by kernel_rfl⟩

/-- vitrine/anb.All (a, most) -/
def W9 (x0 x1 : AV) (h : Heap) (K : AV → Heap → Prop) : Prop :=
  iNew 23 x0 h fun v1 g2 => iLoad true 2 v1 g2 fun v3 => iCall Tryd.prog (.fn (.func 13) [] []) [v3] g2 fun v4 g5 => iBin .neq v4 (int 0) fun v6 => iCond v6 (K (.tup [(.v (.slice none 0 0)), v4]) g5) (iBin .lss x1 (int 0) fun v7 => iLet (fun J8 => iGuard v7 false (iBin .gtr x1 (int 64) fun v9 => [x1, v1] = [x1, v1] ∧ J8 [ff, v9] g5) ([x1, v1] = [x1, v1] ∧ J8 [(negA false v7), un] g5)) fun s10 g11 => iPick (nx s10 0) tt (nx s10 1) fun v12 => iCond v12 (K (.tup [(.v (.slice none 0 0)), (int 2)]) g11) (iLoop [(.v (.slice none 0 0)), (int 0)] g11 fun N13 s14 g15 =>
  /- l - -/ iBin .lss (nx s14 1) x1 fun v16 => iCond v16 (iLet (fun J17 => iLoad true 2 v1 g15 fun v18 => iBin .add (nx s14 1) (int 1) fun v19 => iCall Tryd.prog (.fn (.func 37) [] []) [v18, v19] g15 fun v20 g21 => iCond v20 (iBin .add (nx s14 1) (int 1) fun v22 => iMkSl 3 1 1 (int 0) [(0, 1, v22)] g21 fun v23 g24 => iApp false 3 1 8 (nx s14 0) v23 g24 fun v25 g26 => [v1, x1, (nx s14 1)] = [v1, x1, (nx s14 1)] ∧ J17 [v25] g26) ([v1, x1, (nx s14 1)] = [v1, x1, (nx s14 1)] ∧ J17 [(nx s14 0)] g21)) fun s27 g28 => iBin .add (nx s14 1) (int 1) fun v29 => [v1, x1] = [v1, x1] ∧ N13 [(nx s27 0), v29] g28) (K (.tup [(nx s14 0), (int 0)]) g15)))
noncomputable def c9 : Code := (Tryd.f9.body).getD .skip
theorem V9 (x0 x1 : AV) : Body Tryd.prog 9 [x0, x1] (W9 x0 x1) := ⟨c9, (.seq .nil (.seq .nil (.seq (.seq (.segs [.op 0 false, .op 1 false, .op 2 false, .grp 2 false [(3, false), (4, false)] [1, 2] [16, 18], .op 5 false]) .nil) (.seq .nil (.seq (.seq .nil (.one (.loop [2, 20] [7, 21] (.seq .nil (.seq .nil (.join [2, 20, 21] [7] .nil .nil)))))) .nil))))), 35, [.tmp 4, .tmp 5], ⟨Tryd.f9, Tryd.func9, rfl, by kernel_rfl, by kernel_rfl, by kernel_rfl⟩, by simp, fun h K => by kernel_rfl⟩

/-- vitrine/vitrineref07.All (a, last) -/
def W10 (x0 x1 : AV) (h : Heap) (K : AV → Heap → Prop) : Prop :=
  iNew 23 x0 h fun v1 g2 => iLoad true 2 v1 g2 fun v3 => iCall Tryd.prog (.fn (.func 38) [] []) [v3] g2 fun v4 g5 => iNot v4 fun v6 => iCond v6 (K (.tup [(.v (.slice none 0 0)), (int 8)]) g5) (iBin .lss x1 (int 0) fun v7 => iLet (fun J8 => iGuard v7 false (iBin .gtr x1 (int 64) fun v9 => [x1, v1] = [x1, v1] ∧ J8 [ff, v9] g5) ([x1, v1] = [x1, v1] ∧ J8 [(negA false v7), un] g5)) fun s10 g11 => iPick (nx s10 0) tt (nx s10 1) fun v12 => iCond v12 (K (.tup [(.v (.slice none 0 0)), (int 2)]) g11) (iLoop [(.v (.slice none 0 0)), (int 1)] g11 fun N13 s14 g15 =>
  /- out i -/ iBin .leq (nx s14 1) x1 fun v16 => iCond v16 (iLet (fun J17 => iLoad true 2 v1 g15 fun v18 => iCall Tryd.prog (.fn (.func 39) [] []) [v18, (nx s14 1)] g15 fun v19 g20 => iCond v19 (iMkSl 3 1 1 (int 0) [(0, 1, (nx s14 1))] g20 fun v21 g22 => iApp false 3 1 8 (nx s14 0) v21 g22 fun v23 g24 => [x1, v1, (nx s14 1)] = [x1, v1, (nx s14 1)] ∧ J17 [v23] g24) ([x1, v1, (nx s14 1)] = [x1, v1, (nx s14 1)] ∧ J17 [(nx s14 0)] g20)) fun s25 g26 => iBin .add (nx s14 1) (int 1) fun v27 => [x1, v1] = [x1, v1] ∧ N13 [(nx s25 0), v27] g26) (K (.tup [(nx s14 0), (int 0)]) g15)))
noncomputable def c10 : Code := (Tryd.f10.body).getD .skip
theorem V10 (x0 x1 : AV) : Body Tryd.prog 10 [x0, x1] (W10 x0 x1) := ⟨c10, (.seq .nil (.seq .nil (.seq (.seq (.segs [.op 0 false, .op 1 false, .op 2 false, .grp 2 false [(3, false), (4, false)] [1, 2] [13, 15], .op 5 false]) .nil) (.seq .nil (.seq (.seq .nil (.one (.loop [1, 2] [6, 7] (.seq .nil (.join [1, 2, 7] [6] .nil .nil))))) .nil))))), 30, [.tmp 4, .tmp 5], ⟨Tryd.f10, Tryd.func10, rfl, by kernel_rfl, by kernel_rfl, by kernel_rfl⟩, by simp, fun h K => by kernel_rfl⟩

/-- vitrine/anb.Text (a) -/
def W11 (x0 : AV) (h : Heap) (K : AV → Heap → Prop) : Prop :=
  iNew 23 x0 h fun v1 g2 => iLoad true 2 v1 g2 fun v3 => iCall Tryd.prog (.fn (.func 13) [] []) [v3] g2 fun v4 g5 => iBin .neq v4 (int 0) fun v6 => iCond v6 (K (.tup [(.str []), v4]) g5) (iFad 1 v1 fun v7 => iLoad false 1 v7 g5 fun v8 => iCall Tryd.prog (.fn (.func 40) [] []) [v8, (int 10)] g5 fun v9 g10 => iFad 0 v1 fun v11 => iLoad false 1 v11 g10 fun v12 => iBin .eql v12 (int 0) fun v13 => iCond v13 (K (.tup [v9, (int 0)]) g10) (iFad 0 v1 fun v14 => iLoad false 1 v14 g10 fun v15 => iCall Tryd.prog (.fn (.func 40) [] []) [v15, (int 10)] g10 fun v16 g17 => iLet (fun J18 => iFad 0 v1 fun v19 => iLoad false 1 v19 g17 fun v20 => iBin .eql v20 (int 1) fun v21 => iLet (fun J22 => iGuard v21 false (iFad 0 v1 fun v23 => iLoad false 1 v23 g17 fun v24 => iBin .eql v24 (int (-1)) fun v25 => [v1, v9, v16] = [v1, v9, v16] ∧ J22 [ff, v25] g17) ([v1, v9, v16] = [v1, v9, v16] ∧ J22 [(negA false v21), un] g17)) fun s26 g27 => iPick (nx s26 0) tt (nx s26 1) fun v28 => iCond v28 (iCall Tryd.prog (.fn (.func 41) [] []) [v16, (.str [49])] g27 fun v29 g30 => [v1, v9] = [v1, v9] ∧ J18 [v29] g30) ([v1, v9] = [v1, v9] ∧ J18 [v16] g27)) fun s31 g32 => iBin .add (nx s31 0) (.str [110]) fun v33 => iFad 1 v1 fun v34 => iLoad false 1 v34 g32 fun v35 => iBin .gtr v35 (int 0) fun v36 => iCond v36 (iBin .add (.str [43]) v9 fun v37 => iBin .add v33 v37 fun v38 => K (.tup [v38, (int 0)]) g32) (iFad 1 v1 fun v39 => iLoad false 1 v39 g32 fun v40 => iBin .lss v40 (int 0) fun v41 => iCond v41 (iBin .add v33 v9 fun v42 => K (.tup [v42, (int 0)]) g32) (K (.tup [v33, (int 0)]) g32))))
noncomputable def c11 : Code := (Tryd.f11.body).getD .skip
theorem V11 (x0 : AV) : Body Tryd.prog 11 [x0] (W11 x0) := ⟨c11, (.seq .nil (.seq .nil (.seq .nil (.seq .nil (.seq .nil (.join [1, 5] [6] (.seq (.segs [.op 0 false, .op 1 false, .op 2 false, .op 3 false, .grp 3 false [(4, false), (5, false), (6, false)] [1, 5, 6] [25, 28], .op 7 false]) .nil) .nil)))))), 50, [.tmp 2, .tmp 3], ⟨Tryd.f11, Tryd.func11, rfl, by kernel_rfl, by kernel_rfl, by kernel_rfl⟩, by simp, fun h K => by kernel_rfl⟩

/-- vitrine/vitrineref07.Text (a) -/
def W12 (x0 : AV) (h : Heap) (K : AV → Heap → Prop) : Prop :=
  iNew 23 x0 h fun v1 g2 => iLoad true 2 v1 g2 fun v3 => iCall Tryd.prog (.fn (.func 38) [] []) [v3] g2 fun v4 g5 => iNot v4 fun v6 => iCond v6 (K (.tup [(.str []), (int 8)]) g5) (iLoad true 2 v1 g5 fun v7 => iCall Tryd.prog (.fn (.func 42) [] []) [v7] g5 fun v8 g9 => K (.tup [v8, (int 0)]) g9)
noncomputable def c12 : Code := (Tryd.f12.body).getD .skip
theorem V12 (x0 : AV) : Body Tryd.prog 12 [x0] (W12 x0) := ⟨c12, .nil, 9, [.tmp 2, .tmp 3], ⟨Tryd.f12, Tryd.func12, rfl, by kernel_rfl, by kernel_rfl, by kernel_rfl⟩, by simp, fun h K => by kernel_rfl⟩

/-- vitrine/anb.Check (a) -/
def W13 (x0 : AV) (h : Heap) (K : AV → Heap → Prop) : Prop :=
  iNew 23 x0 h fun v1 g2 => iFad 0 v1 fun v3 => iLoad false 1 v3 g2 fun v4 => iCall Tryd.prog (.fn (.func 43) [] []) [v4] g2 fun v5 g6 => iNot v5 fun v7 => iLet (fun J8 => iGuard v7 false (iFad 1 v1 fun v9 => iLoad false 1 v9 g6 fun v10 => iCall Tryd.prog (.fn (.func 43) [] []) [v10] g6 fun v11 g12 => iNot v11 fun v13 => J8 [ff, v13] g12) (J8 [(negA false v7), un] g6)) fun s14 g15 => iPick (nx s14 0) tt (nx s14 1) fun v16 => iCond v16 (K (int 8) g15) (K (int 0) g15)
noncomputable def c13 : Code := (Tryd.f13.body).getD .skip
theorem V13 (x0 : AV) : Body Tryd.prog 13 [x0] (W13 x0) := ⟨c13, (.seq .nil (.seq (.seq (.segs [.op 0 false, .op 1 false, .op 2 false, .op 3 false, .op 4 false, .grp 4 false [(5, false), (6, false), (7, false), (8, false)] [] [7, 11], .op 9 false]) .nil) .nil)), 13, [.tmp 2], ⟨Tryd.f13, Tryd.func13, rfl, by kernel_rfl, by kernel_rfl, by kernel_rfl⟩, by simp, fun h K => by kernel_rfl⟩

/-- vitrine/vitrineref07.Check (a) -/
def W14 (x0 : AV) (h : Heap) (K : AV → Heap → Prop) : Prop :=
  iNew 23 x0 h fun v1 g2 => iLoad true 2 v1 g2 fun v3 => iCall Tryd.prog (.fn (.func 38) [] []) [v3] g2 fun v4 g5 => iNot v4 fun v6 => iCond v6 (K (int 8) g5) (K (int 0) g5)
noncomputable def c14 : Code := (Tryd.f14.body).getD .skip
theorem V14 (x0 : AV) : Body Tryd.prog 14 [x0] (W14 x0) := ⟨c14, .nil, 6, [.tmp 2], ⟨Tryd.f14, Tryd.func14, rfl, by kernel_rfl, by kernel_rfl, by kernel_rfl⟩, by simp, fun h K => by kernel_rfl⟩

/-- vitrine/anb.has (a, place) -/
def W37 (x0 x1 : AV) (h : Heap) (K : AV → Heap → Prop) : Prop :=
  iNew 23 x0 h fun v1 g2 => iFad 1 v1 fun v3 => iLoad false 1 v3 g2 fun v4 => iBin .sub x1 v4 fun v5 => iFad 0 v1 fun v6 => iLoad false 1 v6 g2 fun v7 => iBin .gtr v7 (int 0) fun v8 => iCond v8 (iBin .geq v5 (int 0) fun v9 => iLet (fun J10 => iGuard v9 true (iFad 0 v1 fun v11 => iLoad false 1 v11 g2 fun v12 => iBin .rem v5 v12 fun v13 => iBin .eql v13 (int 0) fun v14 => J10 [tt, v14] g2) (J10 [(negA true v9), un] g2)) fun s15 g16 => iPick (nx s15 0) (nx s15 1) ff fun v17 => K v17 g16) (iFad 0 v1 fun v18 => iLoad false 1 v18 g2 fun v19 => iBin .lss v19 (int 0) fun v20 => iCond v20 (iBin .leq v5 (int 0) fun v21 => iLet (fun J22 => iGuard v21 true (iFad 0 v1 fun v23 => iLoad false 1 v23 g2 fun v24 => iBin .rem v5 v24 fun v25 => iBin .eql v25 (int 0) fun v26 => J22 [tt, v26] g2) (J22 [(negA true v21), un] g2)) fun s27 g28 => iPick (nx s27 0) (nx s27 1) ff fun v29 => K v29 g28) (iBin .eql v5 (int 0) fun v30 => K v30 g2))
noncomputable def c37 : Code := (Tryd.f37.body).getD .skip
theorem V37 (x0 x1 : AV) : Body Tryd.prog 37 [x0, x1] (W37 x0 x1) := ⟨c37, (.seq .nil (.seq .nil (.one (.seq .nil (.two (.seq (.segs [.op 0 false, .op 1 false, .op 2 false, .grp 2 true [(3, false), (4, false), (5, false), (6, false), (7, false)] [] [18, 23], .op 8 false, .op 9 false]) .nil) (.seq .nil (.two (.seq (.segs [.op 0 false, .op 1 false, .op 2 false, .grp 2 true [(3, false), (4, false), (5, false), (6, false), (7, false)] [] [31, 36], .op 8 false, .op 9 false]) .nil) .nil))))))), 38, [.tmp 4], ⟨Tryd.f37, Tryd.func37, rfl, by kernel_rfl, by kernel_rfl, by kernel_rfl⟩, by simp, fun h K => by kernel_rfl⟩

/-- vitrine/vitrineref07.Valid (a) -/
def W38 (x0 : AV) (h : Heap) (K : AV → Heap → Prop) : Prop :=
  iNew 23 x0 h fun v1 g2 => iFad 0 v1 fun v3 => iLoad false 1 v3 g2 fun v4 => iBin .geq v4 (int (-1000000000)) fun v5 => iLet (fun J6 => iGuard v5 true (iFad 0 v1 fun v7 => iLoad false 1 v7 g2 fun v8 => iBin .leq v8 (int 1000000000) fun v9 => [v1] = [v1] ∧ J6 [tt, v9] g2) ([v1] = [v1] ∧ J6 [(negA true v5), un] g2)) fun s10 g11 => iPick (nx s10 0) (nx s10 1) ff fun v12 => iLet (fun J13 => iGuard v12 true (iFad 1 v1 fun v14 => iLoad false 1 v14 g11 fun v15 => iBin .geq v15 (int (-1000000000)) fun v16 => [v1] = [v1] ∧ J13 [tt, v16] g11) ([v1] = [v1] ∧ J13 [(negA true v12), un] g11)) fun s17 g18 => iPick (nx s17 0) (nx s17 1) ff fun v19 => iLet (fun J20 => iGuard v19 true (iFad 1 v1 fun v21 => iLoad false 1 v21 g18 fun v22 => iBin .leq v22 (int 1000000000) fun v23 => J20 [tt, v23] g18) (J20 [(negA true v19), un] g18)) fun s24 g25 => iPick (nx s24 0) (nx s24 1) ff fun v26 => K v26 g25
noncomputable def c38 : Code := (Tryd.f38.body).getD .skip
theorem V38 (x0 : AV) : Body Tryd.prog 38 [x0] (W38 x0) := ⟨c38, (.seq .nil (.seq (.segs [.op 0 false, .op 1 false, .op 2 false, .op 3 false, .grp 3 true [(4, false), (5, false), (6, false)] [1] [6, 9], .op 7 false, .op 8 false, .grp 8 true [(9, false), (10, false), (11, false)] [1] [11, 14], .op 12 false, .op 13 false, .grp 13 true [(14, false), (15, false), (16, false)] [] [16, 19], .op 17 false, .op 18 false]) .nil)), 21, [.tmp 2], ⟨Tryd.f38, Tryd.func38, rfl, by kernel_rfl, by kernel_rfl, by kernel_rfl⟩, by simp, fun h K => by kernel_rfl⟩

/-- vitrine/vitrineref07.Has (a, place) -/
def W39 (x0 x1 : AV) (h : Heap) (K : AV → Heap → Prop) : Prop :=
  iNew 23 x0 h fun v1 g2 => iFad 1 v1 fun v3 => iLoad false 1 v3 g2 fun v4 => iBin .sub x1 v4 fun v5 => iFad 0 v1 fun v6 => iLoad false 1 v6 g2 fun v7 => iBin .eql v7 (int 0) fun v8 => iCond v8 (iBin .eql v5 (int 0) fun v9 => K v9 g2) (iFad 0 v1 fun v10 => iLoad false 1 v10 g2 fun v11 => iBin .rem v5 v11 fun v12 => iBin .eql v12 (int 0) fun v13 => iLet (fun J14 => iGuard v13 true (iFad 0 v1 fun v15 => iLoad false 1 v15 g2 fun v16 => iBin .quo v5 v16 fun v17 => iBin .geq v17 (int 0) fun v18 => J14 [tt, v18] g2) (J14 [(negA true v13), un] g2)) fun s19 g20 => iPick (nx s19 0) (nx s19 1) ff fun v21 => K v21 g20)
noncomputable def c39 : Code := (Tryd.f39.body).getD .skip
theorem V39 (x0 x1 : AV) : Body Tryd.prog 39 [x0, x1] (W39 x0 x1) := ⟨c39, (.seq .nil (.seq .nil (.seq .nil (.seq (.segs [.op 0 false, .op 1 false, .op 2 false, .op 3 false, .op 4 false, .op 5 false, .grp 5 true [(6, false), (7, false), (8, false), (9, false), (10, false)] [] [20, 25], .op 11 false, .op 12 false]) .nil)))), 27, [.tmp 4], ⟨Tryd.f39, Tryd.func39, rfl, by kernel_rfl, by kernel_rfl, by kernel_rfl⟩, by simp, fun h K => by kernel_rfl⟩

/-- vitrine/vitrineref07.Written (a) -/
def W42 (x0 : AV) (h : Heap) (K : AV → Heap → Prop) : Prop :=
  iNew 23 x0 h fun v1 g2 => iFad 0 v1 fun v3 => iLoad false 1 v3 g2 fun v4 => iBin .eql v4 (int 0) fun v5 => iCond v5 (iFad 1 v1 fun v6 => iLoad false 1 v6 g2 fun v7 => iCall Tryd.prog (.fn (.func 76) [] []) [v7] g2 fun v8 g9 => K v8 g9) (iFad 0 v1 fun v10 => iLoad false 1 v10 g2 fun v11 => iCall Tryd.prog (.fn (.func 76) [] []) [v11] g2 fun v12 g13 => iLet (fun J14 => iFad 0 v1 fun v15 => iLoad false 1 v15 g13 fun v16 => iBin .eql v16 (int 1) fun v17 => iCond v17 ([v1] = [v1] ∧ J14 [(.str [])] g13) ([v1] = [v1] ∧ J14 [v12] g13)) fun s18 g19 => iLet (fun J20 => iFad 0 v1 fun v21 => iLoad false 1 v21 g19 fun v22 => iBin .eql v22 (int (-1)) fun v23 => iCond v23 ([v1] = [v1] ∧ J20 [(.str [45])] g19) ([v1] = [v1] ∧ J20 [(nx s18 0)] g19)) fun s24 g25 => iBin .add (nx s24 0) (.str [110]) fun v26 => iFad 1 v1 fun v27 => iLoad false 1 v27 g25 fun v28 => iBin .gtr v28 (int 0) fun v29 => iCond v29 (iBin .add v26 (.str [43]) fun v30 => iFad 1 v1 fun v31 => iLoad false 1 v31 g25 fun v32 => iCall Tryd.prog (.fn (.func 77) [] []) [v32] g25 fun v33 g34 => iBin .add v30 v33 fun v35 => K v35 g34) (iFad 1 v1 fun v36 => iLoad false 1 v36 g25 fun v37 => iBin .lss v37 (int 0) fun v38 => iCond v38 (iFad 1 v1 fun v39 => iLoad false 1 v39 g25 fun v40 => iCall Tryd.prog (.fn (.func 76) [] []) [v40] g25 fun v41 g42 => iBin .add v26 v41 fun v43 => K v43 g42) (K v26 g25)))
noncomputable def c42 : Code := (Tryd.f42.body).getD .skip
theorem V42 (x0 : AV) : Body Tryd.prog 42 [x0] (W42 x0) := ⟨c42, (.seq .nil (.seq .nil (.seq .nil (.join [1] [3] .nil (.join [1] [3] .nil .nil))))), 39, [.tmp 2], ⟨Tryd.f42, Tryd.func42, rfl, by kernel_rfl, by kernel_rfl, by kernel_rfl⟩, by simp, fun h K => by kernel_rfl⟩

/-- vitrine/anb.within (n) -/
def W43 (x0 : AV) (h : Heap) (K : AV → Heap → Prop) : Prop :=
  iBin .leq (int (-1000000000)) x0 fun v1 => iLet (fun J2 => iGuard v1 true (iBin .leq x0 (int 1000000000) fun v3 => J2 [tt, v3] h) (J2 [(negA true v1), un] h)) fun s4 g5 => iPick (nx s4 0) (nx s4 1) ff fun v6 => K v6 g5
noncomputable def c43 : Code := (Tryd.f43.body).getD .skip
theorem V43 (x0 : AV) : Body Tryd.prog 43 [x0] (W43 x0) := ⟨c43, (.seq .nil (.seq (.segs [.op 0 false, .op 1 false, .op 2 false, .grp 2 true [(3, false), (4, false)] [] [5, 7], .op 5 false, .op 6 false]) .nil)), 9, [.tmp 2], ⟨Tryd.f43, Tryd.func43, rfl, by kernel_rfl, by kernel_rfl, by kernel_rfl⟩, by simp, fun h K => by kernel_rfl⟩

/-- vitrine/vitrineref07.signed (n) -/
def W76 (x0 : AV) (h : Heap) (K : AV → Heap → Prop) : Prop :=
  iBin .lss x0 (int 0) fun v1 => iCond v1 (iNeg x0 fun v2 => iCall Tryd.prog (.fn (.func 77) [] []) [v2] h fun v3 g4 => iBin .add (.str [45]) v3 fun v5 => K v5 g4) (iCall Tryd.prog (.fn (.func 77) [] []) [x0] h fun v6 g7 => K v6 g7)
noncomputable def c76 : Code := (Tryd.f76.body).getD .skip
theorem V76 (x0 : AV) : Body Tryd.prog 76 [x0] (W76 x0) := ⟨c76, .nil, 11, [.tmp 2], ⟨Tryd.f76, Tryd.func76, rfl, by kernel_rfl, by kernel_rfl, by kernel_rfl⟩, by simp, fun h K => by kernel_rfl⟩

/-- vitrine/vitrineref07.digits (n) -/
def W77 (x0 : AV) (h : Heap) (K : AV → Heap → Prop) : Prop :=
  iBin .rem x0 (int 10) fun v1 => iBin .add (int 48) v1 fun v2 => iConv .u8 v2 fun v3 => iMkSl 5 1 1 (u8 0) [(0, 1, v3)] h fun v4 g5 => iOfBytes v4 g5 fun v6 => iBin .lss x0 (int 10) fun v7 => iCond v7 (K v6 g5) (iBin .quo x0 (int 10) fun v8 => iCall Tryd.prog (.fn (.func 77) [] []) [v8] g5 fun v9 g10 => iBin .add v9 v6 fun v11 => K v11 g10)
noncomputable def c77 : Code := (Tryd.f77.body).getD .skip
theorem V77 (x0 : AV) : Body Tryd.prog 77 [x0] (W77 x0) := ⟨c77, .nil, 18, [.tmp 2], ⟨Tryd.f77, Tryd.func77, rfl, by kernel_rfl, by kernel_rfl, by kernel_rfl⟩, by simp, fun h K => by kernel_rfl⟩

/-- strings.TrimSuffix (s, suffix) -/
def W41 (x0 x1 : AV) (h : Heap) (K : AV → Heap → Prop) : Prop :=
  iCall Tryd.prog (.fn (.func 75) [] []) [x0, x1] h fun v1 g2 => K v1 g2
noncomputable def c41 : Code := (Tryd.f41.body).getD .skip
theorem V41 (x0 x1 : AV) : Body Tryd.prog 41 [x0, x1] (W41 x0 x1) := ⟨c41, .nil, 8, [.tmp 4], ⟨Tryd.f41, Tryd.func41, rfl, by kernel_rfl, by kernel_rfl, by kernel_rfl⟩, by simp, fun h K => by kernel_rfl⟩

/-- internal/stringslite.TrimSuffix (s, suffix) -/
def W75 (x0 x1 : AV) (h : Heap) (K : AV → Heap → Prop) : Prop :=
  iCall Tryd.prog (.fn (.func 105) [] []) [x0, x1] h fun v1 g2 => iCond v1 (iLenS x0 fun v3 => iLenS x1 fun v4 => iBin .sub v3 v4 fun v5 => iSlS x0 none (some v5) fun v6 => K v6 g2) (K x0 g2)
noncomputable def c75 : Code := (Tryd.f75.body).getD .skip
theorem V75 (x0 x1 : AV) : Body Tryd.prog 75 [x0, x1] (W75 x0 x1) := ⟨c75, .nil, 16, [.tmp 4], ⟨Tryd.f75, Tryd.func75, rfl, by kernel_rfl, by kernel_rfl, by kernel_rfl⟩, by simp, fun h K => by kernel_rfl⟩

/-- internal/stringslite.HasSuffix (s, suffix) -/
def W105 (x0 x1 : AV) (h : Heap) (K : AV → Heap → Prop) : Prop :=
  iLenS x0 fun v1 => iLenS x1 fun v2 => iBin .geq v1 v2 fun v3 => iLet (fun J4 => iGuard v3 true (iLenS x0 fun v5 => iLenS x1 fun v6 => iBin .sub v5 v6 fun v7 => iSlS x0 (some v7) none fun v8 => iBin .eql v8 x1 fun v9 => J4 [tt, v9] h) (J4 [(negA true v3), un] h)) fun s10 g11 => iPick (nx s10 0) (nx s10 1) ff fun v12 => K v12 g11
noncomputable def c105 : Code := (Tryd.f105.body).getD .skip
theorem V105 (x0 x1 : AV) : Body Tryd.prog 105 [x0, x1] (W105 x0 x1) := ⟨c105, (.seq .nil (.seq (.segs [.op 0 false, .op 1 false, .op 2 false, .op 3 false, .op 4 false, .op 5 false, .grp 5 true [(6, false), (7, false), (8, false), (9, false), (10, false), (11, false), (12, false), (13, false), (14, false)] [] [10, 19], .op 15 false, .op 16 false]) .nil)), 21, [.tmp 4], ⟨Tryd.f105, Tryd.func105, rfl, by kernel_rfl, by kernel_rfl, by kernel_rfl⟩, by simp, fun h K => by kernel_rfl⟩
end Go.Proofs.YtedaaincibcbkaaDoor
