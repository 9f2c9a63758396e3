/-
  What functions of the translation ask, held against their code by the kernel. Printed by a program.
  No conditions.
-/
import Derived.Test.YthblflmjingcfaaDoorL2
import Derived.Test.YthblflmjingcfaaDoorProg
import Derived.KernelRfl
set_option linter.unusedVariables false
set_option linter.unusedSimpArgs false
namespace Go.Proofs.YthblflmjingcfaaDoor
open Go Go.Aw
set_option maxRecDepth 1000000
variable [Laid]

/-- cmp.Less[string] (x, y) -/
def W39 (x0 x1 : AV) (h : Heap) (K : AV → Heap → Prop) : Prop :=
  iCall Tryd.prog (.fn (.func 54) [] []) [x0] h fun v1 g2 => iLet (fun J3 => iGuard v1 true (iCall Tryd.prog (.fn (.func 54) [] []) [x1] g2 fun v4 g5 => iNot v4 fun v6 => [x0, x1] = [x0, x1] ∧ J3 [tt, v6] g5) ([x0, x1] = [x0, x1] ∧ J3 [(negA true v1), un] g2)) fun s7 g8 => iPick (nx s7 0) (nx s7 1) ff fun v9 => iLet (fun J10 => iGuard v9 false (iBin .lss x0 x1 fun v11 => J10 [ff, v11] g8) (J10 [(negA false v9), un] g8)) fun s12 g13 => iPick (nx s12 0) tt (nx s12 1) fun v14 => K v14 g13
noncomputable def c39 : Code := (Tryd.f39.body).getD .skip
theorem V39 (x0 x1 : AV) : Body Tryd.prog 39 [x0, x1] (W39 x0 x1) := ⟨c39, (.seq .nil (.seq (.segs [.op 0 false, .op 1 false, .op 2 false, .grp 2 true [(3, false), (4, false), (5, false)] [0, 1] [7, 10], .op 6 false, .op 7 false, .grp 7 false [(8, false), (9, false), (10, false)] [] [12, 15], .op 11 false, .op 12 false]) .nil)), 17, [.tmp 4], ⟨Tryd.f39, Tryd.func39, rfl, by kernel_rfl, by kernel_rfl, by kernel_rfl⟩, by simp, fun h K => by kernel_rfl⟩

/-- cmp.isNaN[string] (x) -/
def W54 (x0 : AV) (h : Heap) (K : AV → Heap → Prop) : Prop :=
  iBin .neq x0 x0 fun v1 => K v1 h
noncomputable def c54 : Code := (Tryd.f54.body).getD .skip
theorem V54 (x0 : AV) : Body Tryd.prog 54 [x0] (W54 x0) := ⟨c54, .nil, 6, [.tmp 2], ⟨Tryd.f54, Tryd.func54, rfl, by kernel_rfl, by kernel_rfl, by kernel_rfl⟩, by simp, fun h K => by kernel_rfl⟩

/-- slices.BinarySearch[[]string,string] (x, target) -/
def W21 (x0 x1 : AV) (h : Heap) (K : AV → Heap → Prop) : Prop :=
  iLen x0 fun v1 => iLoop [(int 0), v1] h fun N2 s3 g4 =>
  /- i j -/ iBin .lss (nx s3 0) (nx s3 1) fun v5 => iCond v5 (iBin .add (nx s3 0) (nx s3 1) fun v6 => iConv .u64 v6 fun v7 => iBin .shr v7 (.v (.int .u64 1)) fun v8 => iConv .i64 v8 fun v9 => iIdxP 1 x0 v9 fun v10 => iLoad false 1 v10 g4 fun v11 => iCall Tryd.prog (.fn (.func 39) [] []) [v11, x1] g4 fun v12 g13 => iCond v12 (iBin .add v9 (int 1) fun v14 => [x0, x1, v1] = [x0, x1, v1] ∧ N2 [v14, (nx s3 1)] g13) ([x0, x1, v1] = [x0, x1, v1] ∧ N2 [(nx s3 0), v9] g13)) (iBin .lss (nx s3 0) v1 fun v15 => iLet (fun J16 => iGuard v15 true (iIdxP 1 x0 (nx s3 0) fun v17 => iLoad false 1 v17 g4 fun v18 => iBin .eql v18 x1 fun v19 => [x0, x1, (nx s3 0), (nx s3 0)] = [x0, x1, (nx s3 0), (nx s3 0)] ∧ J16 [tt, v19] g4) ([x0, x1, (nx s3 0), (nx s3 0)] = [x0, x1, (nx s3 0), (nx s3 0)] ∧ J16 [(negA true v15), un] g4)) fun s20 g21 => iLet (fun J22 => iGuard (nx s20 1) false (iIdxP 1 x0 (nx s3 0) fun v23 => iLoad false 1 v23 g21 fun v24 => iCall Tryd.prog (.fn (.func 40) [] []) [v24] g21 fun v25 g26 => [x1, (nx s3 0), (nx s20 0)] = [x1, (nx s3 0), (nx s20 0)] ∧ J22 [ff, v25] g26) ([x1, (nx s3 0), (nx s20 0)] = [x1, (nx s3 0), (nx s20 0)] ∧ J22 [(negA false (nx s20 1)), un] g21)) fun s27 g28 => iLet (fun J29 => iGuard (nx s27 1) true (iCall Tryd.prog (.fn (.func 40) [] []) [x1] g28 fun v30 g31 => [(nx s3 0), (nx s20 0), (nx s27 0)] = [(nx s3 0), (nx s20 0), (nx s27 0)] ∧ J29 [tt, v30] g31) ([(nx s3 0), (nx s20 0), (nx s27 0)] = [(nx s3 0), (nx s20 0), (nx s27 0)] ∧ J29 [(negA true (nx s27 1)), un] g28)) fun s32 g33 => iLet (fun J34 => iGuard (nx s27 0) false (iPick (nx s32 0) (nx s32 1) ff fun v35 => [(nx s3 0), (nx s20 0)] = [(nx s3 0), (nx s20 0)] ∧ J34 [ff, v35] g33) ([(nx s3 0), (nx s20 0)] = [(nx s3 0), (nx s20 0)] ∧ J34 [(negA false (nx s27 0)), un] g33)) fun s36 g37 => iLet (fun J38 => iGuard (nx s20 0) true (iPick (nx s36 0) tt (nx s36 1) fun v39 => [(nx s3 0)] = [(nx s3 0)] ∧ J38 [tt, v39] g37) ([(nx s3 0)] = [(nx s3 0)] ∧ J38 [(negA true (nx s20 0)), un] g37)) fun s40 g41 => iPick (nx s40 0) (nx s40 1) ff fun v42 => K (.tup [(nx s3 0), v42]) g41)
noncomputable def c21 : Code := (Tryd.f21.body).getD .skip
theorem V21 (x0 x1 : AV) : Body Tryd.prog 21 [x0, x1] (W21 x0 x1) := ⟨c21, (.seq .nil (.seq .nil (.seq .nil (.seq (.one (.loop [0, 1, 6] [7, 8] .nil)) (.seq (.segs [.op 0 false, .op 1 false, .op 2 false, .op 3 false, .op 4 false, .grp 4 true [(5, false), (6, false), (7, false), (8, false), (9, false), (10, false), (11, false)] [0, 1, 7, 31] [35, 42], .grp 11 false [(12, false), (13, false), (14, false), (15, false), (16, false), (17, false)] [1, 31, 35] [42, 48], .grp 17 true [(18, false), (19, false)] [31, 35, 42] [48, 50], .grp 11 false [(20, false)] [31, 35] [42, 51], .grp 4 true [(21, false)] [31] [35, 52], .op 22 false, .op 23 false, .op 24 false]) .nil))))), 54, [.tmp 4, .tmp 5], ⟨Tryd.f21, Tryd.func21, rfl, by kernel_rfl, by kernel_rfl, by kernel_rfl⟩, by simp, fun h K => by kernel_rfl⟩

/-- slices.isNaN[string] (x) -/
def W40 (x0 : AV) (h : Heap) (K : AV → Heap → Prop) : Prop :=
  iBin .neq x0 x0 fun v1 => K v1 h
noncomputable def c40 : Code := (Tryd.f40.body).getD .skip
theorem V40 (x0 : AV) : Body Tryd.prog 40 [x0] (W40 x0) := ⟨c40, .nil, 6, [.tmp 2], ⟨Tryd.f40, Tryd.func40, rfl, by kernel_rfl, by kernel_rfl, by kernel_rfl⟩, by simp, fun h K => by kernel_rfl⟩

/-- vitrine/paint.Check (history) -/
def W11 (x0 : AV) (h : Heap) (K : AV → Heap → Prop) : Prop :=
  iLen x0 fun v1 => iBin .gtr v1 (int 32) fun v2 => iCond v2 (K (int 4) h) (iLen x0 fun v3 => iLoop [(int 0)] h fun N4 s5 g6 =>
  /- - -/ iBin .lss (nx s5 0) v3 fun v7 => iCond v7 (iIdxP 1 x0 (nx s5 0) fun v8 => iLoad false 1 v8 g6 fun v9 => iLenS v9 fun v10 => iBin .gtr v10 (int 64) fun v11 => iLet (fun J12 => iGuard v11 false (iBin .gtr (nx s5 0) (int 0) fun v13 => [x0, (nx s5 0), v9, x0, v3, (nx s5 0)] = [x0, (nx s5 0), v9, x0, v3, (nx s5 0)] ∧ J12 [ff, v13] g6) ([x0, (nx s5 0), v9, x0, v3, (nx s5 0)] = [x0, (nx s5 0), v9, x0, v3, (nx s5 0)] ∧ J12 [(negA false v11), un] g6)) fun s14 g15 => iLet (fun J16 => iGuard (nx s14 1) true (iBin .sub (nx s5 0) (int 1) fun v17 => iIdxP 1 x0 v17 fun v18 => iLoad false 1 v18 g15 fun v19 => iBin .geq v19 v9 fun v20 => [x0, x0, v3, (nx s5 0), (nx s14 0)] = [x0, x0, v3, (nx s5 0), (nx s14 0)] ∧ J16 [tt, v20] g15) ([x0, x0, v3, (nx s5 0), (nx s14 0)] = [x0, x0, v3, (nx s5 0), (nx s14 0)] ∧ J16 [(negA true (nx s14 1)), un] g15)) fun s21 g22 => iLet (fun J23 => iGuard (nx s14 0) false (iPick (nx s21 0) (nx s21 1) ff fun v24 => [x0, x0, v3, (nx s5 0)] = [x0, x0, v3, (nx s5 0)] ∧ J23 [ff, v24] g22) ([x0, x0, v3, (nx s5 0)] = [x0, x0, v3, (nx s5 0)] ∧ J23 [(negA false (nx s14 0)), un] g22)) fun s25 g26 => iPick (nx s25 0) tt (nx s25 1) fun v27 => iCond v27 (K (int 8) g26) (iBin .add (nx s5 0) (int 1) fun v28 => [x0, x0, v3] = [x0, x0, v3] ∧ N4 [v28] g26)) (K (int 0) g6))
noncomputable def c11 : Code := (Tryd.f11.body).getD .skip
theorem V11 (x0 : AV) : Body Tryd.prog 11 [x0] (W11 x0) := ⟨c11, (.seq .nil (.seq .nil (.seq (.seq .nil (.one (.loop [0, 8, 9] [10] (.seq .nil (.seq .nil (.seq (.one (.seq .nil (.seq (.segs [.op 0 false, .op 1 false, .op 2 false, .op 3 false, .grp 3 false [(4, false), (5, false), (6, false)] [0, 3, 4, 8, 9, 10] [18, 21], .grp 6 true [(7, false), (8, false), (9, false), (10, false), (11, false), (12, false), (13, false)] [0, 8, 9, 10, 18] [21, 28], .grp 3 false [(14, false)] [0, 8, 9, 10] [18, 29], .op 15 false]) .nil))) .nil)))))) .nil))), 32, [.tmp 2], ⟨Tryd.f11, Tryd.func11, rfl, by kernel_rfl, by kernel_rfl, by kernel_rfl⟩, by simp, fun h K => by kernel_rfl⟩

/-- vitrine/paint.Was (history, href) -/
def W7 (x0 x1 : AV) (h : Heap) (K : AV → Heap → Prop) : Prop :=
  iCall Tryd.prog (.fn (.func 11) [] []) [x0] h fun v1 g2 => iBin .neq v1 (int 0) fun v3 => iCond v3 (K (.tup [ff, v1]) g2) (iCall Tryd.prog (.fn (.func 21) [] []) [x0, x1] g2 fun v4 g5 => iExtr 0 v4 fun v6 => iExtr 1 v4 fun v7 => K (.tup [v7, (int 0)]) g5)
noncomputable def c7 : Code := (Tryd.f7.body).getD .skip
theorem V7 (x0 x1 : AV) : Body Tryd.prog 7 [x0, x1] (W7 x0 x1) := ⟨c7, .nil, 21, [.tmp 4, .tmp 5], ⟨Tryd.f7, Tryd.func7, rfl, by kernel_rfl, by kernel_rfl, by kernel_rfl⟩, by simp, fun h K => by kernel_rfl⟩

/-- vitrine/vitrineref35.Check (history) -/
def W12 (x0 : AV) (h : Heap) (K : AV → Heap → Prop) : Prop :=
  iLen x0 fun v1 => iBin .gtr v1 (int 32) fun v2 => iCond v2 (K (int 4) h) (iLoop [(int 0)] h fun N3 s4 g5 =>
  /- i -/ iLen x0 fun v6 => iBin .lss (nx s4 0) v6 fun v7 => iCond v7 (iIdxP 1 x0 (nx s4 0) fun v8 => iLoad false 1 v8 g5 fun v9 => iLenSQ v9 fun v10 => iBin .gtr v10 (int 64) fun v11 => iLet (fun J12 => iGuard v11 false (iBin .gtr (nx s4 0) (int 0) fun v13 => J12 [(nx s4 0), v13, v13] g5) (J12 [un, un, un] g5)) fun s14 _ => iLet (fun J15 => iGuard (nx s14 2) true (iBin .sub (nx s4 0) (int 1) fun v16 => iIdxP 1 x0 v16 fun v17 => iLoad false 1 v17 g5 fun v18 => iIdxP 1 x0 (nx s4 0) fun v19 => iLoad false 1 v19 g5 fun v20 => iBin .geq v18 v20 fun v21 => J15 [x0, (nx s4 0), v16, v17, v18, x0, (nx s4 0), v19, v20, v21] g5) (J15 [un, un, un, un, un, un, un, un, un, un] g5)) fun s22 _ => iLet (fun J23 => iGuard v11 false (iPick (nx s14 2) (nx s22 9) ff fun v24 => J23 [v24] g5) (J23 [un] g5)) fun s25 _ => iPick v11 tt (nx s25 0) fun v26 => iCond v26 (K (int 8) g5) (iBin .add (nx s4 0) (int 1) fun v27 => [x0] = [x0] ∧ N3 [v27] g5)) (K (int 0) g5))
noncomputable def c12 : Code := (Tryd.f12.body).getD .skip
theorem V12 (x0 : AV) : Body Tryd.prog 12 [x0] (W12 x0) := ⟨c12, (.seq .nil (.seq .nil (.seq (.seq .nil (.one (.loop [0] [3] (.seq .nil (.seq (.one (.seq (.draw 22 [.op 0 false, .op 1 false, .op 2 false, .op 3 false, .op 4 false, .op 5 false, .op 6 false, .grp 6 false [(7, false), (8, false), (9, false)] [] [20, 21, 22], .grp 9 true [(10, false), (11, false), (12, false), (13, false), (14, false), (15, false), (16, false), (17, false), (18, false), (19, false)] [] [23, 24, 25, 26, 27, 28, 29, 30, 31, 32], .grp 6 false [(20, false)] [] [33], .op 21 false] [] []) .nil)) .nil))))) .nil))), 35, [.tmp 2], ⟨Tryd.f12, Tryd.func12, rfl, by kernel_rfl, by kernel_rfl, by kernel_rfl⟩, by simp, fun h K => by kernel_rfl⟩

/-- vitrine/vitrineref35.In (history, href) -/
def W22 (x0 x1 : AV) (h : Heap) (K : AV → Heap → Prop) : Prop :=
  iLoop [(int 0)] h fun N1 s2 g3 =>
  /- i -/ iLen x0 fun v4 => iBin .lss (nx s2 0) v4 fun v5 => iCond v5 (iIdxP 1 x0 (nx s2 0) fun v6 => iLoad false 1 v6 g3 fun v7 => iBin .eql v7 x1 fun v8 => iCond v8 (K tt g3) (iBin .add (nx s2 0) (int 1) fun v9 => [x0, x1] = [x0, x1] ∧ N1 [v9] g3)) (K ff g3)
noncomputable def c22 : Code := (Tryd.f22.body).getD .skip
theorem V22 (x0 x1 : AV) : Body Tryd.prog 22 [x0, x1] (W22 x0 x1) := ⟨c22, (.seq .nil (.seq (.seq .nil (.one (.loop [0, 1] [5] .nil))) .nil)), 18, [.tmp 4], ⟨Tryd.f22, Tryd.func22, rfl, by kernel_rfl, by kernel_rfl, by kernel_rfl⟩, by simp, fun h K => by kernel_rfl⟩

/-- vitrine/vitrineref35.Was (history, href) -/
def W8 (x0 x1 : AV) (h : Heap) (K : AV → Heap → Prop) : Prop :=
  iCall Tryd.prog (.fn (.func 12) [] []) [x0] h fun v1 g2 => iBin .neq v1 (int 0) fun v3 => iCond v3 (K (.tup [ff, v1]) g2) (iCall Tryd.prog (.fn (.func 22) [] []) [x0, x1] g2 fun v4 g5 => K (.tup [v4, (int 0)]) g5)
noncomputable def c8 : Code := (Tryd.f8.body).getD .skip
theorem V8 (x0 x1 : AV) : Body Tryd.prog 8 [x0, x1] (W8 x0 x1) := ⟨c8, .nil, 15, [.tmp 4, .tmp 5], ⟨Tryd.f8, Tryd.func8, rfl, by kernel_rfl, by kernel_rfl, by kernel_rfl⟩, by simp, fun h K => by kernel_rfl⟩

/-- vitrine/vitrineref35.Great (history) -/
def W5 (x0 : AV) (h : Heap) (K : AV → Heap → Prop) : Prop :=
  iLoop [(int 0)] h fun N1 s2 g3 =>
  /- i -/ iLen x0 fun v4 => iBin .lss (nx s2 0) v4 fun v5 => iLet (fun J6 => iGuard v5 true (iBin .leq (nx s2 0) (int 40) fun v7 => [x0, (nx s2 0)] = [x0, (nx s2 0)] ∧ J6 [tt, v7] g3) ([x0, (nx s2 0)] = [x0, (nx s2 0)] ∧ J6 [(negA true v5), un] g3)) fun s8 g9 => iPick (nx s8 0) (nx s8 1) ff fun v10 => iCond v10 (iIdxP 1 x0 (nx s2 0) fun v11 => iLoad false 1 v11 g9 fun v12 => iLenS v12 fun v13 => iBin .gtr v13 (int 200) fun v14 => iCond v14 (K tt g9) (iBin .add (nx s2 0) (int 1) fun v15 => [x0] = [x0] ∧ N1 [v15] g9)) (iLen x0 fun v16 => iBin .gtr v16 (int 40) fun v17 => K v17 g9)
noncomputable def c5 : Code := (Tryd.f5.body).getD .skip
theorem V5 (x0 : AV) : Body Tryd.prog 5 [x0] (W5 x0) := ⟨c5, (.seq .nil (.seq (.seq .nil (.one (.loop [0] [3] (.seq (.seq (.segs [.op 0 false, .op 1 false, .op 2 false, .op 3 false, .op 4 false, .grp 4 true [(5, false), (6, false)] [0, 3] [8, 10], .op 7 false]) .nil) .nil)))) .nil)), 23, [.tmp 2], ⟨Tryd.f5, Tryd.func5, rfl, by kernel_rfl, by kernel_rfl, by kernel_rfl⟩, by simp, fun h K => by kernel_rfl⟩
end Go.Proofs.YthblflmjingcfaaDoor
