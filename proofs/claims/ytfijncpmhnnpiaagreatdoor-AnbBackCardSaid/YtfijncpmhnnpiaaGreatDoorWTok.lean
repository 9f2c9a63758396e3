/-
  What functions of the translation ask, held against their code by the kernel. Printed by a program.
  No conditions.
-/
import Derived.Test.YtfijncpmhnnpiaaGreatDoorL2
import Derived.Test.YtfijncpmhnnpiaaGreatDoorProg
import Derived.KernelRfl
set_option linter.unusedVariables false
set_option linter.unusedSimpArgs false
namespace Go.Proofs.YtfijncpmhnnpiaaGreatDoor
open Go Go.Aw
set_option maxRecDepth 1000000
variable [Laid]

/-- vitrine/token.first (b) -/
def W67 (x0 : AV) (h : Heap) (K : AV → Heap → Prop) : Prop :=
  iBin .or x0 (int 32) fun v1 => iCall Tryz.prog (.fn (.func 93) [] []) [v1, (int 97), (int 122)] h fun v2 g3 => iLet (fun J4 => iGuard v2 true (iBin .lss x0 (int 128) fun v5 => [x0] = [x0] ∧ J4 [tt, v5] g3) ([x0] = [x0] ∧ J4 [(negA true v2), un] g3)) fun s6 g7 => iPick (nx s6 0) (nx s6 1) ff fun v8 => iLet (fun J9 => iGuard v8 true (iBin .gtr x0 (int 64) fun v10 => [x0] = [x0] ∧ J9 [tt, v10] g7) ([x0] = [x0] ∧ J9 [(negA true v8), un] g7)) fun s11 g12 => iPick (nx s11 0) (nx s11 1) ff fun v13 => iLet (fun J14 => iGuard v13 false (iBin .eql x0 (int 95) fun v15 => [x0] = [x0] ∧ J14 [ff, v15] g12) ([x0] = [x0] ∧ J14 [(negA false v13), un] g12)) fun s16 g17 => iPick (nx s16 0) tt (nx s16 1) fun v18 => iLet (fun J19 => iGuard v18 false (iBin .geq x0 (int 128) fun v20 => J19 [ff, v20] g17) (J19 [(negA false v18), un] g17)) fun s21 g22 => iPick (nx s21 0) tt (nx s21 1) fun v23 => K v23 g22
noncomputable def c67 : Code := (Tryz.f67.body).getD .skip
theorem V67 (x0 : AV) : Body Tryz.prog 67 [x0] (W67 x0) := ⟨c67, (.seq .nil (.seq (.segs [.op 0 false, .op 1 false, .op 2 false, .op 3 false, .grp 3 true [(4, false), (5, false)] [0] [6, 8], .op 6 false, .op 7 false, .grp 7 true [(8, false), (9, false)] [0] [10, 12], .op 10 false, .op 11 false, .grp 11 false [(12, false), (13, false)] [0] [14, 16], .op 14 false, .op 15 false, .grp 15 false [(16, false), (17, false)] [] [18, 20], .op 18 false, .op 19 false]) .nil)), 22, [.tmp 2], ⟨Tryz.f67, Tryz.func67, rfl, by kernel_rfl, by kernel_rfl, by kernel_rfl⟩, by simp, fun h K => by kernel_rfl⟩

/-- vitrine/token.within (b, from, to) -/
def W93 (x0 x1 x2 : AV) (h : Heap) (K : AV → Heap → Prop) : Prop :=
  iBin .leq x1 x0 fun v1 => iLet (fun J2 => iGuard v1 true (iBin .leq x0 x2 fun v3 => J2 [tt, v3] h) (J2 [(negA true v1), un] h)) fun s4 g5 => iPick (nx s4 0) (nx s4 1) ff fun v6 => K v6 g5
noncomputable def c93 : Code := (Tryz.f93.body).getD .skip
theorem V93 (x0 x1 x2 : AV) : Body Tryz.prog 93 [x0, x1, x2] (W93 x0 x1 x2) := ⟨c93, (.seq .nil (.seq (.segs [.op 0 false, .op 1 false, .op 2 false, .op 3 false, .grp 3 true [(4, false), (5, false), (6, false)] [] [10, 13], .op 7 false, .op 8 false]) .nil)), 15, [.tmp 6], ⟨Tryz.f93, Tryz.func93, rfl, by kernel_rfl, by kernel_rfl, by kernel_rfl⟩, by simp, fun h K => by kernel_rfl⟩

/-- vitrine/token.letter (b) -/
def W45 (x0 : AV) (h : Heap) (K : AV → Heap → Prop) : Prop :=
  iCall Tryz.prog (.fn (.func 67) [] []) [x0] h fun v1 g2 => iLet (fun J3 => iGuard v1 false (iCall Tryz.prog (.fn (.func 68) [] []) [x0] g2 fun v4 g5 => [x0] = [x0] ∧ J3 [ff, v4] g5) ([x0] = [x0] ∧ J3 [(negA false v1), un] g2)) fun s6 g7 => iPick (nx s6 0) tt (nx s6 1) fun v8 => iLet (fun J9 => iGuard v8 false (iBin .eql x0 (int 45) fun v10 => J9 [ff, v10] g7) (J9 [(negA false v8), un] g7)) fun s11 g12 => iPick (nx s11 0) tt (nx s11 1) fun v13 => K v13 g12
noncomputable def c45 : Code := (Tryz.f45.body).getD .skip
theorem V45 (x0 : AV) : Body Tryz.prog 45 [x0] (W45 x0) := ⟨c45, (.seq .nil (.seq (.segs [.op 0 false, .op 1 false, .op 2 false, .grp 2 false [(3, false), (4, false)] [0] [5, 7], .op 5 false, .op 6 false, .grp 6 false [(7, false), (8, false)] [] [9, 11], .op 9 false, .op 10 false]) .nil)), 13, [.tmp 2], ⟨Tryz.f45, Tryz.func45, rfl, by kernel_rfl, by kernel_rfl, by kernel_rfl⟩, by simp, fun h K => by kernel_rfl⟩

/-- vitrine/token.space (b) -/
def W42 (x0 : AV) (h : Heap) (K : AV → Heap → Prop) : Prop :=
  iBin .eql x0 (int 32) fun v1 => iLet (fun J2 => iGuard v1 false (iBin .eql x0 (int 9) fun v3 => [x0] = [x0] ∧ J2 [ff, v3] h) ([x0] = [x0] ∧ J2 [(negA false v1), un] h)) fun s4 g5 => iPick (nx s4 0) tt (nx s4 1) fun v6 => iLet (fun J7 => iGuard v6 false (iBin .eql x0 (int 10) fun v8 => J7 [ff, v8] g5) (J7 [(negA false v6), un] g5)) fun s9 g10 => iPick (nx s9 0) tt (nx s9 1) fun v11 => K v11 g10
noncomputable def c42 : Code := (Tryz.f42.body).getD .skip
theorem V42 (x0 : AV) : Body Tryz.prog 42 [x0] (W42 x0) := ⟨c42, (.seq .nil (.seq (.segs [.op 0 false, .op 1 false, .op 2 false, .grp 2 false [(3, false), (4, false)] [0] [5, 7], .op 5 false, .op 6 false, .grp 6 false [(7, false), (8, false)] [] [9, 11], .op 9 false, .op 10 false]) .nil)), 13, [.tmp 2], ⟨Tryz.f42, Tryz.func42, rfl, by kernel_rfl, by kernel_rfl, by kernel_rfl⟩, by simp, fun h K => by kernel_rfl⟩

/-- internal/stringslite.HasPrefix (s, prefix) -/
def W64 (x0 x1 : AV) (h : Heap) (K : AV → Heap → Prop) : Prop :=
  iLenS x0 fun v1 => iLenS x1 fun v2 => iBin .geq v1 v2 fun v3 => iLet (fun J4 => iGuard v3 true (iLenS x1 fun v5 => iSlS x0 none (some v5) fun v6 => iBin .eql v6 x1 fun v7 => J4 [tt, v7] h) (J4 [(negA true v3), un] h)) fun s8 g9 => iPick (nx s8 0) (nx s8 1) ff fun v10 => K v10 g9
noncomputable def c64 : Code := (Tryz.f64.body).getD .skip
theorem V64 (x0 x1 : AV) : Body Tryz.prog 64 [x0, x1] (W64 x0 x1) := ⟨c64, (.seq .nil (.seq (.segs [.op 0 false, .op 1 false, .op 2 false, .op 3 false, .op 4 false, .op 5 false, .grp 5 true [(6, false), (7, false), (8, false), (9, false), (10, false), (11, false)] [] [10, 16], .op 12 false, .op 13 false]) .nil)), 18, [.tmp 4], ⟨Tryz.f64, Tryz.func64, rfl, by kernel_rfl, by kernel_rfl, by kernel_rfl⟩, by simp, fun h K => by kernel_rfl⟩

/-- strings.HasPrefix (s, prefix) -/
def W39 (x0 x1 : AV) (h : Heap) (K : AV → Heap → Prop) : Prop :=
  iCall Tryz.prog (.fn (.func 64) [] []) [x0, x1] h fun v1 g2 => K v1 g2
noncomputable def c39 : Code := (Tryz.f39.body).getD .skip
theorem V39 (x0 x1 : AV) : Body Tryz.prog 39 [x0, x1] (W39 x0 x1) := ⟨c39, .nil, 8, [.tmp 4], ⟨Tryz.f39, Tryz.func39, rfl, by kernel_rfl, by kernel_rfl, by kernel_rfl⟩, by simp, fun h K => by kernel_rfl⟩

/-- vitrine/input.Lower (s) -/
def W29 (x0 : AV) (h : Heap) (K : AV → Heap → Prop) : Prop :=
  iToBytes 5 x0 h fun v1 g2 => iLen v1 fun v3 => iLoop [(int 0)] g2 fun N4 s5 g6 =>
  /- - -/ iBin .lss (nx s5 0) v3 fun v7 => iCond v7 (iLet (fun J8 => iIdxP 1 v1 (nx s5 0) fun v9 => iLoad false 1 v9 g6 fun v10 => iBin .leq (u8 65) v10 fun v11 => iLet (fun J12 => iGuard v11 true (iBin .leq v10 (u8 90) fun v13 => [v1, (nx s5 0), v1, v3, (nx s5 0)] = [v1, (nx s5 0), v1, v3, (nx s5 0)] ∧ J12 [tt, v13] g6) ([v1, (nx s5 0), v1, v3, (nx s5 0)] = [v1, (nx s5 0), v1, v3, (nx s5 0)] ∧ J12 [(negA true v11), un] g6)) fun s14 g15 => iPick (nx s14 0) (nx s14 1) ff fun v16 => iCond v16 (iIdxP 1 v1 (nx s5 0) fun v17 => iLoad false 1 v17 g15 fun v18 => iBin .or v18 (u8 32) fun v19 => iIdxP 1 v1 (nx s5 0) fun v20 => iStore 1 v20 v19 g15 fun g21 => [v1, v1, v3, (nx s5 0)] = [v1, v1, v3, (nx s5 0)] ∧ J8 [] g21) ([v1, v1, v3, (nx s5 0)] = [v1, v1, v3, (nx s5 0)] ∧ J8 [] g15)) fun s22 g23 => iBin .add (nx s5 0) (int 1) fun v24 => [v1, v1, v3] = [v1, v1, v3] ∧ N4 [v24] g23) (iOfBytes v1 g6 fun v25 => K v25 g6)
noncomputable def c29 : Code := (Tryz.f29.body).getD .skip
theorem V29 (x0 : AV) : Body Tryz.prog 29 [x0] (W29 x0) := ⟨c29, (.seq .nil (.seq .nil (.seq (.seq .nil (.one (.loop [3, 8, 9] [10] (.seq .nil (.seq .nil (.join [3, 8, 9, 10] [] (.one (.seq .nil (.seq (.segs [.op 0 false, .op 1 false, .op 2 false, .grp 2 true [(3, false), (4, false)] [3, 4, 8, 9, 10] [17, 19], .op 5 false]) .nil))) .nil)))))) .nil))), 30, [.tmp 2], ⟨Tryz.f29, Tryz.func29, rfl, by kernel_rfl, by kernel_rfl, by kernel_rfl⟩, by simp, fun h K => by kernel_rfl⟩

/-- vitrine/token.digit (b) -/
def W68 (x0 : AV) (h : Heap) (K : AV → Heap → Prop) : Prop :=
  iCall Tryz.prog (.fn (.func 93) [] []) [x0, (int 48), (int 57)] h fun v1 g2 => K v1 g2
noncomputable def c68 : Code := (Tryz.f68.body).getD .skip
theorem V68 (x0 : AV) : Body Tryz.prog 68 [x0] (W68 x0) := ⟨c68, .nil, 5, [.tmp 2], ⟨Tryz.f68, Tryz.func68, rfl, by kernel_rfl, by kernel_rfl, by kernel_rfl⟩, by simp, fun h K => by kernel_rfl⟩
end Go.Proofs.YtfijncpmhnnpiaaGreatDoor
