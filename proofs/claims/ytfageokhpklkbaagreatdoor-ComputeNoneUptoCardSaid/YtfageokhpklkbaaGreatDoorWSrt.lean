/-
 What functions of the translation ask,held against their code by the kernel. Printed by a program.
 No conditions.
-/
import Derived.Test.YtfageokhpklkbaaGreatDoorL2
import Derived.Test.YtfageokhpklkbaaGreatDoorProg
import Derived.KernelRfl
set_option linter.unusedVariables false
set_option linter.unusedSimpArgs false
namespace Go.Proofs.YtfageokhpklkbaaGreatDoor
open Go Go.Aw
set_option maxRecDepth 1000000
variable [Laid]

def KE (x0 x1 : AV) (h : aa) (K : AV → aa → Prop) : Prop :=
 eS x0 fun v1=>eS x1 fun v2=>af .geq v1 v2 fun v3=>aQ (fun J4=>aK v3 true (eS x1 fun v5=>kY x0 none (some v5) fun v6=>af .eql v6 x1 fun v7=>J4 [tt,v7] h) (J4 [(bu true v3),un] h)) fun s8 g9=>a8 (nx s8 0) (nx s8 1) ff fun v10=>K v10 g9
noncomputable def OB : Code:=(Tryz.f153.body).getD .skip
theorem NW (x0 x1 : AV) : Body Tryz.prog 153 [x0,x1] (KE x0 x1):=⟨OB,(.seq .nil (.seq (.b8 [.op 0 false,.op 1 false,.op 2 false,.op 3 false,.op 4 false,.op 5 false,.grp 5 true [(6,false),(7,false),(8,false),(9,false),(10,false),(11,false)] [] [10,16],.op 12 false,.op 13 false]) .nil)),18,[.tmp 4],⟨Tryz.f153,Tryz.func153,rfl,by kernel_rfl,by kernel_rfl,by kernel_rfl⟩,by simp,fun h K=>by kernel_rfl⟩

def W69 (x0 x1 : AV) (h : aa) (K : AV → aa → Prop) : Prop :=
 aH Tryz.prog (.fn (.func 109) [] []) [x0,x1] h fun v1 g2=>af .geq v1 (int 0) fun v3=>K v3 g2
noncomputable def c69 : Code:=(Tryz.f69.body).getD .skip
theorem V69 (x0 x1 : AV) : Body Tryz.prog 69 [x0,x1] (W69 x0 x1):=⟨c69,.nil,9,[.tmp 4],⟨Tryz.f69,Tryz.func69,rfl,by kernel_rfl,by kernel_rfl,by kernel_rfl⟩,by simp,fun h K=>by kernel_rfl⟩

def KL (x0 x1 : AV) (h : aa) (K : AV → aa → Prop) : Prop :=
 bI x0 fun v1=>bO [(int 0)] h fun N2 s3 g4 =>
 /- - -/ af .lss (nx s3 0) v1 fun v5=>ao v5 (aO 12 x0 (nx s3 0) fun v6=>ab true 12 v6 g4 fun v7=>aH Tryz.prog x1 [v7] g4 fun v8 g9=>ao v8 (K (nx s3 0) g9) (af .add (nx s3 0) (int 1) fun v10=>[x0,x1,v1] = [x0,x1,v1] ∧ N2 [v10] g9)) (K (int (-1)) g4)
noncomputable def OJ : Code:=(Tryz.f188.body).getD .skip
theorem Oa (x0 x1 : AV) : Body Tryz.prog 188 [x0,x1] (KL x0 x1):=⟨OJ,(.seq .nil (.seq (.seq .nil (.one (.loop [0,1,7] [8] .nil))) .nil)),19,[.tmp 4],⟨Tryz.f188,Tryz.func188,rfl,by kernel_rfl,by kernel_rfl,by kernel_rfl⟩,by simp,fun h K=>by kernel_rfl⟩

def Kw (x0 x1 : AV) (h : aa) (K : AV → aa → Prop) : Prop :=
 bI x0 fun v1=>bO [(int 0)] h fun N2 s3 g4 =>
 /- - -/ af .lss (nx s3 0) v1 fun v5=>ao v5 (aO 1 x0 (nx s3 0) fun v6=>ab false 1 v6 g4 fun v7=>af .eql x1 v7 fun v8=>ao v8 (K (nx s3 0) g4) (af .add (nx s3 0) (int 1) fun v9=>[x0,x1,v1] = [x0,x1,v1] ∧ N2 [v9] g4)) (K (int (-1)) g4)
noncomputable def Oq : Code:=(Tryz.f109.body).getD .skip
theorem NN (x0 x1 : AV) : Body Tryz.prog 109 [x0,x1] (Kw x0 x1):=⟨Oq,(.seq .nil (.seq (.seq .nil (.one (.loop [0,1,7] [8] .nil))) .nil)),19,[.tmp 4],⟨Tryz.f109,Tryz.func109,rfl,by kernel_rfl,by kernel_rfl,by kernel_rfl⟩,by simp,fun h K=>by kernel_rfl⟩

def Ky (x0 x1 : AV) (h : aa) (K : AV → aa → Prop) : Prop :=
 aH Tryz.prog (.fn (.func 153) [] []) [x0,x1] h fun v1 g2=>K v1 g2
noncomputable def Ou : Code:=(Tryz.f111.body).getD .skip
theorem NQ (x0 x1 : AV) : Body Tryz.prog 111 [x0,x1] (Ky x0 x1):=⟨Ou,.nil,8,[.tmp 4],⟨Tryz.f111,Tryz.func111,rfl,by kernel_rfl,by kernel_rfl,by kernel_rfl⟩,by simp,fun h K=>by kernel_rfl⟩

def W71 (x0 : AV) (h : aa) (K : AV → aa → Prop) : Prop :=
 aH Tryz.prog (.fn (.func 111) [] []) [x0,(.str [45,45])] h fun v1 g2=>aQ (fun J3=>aK v1 true (eS x0 fun v4=>af .gtr v4 (int 2) fun v5=>[x0] = [x0] ∧ J3 [tt,v5] g2) ([x0] = [x0] ∧ J3 [(bu true v1),un] g2)) fun s6 g7=>a8 (nx s6 0) (nx s6 1) ff fun v8=>aQ (fun J9=>aK v8 true (eS x0 fun v10=>af .leq v10 (int 64) fun v11=>J9 [tt,v11] g7) (J9 [(bu true v8),un] g7)) fun s12 g13=>a8 (nx s12 0) (nx s12 1) ff fun v14=>K v14 g13
noncomputable def c71 : Code:=(Tryz.f71.body).getD .skip
theorem V71 (x0 : AV) : Body Tryz.prog 71 [x0] (W71 x0):=⟨c71,(.seq .nil (.seq (.b8 [.op 0 false,.op 1 false,.op 2 false,.grp 2 true [(3,false),(4,false),(5,false)] [0] [5,8],.op 6 false,.op 7 false,.grp 7 true [(8,false),(9,false),(10,false)] [] [10,13],.op 11 false,.op 12 false]) .nil)),15,[.tmp 2],⟨Tryz.f71,Tryz.func71,rfl,by kernel_rfl,by kernel_rfl,by kernel_rfl⟩,by simp,fun h K=>by kernel_rfl⟩

def KM (x0 x1 : AV) (h : aa) (K : AV → aa → Prop) : Prop :=
 bz 42 x0 h fun v1 g2=>ah 0 v1 fun v3=>ab false 1 v3 g2 fun v4=>ab false 1 x1 g2 fun v5=>af .eql v4 v5 fun v6=>K v6 g2
noncomputable def OK : Code:=(Tryz.f189.body).getD .skip
theorem Ob (x0 x1 : AV) : Body Tryz.prog 189 [x0,x1] (KM x0 x1):=⟨OK,.nil,8,[.tmp 3],⟨Tryz.f189,Tryz.func189,rfl,by kernel_rfl,by kernel_rfl,by kernel_rfl⟩,by simp,fun h K=>by kernel_rfl⟩

def KB (x0 : AV) (h : aa) (K : AV → aa → Prop) : Prop :=
 bz 9 x0 h fun v1 g2=>aH Tryz.prog (.fn (.func 8) [] []) [] g2 fun v3 g4=>aH Tryz.prog (.fn (.func 188) [] []) [v3,(.fn (.func 189) [] [v1])] g4 fun v5 g6=>af .lss v5 (int 0) fun v7=>ao v7 (K (.tup [(int 0),(int 6)]) g6) (K (.tup [v5,(int 0)]) g6)
noncomputable def Oy : Code:=(Tryz.f147.body).getD .skip
theorem NT (x0 : AV) : Body Tryz.prog 147 [x0] (KB x0):=⟨Oy,.nil,11,[.tmp 2,.tmp 3],⟨Tryz.f147,Tryz.func147,rfl,by kernel_rfl,by kernel_rfl,by kernel_rfl⟩,by simp,fun h K=>by kernel_rfl⟩

def Kr (x0 : AV) (h : aa) (K : AV → aa → Prop) : Prop :=
 aH Tryz.prog (.fn (.func 71) [] []) [x0] h fun v1 g2=>ao v1 (K (.tup [tt,(int 0)]) g2) (aH Tryz.prog (.fn (.func 147) [] []) [x0] g2 fun v3 g4=>bh 0 v3 fun v5=>bh 1 v3 fun v6=>af .neq v6 (int 0) fun v7=>ao v7 (K (.tup [ff,v6]) g4) (aH Tryz.prog (.fn (.func 8) [] []) [] g4 fun v8 g9=>aO 12 v8 v5 fun v10=>ah 1 v10 fun v11=>ab false 1 v11 g9 fun v12=>K (.tup [v12,(int 0)]) g9))
noncomputable def Oi : Code:=(Tryz.f101.body).getD .skip
theorem NI (x0 : AV) : Body Tryz.prog 101 [x0] (Kr x0):=⟨Oi,.nil,21,[.tmp 2,.tmp 3],⟨Tryz.f101,Tryz.func101,rfl,by kernel_rfl,by kernel_rfl,by kernel_rfl⟩,by simp,fun h K=>by kernel_rfl⟩

def W97 (x0 : AV) (h : aa) (K : AV → aa → Prop) : Prop :=
 eS x0 fun v1=>af .gtr v1 (int 2) fun v2=>aQ (fun J3=>aK v2 true (eS x0 fun v4=>af .leq v4 (int 64) fun v5=>[x0] = [x0] ∧ J3 [tt,v5] h) ([x0] = [x0] ∧ J3 [(bu true v2),un] h)) fun s6 g7=>a8 (nx s6 0) (nx s6 1) ff fun v8=>aQ (fun J9=>aK v8 true (kY x0 none (some (int 2)) fun v10=>af .eql v10 (.str [45,45]) fun v11=>J9 [tt,v11] g7) (J9 [(bu true v8),un] g7)) fun s12 g13=>a8 (nx s12 0) (nx s12 1) ff fun v14=>K v14 g13
noncomputable def c97 : Code:=(Tryz.f97.body).getD .skip
theorem V97 (x0 : AV) : Body Tryz.prog 97 [x0] (W97 x0):=⟨c97,(.seq .nil (.seq (.b8 [.op 0 false,.op 1 false,.op 2 false,.op 3 false,.grp 3 true [(4,false),(5,false),(6,false)] [0] [6,9],.op 7 false,.op 8 false,.grp 8 true [(9,false),(10,false),(11,false)] [] [11,14],.op 12 false,.op 13 false]) .nil)),16,[.tmp 2],⟨Tryz.f97,Tryz.func97,rfl,by kernel_rfl,by kernel_rfl,by kernel_rfl⟩,by simp,fun h K=>by kernel_rfl⟩

end Go.Proofs.YtfageokhpklkbaaGreatDoor

