/-
 What functions of the translation ask,held against their code by the kernel. Printed by a program.
 No conditions.
-/
import Derived.Test.YtfageokhpklkbaaGreatDoorL2
import Derived.Test.YtfageokhpklkbaaGreatDoorProg
import Derived.KernelRfl
set_option linter.unusedVariables false
set_option linter.unusedSimpArgs false
namespace Go.Proofs.YtfageokhpklkbaaGreatDoor
open Go Go.Aw
set_option maxRecDepth 1000000
variable [Laid]

def W96 (x0 : AV) (h : aa) (K : AV → aa → Prop) : Prop :=
 bz 87 x0 h fun v1 g2=>bz 185 (.agg [(int 0),(int 0),(int 0),(int 0),(int 0),(int 0),(int 0)]) g2 fun v3 g4=>ah 4 v1 fun v5=>ab false 1 v5 g4 fun v6=>lU .i64 v6 fun v7=>ah 6 v1 fun v8=>ab false 1 v8 g4 fun v9=>ah 7 v1 fun v10=>eP 3 1 v10 (int 0) fun v11=>ab false 1 v11 g4 fun v12=>ah 7 v1 fun v13=>eP 3 1 v13 (int 1) fun v14=>ab false 1 v14 g4 fun v15=>ah 7 v1 fun v16=>eP 3 1 v16 (int 2) fun v17=>ab false 1 v17 g4 fun v18=>ah 10 v1 fun v19=>ab false 1 v19 g4 fun v20=>bl (.agg [(int 0),(int 0),(int 0),(int 0),(int 0),(int 0),(int 0)]) [(0,1,v7),(1,1,(int 0)),(2,1,v9),(3,1,v12),(4,1,v15),(5,1,v18),(6,1,v20)] fun v21=>bz 185 (.agg [(int 0),(int 0),(int 0),(int 0),(int 0),(int 0),(int 0)]) g4 fun v22 g23=>aN 7 v22 v21 g23 fun g24=>aQ (fun J25=>ah 5 v1 fun v26=>ab false 1 v26 g24 fun v27=>ao v27 (eP 7 1 v22 (int 1) fun v28=>aN 1 v28 (int 1) g24 fun g29=>[v1,v3,v22] = [v1,v3,v22] ∧ J25 [] g29) ([v1,v3,v22] = [v1,v3,v22] ∧ J25 [] g24)) fun s30 g31=>aQ (fun J32=>ah 3 v1 fun v33=>ab false 1 v33 g31 fun v34=>ao v34 (ah 4 v1 fun v35=>ab false 1 v35 g31 fun v36=>lU .i64 v36 fun v37=>af .sub (int 7) v37 fun v38=>eP 7 1 v22 (int 0) fun v39=>aN 1 v39 v38 g31 fun g40=>ah 6 v1 fun v41=>ab false 1 v41 g40 fun v42=>af .sub (int 1000000) v42 fun v43=>eP 7 1 v22 (int 2) fun v44=>aN 1 v44 v43 g40 fun g45=>[v3,v22] = [v3,v22] ∧ J32 [] g45) ([v3,v22] = [v3,v22] ∧ J32 [] g31)) fun s46 g47=>ab true 7 v22 g47 fun v48=>aN 7 v3 v48 g47 fun g49=>ab true 7 v3 g49 fun r50=>K r50 g49
noncomputable def c96 : Code:=(Tryz.f96.body).getD .skip
theorem V96 (x0 : AV) : Body Tryz.prog 96 [x0] (W96 x0):=⟨c96,(.seq .nil (.seq .nil (.join [1,2,3] [] .nil (.join [2,3] [] .nil .nil)))),36,[.cell 2 185],⟨Tryz.f96,Tryz.func96,rfl,by kernel_rfl,by kernel_rfl,by kernel_rfl⟩,by simp,fun h K=>by kernel_rfl⟩

def W56 (x0 x1 : AV) (h : aa) (K : AV → aa → Prop) : Prop :=
 bz 87 x0 h fun v1 g2=>bz 87 x1 g2 fun v3 g4=>ab true 11 v1 g4 fun v5=>fb Tryz.prog (.fn (.func 96) [] []) [v5] g4 fun v6=>ab true 11 v3 g4 fun v7=>fb Tryz.prog (.fn (.func 96) [] []) [v7] g4 fun v8=>(fun (g9 : aa)=>aN 7 (AV.op (g4.length + 2 + 0) 0) v6 g9 fun g10=>aN 7 (AV.op (g4.length + 2 + 1) 0) v8 g10 fun g11=>bO [(int 0)] g11 fun N12 s13 g14 =>
 /- i -/ af .lss (nx s13 0) (int 7) fun v15=>ao v15 (eP 7 1 (AV.op (g4.length + 2 + 0) 0) (nx s13 0) fun v16=>ab false 1 v16 g14 fun v17=>eP 7 1 (AV.op (g4.length + 2 + 1) 0) (nx s13 0) fun v18=>ab false 1 v18 g14 fun v19=>af .neq v17 v19 fun v20=>ao v20 (eP 7 1 (AV.op (g4.length + 2 + 0) 0) (nx s13 0) fun v21=>ab false 1 v21 g14 fun v22=>eP 7 1 (AV.op (g4.length + 2 + 1) 0) (nx s13 0) fun v23=>ab false 1 v23 g14 fun v24=>af .lss v22 v24 fun v25=>K v25 g14) (af .add (nx s13 0) (int 1) fun v26=>[(AV.op (g4.length + 2 + 0) 0),(AV.op (g4.length + 2 + 1) 0)] = [(AV.op (g4.length + 2 + 0) 0),(AV.op (g4.length + 2 + 1) 0)] ∧ N12 [v26] g14)) (K ff g14)) (g4 ++ [.dead,.dead] ++ [.blk ⟨185,[(int 0),(int 0),(int 0),(int 0),(int 0),(int 0),(int 0)],true⟩,.blk ⟨185,[(int 0),(int 0),(int 0),(int 0),(int 0),(int 0),(int 0)],true⟩])
noncomputable def c56 : Code:=(Tryz.f56.body).getD .skip
theorem V56 (x0 x1 : AV) : Body Tryz.prog 56 [x0,x1] (W56 x0 x1):=⟨c56,(.seq .nil (.seq (.Bz 6 [4,5] [(0,false),(1,false),(2,false),(3,false),(4,false),(5,false)] [.op 6 false,.op 7 false] []) (.seq (.seq .nil (.one (.loop [5,6] [7] (.seq .nil (.seq (.one (.seq (.draw 7 [.op 0 false,.op 1 false,.op 2 false,.op 3 false,.op 4 false,.op 5 false,.op 6 false] [] []) (.two (.seq (.draw 8 [.op 0 false,.op 1 false,.op 2 false,.op 3 false,.op 4 false,.op 5 false,.op 6 false,.op 7 false] [] []) .nil) .nil))) .nil))))) .nil))),30,[.tmp 4],⟨Tryz.f56,Tryz.func56,rfl,by kernel_rfl,by kernel_rfl,by kernel_rfl⟩,by simp,fun h K=>by kernel_rfl⟩
end Go.Proofs.YtfageokhpklkbaaGreatDoor

