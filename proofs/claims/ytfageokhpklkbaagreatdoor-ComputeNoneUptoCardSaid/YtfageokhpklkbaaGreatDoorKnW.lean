/-
 What the runs know of declarations compared.
 No conditions.
-/
import Derived.Test.YtfageokhpklkbaaGreatDoorK1
import Derived.Test.YtfageokhpklkbaaGreatDoorLes
set_option linter.unusedVariables false
set_option linter.unusedSimpArgs false
namespace Go.Proofs.YtfageokhpklkbaaGreatDoor
open Go Go.Aw Go.RowKit
set_option maxRecDepth 1000000
theorem JV {v : AV} (h : fc [v] = true) : Aw.Pure v:=by
 unfold fc at h
 rw [eH] at h
 have : ∀ a ∈ [v],Bd 0 a:=fun a ha=>by
  have:=List.all_eq_true.1 h a ha
  split at this
  ·rename_i z;exact jU 0 a (by omega)
  ·cases this
 exact kM v (this v (by simp))
noncomputable def atQ (a : AV) : Option (List UInt8 × AV × List UInt8 × Int):=match a with
 | .agg [.str n,v,.str wh,i,g,t,a,b,c,d,.v (.int .i64 o)]=>(match oc [i,g,t,a,b,c,d] [.v (.bool false),u8 3,.v (.bool true),int 0,int 0,int 0,int 0],fc [v],cv v with
   | true,true,true=>some (n,v,wh,o)
   | _,_,_=>none)
 | _=>none
theorem DX {a : AV} {n wh : List UInt8} {v : AV} {o : Int} (h : atQ a = some (n,v,wh,o)) : a = .agg (atR n v wh o) ∧ Aw.Pure v ∧ cv v = true:=by
 unfold atQ at h
 split at h
 ·split at h
  ·rename_i h1 h2 h3
   have e:=pd h1
   cases e
   cases h
   exact ⟨rfl,JV h2,h3⟩
  ·cases h
 ·cases h
noncomputable def LN (args : List AV) : Option AV:=match args with
 | [x,y]=>(match atQ x,atQ y with
   | some (_,_,_,o),some (_,_,_,o')=>some (.v (.bool (ltI o o')))
   | _,_=>none)
 | _=>none
noncomputable def iq : aw:=fun f args h=>match Nat.beq f 56 with
 | true=>(match LN args with|some r=>some (r,none)|none=>none)
 | false=>w3 f args h
theorem ga : aW Tryz.prog iq:=by
 intro f args h v oh e
 unfold iq at e
 split at e
 ·rename_i hf
  obtain rfl:=Nat.eq_of_beq_eq_true hf
  split at e
  ·rename_i r hr
   cases e
   unfold LN at hr
   split at hr
   ·split at hr
    ·rename_i q1 q2
     cases hr
     obtain ⟨rfl,p1,s1⟩:=DX q1
     obtain ⟨rfl,p2,s2⟩:=DX q2
     rw [jf]
     exact .inl ⟨by kernel_rfl,(F6 p1 s1 p2 s2).call ⟨rfl,rfl⟩⟩
    ·cases hr
   ·cases hr
  ·cases e
 ·exact EG _ _ _ _ _ e
noncomputable def qZ : AV:=.v (.int .u8 0)
noncomputable def qN : AV:=.v (.slice none 0 0)
noncomputable def qF : AV:=.v (.bool false)
noncomputable def qT : AV:=.v (.bool true)
noncomputable def qE : AV:=.str []
noncomputable def qO : AV:=int 0
noncomputable def qR (l : List UInt8) : List AV:=[.v (.int .u8 1),.str l,int 0,.v (.int .u8 0),.v (.int .u8 0),.v (.int .u8 0),.v (.int .u8 0)]
noncomputable def qV (k : Int) (n : Int) : List AV:=[.v (.int .u8 k),.str [],int n,.v (.int .u8 0),.v (.int .u8 0),.v (.int .u8 0),.v (.int .u8 0)]
noncomputable def qK (k : Int) (l : List UInt8) : List AV:=[.v (.int .u8 k),.str l,int 0,.str [],.v (.bool false),.v (.slice none 0 0)]
end Go.Proofs.YtfageokhpklkbaaGreatDoor

