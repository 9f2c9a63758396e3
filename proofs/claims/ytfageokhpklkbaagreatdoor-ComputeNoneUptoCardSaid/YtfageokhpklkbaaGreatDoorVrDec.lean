/-
 What no declaration says.
 No conditions: contracts.
-/
import Derived.Test.YtfageokhpklkbaaGreatDoorR1
import Derived.Test.YtfageokhpklkbaaGreatDoorWVar
import Derived.Test.YtfageokhpklkbaaGreatDoorMapA
import Derived.Test.YtfageokhpklkbaaGreatDoorDecK
set_option linter.unusedVariables false
set_option linter.unusedSimpArgs false
namespace Go.Proofs.YtfageokhpklkbaaGreatDoor
open Go Go.Aw Go.RowKit
def jG (b : Bool) : List UInt8:=if b then [105,110,104,101,114,105,116] else [105,110,105,116,105,97,108]
theorem Br {s : Str} {b : Bool} {e : Int} (hs : j4 s = .tup [bool b,int e]) : Con Tryz.prog 159 [.str s] (.str (jG b)):=by
 refine (NX _).gives (by simp) (by simp) ?_
 unfold KF
 have h:=nN s
 rw [hs] at h
 refine b6 rfl (by kernel_rfl) h ?_
 refine bB rfl rfl (bB rfl rfl ?_)
 cases b with
 | true=>exact ak rfl rfl (.pure (by simp) rfl)
 | false=>exact ag rfl rfl (.pure (by simp) rfl)
open Classical in
noncomputable def mW (s u : List UInt8) : aw:=fun f args _=>if f = 159 ∧ args = [.str s] then some (.str u,none) else none
theorem FZ {s : List UInt8} {b : Bool} (hs : j4 s = .tup [bool b,int 0]) : aW Tryz.prog (mW s (jG b)):=by
 intro f args h v oh e
 unfold mW at e
 split at e
 ·rename_i q
  obtain ⟨rfl,rfl⟩:=q
  cases e
  exact .inl ⟨by kernel_rfl,(Br hs).call ⟨rfl,rfl⟩⟩
 ·cases e
theorem HM (b : Bool) : Nat.ble (jG b).length 100000 = true:=by cases b <;> rfl
theorem F9 {s : List UInt8} {b : Bool} (hs : j4 s = .tup [bool b,int 0]) : Con Tryz.prog 115 [.v (.slice none 0 0),u8 4,.str s] (.tup [int (-1),.str (jG b)]):=by
 have e1 : mW s (jG b) 159 [.str s] [] = some (.str (jG b),none):=by unfold mW;rw [if_pos ⟨rfl,rfl⟩]
 have e0 : goD (mW s (jG b)) [] (.v (.slice none 0 0)) s 4 0 = some (.tup [int (-1),.str (jG b)]):=by
  rw [goD,e1]
 have e : vY (mW s (jG b)) [.v (.slice none 0 0),u8 4,.str s] = some (.tup [int (-1),.str (jG b)]):=by
  have hp : fc [.v (.slice none 0 0),u8 4,.str s] = true:=by kernel_rfl
  unfold vY
  simp only [u8,rowsOf,vo] at hp ⊢
  rw [hp]
  show (match goD (mW s (jG b)) [] (AV.v (Value.slice none 0 0)) s 4 0 with
   | some (AV.tup [AV.v (Value.int IntKind.i64 i),AV.str s])=>(match s.length.ble 100000 with
     | true=>some (AV.tup [int i,AV.str s])
     | false=>none)
   | _=>none) = some (AV.tup [int (-1),AV.str (jG b)])
  rw [e0]
  simp only [int]
  rw [HM]
 exact ⟨by simp,by simp,((yI (FZ hs) e).2 []).mono fun _ _ q=>q.1⟩
end Go.Proofs.YtfageokhpklkbaaGreatDoor

