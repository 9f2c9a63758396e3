/-
  What runs are held by: which calls are loud, whose results are kept; what package variables hold.
  No conditions.
-/
import Derived.Test.YtedaaincibcbkaaGreatDoorExec3
import Derived.Test.YtedaaincibcbkaaGreatDoorShelf
import Derived.KernelRfl
namespace Go.Proofs.YtedaaincibcbkaaGreatDoor
open Go Go.Aw
noncomputable def u8s (l : List Nat) : List AV := l.map fun n => .v (.int .u8 (Int.ofNat n))
noncomputable def u64s (l : List Nat) : List AV := l.map fun n => .v (.int .u64 (Int.ofNat n))
noncomputable def tabZ : Nat → Option (List AV) := fun g => match g with
  | 0 => some (u64s [1, 10, 100, 1000, 10000, 100000, 1000000, 10000000, 100000000, 1000000000, 10000000000, 100000000000, 1000000000000, 10000000000000, 100000000000000, 1000000000000000, 10000000000000000, 100000000000000000, 1000000000000000000, 10000000000000000000])
  | _ => none
noncomputable instance laidZ : Laid := ⟨tabZ, fun g cs h => by
  unfold tabZ at h
  split at h
  · cases h; simp [u64s, PureL, Aw.Pure]
  · cases h⟩
def ownK : Nat → Nat → Nat → Bool := fun f id i => match Nat.beq f 39 with
  | true => (match Nat.beq id 13, Nat.beq i 7 with | true, true => true | _, _ => false)
  | false => match Nat.beq f 202 with
    | true => (match Nat.beq id 28, Nat.beq i 17 with | true, true => true | _, _ => false)
    | false => match Nat.beq f 223 with
      | true => (match Nat.beq id 10, Nat.beq i 10, Nat.beq id 31, Nat.beq i 12 with | true, true, _, _ => true | _, _, true, true => true | _, _, _, _ => false)
      | false => false
def cfg : Cfg := ⟨ownK, fun f => (match f with | 86 => true | 125 => true | 167 => true | 202 => true | _ => false), 100000⟩
def okB (x : UInt8) : Bool := match x.toNat with | 0 => false | 12 => false | 13 => false | _ => true
noncomputable def asciiB (l : List UInt8) : Bool := allE (fun x => Nat.ble x.toNat 127) l
end Go.Proofs.YtedaaincibcbkaaGreatDoor
