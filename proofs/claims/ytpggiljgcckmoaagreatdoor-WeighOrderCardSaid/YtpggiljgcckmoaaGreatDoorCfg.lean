/-
  What runs are held by: which calls are loud, whose results are kept; what package variables hold.
  No conditions.
-/
import Derived.Test.YtpggiljgcckmoaaGreatDoorExec3
import Derived.Test.YtpggiljgcckmoaaGreatDoorShelf
import Derived.KernelRfl
namespace Go.Proofs.YtpggiljgcckmoaaGreatDoor
open Go Go.Aw
noncomputable def u8s (l : List Nat) : List AV := l.map fun n => .v (.int .u8 (Int.ofNat n))
noncomputable def u64s (l : List Nat) : List AV := l.map fun n => .v (.int .u64 (Int.ofNat n))
noncomputable def tabZ : Nat → Option (List AV) := fun g => match g with
  | 1 => some (u64s [1, 10, 100, 1000, 10000, 100000, 1000000, 10000000, 100000000, 1000000000, 10000000000, 100000000000, 1000000000000, 10000000000000, 100000000000000, 1000000000000000, 10000000000000000, 100000000000000000, 1000000000000000000, 10000000000000000000])
  | _ => none
noncomputable instance laidZ : Laid := ⟨tabZ, fun g cs h => by
  unfold tabZ at h
  split at h
  · cases h; simp [u64s, PureL, Aw.Pure]
  · cases h⟩
def inP (l : List (Nat × Nat)) (a b : Nat) : Bool := match l with
  | [] => false
  | x :: l => match Nat.beq x.1 a, Nat.beq x.2 b with | true, true => true | _, _ => inP l a b
def ownT : List (Nat × List (Nat × Nat)) :=
  [(50, [(13, 7)]),
   (183, [(28, 17)]),
   (214, [(10, 10), (31, 12)]),
   (35, [(18, 1), (18, 5), (18, 2), (18, 6), (10, 7), (10, 8), (12, 8), (12, 9)]),
   (52, [(4, 6), (4, 7), (6, 7), (6, 8)])]
def ownG : List (Nat × List (Nat × Nat)) → Nat → Nat → Nat → Bool
  | [], _, _, _ => false
  | x :: l, f, id, i => match Nat.beq x.1 f with | true => inP x.2 id i | false => ownG l f id i
def ownK : Nat → Nat → Nat → Bool := ownG ownT
def cfg : Cfg := ⟨ownK, fun f => (match f with | 81 => true | 121 => true | 153 => true | 183 => true | _ => false), 100000⟩
def okB (x : UInt8) : Bool := match x.toNat with | 0 => false | 12 => false | 13 => false | _ => true
noncomputable def asciiB (l : List UInt8) : Bool := allE (fun x => Nat.ble x.toNat 127) l
end Go.Proofs.YtpggiljgcckmoaaGreatDoor
