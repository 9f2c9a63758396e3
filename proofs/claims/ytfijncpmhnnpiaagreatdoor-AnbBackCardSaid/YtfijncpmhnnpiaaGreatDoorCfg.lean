/-
  What runs are held by: which calls are loud, whose results are kept; what package variables hold.
  No conditions.
-/
import Derived.Test.YtfijncpmhnnpiaaGreatDoorL4
import Derived.Test.YtfijncpmhnnpiaaGreatDoorShelf
import Derived.KernelRfl
set_option linter.unusedVariables false
set_option linter.unusedSimpArgs false
namespace Go.Proofs.YtfijncpmhnnpiaaGreatDoor
open Go Go.Aw
noncomputable def u8s (l : List Nat) : List AV := l.map fun n => .v (.int .u8 (Int.ofNat n))
noncomputable def u64s (l : List Nat) : List AV := l.map fun n => .v (.int .u64 (Int.ofNat n))
/-- What a variable of the library holds that the machine sets: some number. -/
class MaxL where
  m : Int
variable [MaxL]
noncomputable def tabZ : Nat → Option (List AV) := fun g => match g with
  | 0 => some (u64s [1, 10, 100, 1000, 10000, 100000, 1000000, 10000000, 100000000, 1000000000, 10000000000, 100000000000, 1000000000000, 10000000000000, 100000000000000, 1000000000000000, 10000000000000000, 100000000000000000, 1000000000000000000, 10000000000000000000])
  | 1 => some [int MaxL.m]
  | _ => none
noncomputable instance laidZ : Laid := ⟨tabZ, fun g cs h => by
  unfold tabZ at h
  split at h
  · cases h; simp [u64s, PureL, Aw.Pure]
  · cases h; simp [PureL, Aw.Pure]
  · cases h⟩
def inP (l : List (Nat × Nat)) (a b : Nat) : Bool := match l with
  | [] => false
  | x :: l => match Nat.beq x.1 a, Nat.beq x.2 b with | true, true => true | _, _ => inP l a b
def ownT : List (Nat × List (Nat × Nat)) :=
  [(15, [(13, 7)]),
   (113, [(28, 17)]),
   (131, [(10, 10), (31, 12)])]
def ownG : List (Nat × List (Nat × Nat)) → Nat → Nat → Nat → Bool
  | [], _, _, _ => false
  | x :: l, f, id, i => match Nat.beq x.1 f with | true => inP x.2 id i | false => ownG l f id i
def ownK : Nat → Nat → Nat → Bool := ownG ownT
def cfg : Cfg := ⟨ownK, fun f => (match f with | 37 => true | 61 => true | 87 => true | 113 => true | _ => false), 100000⟩
def okB (x : UInt8) : Bool := match x.toNat with | 0 => false | 12 => false | 13 => false | _ => true
noncomputable def asciiB (l : List UInt8) : Bool := allE (fun x => Nat.ble x.toNat 127) l
end Go.Proofs.YtfijncpmhnnpiaaGreatDoor
