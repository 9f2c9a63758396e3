/-
  What runs are held by: which calls are loud, whose results are kept; what package variables hold.
  No conditions.
-/
import Derived.Test.YthblflmjingcfaaGreatDoorL4
import Derived.Test.YthblflmjingcfaaGreatDoorShelf
import Derived.KernelRfl
set_option linter.unusedVariables false
set_option linter.unusedSimpArgs false
namespace Go.Proofs.YthblflmjingcfaaGreatDoor
open Go Go.Aw
noncomputable def u8s (l : List Nat) : List AV := l.map fun n => .v (.int .u8 (Int.ofNat n))
noncomputable def u64s (l : List Nat) : List AV := l.map fun n => .v (.int .u64 (Int.ofNat n))
/-- What a variable of the library holds that the machine sets: some number. -/
class MaxL where
  m : Int
variable [MaxL]
noncomputable def tabZ : Nat → Option (List AV) := fun g => match g with
  | 0 => some (u64s [1, 10, 100, 1000, 10000, 100000, 1000000, 10000000, 100000000, 1000000000, 10000000000, 100000000000, 1000000000000, 10000000000000, 100000000000000, 1000000000000000, 10000000000000000, 100000000000000000, 1000000000000000000, 10000000000000000000])
  | 1 => some [int MaxL.m]
  | 3 => some (u8s [0, 1, 56, 2, 57, 49, 28, 3, 61, 58, 42, 50, 38, 29, 17, 4, 62, 47, 59, 36, 45, 43, 51, 22, 53, 39, 33, 30, 24, 18, 12, 5, 63, 55, 48, 27, 60, 41, 37, 16, 46, 35, 44, 21, 52, 32, 23, 11, 54, 26, 40, 15, 34, 20, 31, 10, 25, 14, 19, 9, 13, 8, 7, 6])
  | _ => none
noncomputable instance laidZ : Laid := ⟨tabZ, fun g cs h => by
  unfold tabZ at h
  split at h
  · cases h; simp [u64s, PureL, Aw.Pure]
  · cases h; simp [PureL, Aw.Pure]
  · cases h; simp [u8s, PureL, Aw.Pure]
  · cases h⟩
def inP (l : List (Nat × Nat)) (a b : Nat) : Bool := match l with
  | [] => false
  | x :: l => match Nat.beq x.1 a, Nat.beq x.2 b with | true, true => true | _, _ => inP l a b
def ownT : List (Nat × List (Nat × Nat)) :=
  [(87, [(13, 7)]),
   (19, [(7, 8), (12, 11)]),
   (35, [(12, 7), (18, 8), (19, 10)]),
   (70, [(12, 6)]),
   (215, [(28, 17)]),
   (233, [(10, 10), (31, 12)]),
   (65, [(18, 1), (18, 5), (18, 2), (18, 6), (10, 7), (10, 8), (12, 8), (12, 9)]),
   (89, [(4, 6), (4, 7), (6, 7), (6, 8)])]
def ownG : List (Nat × List (Nat × Nat)) → Nat → Nat → Nat → Bool
  | [], _, _, _ => false
  | x :: l, f, id, i => match Nat.beq x.1 f with | true => inP x.2 id i | false => ownG l f id i
def ownK : Nat → Nat → Nat → Bool := ownG ownT
def cfg : Cfg := ⟨ownK, fun f => (match f with | 139 => true | 172 => true | 196 => true | 215 => true | 197 => true | 175 => true | 128 => true | 161 => true | 134 => true | 101 => true | _ => false), 100000⟩
def okB (x : UInt8) : Bool := match x.toNat with | 0 => false | 12 => false | 13 => false | _ => true
noncomputable def asciiB (l : List UInt8) : Bool := allE (fun x => Nat.ble x.toNat 127) l
end Go.Proofs.YthblflmjingcfaaGreatDoor
