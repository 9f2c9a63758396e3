/-
  Histories: checked,searched;by either way. Histories: searched by either way.
  No conditions.
-/
import Derived.Test.YtfageokhpklkbaaGreatDoorR1
import Derived.Test.YtfageokhpklkbaaGreatDoorWPnt
set_option linter.unusedVariables false
set_option linter.unusedSimpArgs false
section
namespace Go.Proofs.YtfageokhpklkbaaGreatDoor
open Go Go.Aw
set_option maxRecDepth 100000
abbrev pA:=Op.bytesLess
def O5 (l : List Str) (k : Nat) : Bool:=decide ((l.getD k []).length ≤ 64) && (decide (k = 0) || pA (l.getD (k - 1) []) (l.getD k []))
def M1 (l : List Str) : Bool:=(List.range l.length).all (O5 l)
def hE (l : List Str) : Int:=if 32 < l.length then 4 else if M1 l = true then 0 else 8
theorem vw {x y : AV} {a b : List UInt8} {K : AV → Prop} (ex : x = .str a) (ey : y = .str b) (q : K (.v (.bool (!Op.bytesLess a b)))) : af .geq x y K:=by subst ex;subst ey;exact q
end Go.Proofs.YtfageokhpklkbaaGreatDoor
end

section
namespace Go.Proofs.YtfageokhpklkbaaGreatDoor
open Go Go.Aw
set_option maxRecDepth 100000
end Go.Proofs.YtfageokhpklkbaaGreatDoor
end
