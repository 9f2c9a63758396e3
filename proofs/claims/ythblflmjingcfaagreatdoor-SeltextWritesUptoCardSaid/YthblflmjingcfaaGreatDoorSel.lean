/-
  Selectors as plain data, and how they stand in memory; what is valid, how many there are, what they weigh: plain definitions.
  No conditions: definitions and lemmas.
-/
import Derived.Test.YthblflmjingcfaaGreatDoorL5
set_option linter.unusedVariables false
set_option linter.unusedSimpArgs false
namespace Go.Sel
open Go Go.Aw
abbrev Str := List UInt8
mutual
/-- A complex selector: the combinator in front, compounds, combinators between them. -/
inductive Cx where
  | mk (lead : Int) (parts : List Cp) (combs : List Int)
/-- A compound: tag, simple selectors. -/
inductive Cp where
  | mk (tag : Str) (simples : List Sm)
/-- A simple selector. -/
inductive Sm where
  | mk (kind : Int) (name : Str) (op : Int) (value : Str) (fold : Bool) (a b : Int) (of : Bool) (list : List Cx)
end
def Cx.lead : Cx → Int | .mk l _ _ => l
def Cx.parts : Cx → List Cp | .mk _ p _ => p
def Cx.combs : Cx → List Int | .mk _ _ c => c
def Cp.tag : Cp → Str | .mk t _ => t
def Cp.simples : Cp → List Sm | .mk _ s => s
def Sm.kind : Sm → Int | .mk k _ _ _ _ _ _ _ _ => k
def Sm.name : Sm → Str | .mk _ n _ _ _ _ _ _ _ => n
def Sm.op : Sm → Int | .mk _ _ o _ _ _ _ _ _ => o
def Sm.value : Sm → Str | .mk _ _ _ v _ _ _ _ _ => v
def Sm.fold : Sm → Bool | .mk _ _ _ _ f _ _ _ _ => f
def Sm.a : Sm → Int | .mk _ _ _ _ _ a _ _ _ => a
def Sm.b : Sm → Int | .mk _ _ _ _ _ _ b _ _ => b
def Sm.of : Sm → Bool | .mk _ _ _ _ _ _ _ o _ => o
def Sm.list : Sm → List Cx | .mk _ _ _ _ _ _ _ _ l => l
abbrev u1 (n : Int) : AV := .v (.int .u8 n)
/-! ### In memory -/
mutual
def encX : Cx → List AV
  | .mk l ps cs => [u1 l, .sl 2 (encPs ps), .sl 1 (cs.map fun c => [u1 c])]
def encPs : List Cp → List (List AV)
  | [] => []
  | p :: ps => encP p :: encPs ps
def encP : Cp → List AV
  | .mk t ss => [.str t, .sl 9 (encSs ss)]
def encSs : List Sm → List (List AV)
  | [] => []
  | s :: ss => encS s :: encSs ss
def encS : Sm → List AV
  | .mk k n o v f a b w l => [u1 k, .str n, u1 o, .str v, bool f, int a, int b, bool w, .sl 3 (encXs l)]
def encXs : List Cx → List (List AV)
  | [] => []
  | x :: xs => encX x :: encXs xs
end
theorem encPs_map : ∀ l, encPs l = l.map encP
  | [] => by simp [encPs]
  | p :: l => by simp [encPs, encPs_map l]
theorem encSs_map : ∀ l, encSs l = l.map encS
  | [] => by simp [encSs]
  | p :: l => by simp [encSs, encSs_map l]
theorem encXs_map : ∀ l, encXs l = l.map encX
  | [] => by simp [encXs]
  | p :: l => by simp [encXs, encXs_map l]
theorem encX_eq (x : Cx) : encX x = [u1 x.lead, .sl 2 (x.parts.map encP), .sl 1 (x.combs.map fun c => [u1 c])] := by
  cases x; simp [encX, encPs_map, Cx.lead, Cx.parts, Cx.combs]
theorem encP_eq (p : Cp) : encP p = [.str p.tag, .sl 9 (p.simples.map encS)] := by
  cases p; simp [encP, encSs_map, Cp.tag, Cp.simples]
theorem encS_eq (s : Sm) : encS s = [u1 s.kind, .str s.name, u1 s.op, .str s.value, bool s.fold, int s.a, int s.b, bool s.of, .sl 3 (s.list.map encX)] := by
  cases s; simp [encS, encXs_map, Sm.kind, Sm.name, Sm.op, Sm.value, Sm.fold, Sm.a, Sm.b, Sm.of, Sm.list]
theorem pureC : ∀ cs : List Int, PureR (cs.map fun c => [u1 c])
  | [] => by simp [PureR]
  | c :: cs => by simp [PureR, PureL, Aw.Pure, pureC cs]
mutual
theorem pureX : ∀ x : Cx, PureL (encX x)
  | .mk l ps cs => by simp [encX, PureL, Aw.Pure, pureC, purePs ps]
theorem purePs : ∀ l : List Cp, PureR (encPs l)
  | [] => by simp [encPs, PureR]
  | p :: l => by simp [encPs, PureR, pureP p, purePs l]
theorem pureP : ∀ p : Cp, PureL (encP p)
  | .mk t ss => by simp [encP, PureL, Aw.Pure, pureSs ss]
theorem pureSs : ∀ l : List Sm, PureR (encSs l)
  | [] => by simp [encSs, PureR]
  | s :: l => by simp [encSs, PureR, pureS s, pureSs l]
theorem pureS : ∀ s : Sm, PureL (encS s)
  | .mk k n o v f a b w l => by simp [encS, PureL, Aw.Pure, pureXs l]
theorem pureXs : ∀ l : List Cx, PureR (encXs l)
  | [] => by simp [encXs, PureR]
  | x :: l => by simp [encXs, PureR, pureX x, pureXs l]
end
/-! ### What is valid -/
def noZero (s : Str) : Bool := s.all fun b => !(b == 0)
def named (s : Str) : Bool := !decide (s = []) && decide ((s.length : Int) ≤ 64) && noZero s
def lowB (b : UInt8) : UInt8 := if 65 ≤ b ∧ b ≤ 90 then b ||| 32 else b
def small (s : Str) : Bool := named s && decide (s.map lowB = s)
def isNth (k : Int) : Bool := decide (k = 9) || decide (k = 10)
def anbOK (n : Int) : Bool := decide (-1000000000 ≤ n ∧ n ≤ 1000000000)
/-- What a simple selector is, its list left out. -/
def bareOK (k : Int) (n : Str) (o : Int) (v : Str) (f : Bool) (a b : Int) (w : Bool) : Bool :=
  if k = 1 ∨ k = 2 then named n && decide (o = 0) && decide (v = []) && !f && decide (a = 0) && decide (b = 0) && !w
  else if k = 3 then small n && decide (o ≤ 6) && noZero v && decide ((v.length : Int) ≤ 400) && (!decide (o = 0) || decide (v = []) && !f) && decide (a = 0) && decide (b = 0) && !w
  else decide (n = []) && decide (o = 0) && decide (v = []) && !f && decide (4 ≤ k ∧ k ≤ 14) && (if isNth k then anbOK a && anbOK b else decide (a = 0) && decide (b = 0) && !w)
/-- It has a list. -/
def hasL (k : Int) (w : Bool) : Bool := isNth k && w || decide (11 ≤ k ∧ k ≤ 14)
/-- The list may be empty. -/
def freeL (k : Int) : Bool := decide (k = 11) || decide (k = 12)
mutual
def okX (d : Nat) (has rel : Bool) : Cx → Bool
  | .mk l ps cs => (rel == !decide (l = 0)) && decide (l ≤ 4) && decide (cs.length + 1 = ps.length) && decide (ps.length ≤ 64) && cs.all (fun c => decide (1 ≤ c ∧ c ≤ 4)) && okPs d has ps
def okPs (d : Nat) (has : Bool) : List Cp → Bool
  | [] => true
  | p :: l => okP d has p && okPs d has l
def okP (d : Nat) (has : Bool) : Cp → Bool
  | .mk t ss => (decide (t = []) || decide (t = [42]) || small t) && decide (ss.length ≤ 64) && !(decide (t = []) && ss.isEmpty) && okSs d has ss
def okSs (d : Nat) (has : Bool) : List Sm → Bool
  | [] => true
  | s :: l => okS d has s && okSs d has l
def okS (d : Nat) (has : Bool) : Sm → Bool
  | .mk k n o v f a b w l => bareOK k n o v f a b w && (if hasL k w then decide (d ≠ 3) && !(has && decide (k = 14)) && (freeL k || !l.isEmpty) && okXs (d + 1) (has || decide (k = 14)) (decide (k = 14)) l else l.isEmpty)
def okXs (d : Nat) (has rel : Bool) : List Cx → Bool
  | [] => true
  | x :: l => okX d has rel x && okXs d has rel l
end
theorem okPs_all (d : Nat) (has : Bool) : ∀ l, okPs d has l = l.all (okP d has)
  | [] => by simp [okPs]
  | p :: l => by simp [okPs, okPs_all d has l]
theorem okSs_all (d : Nat) (has : Bool) : ∀ l, okSs d has l = l.all (okS d has)
  | [] => by simp [okSs]
  | p :: l => by simp [okSs, okSs_all d has l]
theorem okXs_all (d : Nat) (has rel : Bool) : ∀ l, okXs d has rel l = l.all (okX d has rel)
  | [] => by simp [okXs]
  | p :: l => by simp [okXs, okXs_all d has rel l]
/-! ### How many -/
mutual
def nX : Cx → Nat
  | .mk _ ps _ => nPs ps
def nPs : List Cp → Nat
  | [] => 0
  | p :: l => nP p + nPs l
def nP : Cp → Nat
  | .mk _ ss => nSs ss
def nSs : List Sm → Nat
  | [] => 0
  | s :: l => nS s + nSs l
def nS : Sm → Nat
  | .mk _ _ _ _ _ _ _ _ l => l.length + nXs l
def nXs : List Cx → Nat
  | [] => 0
  | x :: l => nX x + nXs l
end
/-- How many complex selectors there are in all. -/
def number (l : List Cx) : Nat := l.length + nXs l
/-- A list's answer: 0, 8 (not valid), 4 (too many). -/
def checkL (l : List Cx) : Int := if !l.isEmpty && okXs 0 false false l then (if number l ≤ 64 then 0 else 4) else 8
/-! ### How great -/
mutual
def zX : Cx → Nat
  | .mk _ ps cs => 1 + cs.length + zPs ps
def zPs : List Cp → Nat
  | [] => 0
  | p :: l => zP p + zPs l
def zP : Cp → Nat
  | .mk t ss => 1 + t.length + zSs ss
def zSs : List Sm → Nat
  | [] => 0
  | s :: l => zS s + zSs l
def zS : Sm → Nat
  | .mk _ n _ v _ _ _ _ l => 1 + n.length + v.length + zXs l
def zXs : List Cx → Nat
  | [] => 0
  | x :: l => zX x + zXs l
end
end Go.Sel
