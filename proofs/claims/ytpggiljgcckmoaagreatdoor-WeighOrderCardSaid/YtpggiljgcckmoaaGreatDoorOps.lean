/-
  The operations: for each a word that says, of abstract values, what it asks and what it hands on.
  No conditions: definitions.
-/
import Derived.Test.YtpggiljgcckmoaaGreatDoorStep
import Derived.Stop.Asserts
namespace Go.Aw
open Go Go.RowKit
variable [Laid]

def inI (n : Int) : Prop := -9223372036854775808 ≤ n ∧ n ≤ 9223372036854775807

def iWr (k : IntKind) (n : Int) (K : AV → Prop) : Prop :=
  match k with
  | .i64 => inI n ∧ K (.v (.int .i64 n))
  | k => K (.v (.int k (k.wrap n)))

def ibits (op : BinOp) (k : IntKind) (x y : Int) : Int :=
  let a := BitVec.ofInt k.bits x
  let b := BitVec.ofInt k.bits y
  match op with
  | .and => k.wrap (a &&& b).toNat
  | .or => k.wrap (a ||| b).toNat
  | .xor => k.wrap (a ^^^ b).toNat
  | _ => k.wrap (a &&& ~~~b).toNat

def iInt (op : BinOp) (k : IntKind) (a b : Int) (K : AV → Prop) : Prop :=
  match op with
  | .add => iWr k (a + b) K
  | .sub => iWr k (a - b) K
  | .mul => iWr k (a * b) K
  | .quo => b ≠ 0 ∧ K (.v (.int k (k.wrap (a.tdiv b))))
  | .rem => b ≠ 0 ∧ K (.v (.int k (a.tmod b)))
  | .and => K (.v (.int k (ibits .and k a b)))
  | .or => K (.v (.int k (ibits .or k a b)))
  | .xor => K (.v (.int k (ibits .xor k a b)))
  | .andNot => K (.v (.int k (ibits .andNot k a b)))
  | .eql => K (bool (decide (a = b)))
  | .neq => K (bool (!decide (a = b)))
  | .lss => K (bool (decide (a < b)))
  | .leq => K (bool (decide (a ≤ b)))
  | .gtr => K (bool (decide (b < a)))
  | .geq => K (bool (decide (b ≤ a)))
  | _ => False

def iStr (op : BinOp) (a b : List UInt8) (K : AV → Prop) : Prop :=
  match op with
  | .add => a.length + b.length ≤ maxLen ∧ K (.str (a ++ b))
  | .eql => K (bool (decide (a = b)))
  | .neq => K (bool (!decide (a = b)))
  | .lss => K (bool (Op.bytesLess a b))
  | .leq => K (bool (Op.bytesLess a b || decide (a = b)))
  | .gtr => K (bool (!(Op.bytesLess a b || decide (a = b))))
  | .geq => K (bool (!Op.bytesLess a b))
  | _ => False

def iShift (op : BinOp) (k : IntKind) (a b : Int) (K : AV → Prop) : Prop :=
  0 ≤ b ∧ match op with
  | .shl => K (.v (.int k (k.wrap (a * 2 ^ (min b.toNat k.bits)))))
  | .shr => K (.v (.int k (a.fdiv (2 ^ (min b.toNat k.bits)))))
  | _ => False

def isShift : BinOp → Bool | .shl | .shr => true | _ => false

/-- An operation on two numbers, two texts, two bools. -/
def iBin (op : BinOp) (x y : AV) (K : AV → Prop) : Prop :=
  match x, y with
  | .v (.int k a), .v (.int k' b) => if isShift op then iShift op k a b K else k = k' ∧ iInt op k a b K
  | .str a, .str b => iStr op a b K
  | _, _ => False
def iBinB (op : BinOp) (x y : AV) (K : AV → Prop) : Prop :=
  match x, y with
  | .v (.bool a), .v (.bool b) => (match op with | .eql => K (bool (a == b)) | .neq => K (bool (!(a == b))) | _ => False)
  | _, _ => False

def eqS : Nat → AV → AV → Option Bool
  | 0, .v (.bool a), .v (.bool b) => some (a == b)
  | 1, .v (.int k a), .v (.int k' b) => if k = k' then some (decide (a = b)) else none
  | 2, .str a, .str b => some (decide (a = b))
  | _, _, _ => none
def eqK : List Nat → List AV → List AV → Option Bool
  | [], [], [] => some true
  | k :: ks, x :: xs, y :: ys => match eqS k x y, eqK ks xs ys with | some a, some b => some (a && b) | _, _ => none
  | _, _, _ => none
/-- Two structs, or two arrays, of plain cells: bools (0), numbers (1), texts (2). -/
def iEqA (neg : Bool) (ks : List Nat) (x y : AV) (K : AV → Prop) : Prop :=
  match x, y with
  | .agg xs, .agg ys => (match eqK ks xs ys with | some b => K (bool (if neg then !b else b)) | none => False)
  | _, _ => False

def iPick (c a b : AV) (K : AV → Prop) : Prop := ∃ t, c = .v (.bool t) ∧ (t = true → K a) ∧ (t = false → K b)
def iCond (c : AV) (A B : Prop) : Prop := ∃ t, c = .v (.bool t) ∧ (t = true → A) ∧ (t = false → B)
def iGuard (c : AV) (want : Bool) (A B : Prop) : Prop := (∃ t, c = .v (.bool t) ∧ (t = want → A) ∧ (t = (!want) → B)) ∨ (c = .v undef ∧ B)
def iNot (x : AV) (K : AV → Prop) : Prop := ∃ t, x = .v (.bool t) ∧ K (bool (!t))
def iNeg (x : AV) (K : AV → Prop) : Prop := ∃ k n, x = .v (.int k n) ∧ iWr k (0 - n) K
def iConv (k : IntKind) (x : AV) (K : AV → Prop) : Prop := ∃ k' n, x = .v (.int k' n) ∧ K (.v (.int k (k.wrap n)))
def iExtr (i : Nat) (x : AV) (K : AV → Prop) : Prop :=
  match x with
  | .tup cs => match cs[i]? with | some c => K c | none => False
  | _ => False
def ldP (g : Bool) (sz : Nat) (cs : List AV) (K : AV → Prop) : Prop :=
  match g with
  | true => sz ≤ cs.length ∧ K (.agg (cs.take sz))
  | false => match cs with | c :: _ => K c | [] => False
def iFld (g : Bool) (off n : Nat) (x : AV) (K : AV → Prop) : Prop :=
  match x with
  | .agg cs => ldP g n (cs.drop off) K
  | _ => False
def iIdxS (x i : AV) (K : AV → Prop) : Prop :=
  match x, i with
  | .str l, .v (.int _ n) => (0 ≤ n ∧ n < l.length) ∧ K (.v (.int .u8 (l.getD n.toNat 0).toNat))
  | _, _ => False
def iIdxA (g : Bool) (sz len : Nat) (x i : AV) (K : AV → Prop) : Prop :=
  match x, i with
  | .agg cs, .v (.int _ n) => (0 ≤ n ∧ n < len) ∧ ldP g sz (cs.drop (n.toNat * sz)) K
  | _, _ => False
def optI : Option AV → Int → Option Int
  | none, d => some d
  | some (.v (.int _ n)), _ => some n
  | _, _ => none
def iSlS (x : AV) (lo hi : Option AV) (K : AV → Prop) : Prop :=
  match x with
  | .str l => (match optI lo 0, optI hi l.length with
    | some a, some b => (0 ≤ a ∧ a ≤ b ∧ b ≤ l.length) ∧ K (.str ((l.take b.toNat).drop a.toNat))
    | _, _ => False)
  | _ => False
/-- A slice that grows, told as it is. -/
def unsb : AV → AV
  | .v (.slice none 0 0) => .emp
  | .sb _ sz rows => .sl sz rows
  | x => x
def iSl (n : Nat) (x : AV) (lo hi : Option AV) (K : AV → Prop) : Prop :=
  match unsb x with
  | .sl sz rows => (match optI lo 0, optI hi rows.length with
    | some a, some b => sz = n ∧ (0 ≤ a ∧ a ≤ b ∧ b ≤ rows.length) ∧ K (.sl sz ((rows.take b.toNat).drop a.toNat))
    | _, _ => False)
  | .own id off len sz => (match optI lo 0, optI hi len with
    | some a, some b => sz = n ∧ (0 ≤ a ∧ a ≤ b ∧ b ≤ len) ∧ K (.own id (off + a.toNat * sz) (b - a).toNat sz)
    | _, _ => False)
  | .emp => (match optI lo 0, optI hi 0 with
    | some a, some b => (a = 0 ∧ b = 0) ∧ K .emp
    | _, _ => False)
  | _ => False
def iSlA (n sz : Nat) (x : AV) (lo hi : Option AV) (h : Heap) (K : AV → Prop) : Prop :=
  match x with
  | .op id off => (match optI lo 0, optI hi n, h[id]? with
    | some a, some b, some (.blk blk) => (off + n * sz ≤ blk.cells.length ∧ 0 ≤ a ∧ a ≤ b ∧ b ≤ n ∧ n ≤ maxLen) ∧ K (.own id (off + a.toNat * sz) (b - a).toNat sz)
    | _, _, _ => False)
  | _ => False
def iIdxP (m : Nat) (x i : AV) (K : AV → Prop) : Prop :=
  match unsb x, i with
  | .sl sz rows, .v (.int _ n) => sz = m ∧ (0 ≤ n ∧ n < rows.length) ∧ K (.ip (rows.getD n.toNat []))
  | .own id off len sz, .v (.int _ n) => sz = m ∧ (0 ≤ n ∧ n < len) ∧ K (.op id (off + n.toNat * sz))
  | _, _ => False
def iIdxQ (len sz : Nat) (x i : AV) (K : AV → Prop) : Prop :=
  match x, i with
  | .op id off, .v (.int _ n) => (0 ≤ n ∧ n < len) ∧ K (.op id (off + n.toNat * sz))
  | .ip cs, .v (.int _ n) => (0 ≤ n ∧ n < len) ∧ K (.ip (cs.drop (n.toNat * sz)))
  | _, _ => False
def iFad (off : Nat) (x : AV) (K : AV → Prop) : Prop :=
  match x with
  | .ip cs => K (.ip (cs.drop off))
  | .op id o => K (.op id (o + off))
  | _ => False
def iNil (x : AV) (K : AV → Prop) : Prop :=
  match x with
  | .ip _ | .op _ _ => K x
  | .fn (.func _) _ _ => K x
  | _ => False
def iLoad (g : Bool) (sz : Nat) (x : AV) (h : Heap) (K : AV → Prop) : Prop :=
  match x with
  | .ip cs => ldP g sz cs K
  | .op id o => (match h[id]? with
    | some (.blk b) => ldP g sz (b.cells.drop o) K
    | _ => False)
  | _ => False
def iStore (sz : Nat) (x v : AV) (h : Heap) (K : Heap → Prop) : Prop :=
  match x with
  | .op id o => (match h[id]? with
    | some (.blk b) => (b.wr = true ∧ o + (vcells v).length ≤ b.cells.length ∧ (vcells v).length = sz ∧ (vcells v).all scal = true) ∧ K (h.set id (.blk { b with cells := setAll b.cells o (vcells v) }))
    | _ => False)
  | _ => False
def iNew (t : TypeId) (v : AV) (h : Heap) (K : AV → Heap → Prop) : Prop :=
  (vcells v).all scal = true ∧ K (.op h.length 0) (h ++ [.blk ⟨t, vcells v, true⟩])
def bfill : List AV → List (Nat × Nat × AV) → Option (List AV)
  | cells, [] => some cells
  | cells, (o, n, x) :: r => if (vcells x).length = n ∧ o + n ≤ cells.length ∧ (vcells x).all scal = true then bfill (setAll cells o (vcells x)) r else none
def iBuild (zero : AV) (parts : List (Nat × Nat × AV)) (K : AV → Prop) : Prop :=
  match bfill (vcells zero) parts with
  | some cs => K (.agg cs)
  | none => False
def rep0 : Nat → List AV → List AV
  | 0, _ => []
  | n + 1, z => z ++ rep0 n z
def iMkSl (t len sz : Nat) (zero : AV) (parts : List (Nat × Nat × AV)) (h : Heap) (K : AV → Heap → Prop) : Prop :=
  match bfill (rep0 len (vcells zero)) parts with
  | some cs => (match len with
    | 0 => K .emp h
    | len + 1 => K (.own h.length 0 (len + 1) sz) (h ++ [.blk ⟨t, cs, true⟩]))
  | none => False
def chunks (sz : Nat) : Nat → List AV → List (List AV)
  | 0, _ => []
  | n + 1, cs => cs.take sz :: chunks sz n (cs.drop sz)
/-- A new slice that is written no more: told at once. -/
def iMkSlP (len sz : Nat) (zero : AV) (parts : List (Nat × Nat × AV)) (K : AV → Prop) : Prop :=
  match bfill (rep0 len (vcells zero)) parts with
  | some cs => K (.sl sz (chunks sz len cs))
  | none => False
/-- A slice's elements, each as its cells; a text's bytes. -/
def srcR (h : Heap) (sz : Nat) (x : AV) : Option (List (List AV)) :=
  match unsb x with
  | .emp => some []
  | .sl sz' rows => if sz' = sz then some rows else none
  | .own id off len sz' => (match h[id]? with
    | some (.blk b) => if sz' = sz ∧ off + len * sz ≤ b.cells.length then some (chunks sz len (b.cells.drop off)) else none
    | _ => none)
  | _ => none
def byteA (b : UInt8) : AV := .v (.int .u8 b.toNat)
def srcS : AV → Option (List (List AV))
  | .str l => some (l.map fun b => [byteA b])
  | _ => none
def rowOK (sz : Nat) (r : List AV) : Bool := r.length == sz && r.all scal
def roomA (bytes n : Nat) : Prop := n ≤ maxLen ∧ n * bytes ≤ 140737488355328
/-- The nil slice, told as one with nothing in it. -/
def nle : AV → AV
  | .v (.slice none 0 0) => .emp
  | x => x
/-- 'append'. What grew out of nothing is told as a slice that grows at its end alone, or (own) as a block of the call's own. -/
def iAppTo (own : Bool) (e sz bytes : Nat) (x : AV) (src : Option (List (List AV))) (h : Heap) (K : AV → Heap → Prop) : Prop :=
  match src with
  | none => False
  | some rows => rows.all (rowOK sz) = true ∧ match nle x with
    | .emp => (match own with
      | false => roomA bytes rows.length ∧ K (.sb h.length sz rows) (h ++ [.tok e sz rows.length])
      | true => rows ≠ [] ∧ roomA bytes rows.length ∧ K (.own h.length 0 rows.length sz) (h ++ [.blk ⟨e, rows.flatten, true⟩]))
    | .sb id sz' base => (match h[id]? with
      | some (.tok e' sz'' k) => (sz' = sz ∧ sz'' = sz ∧ e' = e ∧ k = base.length) ∧ roomA bytes (k + rows.length) ∧ K (.sb id sz (base ++ rows)) (h.set id (.tok e sz (k + rows.length)))
      | _ => False)
    | .own id off len sz' => (match h[id]? with
      | some (.blk b) => (off = 0 ∧ sz' = sz ∧ b.wr = true ∧ b.ty = e ∧ len * sz ≤ b.cells.length) ∧ 0 < len + rows.length ∧ roomA bytes (len + rows.length) ∧
          K (.own h.length 0 (len + rows.length) sz) (h.set id .dead ++ [.blk ⟨e, b.cells.take (len * sz) ++ rows.flatten, true⟩])
      | _ => False)
    | _ => False
def iApp (own : Bool) (e sz bytes : Nat) (x y : AV) (h : Heap) (K : AV → Heap → Prop) : Prop := iAppTo own e sz bytes x (srcR h sz y) h K
def iAppS (own : Bool) (e bytes : Nat) (x y : AV) (h : Heap) (K : AV → Heap → Prop) : Prop := iAppTo own e 1 bytes x (srcS y) h K
def bytesA (P : Program) (e : TypeId) : Nat := ((P.info? e).map (·.bytes)).getD 0
def zok (P : Program) (e : TypeId) : Bool :=
  match P.info? e with
  | some i => (match i.zero with | some z => z.cells.size == i.size | none => false)
  | none => false
/-- A new slice of so many zeros; a text's bytes as a new slice; a text of bytes. -/
def iMake (e sz bytes : Nat) (zero len cap : AV) (h : Heap) (K : AV → Heap → Prop) : Prop :=
  match len, cap with
  | .v (.int _ l), .v (.int _ c) => (0 ≤ l ∧ l ≤ c ∧ (bytes : Int) * c ≤ 281474976710656 ∧ c ≤ 9223372036854775807) ∧ K (.own h.length 0 l.toNat sz) (h ++ [.blk ⟨e, rep0 c.toNat (vcells zero), true⟩])
  | _, _ => False
def iToBytes (e : Nat) (x : AV) (h : Heap) (K : AV → Heap → Prop) : Prop :=
  match x with
  | .str l => K (.own h.length 0 l.length 1) (h ++ [.blk ⟨e, l.map byteA, true⟩])
  | _ => False
def unB : List AV → Option (List UInt8)
  | [] => some []
  | .v (.int .u8 n) :: r => (unB r).map (UInt8.ofNat n.toNat :: ·)
  | _ => none
def iOfBytes (x : AV) (h : Heap) (K : AV → Prop) : Prop :=
  match (srcR h 1 x).bind fun p => unB p.flatten with
  | some l => K (.str l)
  | none => False
def isU8 (P : Program) (e : TypeId) : Bool := match P.underlying e with | some (.int .u8) => true | _ => false
def iLenS (x : AV) (K : AV → Prop) : Prop :=
  match x with
  | .str l => l.length ≤ maxLen → K (int l.length)
  | _ => False
def iLen (x : AV) (K : AV → Prop) : Prop :=
  match unsb x with
  | .sl _ rows => rows.length ≤ maxLen → K (int rows.length)
  | .own _ _ len _ => len ≤ maxLen → K (int len)
  | .emp => K (int 0)
  | _ => False
def iMin (x y : AV) (K : AV → Prop) : Prop :=
  match x, y with
  | .v (.int k a), .v (.int k' b) => k = k' ∧ K (.v (.int k (if b < a then b else a)))
  | _, _ => False
def iMax (x y : AV) (K : AV → Prop) : Prop :=
  match x, y with
  | .v (.int k a), .v (.int k' b) => k = k' ∧ K (.v (.int k (if b > a then b else a)))
  | _, _ => False

/-! ### Types -/
def isAggD : TypeDesc → Bool
  | .struct _ | .array _ _ => true
  | _ => false
def tAgg (P : Program) (t : TypeId) : Bool := match P.underlying t with | some d => isAggD d | none => false
def tOk (P : Program) (t : TypeId) : Bool := (P.info? t).isSome && (P.underlying t).isSome
def zeroA (P : Program) (t : TypeId) : Option AV := (P.info? t).bind fun i => i.zero.map constAV
def flatFs (g : TypeId → Option (List Nat)) (P : Program) : Nat → List Field → Option (List Nat)
  | _, [] => some []
  | o, f :: fs => if f.offset = o ∧ f.name ≠ "_" then (g f.type).bind fun ks => if P.cellsOf f.type = ks.length ∧ 0 < ks.length then (flatFs g P (o + ks.length) fs).map (ks ++ ·) else none else none
def repK : Nat → List Nat → List Nat
  | 0, _ => []
  | n + 1, ks => ks ++ repK n ks
/-- The plain cells of a type, one behind the other. -/
def flatK (P : Program) : Nat → TypeId → Option (List Nat)
  | 0, _ => none
  | d + 1, t =>
    if tOk P t then
      match P.underlying t with
      | some .bool => some [0]
      | some (.int _) => some [1]
      | some .string => some [2]
      | some (.struct fs) => if P.stoodInHeld t then none else flatFs (flatK P d) P 0 fs.toList
      | some (.array n e) => (flatK P d e).bind fun ks => if P.cellsOf e = ks.length ∧ 0 < ks.length then some (repK n ks) else none
      | _ => none
    else none

def hasBody (P : Program) (f : FuncId) : Bool := (P.funcs[f]?).any (fun fn => fn.body.isSome && fn.name != "runtime.NumGoroutine")
/-- A call of a function value. -/
def iCall (P : Program) (x : AV) (args : List AV) (h : Heap) (K : AV → Heap → Prop) : Prop :=
  match x with
  | .fn (.func f) first cap => hasBody P f = true ∧ ACall P f (first ++ args ++ cap) h K
  | _ => False
def iStrS (x : AV) (K : AV → Prop) : Prop :=
  match x with
  | .str _ => K x
  | _ => False

/-! ### Interfaces, nil -/
/-- Whether it is nil, where that is known: an interface value; a pointer; a slice. -/
def nilIT : AV → Option Bool | .v .nilIface => some true | .ifc _ _ => some false | _ => none
def nilPT : AV → Option Bool | .v (.pointer none) => some true | .op _ _ => some false | .ip _ => some false | _ => none
def nilST : AV → Option Bool
  | .v (.slice none _ _) => some true
  | .own _ _ len _ => (match len with | 0 => none | _ + 1 => some false)
  | .sl _ rows => (match rows with | [] => none | _ :: _ => some false)
  | .sb _ _ rows => (match rows with | [] => none | _ :: _ => some false)
  | _ => none
def negB (neg b : Bool) : Bool := match neg with | true => !b | false => b
def iIsN (neg : Bool) (r : Option Bool) (K : AV → Prop) : Prop := match r with | some b => K (bool (negB neg b)) | none => False
/-- Against a literal nil. -/
def iNilC (neg : Bool) (d : TypeDesc) (y : Operand) (x : AV) (K : AV → Prop) : Prop :=
  match d, y with
  | .interface _, .const .nilIface => iIsN neg (nilIT x) K
  | .pointer _, .const (.pointer none) => iIsN neg (nilPT x) K
  | .slice _, .const (.slice none _ _) => iIsN neg (nilST x) K
  | _, _ => False
/-- The function behind a method's name, of a pointer type that has it itself. -/
def mrow (P : Program) (name : String) (t : TypeId) : Option FuncId :=
  match P.info? t, P.underlying t with
  | some i, some (.pointer _) => (match i.methods.find? (·.name == name) with
    | some m => (match m.path.toList, m.func with | [], some (f, true) => (match hasBody P f with | true => some f | false => none) | _, _ => none)
    | none => none)
  | _, _ => none
/-- A type has an interface's methods. -/
def hasM (P : Program) (asserted t : TypeId) : Bool :=
  match P.underlying asserted, P.info? t with
  | some (.interface want), some i => (lacking want i.methods).isEmpty
  | _, _ => false
def iMkI (t : TypeId) (x : AV) (K : AV → Prop) : Prop := K (.ifc t x)
def iAsI (has : TypeId → Bool) (x : AV) (K : AV → Prop) : Prop :=
  match x with
  | .ifc t v => has t = true ∧ K (.tup [.ifc t v, bool true])
  | _ => False
def iInv (P : Program) (row : TypeId → Option FuncId) (x : AV) (args : List AV) (h : Heap) (K : AV → Heap → Prop) : Prop :=
  match x with
  | .ifc t v => (match row t with | some f => ACall P f (v :: args) h K | none => False)
  | _ => False
/-- A function value is there: a method bound to an interface value that is there. -/
def iNilF (P : Program) (x : AV) (K : AV → Prop) : Prop :=
  match x with
  | .fn (.method name) (.ifc t v :: r) ys => (mrow P name t).isSome = true ∧ K (.fn (.method name) (.ifc t v :: r) ys)
  | x => iNil x K

/-- A closed fact that has to stand. -/
abbrev req (b : Bool) (X : Prop) : Prop := match b with | true => X | false => False

/-- What one operation asks, and what it hands on: its value, and the heap. -/
def stepOp (P : Program) (own : Bool) (ev : Operand → AV) (h : Heap) (op : Op) (K : AV → Heap → Prop) : Prop :=
  match op with
  | .move x | .assign x => K (ev x) h
  | .pick c a b => iPick (ev c) (ev a) (ev b) fun v => K v h
  | .binOp op t x y _ =>
    if tAgg P t then
      match op with
      | .eql => req (!P.eqGuardType P.depth t) (match flatK P 8 t with | some ks => iEqA false ks (ev x) (ev y) fun v => K v h | none => False)
      | .neq => req (!P.eqGuardType P.depth t) (match flatK P 8 t with | some ks => iEqA true ks (ev x) (ev y) fun v => K v h | none => False)
      | _ => False
    else match P.underlying t with
      | some .bool => iBinB op (ev x) (ev y) fun v => K v h
      | some (.int _) | some .string => iBin op (ev x) (ev y) fun v => K v h
      | some d => (match op with
        | .eql => iNilC false d y (ev x) fun v => K v h
        | .neq => iNilC true d y (ev x) fun v => K v h
        | _ => False)
      | none => False
  | .unOp .not _ x => iNot (ev x) fun v => K v h
  | .unOp .neg _ x => iNeg (ev x) fun v => K v h
  | .convert s d x =>
    match P.underlying s, P.underlying d with
    | some (.int _), some (.int k) => iConv k (ev x) fun v => K v h
    | some .string, some .string => iStrS (ev x) fun v => K v h
    | some .string, some (.slice e) => req (isU8 P e) (iToBytes e (ev x) h K)
    | some (.slice e), some .string => req (isU8 P e) (iOfBytes (ev x) h fun v => K v h)
    | _, _ => False
  | .extract x i => iExtr i (ev x) fun v => K v h
  | .field t x i =>
    match P.underlying t with
    | some (.struct fs) => match fs[i]? with
      | some f => req (tOk P f.type) (iFld (tAgg P f.type) f.offset (P.cellsOf f.type) (ev x) fun v => K v h)
      | none => False
    | _ => False
  | .index t x i =>
    match P.underlying t with
    | some .string => iIdxS (ev x) (ev i) fun v => K v h
    | some (.array n e) => req (tOk P e) (iIdxA (tAgg P e) (P.cellsOf e) n (ev x) (ev i) fun v => K v h)
    | _ => False
  | .slice t x lo hi none =>
    match P.underlying t with
    | some .string => iSlS (ev x) (lo.map ev) (hi.map ev) fun v => K v h
    | some (.slice e) => req (tOk P e) (iSl (P.cellsOf e) (ev x) (lo.map ev) (hi.map ev) fun v => K v h)
    | some (.array n e) => req (tOk P e) (iSlA n (P.cellsOf e) (ev x) (lo.map ev) (hi.map ev) h fun v => K v h)
    | _ => False
  | .indexAddr t x i =>
    match P.underlying t with
    | some (.slice e) => req (tOk P e) (iIdxP (P.cellsOf e) (ev x) (ev i) fun v => K v h)
    | some (.array n e) => req (tOk P e) (iIdxQ n (P.cellsOf e) (ev x) (ev i) fun v => K v h)
    | _ => False
  | .fieldAddr t x i =>
    match P.underlying t with
    | some (.struct fs) => match fs[i]? with
      | some f => req (P.cellsOf f.type != 0 && tOk P f.type) (iFad f.offset (ev x) fun v => K v h)
      | none => False
    | _ => False
  | .nilCheck x => iNilF P (ev x) fun v => K v h
  | .makeInterface t x => req (P.concrete t) (iMkI t (ev x) fun v => K v h)
  | .typeAssert x _ asserted true => iAsI (hasM P asserted) (ev x) fun v => K v h
  | .load t x => req (tOk P t) (iLoad (tAgg P t) (P.cellsOf t) (ev x) h fun v => K v h)
  | .store t x v => req (tOk P t) (iStore (P.cellsOf t) (ev x) (ev v) h fun h' => K (.v undef) h')
  | .alloc t => match zeroA P t with
    | some z => iNew t z h K
    | none => False
  | .box t x => iNew t (ev x) h K
  | .build t parts =>
    match P.underlying t, zeroA P t with
    | some (.struct fs), some z => req (fs.toList.all (fun f => tOk P f.type) && parts.toList.all (fun p => (fs[p.1]?).isSome))
        (iBuild z (parts.toList.map fun p => (((fs[p.1]?).map (·.offset)).getD 0, ((fs[p.1]?).map (fun f => P.cellsOf f.type)).getD 0, ev p.2)) fun v => K v h)
    | some (.array _ e), some z => req (tOk P e) (iBuild z (parts.toList.map fun p => (p.1 * P.cellsOf e, P.cellsOf e, ev p.2)) fun v => K v h)
    | _, _ => False
  | .buildSlice t len parts =>
    match P.underlying t with
    | some (.slice e) => (match zeroA P e with
      | some z => req (zok P e && tOk P e && decide (len * P.cellsOf e ≤ 16777216) && decide (len ≤ 16777216)) (match own with
          | true => iMkSlP len (P.cellsOf e) z (parts.toList.map fun p => (p.1 * P.cellsOf e, P.cellsOf e, ev p.2)) fun v => K v h
          | false => iMkSl e len (P.cellsOf e) z (parts.toList.map fun p => (p.1 * P.cellsOf e, P.cellsOf e, ev p.2)) h K)
      | none => False)
    | _ => False
  | .makeSlice t l c =>
    match P.underlying t with
    | some (.slice e) => (match zeroA P e with
      | some z => req (zok P e && decide (0 < P.cellsOf e)) (iMake e (P.cellsOf e) (bytesA P e) z (ev l) (ev c) h K)
      | none => False)
    | _ => False
  | .makeFunc f xs ys => K (.fn f (xs.toList.map ev) (ys.toList.map ev)) h
  | .call c =>
    match c.callee with
    | .builtin .len => (match c.argTypes[0]?, c.args[0]? with
      | some t, some x => (match P.underlying t with
        | some .string => iLenS (ev x) fun v => K v h
        | some (.slice _) => iLen (ev x) fun v => K v h
        | _ => False)
      | _, _ => False)
    | .builtin .min => (match c.args.toList with | [x, y] => iMin (ev x) (ev y) fun v => K v h | _ => False)
    | .builtin .max => (match c.args.toList with | [x, y] => iMax (ev x) (ev y) fun v => K v h | _ => False)
    | .builtin .append => (match c.argTypes.toList, c.args.toList with
      | [t, tx], [x, y] => (match P.underlying t, P.underlying tx with
        | some (.slice e), some (.slice _) => req (zok P e) (iApp own e (P.cellsOf e) (bytesA P e) (ev x) (ev y) h K)
        | some (.slice e), some .string => req (zok P e && P.cellsOf e == 1) (iAppS own e (bytesA P e) (ev x) (ev y) h K)
        | _, _ => False)
      | _, _ => False)
    | .value x => iCall P (ev x) (c.args.toList.map ev) h K
    | .invoke x name => iInv P (mrow P name) (ev x) (c.args.toList.map ev) h K
    | _ => False
  | _ => False

def setS (st : St) (d : Option Tmp) (x : AV) (h : Heap) : St := ⟨st.n, setFr st.n st.fr d x, h⟩
/-- What stands for a guard that said no. -/
def negA (want : Bool) (c : AV) : AV := match c with | .v (.bool _) => .v (.bool (!want)) | c => c
/-- The temporary that an operation writes. -/
def dstOf (ops : Array Oper) (j : Nat) : Option Tmp := (ops[j]?).bind (·.dst)

end Go.Aw
