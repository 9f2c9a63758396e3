/-
  The operations: for each a word that says, of abstract values, what it asks and what it hands on.
  No conditions: definitions.
-/
import Derived.Test.YtedaaincibcbkaaStep
namespace Go.Aw
open Go Go.RowKit

def inI (n : Int) : Prop := -9223372036854775808 ≤ n ∧ n ≤ 9223372036854775807

def iWr (k : IntKind) (n : Int) (K : AV → Prop) : Prop :=
  match k with
  | .i64 => inI n ∧ K (.v (.int .i64 n))
  | k => K (.v (.int k (k.wrap n)))

def ibits (op : BinOp) (k : IntKind) (x y : Int) : Int :=
  let a := BitVec.ofInt k.bits x
  let b := BitVec.ofInt k.bits y
  match op with
  | .and => k.wrap (a &&& b).toNat
  | .or => k.wrap (a ||| b).toNat
  | .xor => k.wrap (a ^^^ b).toNat
  | _ => k.wrap (a &&& ~~~b).toNat

def iInt (op : BinOp) (k : IntKind) (a b : Int) (K : AV → Prop) : Prop :=
  match op with
  | .add => iWr k (a + b) K
  | .sub => iWr k (a - b) K
  | .mul => iWr k (a * b) K
  | .quo => b ≠ 0 ∧ K (.v (.int k (k.wrap (a.tdiv b))))
  | .rem => b ≠ 0 ∧ K (.v (.int k (a.tmod b)))
  | .and => K (.v (.int k (ibits .and k a b)))
  | .or => K (.v (.int k (ibits .or k a b)))
  | .xor => K (.v (.int k (ibits .xor k a b)))
  | .andNot => K (.v (.int k (ibits .andNot k a b)))
  | .eql => K (bool (decide (a = b)))
  | .neq => K (bool (!decide (a = b)))
  | .lss => K (bool (decide (a < b)))
  | .leq => K (bool (decide (a ≤ b)))
  | .gtr => K (bool (decide (b < a)))
  | .geq => K (bool (decide (b ≤ a)))
  | _ => False

def iStr (op : BinOp) (a b : List UInt8) (K : AV → Prop) : Prop :=
  match op with
  | .add => a.length + b.length ≤ maxLen ∧ K (.str (a ++ b))
  | .eql => K (bool (decide (a = b)))
  | .neq => K (bool (!decide (a = b)))
  | .lss => K (bool (Op.bytesLess a b))
  | .leq => K (bool (Op.bytesLess a b || decide (a = b)))
  | .gtr => K (bool (!(Op.bytesLess a b || decide (a = b))))
  | .geq => K (bool (!Op.bytesLess a b))
  | _ => False

def iShift (op : BinOp) (k : IntKind) (a b : Int) (K : AV → Prop) : Prop :=
  0 ≤ b ∧ match op with
  | .shl => K (.v (.int k (k.wrap (a * 2 ^ (min b.toNat k.bits)))))
  | .shr => K (.v (.int k (a.fdiv (2 ^ (min b.toNat k.bits)))))
  | _ => False

def isShift : BinOp → Bool | .shl | .shr => true | _ => false

/-- An operation on two numbers, two texts, two bools. -/
def iBin (op : BinOp) (x y : AV) (K : AV → Prop) : Prop :=
  match x, y with
  | .v (.int k a), .v (.int k' b) => if isShift op then iShift op k a b K else k = k' ∧ iInt op k a b K
  | .str a, .str b => iStr op a b K
  | _, _ => False
def iBinB (op : BinOp) (x y : AV) (K : AV → Prop) : Prop :=
  match x, y with
  | .v (.bool a), .v (.bool b) => (match op with | .eql => K (bool (a == b)) | .neq => K (bool (!(a == b))) | _ => False)
  | _, _ => False

def eqS : Nat → AV → AV → Option Bool
  | 0, .v (.bool a), .v (.bool b) => some (a == b)
  | 1, .v (.int k a), .v (.int k' b) => if k = k' then some (decide (a = b)) else none
  | 2, .str a, .str b => some (decide (a = b))
  | _, _, _ => none
def eqK : List Nat → List AV → List AV → Option Bool
  | [], [], [] => some true
  | k :: ks, x :: xs, y :: ys => match eqS k x y, eqK ks xs ys with | some a, some b => some (a && b) | _, _ => none
  | _, _, _ => none
/-- Two structs, or two arrays, of plain cells: bools (0), numbers (1), texts (2). -/
def iEqA (neg : Bool) (ks : List Nat) (x y : AV) (K : AV → Prop) : Prop :=
  match x, y with
  | .agg xs, .agg ys => (match eqK ks xs ys with | some b => K (bool (if neg then !b else b)) | none => False)
  | _, _ => False

def iPick (c a b : AV) (K : AV → Prop) : Prop := ∃ t, c = .v (.bool t) ∧ (t = true → K a) ∧ (t = false → K b)
def iCond (c : AV) (A B : Prop) : Prop := ∃ t, c = .v (.bool t) ∧ (t = true → A) ∧ (t = false → B)
def iGuard (c : AV) (want : Bool) (A B : Prop) : Prop := (∃ t, c = .v (.bool t) ∧ (t = want → A) ∧ (t = (!want) → B)) ∨ (c = .v undef ∧ B)
def iNot (x : AV) (K : AV → Prop) : Prop := ∃ t, x = .v (.bool t) ∧ K (bool (!t))
def iNeg (x : AV) (K : AV → Prop) : Prop := ∃ k n, x = .v (.int k n) ∧ iWr k (0 - n) K
def iConv (k : IntKind) (x : AV) (K : AV → Prop) : Prop := ∃ k' n, x = .v (.int k' n) ∧ K (.v (.int k (k.wrap n)))
def iExtr (i : Nat) (x : AV) (K : AV → Prop) : Prop :=
  match x with
  | .tup cs => match cs[i]? with | some c => K c | none => False
  | _ => False
def ldP (g : Bool) (sz : Nat) (cs : List AV) (K : AV → Prop) : Prop :=
  match g with
  | true => sz ≤ cs.length ∧ K (.agg (cs.take sz))
  | false => match cs with | c :: _ => K c | [] => False
def iFld (g : Bool) (off n : Nat) (x : AV) (K : AV → Prop) : Prop :=
  match x with
  | .agg cs => ldP g n (cs.drop off) K
  | _ => False
def iIdxS (x i : AV) (K : AV → Prop) : Prop :=
  match x, i with
  | .str l, .v (.int _ n) => (0 ≤ n ∧ n < l.length) ∧ K (.v (.int .u8 (l.getD n.toNat 0).toNat))
  | _, _ => False
def iIdxA (g : Bool) (sz len : Nat) (x i : AV) (K : AV → Prop) : Prop :=
  match x, i with
  | .agg cs, .v (.int _ n) => (0 ≤ n ∧ n < len) ∧ ldP g sz (cs.drop (n.toNat * sz)) K
  | _, _ => False
def optI : Option AV → Int → Option Int
  | none, d => some d
  | some (.v (.int _ n)), _ => some n
  | _, _ => none
def iSlS (x : AV) (lo hi : Option AV) (K : AV → Prop) : Prop :=
  match x with
  | .str l => (match optI lo 0, optI hi l.length with
    | some a, some b => (0 ≤ a ∧ a ≤ b ∧ b ≤ l.length) ∧ K (.str ((l.take b.toNat).drop a.toNat))
    | _, _ => False)
  | _ => False
def iSl (n : Nat) (x : AV) (lo hi : Option AV) (K : AV → Prop) : Prop :=
  match x with
  | .sl sz rows => (match optI lo 0, optI hi rows.length with
    | some a, some b => sz = n ∧ (0 ≤ a ∧ a ≤ b ∧ b ≤ rows.length) ∧ K (.sl sz ((rows.take b.toNat).drop a.toNat))
    | _, _ => False)
  | .own id off len sz => (match optI lo 0, optI hi len with
    | some a, some b => sz = n ∧ (0 ≤ a ∧ a ≤ b ∧ b ≤ len) ∧ K (.own id (off + a.toNat * sz) (b - a).toNat sz)
    | _, _ => False)
  | .emp => (match optI lo 0, optI hi 0 with
    | some a, some b => (a = 0 ∧ b = 0) ∧ K .emp
    | _, _ => False)
  | _ => False
def iSlA (n sz : Nat) (x : AV) (lo hi : Option AV) (h : Heap) (K : AV → Prop) : Prop :=
  match x with
  | .op id off => (match optI lo 0, optI hi n, h[id]? with
    | some a, some b, some (some blk) => (off + n * sz ≤ blk.cells.length ∧ 0 ≤ a ∧ a ≤ b ∧ b ≤ n ∧ n ≤ maxLen) ∧ K (.own id (off + a.toNat * sz) (b - a).toNat sz)
    | _, _, _ => False)
  | _ => False
def iIdxP (m : Nat) (x i : AV) (K : AV → Prop) : Prop :=
  match x, i with
  | .sl sz rows, .v (.int _ n) => sz = m ∧ (0 ≤ n ∧ n < rows.length) ∧ K (.ip (rows.getD n.toNat []))
  | .own id off len sz, .v (.int _ n) => sz = m ∧ (0 ≤ n ∧ n < len) ∧ K (.op id (off + n.toNat * sz))
  | _, _ => False
def iIdxQ (len sz : Nat) (x i : AV) (K : AV → Prop) : Prop :=
  match x, i with
  | .op id off, .v (.int _ n) => (0 ≤ n ∧ n < len) ∧ K (.op id (off + n.toNat * sz))
  | .ip cs, .v (.int _ n) => (0 ≤ n ∧ n < len) ∧ K (.ip (cs.drop (n.toNat * sz)))
  | _, _ => False
def iFad (off : Nat) (x : AV) (K : AV → Prop) : Prop :=
  match x with
  | .ip cs => K (.ip (cs.drop off))
  | .op id o => K (.op id (o + off))
  | _ => False
def iNil (x : AV) (K : AV → Prop) : Prop :=
  match x with
  | .ip _ | .op _ _ => K x
  | .fn (.func _) _ _ => K x
  | _ => False
def iLoad (g : Bool) (sz : Nat) (x : AV) (h : Heap) (K : AV → Prop) : Prop :=
  match x with
  | .ip cs => ldP g sz cs K
  | .op id o => (match h[id]? with
    | some (some b) => ldP g sz (b.cells.drop o) K
    | _ => False)
  | _ => False
def iStore (sz : Nat) (x v : AV) (h : Heap) (K : Heap → Prop) : Prop :=
  match x with
  | .op id o => (match h[id]? with
    | some (some b) => (b.wr = true ∧ o + (vcells v).length ≤ b.cells.length ∧ (vcells v).length = sz ∧ (vcells v).all scal = true) ∧ K (h.set id (some { b with cells := setAll b.cells o (vcells v) }))
    | _ => False)
  | _ => False
def iNew (t : TypeId) (v : AV) (h : Heap) (K : AV → Heap → Prop) : Prop :=
  (vcells v).all scal = true ∧ K (.op h.length 0) (h ++ [some ⟨t, vcells v, true⟩])
def bfill : List AV → List (Nat × Nat × AV) → Option (List AV)
  | cells, [] => some cells
  | cells, (o, n, x) :: r => if (vcells x).length = n ∧ o + n ≤ cells.length ∧ (vcells x).all scal = true then bfill (setAll cells o (vcells x)) r else none
def iBuild (zero : AV) (parts : List (Nat × Nat × AV)) (K : AV → Prop) : Prop :=
  match bfill (vcells zero) parts with
  | some cs => K (.agg cs)
  | none => False
def rep0 : Nat → List AV → List AV
  | 0, _ => []
  | n + 1, z => z ++ rep0 n z
def iMkSl (t len sz : Nat) (zero : AV) (parts : List (Nat × Nat × AV)) (h : Heap) (K : AV → Heap → Prop) : Prop :=
  match bfill (rep0 len (vcells zero)) parts with
  | some cs => K (.own h.length 0 len sz) (h ++ [some ⟨t, cs, true⟩])
  | none => False
def iLenS (x : AV) (K : AV → Prop) : Prop :=
  match x with
  | .str l => l.length ≤ maxLen → K (int l.length)
  | _ => False
def iLen (x : AV) (K : AV → Prop) : Prop :=
  match x with
  | .sl _ rows => rows.length ≤ maxLen → K (int rows.length)
  | .own _ _ len _ => len ≤ maxLen → K (int len)
  | .emp => K (int 0)
  | _ => False
def iMin (x y : AV) (K : AV → Prop) : Prop :=
  match x, y with
  | .v (.int k a), .v (.int k' b) => k = k' ∧ K (.v (.int k (if b < a then b else a)))
  | _, _ => False
def iMax (x y : AV) (K : AV → Prop) : Prop :=
  match x, y with
  | .v (.int k a), .v (.int k' b) => k = k' ∧ K (.v (.int k (if b > a then b else a)))
  | _, _ => False

/-! ### Types -/
def isAggD : TypeDesc → Bool
  | .struct _ | .array _ _ => true
  | _ => false
def tAgg (P : Program) (t : TypeId) : Bool := match P.underlying t with | some d => isAggD d | none => false
def tOk (P : Program) (t : TypeId) : Bool := (P.info? t).isSome && (P.underlying t).isSome
def zeroA (P : Program) (t : TypeId) : Option AV := (P.info? t).bind fun i => i.zero.map constAV
def flatFs (g : TypeId → Option (List Nat)) (P : Program) : Nat → List Field → Option (List Nat)
  | _, [] => some []
  | o, f :: fs => if f.offset = o ∧ f.name ≠ "_" then (g f.type).bind fun ks => if P.cellsOf f.type = ks.length ∧ 0 < ks.length then (flatFs g P (o + ks.length) fs).map (ks ++ ·) else none else none
def repK : Nat → List Nat → List Nat
  | 0, _ => []
  | n + 1, ks => ks ++ repK n ks
/-- The plain cells of a type, one behind the other. -/
def flatK (P : Program) : Nat → TypeId → Option (List Nat)
  | 0, _ => none
  | d + 1, t =>
    if tOk P t then
      match P.underlying t with
      | some .bool => some [0]
      | some (.int _) => some [1]
      | some .string => some [2]
      | some (.struct fs) => if P.stoodInHeld t then none else flatFs (flatK P d) P 0 fs.toList
      | some (.array n e) => (flatK P d e).bind fun ks => if P.cellsOf e = ks.length ∧ 0 < ks.length then some (repK n ks) else none
      | _ => none
    else none

def hasBody (P : Program) (f : FuncId) : Bool := (P.funcs[f]?).any (fun fn => fn.body.isSome && fn.name != "runtime.NumGoroutine")
/-- A call of a function value. -/
def iCall (P : Program) (x : AV) (args : List AV) (h : Heap) (K : AV → Heap → Prop) : Prop :=
  match x with
  | .fn (.func f) first cap => hasBody P f = true ∧ ACall P f (first ++ args ++ cap) h K
  | _ => False
def iStrS (x : AV) (K : AV → Prop) : Prop :=
  match x with
  | .str _ => K x
  | _ => False

/-- A closed fact that has to stand. -/
def req (b : Bool) (X : Prop) : Prop := match b with | true => X | false => False

/-- What one operation asks, and what it hands on: its value, and the heap. -/
def stepOp (P : Program) (ev : Operand → AV) (h : Heap) (op : Op) (K : AV → Heap → Prop) : Prop :=
  match op with
  | .move x | .assign x => K (ev x) h
  | .pick c a b => iPick (ev c) (ev a) (ev b) fun v => K v h
  | .binOp op t x y _ =>
    if tAgg P t then
      match op with
      | .eql => req (!P.eqGuardType P.depth t) (match flatK P 8 t with | some ks => iEqA false ks (ev x) (ev y) fun v => K v h | none => False)
      | .neq => req (!P.eqGuardType P.depth t) (match flatK P 8 t with | some ks => iEqA true ks (ev x) (ev y) fun v => K v h | none => False)
      | _ => False
    else match P.underlying t with
      | some .bool => iBinB op (ev x) (ev y) fun v => K v h
      | some (.int _) | some .string => iBin op (ev x) (ev y) fun v => K v h
      | _ => False
  | .unOp .not _ x => iNot (ev x) fun v => K v h
  | .unOp .neg _ x => iNeg (ev x) fun v => K v h
  | .convert s d x =>
    match P.underlying s, P.underlying d with
    | some (.int _), some (.int k) => iConv k (ev x) fun v => K v h
    | some .string, some .string => iStrS (ev x) fun v => K v h
    | _, _ => False
  | .extract x i => iExtr i (ev x) fun v => K v h
  | .field t x i =>
    match P.underlying t with
    | some (.struct fs) => match fs[i]? with
      | some f => req (tOk P f.type) (iFld (tAgg P f.type) f.offset (P.cellsOf f.type) (ev x) fun v => K v h)
      | none => False
    | _ => False
  | .index t x i =>
    match P.underlying t with
    | some .string => iIdxS (ev x) (ev i) fun v => K v h
    | some (.array n e) => req (tOk P e) (iIdxA (tAgg P e) (P.cellsOf e) n (ev x) (ev i) fun v => K v h)
    | _ => False
  | .slice t x lo hi none =>
    match P.underlying t with
    | some .string => iSlS (ev x) (lo.map ev) (hi.map ev) fun v => K v h
    | some (.slice e) => req (tOk P e) (iSl (P.cellsOf e) (ev x) (lo.map ev) (hi.map ev) fun v => K v h)
    | some (.array n e) => req (tOk P e) (iSlA n (P.cellsOf e) (ev x) (lo.map ev) (hi.map ev) h fun v => K v h)
    | _ => False
  | .indexAddr t x i =>
    match P.underlying t with
    | some (.slice e) => req (tOk P e) (iIdxP (P.cellsOf e) (ev x) (ev i) fun v => K v h)
    | some (.array n e) => req (tOk P e) (iIdxQ n (P.cellsOf e) (ev x) (ev i) fun v => K v h)
    | _ => False
  | .fieldAddr t x i =>
    match P.underlying t with
    | some (.struct fs) => match fs[i]? with
      | some f => req (P.cellsOf f.type != 0 && tOk P f.type) (iFad f.offset (ev x) fun v => K v h)
      | none => False
    | _ => False
  | .nilCheck x => iNil (ev x) fun v => K v h
  | .load t x => req (tOk P t) (iLoad (tAgg P t) (P.cellsOf t) (ev x) h fun v => K v h)
  | .store t x v => req (tOk P t) (iStore (P.cellsOf t) (ev x) (ev v) h fun h' => K (.v undef) h')
  | .alloc t => match zeroA P t with
    | some z => iNew t z h K
    | none => False
  | .box t x => iNew t (ev x) h K
  | .build t parts =>
    match P.underlying t, zeroA P t with
    | some (.struct fs), some z => req (fs.toList.all (fun f => tOk P f.type) && parts.toList.all (fun p => (fs[p.1]?).isSome))
        (iBuild z (parts.toList.map fun p => (((fs[p.1]?).map (·.offset)).getD 0, ((fs[p.1]?).map (fun f => P.cellsOf f.type)).getD 0, ev p.2)) fun v => K v h)
    | some (.array _ e), some z => req (tOk P e) (iBuild z (parts.toList.map fun p => (p.1 * P.cellsOf e, P.cellsOf e, ev p.2)) fun v => K v h)
    | _, _ => False
  | .makeFunc f xs ys => K (.fn f (xs.toList.map ev) (ys.toList.map ev)) h
  | .call c =>
    match c.callee with
    | .builtin .len => (match c.argTypes[0]?, c.args[0]? with
      | some t, some x => (match P.underlying t with
        | some .string => iLenS (ev x) fun v => K v h
        | some (.slice _) => iLen (ev x) fun v => K v h
        | _ => False)
      | _, _ => False)
    | .builtin .min => (match c.args.toList with | [x, y] => iMin (ev x) (ev y) fun v => K v h | _ => False)
    | .builtin .max => (match c.args.toList with | [x, y] => iMax (ev x) (ev y) fun v => K v h | _ => False)
    | .value x => iCall P (ev x) (c.args.toList.map ev) h K
    | _ => False
  | _ => False

def setFr (fr : List AV) (d : Option Tmp) (x : AV) : List AV := match d with | some t => fr.set t x | none => fr

/-- The temporary that an operation writes. -/
def dstOf (ops : Array Oper) (j : Nat) : Option Tmp := (ops[j]?).bind (·.dst)

def keepM (ops : Array Oper) (o : Oper) : Option (Nat × Bool × Bool) → Option (Nat × Bool × Bool)
  | some (j, w, b) => if o.dst = dstOf ops j then none else some (j, w, b)
  | none => none

/-- The operations with these numbers, one behind the other. A guard that stood once is not asked again. -/
def stepOps (P : Program) (ops : Array Oper) : List Nat → Option (Nat × Bool × Bool) → St → (St → Prop) → Prop
  | [], _, st, K => K st
  | i :: r, mode, st, K =>
    match ops[i]? with
    | none => False
    | some o =>
      let yes (st : St) (mode : Option (Nat × Bool × Bool)) : Prop := stepOp P (evalA st.fr) st.h o.op fun v h => stepOps P ops r (keepM ops o mode) ⟨setFr st.fr o.dst v, h⟩ K
      let no (st : St) (mode : Option (Nat × Bool × Bool)) : Prop := stepOps P ops r (keepM ops o mode) ⟨setFr st.fr o.dst (.v undef), st.h⟩ K
      match o.guard with
      | none => yes st mode
      | some (j, want) =>
        let ask : Prop := match dstOf ops j with
          | some d => match st.fr[d]? with
            | some c => iGuard c want (yes ⟨st.fr.set d (.v (.bool want)), st.h⟩ (some (j, want, true)))
                (no ⟨st.fr.set d (match c with | .v (.bool _) => .v (.bool (!want)) | c => c), st.h⟩ (some (j, want, false)))
            | none => False
          | none => False
        match mode with
        | some (j', want', b) => if j' = j ∧ want' = want then (match b with | true => yes st mode | false => no st mode) else ask
        | none => ask

end Go.Aw
