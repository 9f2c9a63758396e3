/-
  Operations at known values: what each comes to, in a form that the kernel computes; and that the words of '..Ops' hold of it. Operations that turn memory, at known values; each operation of the model as one of these. Maps of the call's own, at known values: made, looked into, written, walked over. Slices, more: cut with three bounds; the capacity of nothing; zeros behind nothing; nothing behind the call's own; copied. Each operation of the model as one that the kernel computes; and what it leaves.
  No conditions.
-/
import Derived.Test.YtfijncpmhnnpiaaGreatDoorOpen
import Derived.Test.YtfijncpmhnnpiaaGreatDoorL2
import Derived.Maps.RangeRun
import Derived.Laws.Externs
import Derived.WideLaws
set_option linter.unusedVariables false
set_option linter.unusedSimpArgs false
section
namespace Go.Aw
open Go Go.RowKit
variable [Laid]

/-! ### Lists -/
section
variable {α : Type}
noncomputable def tailE (l : List α) : List α := List.rec (motive := fun _ => List α) [] (fun _ t _ => t) l
noncomputable def headE (l : List α) : Option α := List.rec (motive := fun _ => Option α) none (fun x _ _ => some x) l
noncomputable def dropC (n : Nat) (l : List α) : List α := Nat.rec (motive := fun _ => List α) l (fun _ ih => tailE ih) n
noncomputable def seenE (l : List α) (k : List α → List α) : List α := List.rec (motive := fun _ => List α) (k []) (fun x t _ => k (x :: t)) l
/-- By leaps of 32; what is left is found again from place to place. -/
noncomputable def dropE (n : Nat) (l : List α) : List α := Nat.rec (motive := fun _ => List α → List α) (fun l => dropC (Nat.mod n 32) l) (fun _ ih l => seenE (dropC 32 l) ih) (Nat.div n 32) l
noncomputable def getE (l : List α) (n : Nat) : Option α := headE (dropE n l)
noncomputable def appE (l r : List α) : List α := List.rec (motive := fun _ => List α) r (fun x _ ih => x :: ih) l
noncomputable def mapE {β : Type} (f : α → β) (l : List α) : List β := List.rec (motive := fun _ => List β) [] (fun x _ ih => f x :: ih) l
noncomputable def flatE (l : List (List α)) : List α := List.rec (motive := fun _ => List α) [] (fun x _ ih => appE x ih) l
noncomputable def takeE (n : Nat) : List α → List α := Nat.rec (motive := fun _ => List α → List α) (fun _ => []) (fun _ ih l => List.rec (motive := fun _ => List α) [] (fun x t _ => x :: ih t) l) n
noncomputable def setE (l : List α) : Nat → α → List α := List.rec (motive := fun _ => Nat → α → List α) (fun _ _ => []) (fun x t ih n y => Nat.rec (motive := fun _ => List α) (y :: t) (fun m _ => x :: ih m y) n) l
noncomputable def hasN (n : Nat) : List α → Bool := Nat.rec (motive := fun _ => List α → Bool) (fun _ => true) (fun _ ih l => List.rec (motive := fun _ => Bool) false (fun _ t _ => ih t) l) n
noncomputable def lenG (l : List α) : Nat → Nat := List.rec (motive := fun _ => Nat → Nat) (fun a => a) (fun _ _ ih a => Nat.rec (motive := fun _ => Nat) (ih 1) (fun m _ => ih (Nat.succ (Nat.succ m))) a) l
noncomputable def lenF (l : List α) : Nat := lenG l 0
noncomputable def allE (p : α → Bool) (l : List α) : Bool := List.rec (motive := fun _ => Bool) true (fun x _ ih => Bool.rec (motive := fun _ => Bool) false ih (p x)) l
omit [Laid]
theorem tailE_eq (l : List α) : tailE l = l.tail := by cases l <;> rfl
theorem dropC_eq (n : Nat) (l : List α) : dropC n l = l.drop n := by
  induction n with
  | zero => rfl
  | succ n ih => show tailE (dropC n l) = _; rw [tailE_eq, ih, List.tail_drop]
theorem seenE_eq (l : List α) (k : List α → List α) : seenE l k = k l := by cases l <;> rfl
theorem dropE_eq (n : Nat) (l : List α) : dropE n l = l.drop n := by
  have key : ∀ q (l : List α), (Nat.rec (motive := fun _ => List α → List α) (fun l => dropC (Nat.mod n 32) l) (fun _ ih l => seenE (dropC 32 l) ih) q : List α → List α) l = l.drop (32 * q + n % 32) := by
    intro q
    induction q with
    | zero => intro l; show dropC _ l = _; rw [dropC_eq, Nat.mul_zero, Nat.zero_add]; rfl
    | succ q ih =>
      intro l
      show seenE (dropC 32 l) _ = _
      rw [seenE_eq, ih, dropC_eq, List.drop_drop]
      congr 1; omega
  have := key (n / 32) l
  rw [Nat.div_add_mod] at this
  exact this
theorem getE_eq (l : List α) (n : Nat) : getE l n = l[n]? := by
  rw [getE, dropE_eq, ← List.head?_drop]
  cases l.drop n <;> rfl
theorem appE_eq (l r : List α) : appE l r = l ++ r := by
  induction l with
  | nil => rfl
  | cons x l ih => show x :: appE l r = _; rw [ih]; rfl
theorem mapE_eq {β : Type} (f : α → β) (l : List α) : mapE f l = l.map f := by
  induction l with
  | nil => rfl
  | cons x l ih => show f x :: mapE f l = _; rw [ih]; rfl
theorem flatE_eq (l : List (List α)) : flatE l = l.flatten := by
  induction l with
  | nil => rfl
  | cons x l ih => show appE x (flatE l) = _; rw [ih, appE_eq]; rfl
theorem takeE_eq (n : Nat) : ∀ l : List α, takeE n l = l.take n := by
  induction n with
  | zero => intro l; rfl
  | succ n ih => intro l; cases l with | nil => rfl | cons x l => show x :: takeE n l = _; rw [ih]; rfl
theorem setE_eq (l : List α) : ∀ n y, setE l n y = l.set n y := by
  induction l with
  | nil => intro n y; rfl
  | cons x l ih => intro n y; cases n with | zero => rfl | succ n => show x :: setE l n y = _; rw [ih]; rfl
theorem hasN_iff (n : Nat) : ∀ l : List α, hasN n l = true ↔ n ≤ l.length := by
  induction n with
  | zero => intro l; show true = true ↔ _; simp
  | succ n ih => intro l; cases l with | nil => simp [hasN] | cons x l => rw [show hasN (n + 1) (x :: l) = hasN n l from rfl, ih]; simp
theorem lenG_eq (l : List α) : ∀ a, lenG l a = a + l.length := by
  induction l with
  | nil => intro a; rfl
  | cons x l ih =>
    intro a
    cases a with
    | zero => rw [show lenG (x :: l) 0 = lenG l 1 from rfl, ih]; simp; omega
    | succ m => rw [show lenG (x :: l) (m + 1) = lenG l (m + 2) from rfl, ih]; simp; omega
theorem lenF_eq (l : List α) : lenF l = l.length := by rw [lenF, lenG_eq]; omega
theorem allE_eq (p : α → Bool) (l : List α) : allE p l = l.all p := by
  induction l with
  | nil => rfl
  | cons x l ih =>
    rw [List.all_cons, ← ih]
    show Bool.casesOn (motive := fun _ => Bool) (p x) false (allE p l) = _
    cases p x <;> rfl
theorem getE_some {l : List α} {n : Nat} {x : α} (h : getE l n = some x) : n < l.length ∧ l[n]? = some x := by
  rw [getE_eq] at h; exact ⟨(List.getElem?_eq_some_iff.1 h).1, h⟩
end

/-! ### Numbers -/
def inIb (n : Int) : Bool := match n with | .ofNat m => Nat.ble m 9223372036854775807 | .negSucc m => Nat.ble m 9223372036854775807
def ltI : Int → Int → Bool
  | .ofNat a, .ofNat b => Nat.ble (Nat.succ a) b
  | .negSucc _, .ofNat _ => true
  | .ofNat _, .negSucc _ => false
  | .negSucc a, .negSucc b => Nat.ble (Nat.succ b) a
def eqI : Int → Int → Bool
  | .ofNat a, .ofNat b => Nat.beq a b
  | .negSucc a, .negSucc b => Nat.beq a b
  | _, _ => false
def kN : IntKind → Nat | .i8 => 0 | .i16 => 1 | .i32 => 2 | .i64 => 3 | .u8 => 4 | .u16 => 5 | .u32 => 6 | .u64 => 7
def kEq (a b : IntKind) : Bool := Nat.beq (kN a) (kN b)
def topU : IntKind → Nat | .i8 => 127 | .i16 => 32767 | .i32 => 2147483647 | .i64 => 9223372036854775807 | .u8 => 255 | .u16 => 65535 | .u32 => 4294967295 | .u64 => 18446744073709551615
def sgn : IntKind → Bool | .i8 | .i16 | .i32 | .i64 => true | _ => false
/-- It needs no wrapping. -/
def fitsK (k : IntKind) (n : Int) : Bool := match n with | .ofNat m => Nat.ble m (topU k) | .negSucc m => match sgn k with | true => Nat.ble m (topU k) | false => false
def wrapE (k : IntKind) (n : Int) : Int := match fitsK k n with | true => n | false => k.wrap n
section
omit [Laid]
theorem ltI_eq (a b : Int) : ltI a b = decide (a < b) := by
  cases a <;> cases b <;> simp only [ltI]
  · rw [Bool.eq_iff_iff]; simp [Nat.ble_eq]; omega
  · simp; omega
  · simp; omega
  · rw [Bool.eq_iff_iff]; simp [Nat.ble_eq]; omega
theorem eqI_eq (a b : Int) : eqI a b = decide (a = b) := by
  cases a <;> cases b <;> simp only [eqI]
  · rw [Bool.eq_iff_iff]; simp only [Nat.beq_eq, decide_eq_true_eq, Int.ofNat_eq_natCast]; omega
  · simp
  · simp
  · rw [Bool.eq_iff_iff]; simp [Nat.beq_eq]
theorem inIb_iff {n : Int} (h : inIb n = true) : inI n := by
  unfold inI
  cases n with
  | ofNat m => simp only [inIb, Nat.ble_eq] at h; simp only [Int.ofNat_eq_natCast]; omega
  | negSucc m => simp only [inIb, Nat.ble_eq] at h; omega
theorem kEq_eq {a b : IntKind} (h : kEq a b = true) : a = b := by
  revert h; cases a <;> cases b <;> first | (intro _; rfl) | (intro h; cases h)
theorem fitsK_wrap {k : IntKind} {n : Int} (h : fitsK k n = true) : k.wrap n = n := by
  cases k <;> cases n <;> simp only [fitsK, topU, sgn, Nat.ble_eq, Bool.false_eq_true] at h <;> simp only [IntKind.wrap, IntKind.bits, IntKind.signed] <;> simp <;> omega
theorem wrapE_eq (k : IntKind) (n : Int) : wrapE k n = k.wrap n := by
  unfold wrapE
  split
  · rename_i h; exact (fitsK_wrap h).symm
  · rfl
end

def eWr (k : IntKind) (n : Int) : Option AV :=
  match k with
  | .i64 => (match inIb n with | true => some (.v (.int .i64 n)) | false => none)
  | k => some (.v (.int k (wrapE k n)))
def isZI : Int → Bool | .ofNat 0 => true | _ => false
def eInt (op : BinOp) (k : IntKind) (a b : Int) : Option AV :=
  match op with
  | .add => eWr k (a + b)
  | .sub => eWr k (a - b)
  | .mul => eWr k (a * b)
  | .quo => (match isZI b with | false => some (.v (.int k (wrapE k (a.tdiv b)))) | true => none)
  | .rem => (match isZI b with | false => some (.v (.int k (a.tmod b))) | true => none)
  | .and => some (.v (.int k (ibits .and k a b)))
  | .or => some (.v (.int k (ibits .or k a b)))
  | .xor => some (.v (.int k (ibits .xor k a b)))
  | .andNot => some (.v (.int k (ibits .andNot k a b)))
  | .eql => some (bool (eqI a b))
  | .neq => some (bool (!eqI a b))
  | .lss => some (bool (ltI a b))
  | .leq => some (bool (!ltI b a))
  | .gtr => some (bool (ltI b a))
  | .geq => some (bool (!ltI a b))
  | _ => none
noncomputable def eqL (a : List UInt8) : List UInt8 → Bool := List.rec (motive := fun _ => List UInt8 → Bool) (fun b => List.rec (motive := fun _ => Bool) true (fun _ _ _ => false) b) (fun x _ ih b => List.casesOn (motive := fun _ => Bool) b false (fun y t => Bool.casesOn (motive := fun _ => Bool) (Nat.beq x.toNat y.toNat) false (ih t))) a
noncomputable def ltL (a : List UInt8) : List UInt8 → Bool := List.rec (motive := fun _ => List UInt8 → Bool) (fun b => List.rec (motive := fun _ => Bool) false (fun _ _ _ => true) b) (fun x _ ih b => List.casesOn (motive := fun _ => Bool) b false (fun y t => Bool.casesOn (motive := fun _ => Bool) (Nat.beq x.toNat y.toNat) (Nat.ble (Nat.succ x.toNat) y.toNat) (ih t))) a
section
omit [Laid]
theorem u8_beq (x y : UInt8) : Nat.beq x.toNat y.toNat = decide (x = y) := by
  rw [Bool.eq_iff_iff]; simp [Nat.beq_eq, UInt8.toNat_inj]
theorem eqL_eq (a : List UInt8) : ∀ b, eqL a b = decide (a = b) := by
  induction a with
  | nil => intro b; cases b <;> simp [eqL]
  | cons x a ih =>
    intro b
    cases b with
    | nil => simp [eqL]
    | cons y b =>
      show Bool.casesOn (motive := fun _ => Bool) (Nat.beq x.toNat y.toNat) false (eqL a b) = _
      rw [u8_beq, ih]
      by_cases h : x = y <;> simp [h]
end
def bytesOp (op : BinOp) : Bool := match op with | .add | .eql | .neq => true | _ => false
noncomputable def eStr (op : BinOp) (a b : List UInt8) : Option AV :=
  match op with
  | .add => (match Nat.ble (lenF a + lenF b) maxLen with | true => some (.str (appE a b)) | false => none)
  | .eql => some (bool (eqL a b))
  | .neq => some (bool (!eqL a b))
  | .lss => some (bool (Op.bytesLess a b))
  | .leq => some (bool (Op.bytesLess a b || eqL a b))
  | .gtr => some (bool (!(Op.bytesLess a b || eqL a b)))
  | .geq => some (bool (!Op.bytesLess a b))
  | _ => none
def eShift (op : BinOp) (k : IntKind) (a b : Int) : Option AV :=
  match ltI b 0 with
  | true => none
  | false => match op with
    | .shl => some (.v (.int k (wrapE k (a * 2 ^ (min b.toNat k.bits)))))
    | .shr => some (.v (.int k (a.fdiv (2 ^ (min b.toNat k.bits)))))
    | _ => none
noncomputable def eBin (op : BinOp) (x y : AV) : Option AV :=
  match x with
  | .v (.int k a) => (match y with
    | .v (.int k' b) => (match isShift op with
      | true => eShift op k a b
      | false => (match kEq k k' with | true => eInt op k a b | false => none))
    | _ => none)
  | .str a => (match y with | .str b => eStr op a b | _ => none)
  | _ => none
def eBinB (op : BinOp) (x y : AV) : Option AV :=
  match x, y with
  | .v (.bool a), .v (.bool b) => (match op with | .eql => some (bool (a == b)) | .neq => some (bool (!(a == b))) | _ => none)
  | _, _ => none
section
omit [Laid]
variable {K : AV → Prop} {v : AV}
theorem eWr_ok {k : IntKind} {n : Int} (h : eWr k n = some v) (hk : K v) : iWr k n K := by
  unfold eWr at h
  unfold iWr
  split at h
  · split at h
    · rename_i e; cases h; exact ⟨inIb_iff e, hk⟩
    · cases h
  · rename_i hn
    cases h
    split
    · exact absurd rfl hn
    · rw [wrapE_eq] at hk; exact hk
theorem isZI_ne {b : Int} (h : isZI b = false) : b ≠ 0 := by rintro rfl; cases h
theorem eInt_ok {op : BinOp} {k : IntKind} {a b : Int} (h : eInt op k a b = some v) (hk : K v) : iInt op k a b K := by
  cases op <;> simp only [eInt] at h <;> simp only [iInt]
  case add => exact eWr_ok h hk
  case sub => exact eWr_ok h hk
  case mul => exact eWr_ok h hk
  case quo => split at h <;> cases h; rename_i e; rw [wrapE_eq] at hk; exact ⟨isZI_ne e, hk⟩
  case rem => split at h <;> cases h; rename_i e; exact ⟨isZI_ne e, hk⟩
  case leq => cases h; rw [ltI_eq] at hk; rw [show decide (a ≤ b) = !decide (b < a) by rw [Bool.eq_iff_iff]; simp]; exact hk
  case geq => cases h; rw [ltI_eq] at hk; rw [show decide (b ≤ a) = !decide (a < b) by rw [Bool.eq_iff_iff]; simp]; exact hk
  all_goals first | (cases h; done) | (cases h; simpa [eqI_eq, ltI_eq] using hk)
theorem eStr_ok {op : BinOp} {a b : List UInt8} (h : eStr op a b = some v) (hk : K v) : iStr op a b K := by
  cases op <;> simp only [eStr] at h <;> simp only [iStr]
  case add => split at h <;> cases h; rename_i e; rw [Nat.ble_eq, lenF_eq, lenF_eq] at e; rw [appE_eq] at hk; exact ⟨e, hk⟩
  all_goals first | (cases h; done) | (cases h; simpa [eqL_eq] using hk)
theorem eShift_ok {op : BinOp} {k : IntKind} {a b : Int} (h : eShift op k a b = some v) (hk : K v) : iShift op k a b K := by
  unfold eShift at h
  unfold iShift
  split at h
  · cases h
  · rename_i e
    rw [ltI_eq] at e
    refine ⟨by simpa using e, ?_⟩
    cases op <;> simp only at h ⊢
    case shl => cases h; rw [wrapE_eq] at hk; exact hk
    case shr => cases h; exact hk
    all_goals cases h
theorem eBin_ok {op : BinOp} {x y : AV} (h : eBin op x y = some v) (hk : K v) : iBin op x y K := by
  unfold eBin at h
  unfold iBin
  split at h
  · split at h
    · split at h
      · rename_i e; simp only [e, if_true]; exact eShift_ok h hk
      · rename_i e
        split at h
        · rename_i e2; simp only [e, Bool.false_eq_true, if_false]; exact ⟨kEq_eq e2, eInt_ok h hk⟩
        · cases h
    · cases h
  · split at h
    · exact eStr_ok h hk
    · cases h
  · cases h
theorem eBinB_ok {op : BinOp} {x y : AV} (h : eBinB op x y = some v) (hk : K v) : iBinB op x y K := by
  unfold eBinB at h
  unfold iBinB
  split at h
  · cases op <;> simp only at h ⊢ <;> first | (cases h; done) | (cases h; exact hk)
  · cases h
end

/-! ### Parts of values -/
def eEqA (neg : Bool) (ks : List Nat) (x y : AV) : Option AV :=
  match x, y with
  | .agg xs, .agg ys => (match eqK ks xs ys with | some b => some (bool (match neg with | true => !b | false => b)) | none => none)
  | _, _ => none
def ePick (c a b : AV) : Option AV := match c with | .v (.bool true) => some a | .v (.bool false) => some b | _ => none
def eNot (x : AV) : Option AV := match x with | .v (.bool b) => some (bool (!b)) | _ => none
def eNeg (x : AV) : Option AV := match x with | .v (.int k n) => eWr k (0 - n) | _ => none
def eConv (k : IntKind) (x : AV) : Option AV := match x with | .v (.int _ n) => some (.v (.int k (wrapE k n))) | _ => none
def eStrS (x : AV) : Option AV := match x with | .str l => some (.str l) | _ => none
noncomputable def eExtr (i : Nat) (x : AV) : Option AV := match x with | .tup cs => getE cs i | _ => none
noncomputable def ldE (g : Bool) (sz : Nat) (cs : List AV) : Option AV :=
  match g with
  | true => (match hasN sz cs with | true => some (.agg (takeE sz cs)) | false => none)
  | false => (match cs with | c :: _ => some c | [] => none)
noncomputable def eFld (g : Bool) (off n : Nat) (x : AV) : Option AV := match x with | .agg cs => ldE g n (dropE off cs) | _ => none
noncomputable def eIdxS (x i : AV) : Option AV :=
  match x, i with
  | .str l, .v (.int _ (.ofNat n)) => (match getE l n with | some b => some (.v (.int .u8 (Int.ofNat b.toNat))) | none => none)
  | _, _ => none
noncomputable def eIdxA (g : Bool) (sz len : Nat) (x i : AV) : Option AV :=
  match x, i with
  | .agg cs, .v (.int _ (.ofNat n)) => (match Nat.ble (Nat.succ n) len with | true => ldE g sz (dropE (n * sz) cs) | false => none)
  | _, _ => none
/-- A bound that is told. -/
def eLo : Option AV → Option Nat
  | none => some 0
  | some (.v (.int _ (.ofNat n))) => some n
  | _ => none
noncomputable def eSlS (x : AV) (lo hi : Option AV) : Option AV :=
  match x with
  | .str l => (match eLo lo with
    | some a => (match hi with
      | none => (match hasN a l with | true => some (.str (dropE a l)) | false => none)
      | some (.v (.int _ (.ofNat b))) => (match Nat.ble a b, hasN b l with | true, true => some (.str (dropE a (takeE b l))) | _, _ => none)
      | _ => none)
    | none => none)
  | _ => none
noncomputable def eSl (n : Nat) (x : AV) (lo hi : Option AV) : Option AV :=
  match eLo lo with
  | none => none
  | some a => match unsb x with
    | .sl sz rows => (match Nat.beq sz n with
      | false => none
      | true => (match hi with
        | none => (match hasN a rows with | true => some (.sl sz (dropE a rows)) | false => none)
        | some (.v (.int _ (.ofNat b))) => (match Nat.ble a b, hasN b rows with | true, true => some (.sl sz (dropE a (takeE b rows))) | _, _ => none)
        | _ => none))
    | .own id off len sz => (match Nat.beq sz n with
      | false => none
      | true => (match hi with
        | none => (match Nat.ble a len with | true => some (.own id (off + a * sz) (len - a) sz) | false => none)
        | some (.v (.int _ (.ofNat b))) => (match Nat.ble a b, Nat.ble b len with | true, true => some (.own id (off + a * sz) (b - a) sz) | _, _ => none)
        | _ => none))
    | .emp => (match a, hi with
      | 0, none => some .emp
      | 0, some (.v (.int _ (.ofNat 0))) => some .emp
      | _, _ => none)
    | _ => none
noncomputable def eSlA (n sz : Nat) (x : AV) (lo hi : Option AV) (h : Heap) : Option AV :=
  match eLo lo, (match hi with | none => some n | some (.v (.int _ (.ofNat b))) => some b | _ => none), x with
  | some a, some b, .op id off => (match getE h id with
    | some (.blk blk) => (match hasN (off + n * sz) blk.cells, Nat.ble a b, Nat.ble b n, Nat.ble n maxLen with
      | true, true, true, true => some (.own id (off + a * sz) (b - a) sz)
      | _, _, _, _ => none)
    | _ => none)
  | some 0, some b, .ip cs => (match hasN (n * sz) cs, Nat.ble 1 n, Nat.beq b n, Nat.ble n maxLen with
    | true, true, true, true => some (.sl sz (chunks sz n cs))
    | _, _, _, _ => none)
  | _, _, _ => none
noncomputable def eIdxP (m : Nat) (x i : AV) : Option AV :=
  match unsb x, i with
  | .sl sz rows, .v (.int _ (.ofNat n)) => (match Nat.beq sz m with | true => (match getE rows n with | some r => some (.ip r) | none => none) | false => none)
  | .own id off len sz, .v (.int _ (.ofNat n)) => (match Nat.beq sz m, Nat.ble (Nat.succ n) len with | true, true => some (.op id (off + n * sz)) | _, _ => none)
  | _, _ => none
noncomputable def eIdxQ (len sz : Nat) (x i : AV) : Option AV :=
  match x, i with
  | .op id off, .v (.int _ (.ofNat n)) => (match Nat.ble (Nat.succ n) len with | true => some (.op id (off + n * sz)) | false => none)
  | .ip cs, .v (.int _ (.ofNat n)) => (match Nat.ble (Nat.succ n) len with | true => some (.ip (dropE (n * sz) cs)) | false => none)
  | _, _ => none
noncomputable def eFad (off : Nat) (x : AV) : Option AV := match x with | .ip cs => some (.ip (dropE off cs)) | .op id o => some (.op id (o + off)) | _ => none
def eAsI (has : TypeId → Bool) (x : AV) : Option AV := match x with | .ifc t v => (match has t with | true => some (.tup [.ifc t v, bool true]) | false => none) | _ => none
def eNil (x : AV) : Option AV := match x with | .ip cs => some (.ip cs) | .op a b => some (.op a b) | .fn (.func f) a b => some (.fn (.func f) a b) | _ => none
def eNilF (row : String → TypeId → Bool) (x : AV) : Option AV := match x with | .fn (.method name) (.ifc t v :: r) ys => (match row name t with | true => some (.fn (.method name) (.ifc t v :: r) ys) | false => none) | x => eNil x
noncomputable def eLoad (g : Bool) (sz : Nat) (x : AV) (h : Heap) : Option AV :=
  match x with
  | .ip cs => ldE g sz cs
  | .op id o => (match getE h id with | some (.blk b) => ldE g sz (dropE o b.cells) | _ => none)
  | _ => none
section
omit [Laid]
variable {K : AV → Prop} {v : AV}
theorem eEqA_ok {neg : Bool} {ks : List Nat} {x y : AV} (h : eEqA neg ks x y = some v) (hk : K v) : iEqA neg ks x y K := by
  unfold eEqA at h; unfold iEqA
  split at h
  · split at h
    · rename_i b e; cases h; simp only [e]; cases neg <;> exact hk
    · cases h
  · cases h
theorem ePick_ok {c a b : AV} (h : ePick c a b = some v) (hk : K v) : iPick c a b K := by
  unfold ePick at h
  split at h
  · cases h; exact ⟨true, rfl, fun _ => hk, fun q => by cases q⟩
  · cases h; exact ⟨false, rfl, (fun q => by cases q), fun _ => hk⟩
  · cases h
theorem eNot_ok {x : AV} (h : eNot x = some v) (hk : K v) : iNot x K := by
  unfold eNot at h
  split at h
  · cases h; exact ⟨_, rfl, hk⟩
  · cases h
theorem eNeg_ok {x : AV} (h : eNeg x = some v) (hk : K v) : iNeg x K := by
  unfold eNeg at h
  split at h
  · exact ⟨_, _, rfl, eWr_ok h hk⟩
  · cases h
theorem eConv_ok {k : IntKind} {x : AV} (h : eConv k x = some v) (hk : K v) : iConv k x K := by
  unfold eConv at h
  split at h
  · cases h; rw [wrapE_eq] at hk; exact ⟨_, _, rfl, hk⟩
  · cases h
theorem eStrS_ok {x : AV} (h : eStrS x = some v) (hk : K v) : iStrS x K := by
  unfold eStrS at h
  split at h
  · cases h; exact hk
  · cases h
theorem eExtr_ok {i : Nat} {x : AV} (h : eExtr i x = some v) (hk : K v) : iExtr i x K := by
  unfold eExtr at h; unfold iExtr
  split at h
  · rw [getE_eq] at h; simp only [h]; exact hk
  · cases h
theorem ldE_ok {g : Bool} {sz : Nat} {cs : List AV} (h : ldE g sz cs = some v) (hk : K v) : ldP g sz cs K := by
  unfold ldE at h; unfold ldP
  cases g with
  | true =>
    simp only at h ⊢
    split at h
    · rename_i e; cases h; rw [takeE_eq] at hk; exact ⟨(hasN_iff _ _).1 e, hk⟩
    · cases h
  | false =>
    simp only at h ⊢
    split at h
    · cases h; exact hk
    · cases h
theorem eFld_ok {g : Bool} {off n : Nat} {x : AV} (h : eFld g off n x = some v) (hk : K v) : iFld g off n x K := by
  unfold eFld at h; unfold iFld
  split at h
  · rw [dropE_eq] at h; exact ldE_ok h hk
  · cases h
theorem eIdxS_ok {x i : AV} (h : eIdxS x i = some v) (hk : K v) : iIdxS x i K := by
  unfold eIdxS at h; unfold iIdxS
  split at h
  · split at h
    · rename_i b e
      cases h
      obtain ⟨e1, e2⟩ := getE_some e
      refine ⟨⟨Int.natCast_nonneg _, by simp only [Int.ofNat_eq_natCast]; omega⟩, ?_⟩
      simp only [Int.ofNat_eq_natCast, Int.toNat_natCast, List.getD_eq_getElem?_getD, e2, Option.getD_some]
      exact hk
    · cases h
  · cases h
theorem eIdxA_ok {g : Bool} {sz len : Nat} {x i : AV} (h : eIdxA g sz len x i = some v) (hk : K v) : iIdxA g sz len x i K := by
  unfold eIdxA at h; unfold iIdxA
  split at h
  · split at h
    · rename_i e
      rw [Nat.ble_eq] at e
      rw [dropE_eq] at h
      exact ⟨⟨Int.natCast_nonneg _, by simp only [Int.ofNat_eq_natCast]; omega⟩, ldE_ok h hk⟩
    · cases h
  · cases h
theorem eLo_some {lo : Option AV} {a : Nat} (h : eLo lo = some a) : optI lo 0 = some (a : Int) := by
  unfold eLo at h
  split at h
  · cases h; rfl
  · cases h; rfl
  · cases h
theorem eSlS_ok {x : AV} {lo hi : Option AV} (h : eSlS x lo hi = some v) (hk : K v) : iSlS x lo hi K := by
  unfold eSlS at h; unfold iSlS
  split at h
  · rename_i l
    split at h
    · rename_i a ea
      simp only [eLo_some ea]
      split at h
      · split at h
        · rename_i e
          cases h
          have := (hasN_iff _ _).1 e
          rw [dropE_eq] at hk
          simp only [optI]
          exact ⟨⟨by omega, by omega, by omega⟩, by simpa using hk⟩
        · cases h
      · rename_i b
        split at h
        · rename_i e1 e2
          cases h
          have := (hasN_iff _ _).1 e2
          rw [Nat.ble_eq] at e1
          rw [dropE_eq, takeE_eq] at hk
          simp only [optI, Int.ofNat_eq_natCast]
          exact ⟨⟨by omega, by omega, by omega⟩, by simpa using hk⟩
        · cases h
      · cases h
    · cases h
  · cases h
theorem eSl_ok {n : Nat} {x : AV} {lo hi : Option AV} (h : eSl n x lo hi = some v) (hk : K v) : iSl n x lo hi K := by
  unfold eSl at h; unfold iSl
  split at h
  · cases h
  · rename_i a ea
    simp only [eLo_some ea]
    generalize unsb x = y at h ⊢
    split at h
    · split at h
      · cases h
      · rename_i e0
        have e0 := Nat.eq_of_beq_eq_true e0
        split at h
        · split at h
          · rename_i e
            cases h
            have := (hasN_iff _ _).1 e
            rw [dropE_eq] at hk
            simp only [optI]
            exact ⟨e0, ⟨by omega, by omega, by omega⟩, by simpa using hk⟩
          · cases h
        · split at h
          · rename_i e1 e2
            cases h
            have := (hasN_iff _ _).1 e2
            rw [Nat.ble_eq] at e1
            rw [dropE_eq, takeE_eq] at hk
            simp only [optI, Int.ofNat_eq_natCast]
            exact ⟨e0, ⟨by omega, by omega, by omega⟩, by simpa using hk⟩
          · cases h
        · cases h
    · split at h
      · cases h
      · rename_i e0
        have e0 := Nat.eq_of_beq_eq_true e0
        split at h
        · split at h
          · rename_i e
            cases h
            rw [Nat.ble_eq] at e
            simp only [optI]
            refine ⟨e0, ⟨by omega, by omega, by omega⟩, ?_⟩
            rename_i id off len sz _ _ _ _
            rw [Int.toNat_natCast, show ((len : Int) - a).toNat = len - a by omega]; exact hk
          · cases h
        · rename_i b
          split at h
          · rename_i e1 e2
            cases h
            rw [Nat.ble_eq] at e1 e2
            simp only [optI, Int.ofNat_eq_natCast]
            refine ⟨e0, ⟨by omega, by omega, by omega⟩, ?_⟩
            rw [Int.toNat_natCast, show ((b : Int) - a).toNat = b - a by omega]; exact hk
          · cases h
        · cases h
    · split at h
      · cases h; exact ⟨⟨rfl, rfl⟩, hk⟩
      · cases h; exact ⟨⟨rfl, rfl⟩, hk⟩
      · cases h
    · cases h
theorem eSlA_ok {n sz : Nat} {x : AV} {lo hi : Option AV} {hp : Heap} (h : eSlA n sz x lo hi hp = some v) (hk : K v) : iSlA n sz x lo hi hp K := by
  unfold eSlA at h; unfold iSlA
  split at h
  · rename_i a b id off ea eb
    have hb : optI hi n = some (b : Int) := by
      split at eb
      · cases eb; rfl
      · cases eb; rfl
      · cases eb
    simp only [eLo_some ea, hb]
    split at h
    · rename_i blk e
      rw [getE_eq] at e
      simp only [e]
      split at h
      · rename_i e1 e2 e3 e4
        cases h
        rw [Nat.ble_eq] at e2 e3 e4
        refine ⟨⟨(hasN_iff _ _).1 e1, by omega, by omega, by omega, e4⟩, ?_⟩
        rw [Int.toNat_natCast, show ((b : Int) - a).toNat = b - a by omega]; exact hk
      · cases h
    · cases h
  · rename_i b cs ea eb
    have hb : optI hi n = some (b : Int) := by
      split at eb
      · cases eb; rfl
      · cases eb; rfl
      · cases eb
    simp only [eLo_some ea, hb]
    split at h
    · rename_i e1 e2 e3 e4
      cases h
      rw [Nat.ble_eq] at e2 e4
      have e3 := Nat.eq_of_beq_eq_true e3
      exact ⟨⟨(hasN_iff _ _).1 e1, by omega, e4, by omega, by omega⟩, hk⟩
    · cases h
  · cases h
theorem eIdxP_ok {m : Nat} {x i : AV} (h : eIdxP m x i = some v) (hk : K v) : iIdxP m x i K := by
  unfold eIdxP at h; unfold iIdxP
  split at h
  · rename_i e1
    simp only [e1]
    split at h
    · rename_i e0
      split at h
      · rename_i r e
        cases h
        obtain ⟨h1, h2⟩ := getE_some e
        refine ⟨Nat.eq_of_beq_eq_true e0, ⟨Int.natCast_nonneg _, by simp only [Int.ofNat_eq_natCast]; omega⟩, ?_⟩
        simp only [Int.ofNat_eq_natCast, Int.toNat_natCast, List.getD_eq_getElem?_getD, h2, Option.getD_some]; exact hk
      · cases h
    · cases h
  · rename_i e1
    simp only [e1]
    split at h
    · rename_i e2 e3
      cases h
      rw [Nat.ble_eq] at e3
      exact ⟨Nat.eq_of_beq_eq_true e2, ⟨Int.natCast_nonneg _, by simp only [Int.ofNat_eq_natCast]; omega⟩, hk⟩
    · cases h
  · cases h
theorem eIdxQ_ok {len sz : Nat} {x i : AV} (h : eIdxQ len sz x i = some v) (hk : K v) : iIdxQ len sz x i K := by
  unfold eIdxQ at h; unfold iIdxQ
  split at h
  · split at h
    · rename_i e; cases h; rw [Nat.ble_eq] at e; exact ⟨⟨Int.natCast_nonneg _, by simp only [Int.ofNat_eq_natCast]; omega⟩, hk⟩
    · cases h
  · split at h
    · rename_i e; cases h; rw [Nat.ble_eq] at e; rw [dropE_eq] at hk; exact ⟨⟨Int.natCast_nonneg _, by simp only [Int.ofNat_eq_natCast]; omega⟩, hk⟩
    · cases h
  · cases h
theorem eFad_ok {off : Nat} {x : AV} (h : eFad off x = some v) (hk : K v) : iFad off x K := by
  unfold eFad at h; unfold iFad
  split at h
  · cases h; rw [dropE_eq] at hk; exact hk
  · cases h; exact hk
  · cases h
theorem eAsI_ok {has : TypeId → Bool} {x : AV} (h : eAsI has x = some v) (hk : K v) : iAsI has x K := by
  unfold eAsI at h
  unfold iAsI
  split at h
  · split at h
    · rename_i hh; cases h; exact ⟨hh, hk⟩
    · cases h
  · cases h
theorem eNil_ok {x : AV} (h : eNil x = some v) (hk : K v) : iNil x K := by
  unfold eNil at h; unfold iNil
  split at h <;> first | (cases h; exact hk) | cases h
theorem eNilF_ok {P : Program} {x : AV} (h : eNilF (fun n t => (mrow P n t).isSome) x = some v) (hk : K v) : iNilF P x K := by
  unfold eNilF at h
  unfold iNilF
  split at h
  · split at h
    · rename_i hm; cases h; exact ⟨hm, hk⟩
    · cases h
  · rename_i hne
    split
    · exact absurd rfl (hne _ _ _ _ _)
    · exact eNil_ok h hk
theorem eLoad_ok {g : Bool} {sz : Nat} {x : AV} {hp : Heap} (h : eLoad g sz x hp = some v) (hk : K v) : iLoad g sz x hp K := by
  unfold eLoad at h; unfold iLoad
  split at h
  · exact ldE_ok h hk
  · rw [getE_eq] at h
    split at h
    · rename_i e; simp only [e]; rw [dropE_eq] at h; exact ldE_ok h hk
    · cases h
  · cases h
end
end Go.Aw
end

section
namespace Go.Aw
open Go Go.RowKit
variable [Laid]

noncomputable def overE (cs : List AV) : List AV → List AV := List.rec (motive := fun _ => List AV → List AV) (fun l => l) (fun c _ ih l => List.casesOn (motive := fun _ => List AV) l [] (fun _ t => c :: ih t)) cs
noncomputable def splE (o : Nat) (cs : List AV) : List AV → List AV := Nat.rec (motive := fun _ => List AV → List AV) (fun l => overE cs l) (fun _ ih l => List.casesOn (motive := fun _ => List AV) l [] (fun x t => x :: ih t)) o
omit [Laid] in
theorem splE_eq : ∀ (cs : List AV) (o : Nat) (l : List AV), splE o cs l = setAll l o cs := by
  have nil : ∀ o (l : List AV), splE o [] l = l := by
    intro o
    induction o with
    | zero => intro l; rfl
    | succ o ih => intro l; cases l with | nil => rfl | cons x l => show x :: splE o [] l = _; rw [ih]
  have step : ∀ (c : AV) (cs : List AV) (o : Nat) (l : List AV), splE o (c :: cs) l = splE (o + 1) cs (l.set o c) := by
    intro c cs o
    induction o with
    | zero => intro l; cases l <;> rfl
    | succ o ih => intro l; cases l with | nil => rfl | cons x l => show x :: splE o (c :: cs) l = _; rw [ih]; rfl
  intro cs
  induction cs with
  | nil => intro o l; rw [nil]; rfl
  | cons c cs ih => intro o l; rw [step, ih]; rfl
noncomputable def eStore (sz : Nat) (x v : AV) (h : Heap) : Option Heap :=
  match x with
  | .op id o => (match getE h id with
    | some (.blk b) => (match b.wr, hasN (o + sz) b.cells, Nat.beq (lenF (vcells v)) sz, allE scal (vcells v) with
      | true, true, true, true => some (setE h id (.blk { b with cells := splE o (vcells v) b.cells }))
      | _, _, _, _ => none)
    | _ => none)
  | _ => none
noncomputable def eNew (t : TypeId) (v : AV) (h : Heap) : Option (AV × Heap) :=
  match allE scal (vcells v) with
  | true => some (.op (lenF h) 0, appE h [.blk ⟨t, vcells v, true⟩])
  | false => none
noncomputable def bfillE : List AV → List (Nat × Nat × AV) → Option (List AV)
  | cells, [] => some cells
  | cells, (o, n, x) :: r => (match Nat.beq (lenF (vcells x)) n, hasN (o + n) cells, allE scal (vcells x) with
    | true, true, true => bfillE (splE o (vcells x) cells) r
    | _, _, _ => none)
noncomputable def eBuild (zero : AV) (ps : List (Nat × Nat × AV)) : Option AV := match bfillE (vcells zero) ps with | some cs => some (.agg cs) | none => none
noncomputable def eMkSl (t len sz : Nat) (zero : AV) (ps : List (Nat × Nat × AV)) (h : Heap) : Option (AV × Heap) :=
  match bfillE (rep0 len (vcells zero)) ps with
  | some cs => (match len with
    | 0 => some (.emp, h)
    | len + 1 => some (.own (lenF h) 0 (len + 1) sz, appE h [.blk ⟨t, cs, true⟩]))
  | none => none
noncomputable def eMkSlP (len sz : Nat) (zero : AV) (ps : List (Nat × Nat × AV)) : Option AV :=
  match bfillE (rep0 len (vcells zero)) ps with
  | some cs => some (.sl sz (chunks sz len cs))
  | none => none
noncomputable def eMake (e sz bytes : Nat) (zero len cap : AV) (h : Heap) : Option (AV × Heap) :=
  match len, cap with
  | .v (.int _ (.ofNat l)), .v (.int _ (.ofNat c)) => (match Nat.ble l c, Nat.ble (bytes * c) 281474976710656, Nat.ble c 9223372036854775807 with
    | true, true, true => some (.own (lenF h) 0 l sz, appE h [.blk ⟨e, rep0 c (vcells zero), true⟩])
    | _, _, _ => none)
  | _, _ => none
noncomputable def eToBytes (e : Nat) (x : AV) (h : Heap) : Option (AV × Heap) :=
  match x with
  | .str l => some (.own (lenF h) 0 (lenF l) 1, appE h [.blk ⟨e, mapE byteA l, true⟩])
  | _ => none
noncomputable def srcE (h : Heap) (sz : Nat) (x : AV) : Option (List (List AV)) :=
  match unsb x with
  | .emp => some []
  | .sl sz' rows => (match Nat.beq sz' sz with | true => some rows | false => none)
  | .own id off len sz' => (match getE h id with
    | some (.blk b) => (match Nat.beq sz' sz, hasN (off + len * sz) b.cells with | true, true => some (chunks sz len (dropE off b.cells)) | _, _ => none)
    | _ => none)
  | _ => none
noncomputable def eOfBytes (x : AV) (h : Heap) : Option AV :=
  match srcE h 1 x with
  | some p => (match unB (flatE p) with | some l => some (.str l) | none => none)
  | none => none
noncomputable def eLenS (x : AV) : Option AV := match x with | .str l => some (int (Int.ofNat (lenF l))) | _ => none
noncomputable def eLen (x : AV) : Option AV :=
  match unsb x with
  | .sl _ rows => some (int (Int.ofNat (lenF rows)))
  | .own _ _ len _ => some (int (Int.ofNat len))
  | .emp => some (int (Int.ofNat 0))
  | _ => none
def eMin (x y : AV) : Option AV :=
  match x, y with
  | .v (.int k a), .v (.int k' b) => (match kEq k k' with | true => some (.v (.int k (match ltI b a with | true => b | false => a))) | false => none)
  | _, _ => none
def eMax (x y : AV) : Option AV :=
  match x, y with
  | .v (.int k a), .v (.int k' b) => (match kEq k k' with | true => some (.v (.int k (match ltI a b with | true => b | false => a))) | false => none)
  | _, _ => none
noncomputable def rowE (sz : Nat) (r : List AV) : Bool := match Nat.beq (lenF r) sz, allE scal r with | true, true => true | _, _ => false
def roomE (bytes n : Nat) : Bool := match Nat.ble n maxLen, Nat.ble (n * bytes) 140737488355328 with | true, true => true | _, _ => false
/-- What a list holds ahead of a place: all of it at once, where it is that long. -/
noncomputable def takeX (n : Nat) (l : List AV) : List AV := match Nat.beq (lenF l) n with | true => l | false => takeE n l
omit [Laid] in
theorem takeX_eq (n : Nat) (l : List AV) : takeX n l = l.take n := by
  unfold takeX
  split
  · rename_i h
    have h := Nat.eq_of_beq_eq_true h
    rw [lenF_eq] at h
    rw [← h, List.take_length]
  · exact takeE_eq n l
noncomputable def eAppTo (own : Bool) (e sz bytes : Nat) (x : AV) (src : Option (List (List AV))) (h : Heap) : Option (AV × Heap) :=
  match src with
  | none => none
  | some rows => (match allE (rowE sz) rows with
    | false => none
    | true => (match nle x with
      | .emp => (match roomE bytes (lenF rows) with
        | false => none
        | true => (match own with
          | false => some (.sb (lenF h) sz rows, appE h [.tok e sz (lenF rows)])
          | true => (match rows with
            | [] => none
            | r :: rs => some (.own (lenF h) 0 (lenF (r :: rs)) sz, appE h [.blk ⟨e, flatE (r :: rs), true⟩]))))
      | .sb id sz' base => (match getE h id with
        | some (.tok e' sz'' k) => (match Nat.beq sz' sz, Nat.beq sz'' sz, Nat.beq e' e, Nat.beq k (lenF base), roomE bytes (k + lenF rows) with
          | true, true, true, true, true => some (.sb id sz (appE base rows), setE h id (.tok e sz (k + lenF rows)))
          | _, _, _, _, _ => none)
        | _ => none)
      | .own id off len sz' => (match getE h id with
        | some (.blk b) => (match Nat.beq off 0, Nat.beq sz' sz, b.wr, Nat.beq b.ty e, Nat.ble (len * sz) (lenF b.cells), Nat.ble 1 (len + lenF rows), roomE bytes (len + lenF rows) with
          | true, true, true, true, true, true, true => some (.own (lenF h) 0 (len + lenF rows) sz, appE (setE h id .dead) [.blk ⟨e, appE (takeX (len * sz) b.cells) (flatE rows), true⟩])
          | _, _, _, _, _, _, _ => none)
        | _ => none)
      | _ => none))

section
omit [Laid]
variable {K : AV → Prop} {KH : AV → Heap → Prop} {v : AV} {hp hp' : Heap}
theorem eStore_ok {sz : Nat} {x y : AV} {KS : Heap → Prop} (h : eStore sz x y hp = some hp') (hk : KS hp') : iStore sz x y hp KS := by
  unfold eStore at h; unfold iStore
  split at h
  · rw [getE_eq] at h
    split at h
    · rename_i b e
      simp only [e]
      split at h
      · rename_i e1 e2 e3 e4
        cases h
        have e3 := Nat.eq_of_beq_eq_true e3
        rw [lenF_eq] at e3
        rw [allE_eq] at e4
        rw [setE_eq, splE_eq] at hk
        exact ⟨⟨e1, by rw [e3]; exact (hasN_iff _ _).1 e2, e3, e4⟩, hk⟩
      · cases h
    · cases h
  · cases h
theorem eNew_ok {t : TypeId} {x : AV} (h : eNew t x hp = some (v, hp')) (hk : KH v hp') : iNew t x hp KH := by
  unfold eNew at h; unfold iNew
  split at h
  · rename_i e; cases h; rw [allE_eq] at e; rw [lenF_eq, appE_eq] at hk; exact ⟨e, hk⟩
  · cases h
theorem bfillE_eq : ∀ (ps : List (Nat × Nat × AV)) (cells cs : List AV), bfillE cells ps = some cs → bfill cells ps = some cs
  | [], _, _, h => h
  | (o, n, x) :: r, cells, cs, h => by
    rw [bfillE] at h
    rw [bfill]
    split at h
    · rename_i e1 e2 e3
      have e1 := Nat.eq_of_beq_eq_true e1
      rw [lenF_eq] at e1
      rw [allE_eq] at e3
      rw [splE_eq] at h
      rw [if_pos ⟨e1, (hasN_iff _ _).1 e2, e3⟩]
      exact bfillE_eq r _ _ h
    · cases h
theorem eBuild_ok {z : AV} {ps : List (Nat × Nat × AV)} (h : eBuild z ps = some v) (hk : K v) : iBuild z ps K := by
  unfold eBuild at h; unfold iBuild
  split at h
  · rename_i e; cases h; simp only [bfillE_eq _ _ _ e]; exact hk
  · cases h
theorem eMkSl_ok {t len sz : Nat} {z : AV} {ps : List (Nat × Nat × AV)} (h : eMkSl t len sz z ps hp = some (v, hp')) (hk : KH v hp') : iMkSl t len sz z ps hp KH := by
  unfold eMkSl at h; unfold iMkSl
  split at h
  · rename_i e
    simp only [bfillE_eq _ _ _ e]
    cases len with
    | zero => cases h; exact hk
    | succ len => simp only [Option.some.injEq, Prod.mk.injEq] at h; obtain ⟨rfl, rfl⟩ := h; rw [lenF_eq, appE_eq] at hk; exact hk
  · cases h
theorem eMkSlP_ok {len sz : Nat} {z : AV} {ps : List (Nat × Nat × AV)} (h : eMkSlP len sz z ps = some v) (hk : K v) : iMkSlP len sz z ps K := by
  unfold eMkSlP at h; unfold iMkSlP
  split at h
  · rename_i e; cases h; simp only [bfillE_eq _ _ _ e]; exact hk
  · cases h
theorem eMake_ok {e sz bytes : Nat} {z l c : AV} (h : eMake e sz bytes z l c hp = some (v, hp')) (hk : KH v hp') : iMake e sz bytes z l c hp KH := by
  unfold eMake at h; unfold iMake
  split at h
  · rename_i k1 l k2 c
    split at h
    · rename_i e1 e2 e3
      cases h
      rw [Nat.ble_eq] at e1 e2 e3
      rw [lenF_eq, appE_eq] at hk
      refine ⟨⟨Int.natCast_nonneg _, by simp only [Int.ofNat_eq_natCast]; omega, ?_, by simp only [Int.ofNat_eq_natCast]; omega⟩, ?_⟩
      · have h2 : ((bytes * c : Nat) : Int) ≤ ((281474976710656 : Nat) : Int) := Int.ofNat_le.2 e2
        rw [Int.natCast_mul] at h2
        exact h2
      · simp only [Int.ofNat_eq_natCast, Int.toNat_natCast]; exact hk
    · cases h
  · cases h
theorem eToBytes_ok {e : Nat} {x : AV} (h : eToBytes e x hp = some (v, hp')) (hk : KH v hp') : iToBytes e x hp KH := by
  unfold eToBytes at h; unfold iToBytes
  split at h
  · cases h; rw [lenF_eq, lenF_eq, appE_eq, mapE_eq] at hk; exact hk
  · cases h
theorem srcE_eq {sz : Nat} {x : AV} {rows : List (List AV)} (h : srcE hp sz x = some rows) : srcR hp sz x = some rows := by
  unfold srcE at h; unfold srcR
  generalize unsb x = y at h ⊢
  split at h
  · exact h
  · split at h
    · rename_i e; simp only [Nat.eq_of_beq_eq_true e, if_true]; exact h
    · cases h
  · rw [getE_eq] at h
    split at h
    · rename_i e
      simp only [e]
      split at h
      · rename_i e1 e2
        rw [if_pos ⟨Nat.eq_of_beq_eq_true e1, (hasN_iff _ _).1 e2⟩]
        rw [dropE_eq] at h; exact h
      · cases h
    · cases h
  · cases h
theorem eOfBytes_ok {x : AV} (h : eOfBytes x hp = some v) (hk : K v) : iOfBytes x hp K := by
  unfold eOfBytes at h; unfold iOfBytes
  split at h
  · rename_i e
    split at h
    · rename_i e2; cases h; rw [flatE_eq] at e2; simp only [srcE_eq e, Option.bind_some, e2]; exact hk
    · cases h
  · cases h
theorem eLenS_ok {x : AV} (h : eLenS x = some v) (hk : K v) : iLenS x K := by
  unfold eLenS at h; unfold iLenS
  split at h
  · cases h; intro _; rw [lenF_eq] at hk; exact hk
  · cases h
theorem eLen_ok {x : AV} (h : eLen x = some v) (hk : K v) : iLen x K := by
  unfold eLen at h; unfold iLen
  generalize unsb x = y at h ⊢
  split at h
  · cases h; intro _; rw [lenF_eq] at hk; exact hk
  · cases h; intro _; exact hk
  · cases h; exact hk
  · cases h
theorem eLenS_q {x : AV} (h : eLenS x = some v) (hk : K v) : iLenSQ x K := by
  unfold eLenS at h; unfold iLenSQ
  split at h
  · cases h; rw [lenF_eq] at hk; exact hk
  · cases h
theorem eLen_q {x : AV} (h : eLen x = some v) (hk : K v) : iLenQ x K := by
  unfold eLen at h; unfold iLenQ
  generalize unsb x = y at h ⊢
  split at h
  · cases h; rw [lenF_eq] at hk; exact hk
  · cases h; exact hk
  · cases h; exact hk
  · cases h
theorem eMin_ok {x y : AV} (h : eMin x y = some v) (hk : K v) : iMin x y K := by
  unfold eMin at h; unfold iMin
  split at h
  · rename_i k a k' b
    split at h
    · rename_i e
      cases h
      refine ⟨kEq_eq e, ?_⟩
      rw [ltI_eq] at hk
      by_cases q : b < a <;> simp only [q, decide_true, decide_false, if_true, if_false] at hk ⊢ <;> exact hk
    · cases h
  · cases h
theorem eMax_ok {x y : AV} (h : eMax x y = some v) (hk : K v) : iMax x y K := by
  unfold eMax at h; unfold iMax
  split at h
  · rename_i k a k' b
    split at h
    · rename_i e
      cases h
      refine ⟨kEq_eq e, ?_⟩
      rw [ltI_eq] at hk
      by_cases q : a < b
      · simp only [q, decide_true] at hk; rw [if_pos (show b > a from q)]; exact hk
      · simp only [q, decide_false] at hk; rw [if_neg (show ¬ b > a from q)]; exact hk
    · cases h
  · cases h
theorem rowE_eq (sz : Nat) (r : List AV) : rowE sz r = rowOK sz r := by
  unfold rowE rowOK
  rw [lenF_eq, allE_eq]
  have : Nat.beq r.length sz = (r.length == sz) := by rw [Bool.eq_iff_iff]; simp [Nat.beq_eq]
  rw [this]
  cases (r.length == sz) <;> cases r.all scal <;> rfl
theorem roomE_ok {b n : Nat} (h : roomE b n = true) : roomA b n := by
  unfold roomE at h
  split at h
  · rename_i e1 e2; rw [Nat.ble_eq] at e1 e2; exact ⟨e1, e2⟩
  · cases h
theorem eAppTo_ok {own : Bool} {e sz bytes : Nat} {x : AV} {src : Option (List (List AV))} (h : eAppTo own e sz bytes x src hp = some (v, hp')) (hk : KH v hp') : iAppTo own e sz bytes x src hp KH := by
  unfold eAppTo at h; unfold iAppTo
  split at h
  · cases h
  · rename_i rows
    split at h
    · cases h
    · rename_i eall
      rw [show rowE sz = rowOK sz from funext (rowE_eq sz), allE_eq] at eall
      refine ⟨eall, ?_⟩
      generalize nle x = y at h ⊢
      split at h
      · split at h
        · cases h
        · rename_i er
          rw [lenF_eq] at er
          cases own with
          | false => simp only [Option.some.injEq, Prod.mk.injEq] at h; obtain ⟨rfl, rfl⟩ := h; rw [lenF_eq, lenF_eq, appE_eq] at hk; exact ⟨roomE_ok er, hk⟩
          | true =>
            simp only at h ⊢
            split at h
            · cases h
            · simp only [Option.some.injEq, Prod.mk.injEq] at h; obtain ⟨rfl, rfl⟩ := h; rw [lenF_eq, lenF_eq, appE_eq, flatE_eq] at hk; exact ⟨by simp, roomE_ok er, hk⟩
      · rw [getE_eq] at h
        split at h
        · rename_i eg
          simp only [eg]
          split at h
          · rename_i e1 e2 e3 e4 e5
            simp only [Option.some.injEq, Prod.mk.injEq] at h; obtain ⟨rfl, rfl⟩ := h
            rw [lenF_eq] at e4 e5
            rw [setE_eq, lenF_eq, appE_eq] at hk
            exact ⟨⟨Nat.eq_of_beq_eq_true e1, Nat.eq_of_beq_eq_true e2, Nat.eq_of_beq_eq_true e3, Nat.eq_of_beq_eq_true e4⟩, roomE_ok e5, hk⟩
          · cases h
        · cases h
      · rw [getE_eq] at h
        split at h
        · rename_i eg
          simp only [eg]
          split at h
          · rename_i e1 e2 e3 e4 e5 e6 e7
            simp only [Option.some.injEq, Prod.mk.injEq] at h; obtain ⟨rfl, rfl⟩ := h
            rw [lenF_eq] at e5 e6 e7
            rw [setE_eq, lenF_eq, lenF_eq, takeX_eq, appE_eq, appE_eq, flatE_eq] at hk
            rw [Nat.ble_eq] at e6
            exact ⟨⟨Nat.eq_of_beq_eq_true e1, Nat.eq_of_beq_eq_true e2, e3, Nat.eq_of_beq_eq_true e4, Nat.le_of_ble_eq_true e5⟩, by omega, roomE_ok e7, hk⟩
          · cases h
        · cases h
      · cases h
end
end Go.Aw
end

section
namespace Go.Aw
open Go Go.RowKit Go.MapKept
variable [Laid]

/-! ### Keys -/
def keyAt (d : TypeDesc) (k : AV) : Bool := match d, k with | .int j, .v (.int j' _) => kEq j' j | .string, .str _ => true | _, _ => false
noncomputable def sameK (a b : AV) : Option Bool :=
  match a, b with
  | .str a, .str b => some (eqL a b)
  | .v (.int k a), .v (.int k' b) => (match kEq k k' with | true => some (eqI a b) | false => none)
  | _, _ => none
noncomputable def lookE (k : AV) : List (Nat × AV × AV) → Option (Option AV)
  | [] => some none
  | (_, k', c) :: r => (match sameK k k' with | some true => some (some c) | some false => lookE k r | none => none)
noncomputable def updE (c : Nat) (k v : AV) : List (Nat × AV × AV) → Option (Nat × List (Nat × AV × AV))
  | [] => some (c + 1, [(c, k, v)])
  | (n, k', x) :: r => (match sameK k k' with
    | some true => some (c, (n, k, v) :: r)
    | some false => (match updE c k v r with | some (c', r') => some (c', (n, k', x) :: r') | none => none)
    | none => none)
noncomputable def delE (k : AV) : List (Nat × AV × AV) → Option (List (Nat × AV × AV))
  | [] => some []
  | (n, k', x) :: r => (match sameK k k' with
    | some true => some r
    | some false => (match delE k r with | some r' => some ((n, k', x) :: r') | none => none)
    | none => none)
def inE (n : Nat) : List Nat → Bool
  | [] => false
  | m :: r => (match Nat.beq n m with | true => true | false => inE n r)
/-- The entries that a walk has not handed out. -/
def leftE (sn : List Nat) : List (Nat × AV × AV) → List (Nat × AV × AV)
  | [] => []
  | (n, k, v) :: r => (match inE n sn with | true => leftE sn r | false => (n, k, v) :: leftE sn r)
/-- All stamps are below. -/
def belE (s : Nat) : List (Nat × AV × AV) → Bool
  | [] => true
  | (n, _, _) :: r => (match Nat.ble (n + 1) s with | true => belE s r | false => false)
/-- The entry with a stamp. -/
def bornE (b : Nat) : List (Nat × AV × AV) → Option (AV × AV)
  | [] => none
  | (n, k, v) :: r => (match Nat.beq n b with | true => some (k, v) | false => bornE b r)
def lastN : List Nat → Option Nat
  | [] => none
  | [a] => some a
  | _ :: b :: r => lastN (b :: r)
def snocE (b : Nat) : List Nat → List Nat
  | [] => [b]
  | a :: r => a :: snocE b r

section
omit [Laid]
variable {ι : List Ix} {S : Stab} {w : World}
theorem keyAt_is {d : TypeDesc} {k : AV} {v : Value} (h : keyAt d k = true) (r : Rep ι S w k v) : IsKey d v := by
  unfold keyAt at h
  split at h
  · rw [Rep_v] at r; subst r; exact kEq_eq h
  · simp at r; rw [r.1]; trivial
  · cases h
theorem sameK_ok {d : TypeDesc} {k k' : AV} {v v' : Value} {b : Bool} (hd : keyAt d k = true) (r : Rep ι S w k v) (r' : Rep ι S w k' v') (h : sameK k k' = some b) : Instr.sameNow d v v' = some b ∧ (b = true → v' = v) := by
  unfold sameK at h
  split at h
  · rename_i x y
    simp only [Option.some.injEq] at h
    subst h
    simp only [Rep_str] at r r'
    rw [r.1, r'.1]
    have e : ((⟨x.toArray⟩ : ByteArray) == ⟨y.toArray⟩) = decide (x = y) := by
      rw [Bool.eq_iff_iff, bytes_beq]; simp
    cases d <;> simp only [keyAt, Bool.false_eq_true] at hd
    rw [eqL_eq]
    refine ⟨by simp [Instr.sameNow, e], fun hb => by rw [of_decide_eq_true hb]⟩
  · rename_i k a k' b'
    split at h
    · rename_i hk
      simp only [Option.some.injEq] at h
      subst h
      simp only [Rep_v] at r r'
      rw [r, r']
      have hk := kEq_eq hk
      subst hk
      have e : (a == b') = decide (a = b') := by by_cases q : a = b' <;> simp [q]
      cases d <;> simp only [keyAt, Bool.false_eq_true] at hd
      rw [eqI_eq]
      refine ⟨by simp [Instr.sameNow, e], fun hb => by rw [of_decide_eq_true hb]⟩
    · cases h
  · cases h

theorem lookE_ok {d : TypeDesc} {k : AV} {kv : Value} (hd : keyAt d k = true) (r : Rep ι S w k kv) : ∀ (es : List (Nat × AV × AV)) (l : List MapEntry) (i : Nat) (q : Option AV), MpR ι S w es l → lookE k es = some q →
    (q = none ∧ Instr.findNow d kv l i = some none) ∨ ∃ c j v, q = some c ∧ Instr.findNow d kv l i = some (some (j, v)) ∧ Rep ι S w c v
  | [], l, i, q, hm, h => by
    rw [MpR] at hm; subst hm; cases h; exact .inl ⟨rfl, rfl⟩
  | (n, k', c) :: es, l, i, q, hm, h => by
    obtain ⟨e, l', rfl, _, h3, h4, h5⟩ := hm
    rw [lookE] at h
    split at h
    · rename_i hs
      cases h
      obtain ⟨g, _⟩ := sameK_ok hd r h3 hs
      exact .inr ⟨c, i, e.val, rfl, by simp only [Instr.findNow, g], h4⟩
    · rename_i hs
      obtain ⟨g, _⟩ := sameK_ok hd r h3 hs
      rcases lookE_ok hd r es l' (i + 1) q h5 h with ⟨a, b⟩ | ⟨c, j, v, a, b, f⟩
      · exact .inl ⟨a, by simp only [Instr.findNow, g]; exact b⟩
      · exact .inr ⟨c, j, v, a, by simp only [Instr.findNow, g]; exact b, f⟩
    · cases h
theorem updE_ok {d : TypeDesc} {k x : AV} {kv xv : Value} {c c' : Nat} (hd : keyAt d k = true) (r : Rep ι S w k kv) (rx : Rep ι S w x xv) : ∀ (es : List (Nat × AV × AV)) (l : List MapEntry) (i : Nat) (es' : List (Nat × AV × AV)), MpR ι S w es l → updE c k x es = some (c', es') →
    (c' = c + 1 ∧ Instr.findNow d kv l i = some none ∧ MpR ι S w es' (l ++ [{ key := kv, val := xv, born := c }])) ∨
    (c' = c ∧ ∃ j e, Instr.findNow d kv l i = some (some (i + j, e.val)) ∧ l[j]? = some e ∧ e.key = kv ∧ MpR ι S w es' (l.modify j fun e => { e with key := kv, val := xv }))
  | [], l, i, es', hm, h => by
    rw [MpR] at hm; subst hm; cases h
    exact .inl ⟨rfl, rfl, _, [], rfl, rfl, r, rx, rfl⟩
  | (n, k', y) :: es, l, i, es', hm, h => by
    obtain ⟨e, l', rfl, h2, h3, h4, h5⟩ := hm
    rw [updE] at h
    split at h
    · rename_i hs
      cases h
      obtain ⟨g, g2⟩ := sameK_ok hd r h3 hs
      refine .inr ⟨rfl, 0, e, by simp only [Instr.findNow, g, Nat.add_zero], rfl, g2 rfl, ?_⟩
      exact ⟨_, l', rfl, h2, r, rx, h5⟩
    · rename_i hs
      obtain ⟨g, _⟩ := sameK_ok hd r h3 hs
      split at h
      · rename_i c2 r2 hu
        cases h
        rcases updE_ok hd r rx es l' (i + 1) r2 h5 hu with ⟨a, b, f⟩ | ⟨a, j, e2, b, f, p, m⟩
        · exact .inl ⟨a, by simp only [Instr.findNow, g]; exact b, e, _, rfl, h2, h3, h4, f⟩
        · refine .inr ⟨a, j + 1, e2, by simp only [Instr.findNow, g]; rw [b]; congr 3; omega, by simpa using f, p, e, _, rfl, h2, h3, h4, m⟩
      · cases h
    · cases h
theorem delE_ok {d : TypeDesc} {k : AV} {kv : Value} (hd : keyAt d k = true) (r : Rep ι S w k kv) : ∀ (es : List (Nat × AV × AV)) (l : List MapEntry) (i : Nat) (es' : List (Nat × AV × AV)), MpR ι S w es l → delE k es = some es' →
    (Instr.findNow d kv l i = some none ∧ MpR ι S w es' l) ∨ ∃ j v, Instr.findNow d kv l i = some (some (i + j, v)) ∧ MpR ι S w es' (l.eraseIdx j)
  | [], l, i, es', hm, h => by
    rw [MpR] at hm; subst hm; cases h
    exact .inl ⟨rfl, rfl⟩
  | (n, k', y) :: es, l, i, es', hm, h => by
    obtain ⟨e, l', rfl, h2, h3, h4, h5⟩ := hm
    rw [delE] at h
    split at h
    · rename_i hs
      cases h
      obtain ⟨g, _⟩ := sameK_ok hd r h3 hs
      exact .inr ⟨0, e.val, by simp only [Instr.findNow, g, Nat.add_zero], h5⟩
    · rename_i hs
      obtain ⟨g, _⟩ := sameK_ok hd r h3 hs
      split at h
      · rename_i r2 hu
        cases h
        rcases delE_ok hd r es l' (i + 1) r2 h5 hu with ⟨b, f⟩ | ⟨j, v, b, f⟩
        · exact .inl ⟨by simp only [Instr.findNow, g]; exact b, e, _, rfl, h2, h3, h4, f⟩
        · exact .inr ⟨j + 1, v, by simp only [Instr.findNow, g]; rw [b]; congr 3; omega, e, _, rfl, h2, h3, h4, f⟩
      · cases h
    · cases h
theorem inE_eq (n : Nat) : ∀ l : List Nat, inE n l = l.toArray.contains n
  | [] => by simp [inE]
  | m :: r => by
    have ih := inE_eq n r
    rw [inE]
    simp only [List.contains_toArray, List.contains_cons] at ih ⊢
    by_cases q : n = m
    · subst q; simp
    · have : Nat.beq n m = false := by
        cases z : Nat.beq n m with
        | false => rfl
        | true => exact absurd (Nat.eq_of_beq_eq_true z) q
      rw [this]; simp only; rw [ih]; simp [q]
theorem snocE_eq (b : Nat) : ∀ l, snocE b l = l ++ [b]
  | [] => rfl
  | a :: r => by rw [snocE, snocE_eq b r]; rfl
theorem lastN_eq : ∀ {l : List Nat} {b : Nat}, lastN l = some b → l.toArray.back? = some b
  | [], _, h => by cases h
  | [a], b, h => by cases h; rfl
  | x :: y :: r, b, h => by
    rw [lastN] at h
    have := lastN_eq h
    simp only [List.back?_toArray] at this ⊢
    rw [List.getLast?_cons_cons]; exact this
theorem MpR.to {es : List (Nat × AV × AV)} : ∀ {l : List MapEntry}, MpR ι S w es l → ∀ e ∈ l, ∃ p ∈ es, e.born = p.1 ∧ Rep ι S w p.2.1 e.key ∧ Rep ι S w p.2.2 e.val := by
  induction es with
  | nil => intro l h e he; rw [MpR] at h; subst h; cases he
  | cons p es ih =>
    intro l h e he
    obtain ⟨n, k, c⟩ := p
    obtain ⟨e0, l', rfl, h2, h3, h4, h5⟩ := h
    rcases List.mem_cons.1 he with rfl | he
    · exact ⟨_, List.mem_cons_self .., h2, h3, h4⟩
    · obtain ⟨p, hp, q⟩ := ih h5 e he
      exact ⟨p, List.mem_cons_of_mem _ hp, q⟩
theorem MpR.from {es : List (Nat × AV × AV)} : ∀ {l : List MapEntry}, MpR ι S w es l → ∀ p ∈ es, ∃ e ∈ l, e.born = p.1 := by
  induction es with
  | nil => intro l h p hp; cases hp
  | cons p es ih =>
    intro l h q hq
    obtain ⟨n, k, c⟩ := p
    obtain ⟨e0, l', rfl, h2, h3, h4, h5⟩ := h
    rcases List.mem_cons.1 hq with rfl | hq
    · exact ⟨e0, List.mem_cons_self .., h2⟩
    · obtain ⟨e, he, q⟩ := ih h5 q hq
      exact ⟨e, List.mem_cons_of_mem _ he, q⟩
theorem mem_leftE {sn : List Nat} : ∀ {es : List (Nat × AV × AV)} {p : Nat × AV × AV}, p ∈ leftE sn es ↔ p ∈ es ∧ inE p.1 sn = false
  | [], p => by simp [leftE]
  | (n, k, v) :: r, p => by
    rw [leftE]
    split
    · rename_i h
      rw [mem_leftE]
      constructor
      · intro ⟨a, b⟩; exact ⟨List.mem_cons_of_mem _ a, b⟩
      · rintro ⟨a, b⟩
        rcases List.mem_cons.1 a with rfl | a
        · rw [h] at b; cases b
        · exact ⟨a, b⟩
    · rename_i h
      rw [List.mem_cons, mem_leftE]
      constructor
      · rintro (rfl | ⟨a, b⟩)
        · exact ⟨List.mem_cons_self .., h⟩
        · exact ⟨List.mem_cons_of_mem _ a, b⟩
      · rintro ⟨a, b⟩
        rcases List.mem_cons.1 a with rfl | a
        · exact .inl rfl
        · exact .inr ⟨a, b⟩
theorem belE_ok {s : Nat} : ∀ {es : List (Nat × AV × AV)}, belE s es = true → ∀ p ∈ es, p.1 < s
  | [], _, p, hp => by cases hp
  | (n, k, v) :: r, h, p, hp => by
    rw [belE] at h
    split at h
    · rename_i hn
      rcases List.mem_cons.1 hp with rfl | hp
      · have := Nat.le_of_ble_eq_true hn; exact this
      · exact belE_ok h p hp
    · cases h
theorem bornE_ok {b : Nat} : ∀ {es : List (Nat × AV × AV)} {l : List MapEntry} {k v : AV}, MpR ι S w es l → bornE b es = some (k, v) → ∃ e, l.find? (·.born == b) = some e ∧ Rep ι S w k e.key ∧ Rep ι S w v e.val
  | [], _, _, _, _, h => by cases h
  | (n, k', v') :: r, _, k, v, hm, h => by
    obtain ⟨e, l', rfl, h2, h3, h4, h5⟩ := hm
    rw [bornE] at h
    split at h
    · rename_i hn
      cases h
      exact ⟨e, by rw [List.find?_cons, h2, Nat.eq_of_beq_eq_true hn]; simp, h3, h4⟩
    · rename_i hn
      obtain ⟨e2, g, q⟩ := bornE_ok h5 h
      refine ⟨e2, ?_, q⟩
      have : (e.born == b) = false := by
        rw [h2]
        cases z : n == b with
        | false => rfl
        | true => rw [beq_iff_eq] at z; subst z; simp at hn
      rw [List.find?_cons, this]; exact g
end

/-! ### Memory -/
/-- A map, or a walk, becomes another one. -/
theorem HOK.objSet {base : Nat} {ι : List Ix} {S : Stab} {w : World} {h : Heap} (hh : HOK base ι S w h) {id b : Nat} {en en' : Ent} {ob ob' : Obj} (e : h[id]? = some en) (ha : alive (some en)) (hb : ι[id]? = some (.blk b)) (hS : ∀ o, ¬ S b o) (hbase : base ≤ b)
    (hob : w.heap[b]? = some ob) (hnc : ∀ x, w.shape? b ≠ some x) (hk : (∃ c es, en' = .mp c es) ∨ ∃ m s sn l, en' = .it m s sn l)
    (ok : Evo ι.length base ι S w ι S { w with heap := w.heap.setIfInBounds b ob' } → ({ w with heap := w.heap.setIfInBounds b ob' } : World).heap[b]? = some ob' → OthOK ι S { w with heap := w.heap.setIfInBounds b ob' } base (some (.blk b)) en') :
    Evo ι.length base ι S w ι S { w with heap := w.heap.setIfInBounds b ob' } ∧ HOK base ι S { w with heap := w.heap.setIfInBounds b ob' } (h.set id en') := by
  obtain ⟨hs1, hs2⟩ := heap_set (o' := ob') hob
  have hlt : id < h.length := (List.getElem?_eq_some_iff.1 e).1
  have hE : Evo ι.length base ι S w ι S { w with heap := w.heap.setIfInBounds b ob' } := by
    refine ⟨fun _ _ => IxLe.refl _, fun _ _ h => h, fun _ _ h => .inl h, fun b' o s => ?_, fun b' x hx => ?_, ⟨rfl, rfl, rfl, by simp, fun k hk => hs2 k (by omega)⟩⟩
    · have hne : b' ≠ b := fun q => hS o (q ▸ s)
      exact World.cell?_of_block (w := w) (hs2 b' hne)
    · have hne : b' ≠ b := fun q => hnc x (q ▸ hx)
      unfold World.shape? at *
      rw [show ({ w with heap := w.heap.setIfInBounds b ob' } : World).heap[b']? = w.heap[b']? from hs2 b' hne]; exact hx
  refine ⟨hE, hh.turn hE (by simp [hh.len]) id (fun i hi hai => ?_) (fun x q => ?_) (fun t sz n q => ?_) (fun en2 q => ?_) (fun j c' hj _ aj hi hj' => ?_) (fun b' o' s => by have := hh.stb b' o' s; simpa using this) (by have := hh.bas; simpa using this)⟩
  · rw [List.getElem?_set_ne (Ne.symm hi)] at hai ⊢
    refine ⟨rfl, rfl, fun c' hc _ => ⟨hs2 c' fun q => ?_, fun _ q => q⟩⟩
    subst q
    exact hi (hh.inj i id c' hai (by rw [e]; exact ha) hc (by rw [hb]; rfl))
  · rw [List.getElem?_set_self hlt] at q
    rcases hk with ⟨c, es, rfl⟩ | ⟨m, s, sn, l, rfl⟩ <;> cases q
  · rw [List.getElem?_set_self hlt] at q
    rcases hk with ⟨c, es, rfl⟩ | ⟨m, s, sn, l, rfl⟩ <;> cases q
  · rw [List.getElem?_set_self hlt] at q
    cases q
    rw [hb]; exact ok hE hs1
  · rw [List.getElem?_set_ne (Ne.symm hj)] at aj
    exact hj (hh.inj j id c' aj (by rw [e]; exact ha) hj' hi)
/-- A new map, or a new walk. -/
theorem HOK.newObj {base : Nat} {ι : List Ix} {S : Stab} {w : World} {h : Heap} (hh : HOK base ι S w h) (ob : Obj) (en : Ent) (hk : (∃ c es, en = .mp c es) ∨ ∃ m s sn l, en = .it m s sn l)
    (ok : Evo ι.length base ι S w (ι ++ [.blk w.heap.size]) S (w.alloc ob) → (w.alloc ob).heap[w.heap.size]? = some ob → OthOK (ι ++ [.blk w.heap.size]) S (w.alloc ob) base (some (.blk w.heap.size)) en) :
    Evo ι.length base ι S w (ι ++ [.blk w.heap.size]) S (w.alloc ob) ∧ HOK base (ι ++ [.blk w.heap.size]) S (w.alloc ob) (h ++ [en]) := by
  have hE : Evo ι.length base ι S w (ι ++ [.blk w.heap.size]) S (w.alloc ob) := Evo.alloc hh.bas (fun b o => hh.stb b o) ob _
  refine ⟨hE, hh.push _ _ hE (fun b hb _ => ⟨Below.heap_alloc w _ b hb, fun _ q => q⟩) (fun x q => ?_) (fun _ _ _ q => ?_) (ok hE (heap_alloc w ob).1) (fun _ b hb => ?_) (fun b o s => ?_)⟩
  · rcases hk with ⟨c, es, rfl⟩ | ⟨m, s, sn, l, rfl⟩ <;> cases q
  · rcases hk with ⟨c, es, rfl⟩ | ⟨m, s, sn, l, rfl⟩ <;> cases q
  · have : w.heap.size = b := hb
    omega
  · have := hh.stb b o s
    show b < (w.heap.push _).size
    simp; omega

/-! ### Operations -/
section
variable {P : Program} {o : Oper} {base : Nat} {ι : List Ix} {S : Stab} {a : Act} {w : World} {st : St} {K : AV → Heap → Prop}

theorem s_mkMap {t : TypeId} {r : Option Operand} (hr : ROK base ι S a w st) (ho : o.op = .makeMap t r) (hres : r = none ∨ ∃ x kt et k n, r = some x ∧ P.underlying t = some (.map kt et) ∧ evalA st.fr x = .v (.int k n)) (h : K (.mp st.h.length) (st.h ++ [.mp 0 []])) : Meets P o base ι S a w st K := by
  have hh := hr.hp
  obtain ⟨hE, hH⟩ := hh.newObj (.map #[] 0) (.mp 0 []) (.inl ⟨_, _, rfl⟩) fun hE hb => ⟨w.heap.size, #[], rfl, hh.bas, hb, fun o s => by have := hh.stb _ _ s; omega, rfl⟩
  refine meets_value hr (u := .map (some w.heap.size)) ?_ hE ?_ hH (by simp) h
  · simp only [execOp, ho]
    refine runv ?_
    rcases hres with rfl | ⟨x, kt, et, k, n, rfl, ht, hx⟩
    · exact run_makeMap t w
    · have hv := hr.eval x
      rw [hx, Rep_v] at hv
      simp only [Option.map_some, hv]
      simp [Instr.makeMap, run_underlying ht, asInt, asIntOf, Result.andThen]
  · rw [Rep]; exact ⟨w.heap.size, by rw [← hh.len]; exact get_one, rfl⟩

theorem s_mUpd {t kt et : TypeId} {d : TypeDesc} {m k x : Operand} {id c c' : Nat} {es es' : List (Nat × AV × AV)} (hr : ROK base ι S a w st) (ho : o.op = .mapUpdate t m k x ∨ o.op = .insert t m k x) (ht : P.underlying t = some (.map kt et)) (hd : P.underlying kt = some d)
    (hm : evalA st.fr m = .mp id) (hk : keyAt d (evalA st.fr k) = true) (he : st.h[id]? = some (.mp c es)) (hu : updE c (evalA st.fr k) (evalA st.fr x) es = some (c', es')) (h : K (.v undef) (st.h.set id (.mp c' es'))) : Meets P o base ι S a w st K := by
  have hh := hr.hp
  have rm := hr.eval m
  have rk := hr.eval k
  have rx := hr.eval x
  rw [hm, Rep] at rm
  obtain ⟨b, hb, em⟩ := rm
  obtain ⟨b', arr, h1, h2, h3, h4, h5⟩ := hh.oth id _ he
  rw [hb] at h1; cases h1
  have hik := keyAt_is hk rk
  have hsh : ∀ x, w.shape? b ≠ some x := fun x => by unfold World.shape?; rw [h3]; simp
  have go : ∀ {arr' : Array MapEntry}, MpR ι S w es' arr'.toList → (Instr.mapUpdate t (.map (some b)) (a.eval k) (a.eval x)).run P w = .ok () { w with heap := w.heap.setIfInBounds b (.map arr' c') } → Meets P o base ι S a w st K := by
    intro arr' hp hrun
    obtain ⟨hE, hH⟩ := hh.objSet (ob' := .map arr' c') (en' := .mp c' es') he trivial hb h4 h2 h3 hsh (.inl ⟨_, _, rfl⟩) fun hE hb' => ⟨b, arr', rfl, h2, hb', h4, hp.evo hE (Nat.le_refl _)⟩
    refine meets_skip hr ?_ hE hH (by simp) h
    rcases ho with ho | ho <;> (simp only [execOp, ho, em]; exact runu hrun)
  rcases updE_ok hk rk rx es arr.toList 0 es' h5 hu with ⟨rfl, hf, hp⟩ | ⟨rfl, j, e, hf, hj, hkey, hp⟩
  · refine go (arr' := arr.push { key := a.eval k, val := a.eval x, born := c }) (by simpa using hp) ?_
    simp [Instr.mapUpdate, run_underlying ht, Go.MapKept.run_getObj_map h3, run_checkKey hd hik, run_findKey hd hf, run_setObj_map _ h3, Result.andThen]
  · refine go (arr' := arr.modify j fun e => { e with key := a.eval k, val := a.eval x }) (by simpa using hp) ?_
    have hj' : arr[j]? = some e := by simpa using hj
    rw [Nat.zero_add] at hf
    simp [Instr.mapUpdate, run_underlying ht, Go.MapKept.run_getObj_map h3, run_checkKey hd hik, run_findKey hd hf, hj', hkey, run_keyThatStays hik, run_setObj_map _ h3, Result.andThen]

omit [Laid] in
theorem run_zeroA {t : TypeId} {z : AV} (hz : zeroA P t = some z) : ∃ u, (zeroValue t).run P w = .ok u w ∧ Rep ι S w z u := by
  unfold zeroA at hz
  cases hi : P.info? t with
  | none => rw [hi] at hz; cases hz
  | some i =>
    rw [hi] at hz
    simp only [Option.bind_some, Option.map_eq_some_iff] at hz
    obtain ⟨u, hu, rfl⟩ := hz
    exact ⟨u, by simp [zeroValue, run_info hi, hu], Rep_constAV ι S w u⟩
/-- What a look into a map hands back. -/
def lkV (ok : Bool) (z : AV) (q : Option AV) : AV :=
  match ok, q with
  | true, some c => .tup [c, bool true]
  | true, none => .tup [z, bool false]
  | false, some c => c
  | false, none => z
theorem s_look {t kt et : TypeId} {d : TypeDesc} {ok : Bool} {m k : Operand} {z : AV} {q : Option AV} (hr : ROK base ι S a w st) (ho : o.op = .lookup t m k ok) (ht : P.underlying t = some (.map kt et)) (hd : P.underlying kt = some d) (hz : zeroA P et = some z)
    (hk : keyAt d (evalA st.fr k) = true) (hq : (evalA st.fr m = .v (.map none) ∧ q = none) ∨ ∃ id c es, evalA st.fr m = .mp id ∧ st.h[id]? = some (.mp c es) ∧ lookE (evalA st.fr k) es = some q) (h : K (lkV ok z q) st.h) : Meets P o base ι S a w st K := by
  have hh := hr.hp
  have rm := hr.eval m
  have rk := hr.eval k
  have hik := keyAt_is hk rk
  obtain ⟨u, hzr, rz⟩ := run_zeroA (P := P) (ι := ι) (S := S) (w := w) hz
  have fin : ∀ {v : Value} {b : Bool}, (Instr.lookup t (a.eval m) (a.eval k) ok).run P w = .ok (if ok then .tuple #[v, .bool b] else v) w → (∃ c, Rep ι S w c v ∧ lkV ok z q = match ok with | true => .tup [c, bool b] | false => c) → Meets P o base ι S a w st K := by
    intro v b hrun hc
    obtain ⟨c, rc, e⟩ := hc
    refine meets_pure hr (u := if ok then .tuple #[v, .bool b] else v) ?_ ?_ h
    · simp only [execOp, ho]; exact runv hrun
    · rw [e]
      cases ok with
      | true => simp only [if_true]; rw [Rep]; exact ⟨[v, .bool b], rfl, by simp [rc]⟩
      | false => exact rc
  rcases hq with ⟨hm, rfl⟩ | ⟨id, c, es, hm, he, hl⟩
  · rw [hm, Rep_v] at rm
    refine fin (v := u) (b := false) ?_ ⟨z, rz, by cases ok <;> rfl⟩
    simp [Instr.lookup, run_underlying ht, rm, run_checkKey hd hik, Instr.findKey, run_underlying hd, Instr.findNow, hzr, Result.andThen]
  · rw [hm, Rep] at rm
    obtain ⟨b, hb, em⟩ := rm
    obtain ⟨b', arr, h1, h2, h3, h4, h5⟩ := hh.oth id _ he
    rw [hb] at h1; cases h1
    rcases lookE_ok hk rk es arr.toList 0 q h5 hl with ⟨rfl, hf⟩ | ⟨c, j, v, rfl, hf, rv⟩
    · refine fin (v := u) (b := false) ?_ ⟨z, rz, by cases ok <;> rfl⟩
      simp [Instr.lookup, run_underlying ht, em, Go.MapKept.run_getObj_map h3, run_checkKey hd hik, run_findKey hd hf, hzr, Result.andThen]
    · refine fin (v := v) (b := true) ?_ ⟨c, rv, by cases ok <;> rfl⟩
      simp [Instr.lookup, run_underlying ht, em, Go.MapKept.run_getObj_map h3, run_checkKey hd hik, run_findKey hd hf, Result.andThen]

theorem s_mDel {c : Call} {t t2 kt et : TypeId} {d : TypeDesc} {m k : Operand} {id cl : Nat} {es es' : List (Nat × AV × AV)} (hr : ROK base ι S a w st) (ho : o.op = .call c) (hc : c.callee = .builtin .delete) (hat : c.argTypes.toList = [t, t2]) (hax : c.args.toList = [m, k])
    (ht : P.underlying t = some (.map kt et)) (hd : P.underlying kt = some d) (hm : evalA st.fr m = .mp id) (hk : keyAt d (evalA st.fr k) = true) (he : st.h[id]? = some (.mp cl es)) (hu : delE (evalA st.fr k) es = some es') (h : K (.tup []) (st.h.set id (.mp cl es'))) : Meets P o base ι S a w st K := by
  have hh := hr.hp
  have rm := hr.eval m
  have rk := hr.eval k
  rw [hm, Rep] at rm
  obtain ⟨b, hb, em⟩ := rm
  obtain ⟨b', arr, h1, h2, h3, h4, h5⟩ := hh.oth id _ he
  rw [hb] at h1; cases h1
  have hik := keyAt_is hk rk
  have hsh : ∀ x, w.shape? b ≠ some x := fun x => by unfold World.shape?; rw [h3]; simp
  have hargs : c.args.map a.eval = #[.map (some b), a.eval k] := by apply Array.ext'; simp [hax, em]
  have htys : c.argTypes = #[t, t2] := by apply Array.ext'; simp [hat]
  have go : ∀ {arr' : Array MapEntry}, MpR ι S w es' arr'.toList → (Builtin.delete_ #[t, t2] o.type #[.map (some b), a.eval k]).run P w = .ok (.tuple #[]) { w with heap := w.heap.setIfInBounds b (.map arr' cl) } → Meets P o base ι S a w st K := by
    intro arr' hp hrun
    obtain ⟨hE, hH⟩ := hh.objSet (ob' := .map arr' cl) (en' := .mp cl es') he trivial hb h4 h2 h3 hsh (.inl ⟨_, _, rfl⟩) fun hE hb' => ⟨b, arr', rfl, h2, hb', h4, hp.evo hE (Nat.le_refl _)⟩
    refine meets_value hr (u := .tuple #[]) (exec_bi ho hc (fun _ => rfl) (by rw [hargs, htys]; exact hrun)) hE (by rw [Rep]; exact ⟨[], rfl, by simp⟩) hH (by simp) h
  rcases delE_ok hk rk es arr.toList 0 es' h5 hu with ⟨hf, hp⟩ | ⟨j, v, hf, hp⟩
  · refine go (arr' := arr) hp ?_
    simp [Builtin.delete_, run_underlying ht, Go.MapKept.run_getObj_map h3, run_checkKey hd hik, run_findKey hd hf, run_setObj_map _ h3, Result.andThen]
  · have herase : (arr.eraseIdxIfInBounds j).toList = arr.toList.eraseIdx j := by
      unfold Array.eraseIdxIfInBounds
      split
      · simp
      · rename_i hge; rw [List.eraseIdx_of_length_le (by simpa using hge)]
    refine go (arr' := arr.eraseIdxIfInBounds j) (by rw [herase]; exact hp) ?_
    rw [Nat.zero_add] at hf
    simp [Builtin.delete_, run_underlying ht, Go.MapKept.run_getObj_map h3, run_checkKey hd hik, run_findKey hd hf, run_setObj_map _ h3, Result.andThen]

theorem s_rng {t kt et : TypeId} {x : Operand} {id c : Nat} {es : List (Nat × AV × AV)} (hr : ROK base ι S a w st) (ho : o.op = .range t x) (ht : P.underlying t = some (.map kt et)) (hm : evalA st.fr x = .mp id) (he : st.h[id]? = some (.mp c es)) (h : K (.op st.h.length 0) (st.h ++ [.it id c [] c])) : Meets P o base ι S a w st K := by
  have hh := hr.hp
  have rm := hr.eval x
  rw [hm, Rep] at rm
  obtain ⟨b, hb, em⟩ := rm
  obtain ⟨b', arr, h1, h2, h3, h4, h5⟩ := hh.oth id _ he
  rw [hb] at h1; cases h1
  obtain ⟨hE, hH⟩ := hh.newObj (.mapIter (some b) c #[] c) (.it id c [] c) (.inr ⟨_, _, _, _, rfl⟩) fun hE hb' => ⟨w.heap.size, b, rfl, hh.bas, hb', fun o s => by have := hh.stb _ _ s; omega, by rw [List.getElem?_append_left (List.getElem?_eq_some_iff.1 hb).1]; exact hb⟩
  refine meets_value hr (u := .pointer (some ⟨w.heap.size, 0, none⟩)) ?_ hE ?_ hH (by simp) h
  · simp only [execOp, ho, em]
    exact runv (run_range_map w t kt et b arr c ht h3)
  · rw [Rep]; exact ⟨w.heap.size, by rw [← hh.len]; exact get_one, rfl⟩

theorem s_entry {x : Operand} {id m s l c n : Nat} {sn : List Nat} {es : List (Nat × AV × AV)} {k v : AV} (hr : ROK base ι S a w st) (ho : o.op = .entry x) (hx : evalA st.fr x = .op id 0) (hi : st.h[id]? = some (.it m s sn l)) (he : st.h[m]? = some (.mp c es)) (hcl : c = l)
    (hl : lastN sn = some n) (hb : bornE n es = some (k, v)) (h : K (.tup [k, v]) st.h) : Meets P o base ι S a w st K := by
  have hh := hr.hp
  have rx := hr.eval x
  rw [hx, Rep] at rx
  obtain ⟨b, hb1, ex⟩ := rx
  obtain ⟨b', bm, i1, i2, i3, i4, i5⟩ := hh.oth id _ hi
  rw [hb1] at i1; cases i1
  obtain ⟨b', arr, h1, h2, h3, h4, h5⟩ := hh.oth m _ he
  rw [i5] at h1; cases h1
  obtain ⟨e, hf, rk, rv⟩ := bornE_ok h5 hb
  have hf' : arr.find? (·.born == n) = some e := by rw [← Array.find?_toList]; exact hf
  refine meets_pure hr (u := .tuple #[e.key, e.val]) ?_ (by rw [Rep]; exact ⟨[e.key, e.val], rfl, by simp [rk, rv]⟩) h
  subst hcl
  simp only [execOp, ho, ex]
  refine runv ?_
  simp only [Instr.entry, getObj, Sem.run_bind, Sem.run, i3, h3, Result.andThen, lastN_eq hl, bne_self_eq_false, Bool.false_eq_true, if_false, hf']
  rfl

/-- The next entry, whichever it is. -/
theorem s_next {x : Operand} {id m s l c : Nat} {sn : List Nat} {es : List (Nat × AV × AV)} (hr : ROK base ι S a w st) (ho : o.op = .next x false) (hx : evalA st.fr x = .op id 0) (hi : st.h[id]? = some (.it m s sn l)) (he : st.h[m]? = some (.mp c es)) (hbel : belE s es = true) (hsl : s ≤ l)
    (h0 : leftE sn es = [] → K (.tup [bool false]) (st.h.set id .dead)) (h1 : ∀ p ∈ leftE sn es, K (.tup [bool true, p.2.1, p.2.2]) (st.h.set id (.it m s (snocE p.1 sn) c))) : Meets P o base ι S a w st K := by
  have hh := hr.hp
  have rx := hr.eval x
  rw [hx, Rep] at rx
  obtain ⟨b, hb1, ex⟩ := rx
  obtain ⟨b', bm, i1, i2, i3, i4, i5⟩ := hh.oth id _ hi
  rw [hb1] at i1; cases i1
  obtain ⟨b', arr, k1, k2, k3, k4, k5⟩ := hh.oth m _ he
  rw [i5] at k1; cases k1
  have hold : ∀ y ∈ arr.toList, y.born < s := fun y hy => by
    obtain ⟨p, hp, e, _⟩ := k5.to y hy
    rw [e]; exact belE_ok hbel p hp
  have hsh : ∀ x, w.shape? b ≠ some x := fun x => by unfold World.shape?; rw [i3]; simp
  rcases run_next_at (P := P) w o.type b bm s l sn.toArray arr c i3 k3 hold hsl with ⟨hz, hrun⟩ | ⟨e, hem, w1, hw1, hrun⟩
  · have hl : leftE sn es = [] := by
      refine List.eq_nil_iff_forall_not_mem.2 fun p hp => ?_
      obtain ⟨p1, p2⟩ := mem_leftE.1 hp
      obtain ⟨e, he, hb⟩ := k5.from p p1
      have : e ∈ leftOf arr sn.toArray := by
        unfold leftOf
        rw [Array.mem_filter]
        refine ⟨Array.mem_toList_iff.1 he, ?_⟩
        rw [hb, ← inE_eq, p2]; rfl
      have h2 : leftOf arr sn.toArray = #[] := Array.eq_empty_of_size_eq_zero hz
      rw [h2] at this; simp at this
    refine meets_value hr (u := .tuple #[.bool false]) ?_ (Evo.refl _ _ _ _ _) (by rw [Rep]; exact ⟨[.bool false], rfl, by simp⟩) (hh.kill id) (by simp) (h0 hl)
    simp only [execOp, ho, ex]; exact runv hrun
  · obtain ⟨m1, m2⟩ := mem_left hem
    obtain ⟨p, hp, eb, rk, rv⟩ := k5.to e m1
    have hpl : p ∈ leftE sn es := mem_leftE.2 ⟨hp, by rw [inE_eq, ← eb]; exact m2⟩
    obtain ⟨hE1, hH1⟩ : Evo ι.length base ι S w ι S w1 ∧ HOK base ι S w1 st.h := by
      rcases hw1 with rfl | rfl
      · exact ⟨Evo.refl _ _ _ _ _, hh⟩
      · exact hh.drew
    have i3' : w1.heap[b]? = some (.mapIter (some bm) s sn.toArray l) := by rcases hw1 with rfl | rfl <;> exact i3
    have hsh' : ∀ x, w1.shape? b ≠ some x := fun x => by unfold World.shape?; rw [i3']; simp
    obtain ⟨hE, hH⟩ := hH1.objSet (ob' := .mapIter (some bm) s (sn.toArray.push e.born) c) (en' := .it m s (snocE p.1 sn) c) hi trivial hb1 i4 i2 i3' hsh' (.inr ⟨_, _, _, _, rfl⟩) fun hE hb' => ⟨b, bm, rfl, i2, by rw [snocE_eq, ← eb]; simpa using hb', i4, i5⟩
    refine meets_value hr (u := .tuple #[.bool true, e.key, e.val]) ?_ (hE1.trans hE) ?_ hH (by simp) (h1 p hpl)
    · simp only [execOp, ho, ex]; exact runv hrun
    · rw [Rep]
      exact ⟨[.bool true, e.key, e.val], rfl, (RepL_cons _ _ _ _).2 ⟨by rw [Rep_v], (RepL_cons _ _ _ _).2 ⟨Rep.evo (hE1.trans hE) (Nat.le_refl _) _ _ rk, (RepL_cons _ _ _ _).2 ⟨Rep.evo (hE1.trans hE) (Nat.le_refl _) _ _ rv, (RepL_nil _).2 rfl⟩⟩⟩⟩

theorem s_nilM {neg : Bool} {t yt kt et : TypeId} {x : Operand} {b : Bool} (hr : ROK base ι S a w st) (ho : o.op = .binOp (if neg then .neq else .eql) t x (.const (.map none)) yt) (ht : P.underlying t = some (.map kt et))
    (hx : (evalA st.fr x = .v (.map none) ∧ b = true) ∨ ∃ id, evalA st.fr x = .mp id ∧ b = false) (h : K (bool (negB neg b)) st.h) : Meets P o base ι S a w st K := by
  have rx := hr.eval x
  have hy : a.eval (.const (.map none)) = .map none := rfl
  obtain ⟨p, hp, hb⟩ : ∃ p, a.eval x = .map p ∧ p.isNone = b := by
    rcases hx with ⟨e, rfl⟩ | ⟨id, e, rfl⟩
    · rw [e, Rep_v] at rx; exact ⟨none, rx, rfl⟩
    · rw [e, Rep] at rx; obtain ⟨b, _, rx⟩ := rx; exact ⟨some b, rx, rfl⟩
  have he : (Op.equal t (.map p) (.map none)).run P w = .ok b w := by
    have : ∀ d, (Op.equalIn (d + 1) t (.map p) (.map none)).run P w = .ok b w := fun d => by
      subst hb
      cases p <;> simp [Op.equalIn, run_underlying ht]
    exact this 9999
  refine s_nilBy (b := b) hr ho ?_ ?_ h
  · rw [hp, hy]; exact run_guard_plain rfl (by intro q; cases q)
  · rw [hp, hy]
    cases neg <;> simp [binOp, he, negB]
end

/-! ### As the kernel computes them -/
noncomputable def eMkM (r : Option AV) (h : Heap) : Option (AV × Option Heap) :=
  match r with
  | none => some (.mp (lenF h), some (appE h [.mp 0 []]))
  | some x => (match x with | .v (.int _ _) => some (.mp (lenF h), some (appE h [.mp 0 []])) | _ => none)
noncomputable def eMUp (d : TypeDesc) (m k x : AV) (h : Heap) : Option (AV × Option Heap) :=
  match m with
  | .mp id => (match getE h id with
    | some (.mp c es) => (match keyAt d k with
      | true => (match updE c k x es with | some (c', es') => some (.v undef, some (setE h id (.mp c' es'))) | none => none)
      | false => none)
    | _ => none)
  | _ => none
noncomputable def eMLk (d : TypeDesc) (ok : Bool) (z m k : AV) (h : Heap) : Option (AV × Option Heap) :=
  match keyAt d k with
  | false => none
  | true => (match m with
    | .v (.map none) => some (lkV ok z none, none)
    | .mp id => (match getE h id with
      | some (.mp _ es) => (match lookE k es with | some q => some (lkV ok z q, none) | none => none)
      | _ => none)
    | _ => none)
noncomputable def eMDl (d : TypeDesc) (m k : AV) (h : Heap) : Option (AV × Option Heap) :=
  match m with
  | .mp id => (match getE h id with
    | some (.mp c es) => (match keyAt d k with
      | true => (match delE k es with | some es' => some (.tup [], some (setE h id (.mp c es'))) | none => none)
      | false => none)
    | _ => none)
  | _ => none
noncomputable def eRng (m : AV) (h : Heap) : Option (AV × Option Heap) :=
  match m with
  | .mp id => (match getE h id with
    | some (.mp c _) => some (.op (lenF h) 0, some (appE h [.it id c [] c]))
    | _ => none)
  | _ => none
noncomputable def eEnt (x : AV) (h : Heap) : Option (AV × Option Heap) :=
  match x with
  | .op id 0 => (match getE h id with
    | some (.it m _ sn l) => (match getE h m with
      | some (.mp c es) => (match Nat.beq c l, lastN sn with
        | true, some n => (match bornE n es with | some (k, v) => some (.tup [k, v], none) | none => none)
        | _, _ => none)
      | _ => none)
    | _ => none)
  | _ => none
noncomputable def eNlM (neg : Bool) (x : AV) : Option (AV × Option Heap) :=
  match x with
  | .v (.map none) => some (bool (negB neg true), none)
  | .mp _ => some (bool (negB neg false), none)
  | _ => none
/-- The next of a walk: nothing is left, or each that is. -/
noncomputable def eNxt (x : AV) (h : Heap) : Option (List (AV × Heap)) :=
  match x with
  | .op id 0 => (match getE h id with
    | some (.it m s sn l) => (match getE h m with
      | some (.mp c es) => (match belE s es, Nat.ble s l with
        | true, true => (match leftE sn es with
          | [] => some [(.tup [bool false], setE h id .dead)]
          | p :: r => some ((p :: r).map fun p => (.tup [bool true, p.2.1, p.2.2], setE h id (.it m s (snocE p.1 sn) c))))
        | _, _ => none)
      | _ => none)
    | _ => none)
  | _ => none
end Go.Aw
end

section
namespace Go.Aw
open Go Go.RowKit
variable [Laid]

section
variable {P : Program} {o : Oper} {base : Nat} {ι : List Ix} {S : Stab} {a : Act} {w : World} {st : St} {K : AV → Heap → Prop}

theorem run_bounds3 {len cap : Nat} {lo : Option Operand} {yh ym : Operand} {p q m : Int} {kh km : IntKind} {fr : Fr} (hE : ∀ x, Rep ι S w (evalA fr x) (a.eval x)) (h1 : optI (lo.map (evalA fr)) 0 = some p) (eh : a.eval yh = .int kh q) (em : a.eval ym = .int km m)
    (hp : 0 ≤ p) (hpq : p ≤ q) (hqm : q ≤ m) (hm : m ≤ cap) : (Instr.sliceBounds true len cap (lo.map a.eval) (some (a.eval yh)) (some (a.eval ym))).run P w = .ok (p.toNat, q.toNat, m.toNat) w := by
  have bound : ∀ (k : IntKind) (n : Int) (y : Nat) (c : BoundsCode), 0 ≤ n → n ≤ y → (Instr.sliceBound (.int k n) y c).run P w = .ok n.toNat w := fun k n y c g1 g2 => run_sliceBound w k n y c g1 g2
  unfold Instr.sliceBounds
  rcases optI_some hE h1 with ⟨rfl, rfl⟩ | ⟨yl, kl, rfl, el⟩
  · simp only [Option.map_none, Sem.run_bind, em, eh]
    rw [bound km m cap _ (by omega) hm]
    simp only [Result.andThen_ok]
    rw [bound kh q m.toNat _ (by omega) (by omega)]
    rfl
  · simp only [Option.map_some, Sem.run_bind, em, eh, el]
    rw [bound km m cap _ (by omega) hm]
    simp only [Result.andThen_ok]
    rw [bound kh q m.toNat _ (by omega) (by omega)]
    simp only [Result.andThen_ok]
    rw [bound kl p q.toNat _ hp (by omega)]
    rfl

/-- A slice that is told, cut with three bounds. -/
theorem s_sl3 {t e : TypeId} {x yh ym : Operand} {lo : Option Operand} {sz : Nat} {rows : List (List AV)} {p q m : Int} {kh km : IntKind} (hr : ROK base ι S a w st) (ho : o.op = .slice t x lo (some yh) (some ym)) (ht : P.underlying t = some (.slice e)) (hk : tOk P e = true)
    (hx : unsb (evalA st.fr x) = .sl sz rows) (hl : optI (lo.map (evalA st.fr)) 0 = some p) (hh : evalA st.fr yh = .v (.int kh q)) (hm : evalA st.fr ym = .v (.int km m)) (hsz : sz = P.cellsOf e) (g0 : 0 ≤ p) (g1 : p ≤ q) (g2 : q ≤ m) (g3 : m ≤ rows.length)
    (k : K (.sl sz ((rows.take q.toNat).drop p.toNat)) st.h) : Meets P o base ι S a w st K := by
  subst hsz
  have rx := (hr.eval x).unsb
  have rh := hr.eval yh
  have rm := hr.eval ym
  rw [hx, Rep] at rx
  rw [hh, Rep_v] at rh
  rw [hm, Rep_v] at rm
  obtain ⟨b, cap, ev, c1, c2, c3⟩ := rx
  have hb := run_bounds3 (P := P) (len := rows.length) (cap := cap) hr.eval hl rh rm g0 g1 g2 (by omega)
  refine meets_pure hr (u := .slice (if m.toNat = p.toNat then b else b.map (·.add (p.toNat * P.cellsOf e))) (q.toNat - p.toNat) (m.toNat - p.toNat)) ?_ ?_ k
  · simp only [execOp, ho, ev, Option.map_some]
    exact runv (by simp only [Instr.sliceAt, Sem.run_bind, run_underlying ht, Result.andThen_ok, Instr.slice, hb, run_sizeOf' hk, Sem.run_pure])
  · rw [Rep]
    have hl : ((rows.take q.toNat).drop p.toNat).length = q.toNat - p.toNat := by simp; omega
    refine ⟨_, _, by rw [hl], by omega, by omega, ?_⟩
    by_cases hem : (rows.take q.toNat).drop p.toNat = []
    · exact .inl hem
    · right
      have hlen : 0 < q.toNat - p.toNat := by rw [← hl]; exact List.length_pos_iff.2 hem
      rcases c3 with c3 | ⟨bb, off, eb, rr⟩
      · subst c3; simp at hem
      · subst eb
        rw [if_neg (by omega)]
        refine ⟨bb, off + p.toNat * P.cellsOf e, by simp [addr_add], RepR.mk fun i r er => ?_⟩
        have er' : rows[p.toNat + i]? = some r := by
          rw [List.getElem?_drop] at er
          rw [List.getElem?_take] at er
          split at er <;> first | exact er | cases er
        have := rr.get _ _ er'
        refine ⟨this.1, ?_⟩
        rw [Nat.add_assoc, ← Nat.add_mul]; exact this.2
/-- Nothing, cut with three bounds. -/
theorem s_sl30 {t e : TypeId} {x yh ym : Operand} {lo : Option Operand} {kh km : IntKind} (hr : ROK base ι S a w st) (ho : o.op = .slice t x lo (some yh) (some ym)) (ht : P.underlying t = some (.slice e)) (hk : tOk P e = true)
    (hx : unsb (evalA st.fr x) = .emp ∨ ∃ sz rows, unsb (evalA st.fr x) = .sl sz rows) (hl : optI (lo.map (evalA st.fr)) 0 = some 0) (hh : evalA st.fr yh = .v (.int kh 0)) (hm : evalA st.fr ym = .v (.int km 0)) (k : K .emp st.h) : Meets P o base ι S a w st K := by
  have rx := (hr.eval x).unsb
  have rh := hr.eval yh
  have rm := hr.eval ym
  rw [hh, Rep_v] at rh
  rw [hm, Rep_v] at rm
  obtain ⟨b, len, cap, ev⟩ : ∃ b len cap, a.eval x = .slice b len cap := by
    rcases hx with hx | ⟨sz, rows, hx⟩
    · rw [hx, Rep] at rx; obtain ⟨b, e⟩ := rx; exact ⟨b, 0, 0, e⟩
    · rw [hx, Rep] at rx; obtain ⟨b, cap, e, _⟩ := rx; exact ⟨b, _, cap, e⟩
  have hb := run_bounds3 (P := P) (len := len) (cap := cap) hr.eval hl rh rm (Int.le_refl _) (Int.le_refl _) (Int.le_refl _) (by omega)
  refine meets_pure hr (u := .slice b 0 0) ?_ (by rw [Rep]; exact ⟨b, rfl⟩) k
  simp only [execOp, ho, ev, Option.map_some]
  exact runv (by simp only [Instr.sliceAt, Sem.run_bind, run_underlying ht, Result.andThen_ok, Instr.slice, hb, run_sizeOf' hk, Sem.run_pure]; rfl)

/-- The capacity of nil. -/
theorem s_cap0 {c : Call} {t e : TypeId} {x : Operand} {l k : Nat} (hr : ROK base ι S a w st) (ho : o.op = .call c) (hc : c.callee = .builtin .cap) (hat : c.argTypes[0]? = some t) (hax : c.args[0]? = some x) (ht : P.underlying t = some (.slice e)) (hx : evalA st.fr x = .v (.slice none l k)) (h : K (int k) st.h) : Meets P o base ι S a w st K := by
  have rx := hr.eval x
  rw [hx, Rep_v] at rx
  have hax' : (c.args.map a.eval)[0]? = some (a.eval x) := by simp [hax]
  refine meets_pure hr (u := .int .i64 k) (exec_bi (s := Builtin.cap_ c.argTypes o.type (c.args.map a.eval)) ho hc (fun _ => rfl) ?_) (by simp) h
  simp only [Builtin.cap_, hat, hax', Sem.run_bind, run_underlying ht, Result.andThen_ok, rx, Sem.run_pure, goInt]

omit [Laid] in
theorem run_append_zeros {t tx ty e : TypeId} {i : TypeInfo} {z : Value} {q k : IntKind} (w : World) (ht : P.underlying t = some (.slice e)) (hk : P.underlying tx = some (.int q)) (hi : P.info? e = some i) (hz : i.zero = some z) (hzs : z.cells.size = i.size) (hs0 : 0 < i.size) (b : Option Addr) (n : Nat) (hn : 0 < n)
    (h63 : n ≤ maxLen) (hfit : n * i.bytes ≤ 281474976710656) :
    (Builtin.append_ #[t, tx] ty #[.slice b 0 0, .int k n]).run P w =
      .ok (.slice (some ⟨w.heap.size, 0, none⟩) n (grownCap w n 0 e)) (w.drew.alloc (.cells (Builtin.zeroCells z.cells n ++ Builtin.zeroCells z.cells (grownCap w n 0 e - n)) e)) := by
  have h63' : n ≤ 9223372036854775807 := h63
  have hw : IntKind.i64.wrap (n : Int) = n := IntWalk.i64_in _ ⟨by omega, by omega⟩
  have e0 : ¬ n ≤ 0 := by omega
  have h1 : ¬ ((n : Int) < 0) := by omega
  have h2 : ¬ ((n : Int) * (i.bytes : Int) > 281474976710656) := by
    have : ((n * i.bytes : Nat) : Int) ≤ 281474976710656 := by omega
    rw [Int.natCast_mul] at this; omega
  have h3 : ¬ (9223372036854775807 < (n : Int)) := by omega
  have hcap : Builtin.nextslicecap n 0 = n := by simp [Builtin.nextslicecap, hn]
  have h4 : ¬ (281474976710656 < n * i.bytes) := by omega
  have h5 : ¬ (n * i.size = 0) := by
    have := Nat.mul_pos hn hs0; omega
  have hfc : ∀ w : World, (Builtin.firstCells i.size 0 (.slice b 0 0)).run P w = .ok #[] w := fun w => by
    cases b with
    | none => exact run_firstCells_none w _ 0 0 0
    | some b => exact run_firstCells_some w _ 0 b 0 0 [] (by simp) (by simp)
  simp [Builtin.append_, run_underlying ht, run_underlying hk, sizeOf, typeInfo, zeroValue, hi, hz, asInt, asIntOf, hw, h1, h2, e0, hn, h3, hcap, h4, h5, Question.forced, hfc, newRow, grownCap]
  intro h0; omega
/-- So many zeros behind nothing. -/
theorem s_appZ {c : Call} {t tx e : TypeId} {x y : Operand} {z : AV} {q k : IntKind} {n : Nat} (hr : ROK base ι S a w st) (ho : o.op = .call c) (hc : c.callee = .builtin .append) (hat : c.argTypes.toList = [t, tx]) (hax : c.args.toList = [x, y]) (ht : P.underlying t = some (.slice e)) (htx : P.underlying tx = some (.int q))
    (hz : zeroA P e = some z) (hk : zok P e = true) (hs0 : 0 < P.cellsOf e) (hx : nle (evalA st.fr x) = .emp) (hy : evalA st.fr y = .v (.int k n)) (hn : 0 < n) (hm : n ≤ maxLen) (hfit : n * bytesA P e ≤ 140737488355328)
    (h : K (.own st.h.length 0 n (P.cellsOf e)) (st.h ++ [.blk ⟨e, rep0 n (vcells z), true⟩])) : Meets P o base ι S a w st K := by
  have hty : c.argTypes = #[t, tx] := by apply Array.ext'; simpa using hat
  have hag : c.args.map a.eval = #[a.eval x, a.eval y] := by apply Array.ext'; simp [hax]
  obtain ⟨i, u, vs, hi, hu, rfl, euc, hvl, hce, hbe, rz⟩ := zero_cells hk hz
  have rx := (hr.eval x).nle
  rw [hx, Rep] at rx
  obtain ⟨b, ex⟩ := rx
  have ry := hr.eval y
  rw [hy, Rep_v] at ry
  have hzs : u.cells.size = i.size := by rw [euc]; simpa using hvl
  have hrun := run_append_zeros (P := P) (ty := o.type) (k := k) w ht htx hi hu hzs (by rw [← hce]; exact hs0) b n hn hm (by rw [← hbe]; omega)
  have hge := grownCap_ge w n 0 e
  have hcm := grownCap_le_maxLen w n 0 e hm
  have r0 := made_rep (rz ι S w) n (n * P.cellsOf e) (by rw [(rz ι S w).length, hvl, hce])
  have hzc : Builtin.zeroCells u.cells n = madeCells vs.toArray (n * P.cellsOf e) := by
    rw [euc]; unfold Builtin.zeroCells madeCells; simp only [List.size_toArray, hvl, hce]
  have hsz : (madeCells vs.toArray (n * P.cellsOf e)).size = n * P.cellsOf e := by simp [madeCells]
  have hsz2 : (Builtin.zeroCells u.cells (grownCap w n 0 e - n)).size = (grownCap w n 0 e - n) * P.cellsOf e := by rw [size_zeroCells, hzs, hce]
  refine meets_row (w1 := w.drew) (cells := Builtin.zeroCells u.cells n ++ Builtin.zeroCells u.cells (grownCap w n 0 e - n)) (vs := (madeCells vs.toArray (n * P.cellsOf e)).toList) (more := (Builtin.zeroCells u.cells (grownCap w n 0 e - n)).toList) (fz := (0, 0)) (c := grownCap w n 0 e) hr (.inr rfl) ?_ (by rw [hzc]; apply Array.ext'; simp) r0 (fun o _ => by simp) hge hcm ?_ h
  · exact exec_bi (s := Builtin.append_ c.argTypes o.type (c.args.map a.eval)) ho hc (fun cs => rfl) (by rw [hty, hag, ex, ry]; exact hrun)
  · rw [Array.length_toList, Array.length_toList, hsz, hsz2, ← Nat.add_mul]
    exact Nat.le_of_eq (by congr 1; omega)
/-- Nothing behind the call's own: it is as it was. -/
theorem s_app0 {c : Call} {t tx e e' : TypeId} {x y : Operand} {sz' : Nat} (hr : ROK base ι S a w st) (ho : o.op = .call c) (hc : c.callee = .builtin .append) (hat : c.argTypes.toList = [t, tx]) (hax : c.args.toList = [x, y]) (ht : P.underlying t = some (.slice e)) (htx : P.underlying tx = some (.slice e')) (hk : zok P e = true)
    (hx : (∃ id off len sz, evalA st.fr x = .own id off len sz) ∨ nle (evalA st.fr x) = .emp) (hs : srcR st.h sz' (evalA st.fr y) = some []) (h : K (evalA st.fr x) st.h) : Meets P o base ι S a w st K := by
  have hty : c.argTypes = #[t, tx] := by apply Array.ext'; simpa using hat
  have hag : c.args.map a.eval = #[a.eval x, a.eval y] := by apply Array.ext'; simp [hax]
  have rx := hr.eval x
  have rx' := rx
  obtain ⟨ad, cap, vs, ey, _, rl, hfl, _⟩ := src_cells hr.hp (hr.eval y) hs
  obtain ⟨a', len, cap', evx, c2⟩ : ∃ a' len cap', a.eval x = .slice a' len cap' ∧ len ≤ cap' := by
    rcases hx with ⟨id, off, len, sz, hx⟩ | hx
    · rw [hx, Rep] at rx
      obtain ⟨b, a', cap', nn, ty, c1, evx, c2, _⟩ := rx
      exact ⟨a', len, cap', evx, c2⟩
    · have rn := (hr.eval x).nle
      rw [hx, Rep] at rn
      obtain ⟨a', e⟩ := rn
      exact ⟨a', 0, 0, e, Nat.le_refl _⟩
  obtain ⟨i, u, hi, hu, hzs, hce, hbe⟩ := zok_spec hk
  refine meets_pure hr (u := a.eval x) ?_ rx' h
  refine exec_bi (s := Builtin.append_ c.argTypes o.type (c.args.map a.eval)) ho hc (fun cs => rfl) ?_
  rw [hty, hag, evx, ey]
  have hfc : (Builtin.firstCells i.size 0 (.slice ad 0 cap)).run P w = .ok #[] w := by
    cases ad with
    | none => exact run_firstCells_none w _ 0 0 cap
    | some b => exact run_firstCells_some w _ 0 b 0 cap [] (by simp) (by simp)
  cases a' with
  | none => simp [Builtin.append_, run_underlying ht, run_underlying htx, sizeOf, typeInfo, hi, Builtin.lenOf, c2, hfc]
  | some b' => simp [Builtin.append_, run_underlying ht, run_underlying htx, sizeOf, typeInfo, hi, Builtin.lenOf, c2, hfc, storeCells]

/-- Copied into the call's own. -/
theorem s_copy {c : Call} {t tx e : TypeId} {x y : Operand} {id off len n : Nat} {blk : Blk} {rows : List (List AV)} (hr : ROK base ι S a w st) (ho : o.op = .call c) (hc : c.callee = .builtin .copy) (hat : c.argTypes.toList = [t, tx]) (hax : c.args.toList = [x, y]) (ht : P.underlying t = some (.slice e)) (hk : tOk P e = true)
    (hx : evalA st.fr x = .own id off len (P.cellsOf e)) (hl : 0 < len) (hb : st.h[id]? = some (.blk blk)) (hw : blk.wr = true) (hfit : off + len * P.cellsOf e ≤ blk.cells.length) (hs : srcR st.h (P.cellsOf e) (evalA st.fr y) = some rows) (hro : rows.all (rowOK (P.cellsOf e)) = true) (hn : n = Nat.min rows.length len)
    (h : K (int n) (st.h.set id (.blk { blk with cells := setAll blk.cells off (rows.take n).flatten }))) : Meets P o base ι S a w st K := by
  have hty : c.argTypes = #[t, tx] := by apply Array.ext'; simpa using hat
  have hag : c.args.map a.eval = #[a.eval x, a.eval y] := by apply Array.ext'; simp [hax]
  have hh := hr.hp
  obtain ⟨ad, cap, vs, ey, hml, rl, hfl, hcell⟩ := src_cells hh (hr.eval y) hs
  obtain ⟨hrl, hsc⟩ := rowsOK hro
  have rx := hr.eval x
  rw [hx, Rep] at rx
  obtain ⟨b, a', cap', nn, ty, c1, evx, c2, c3, c4, c5, c6⟩ := rx
  have ha' : a' = some ⟨b, off, none⟩ := by
    rcases c4 with c4 | c4
    · omega
    · exact c4
  subst ha'
  have hn1 : n ≤ rows.length := by rw [hn]; exact Nat.min_le_left _ _
  have hn2 : n ≤ len := by rw [hn]; exact Nat.min_le_right _ _
  have hrl' : ∀ r ∈ rows.take n, r.length = P.cellsOf e := fun r q => hrl r (List.mem_of_mem_take q)
  have htl : (rows.take n).flatten.length = n * P.cellsOf e := by rw [flat_len hrl', List.length_take, Nat.min_eq_left hn1]
  have hpre : (rows.take n).flatten = rows.flatten.take (n * P.cellsOf e) := by
    have e1 := congrArg List.flatten (List.take_append_drop n rows)
    rw [List.flatten_append] at e1
    rw [← e1, ← htl]
    simp
  have r1 : RepL ι S w (rows.take n).flatten (vs.take (n * P.cellsOf e)) := by rw [hpre]; exact rl.take _
  have one : ∀ u ∈ vs.take (n * P.cellsOf e), u.oneCell' = true := fun u hu => cells_one rl hsc u (List.mem_of_mem_take hu)
  have hmul : n * P.cellsOf e ≤ len * P.cellsOf e := Nat.mul_le_mul_right _ hn2
  obtain ⟨w', k1, k2, k3⟩ := run_storeCells (P := P) (vs.take (n * P.cellsOf e)) (rows.take n).flatten w st.h hh hb hw c1 off 0 (by omega) r1 one
  rw [Nat.add_zero] at k3
  have hvl : (vs.take (n * P.cellsOf e)).length = n * P.cellsOf e := by rw [← r1.length, htl]
  have hfc : (Builtin.firstCells (P.cellsOf e) n (.slice ad rows.length cap)).run P w = .ok (vs.take (n * P.cellsOf e)).toArray w := by
    rcases hcell with ⟨rfl, rfl, rfl⟩ | ⟨bb, rfl, hcell⟩
    · have : n = 0 := by simpa using hn1
      subst this
      simpa using run_firstCells_none (P := P) w (P.cellsOf e) 0 0 cap
    · refine run_firstCells_some w _ n bb _ cap _ hvl fun j v q => hcell j v ?_
      rw [List.getElem?_take] at q
      split at q
      · exact q
      · cases q
  refine meets_value hr (u := .int .i64 n) ?_ k2 (by simp) k3 (by simp) h
  refine exec_bi (s := Builtin.copy_ c.argTypes o.type (c.args.map a.eval)) ho hc (fun cs => rfl) ?_
  rw [hty, hag, evx, ey]
  have hlen : (Builtin.lenOf (.slice ad rows.length cap)).run P w = .ok rows.length w := rfl
  simp only [Builtin.copy_, List.getElem?_toArray, List.getElem?_cons_zero, List.getElem?_cons_succ, Sem.run_bind, run_underlying ht, Result.andThen_ok, hlen, run_sizeOf' hk, ← hn, hfc, k1, Sem.run_pure, goInt]
end

/-! ### As the kernel computes them -/
noncomputable def eSl3 (n : Nat) (x : AV) (lo : Option AV) (hi mx : AV) : Option (AV × Option Heap) :=
  match eLo lo, hi, mx with
  | some a, .v (.int _ (.ofNat b)), .v (.int _ (.ofNat m)) => (match Nat.ble a b, Nat.ble b m with
    | true, true => (match unsb x with
      | .sl sz rows => (match m with
        | 0 => some (.emp, none)
        | m + 1 => (match Nat.beq sz n, Nat.ble (m + 1) (lenF rows) with | true, true => some (.sl sz (dropE a (takeE b rows)), none) | _, _ => none))
      | .emp => (match m with | 0 => some (.emp, none) | _ => none)
      | _ => none)
    | _, _ => none)
  | _, _, _ => none
noncomputable def eCap0 (x : AV) : Option (AV × Option Heap) := match x with | .v (.slice none _ k) => some (int (Int.ofNat k), none) | _ => none
noncomputable def eAppZ (e sz bytes : Nat) (z x y : AV) (h : Heap) : Option (AV × Option Heap) :=
  match nle x, y with
  | .emp, .v (.int _ (.ofNat n)) => (match Nat.ble 1 n, roomE bytes n with
    | true, true => some (.own (lenF h) 0 n sz, some (appE h [.blk ⟨e, rep0 n (vcells z), true⟩]))
    | _, _ => none)
  | _, _ => none
noncomputable def eCopy (sz : Nat) (x y : AV) (h : Heap) : Option (AV × Option Heap) :=
  match x, srcE h sz y with
  | .own id off len sz', some rows => (match getE h id with
    | some (.blk b) => (match Nat.beq sz' sz, Nat.ble 1 len, b.wr, hasN (off + len * sz) b.cells, allE (rowE sz) rows with
      | true, true, true, true, true => (match Nat.ble (lenF rows) len with
        | true => some (int (Int.ofNat (lenF rows)), some (setE h id (.blk { b with cells := splE off (flatE rows) b.cells })))
        | false => some (int (Int.ofNat len), some (setE h id (.blk { b with cells := splE off (flatE (takeE len rows)) b.cells }))))
      | _, _, _, _, _ => none)
    | _ => none)
  | _, _ => none
end Go.Aw
end

section
namespace Go.Aw
open Go Go.RowKit
variable [Laid]

/-! ### Slots: three steps of eight; what lies behind is a list -/
structure N8 (α : Type) where
  (a b c d e f g h : α)
structure Lens (α β : Type) where
  g : α → β
  s : (β → β) → α → α
section
variable {α : Type}
noncomputable def at0 (T : N8 α) : α := N8.rec (motive := fun _ => α) (fun a b c d e f g h => a) T
noncomputable def at1 (T : N8 α) : α := N8.rec (motive := fun _ => α) (fun a b c d e f g h => b) T
noncomputable def at2 (T : N8 α) : α := N8.rec (motive := fun _ => α) (fun a b c d e f g h => c) T
noncomputable def at3 (T : N8 α) : α := N8.rec (motive := fun _ => α) (fun a b c d e f g h => d) T
noncomputable def at4 (T : N8 α) : α := N8.rec (motive := fun _ => α) (fun a b c d e f g h => e) T
noncomputable def at5 (T : N8 α) : α := N8.rec (motive := fun _ => α) (fun a b c d e f g h => f) T
noncomputable def at6 (T : N8 α) : α := N8.rec (motive := fun _ => α) (fun a b c d e f g h => g) T
noncomputable def at7 (T : N8 α) : α := N8.rec (motive := fun _ => α) (fun a b c d e f g h => h) T
noncomputable def up0 (k : α → α) (T : N8 α) : N8 α := N8.rec (motive := fun _ => N8 α) (fun a b c d e f g h => .mk (k a) b c d e f g h) T
noncomputable def up1 (k : α → α) (T : N8 α) : N8 α := N8.rec (motive := fun _ => N8 α) (fun a b c d e f g h => .mk a (k b) c d e f g h) T
noncomputable def up2 (k : α → α) (T : N8 α) : N8 α := N8.rec (motive := fun _ => N8 α) (fun a b c d e f g h => .mk a b (k c) d e f g h) T
noncomputable def up3 (k : α → α) (T : N8 α) : N8 α := N8.rec (motive := fun _ => N8 α) (fun a b c d e f g h => .mk a b c (k d) e f g h) T
noncomputable def up4 (k : α → α) (T : N8 α) : N8 α := N8.rec (motive := fun _ => N8 α) (fun a b c d e f g h => .mk a b c d (k e) f g h) T
noncomputable def up5 (k : α → α) (T : N8 α) : N8 α := N8.rec (motive := fun _ => N8 α) (fun a b c d e f g h => .mk a b c d e (k f) g h) T
noncomputable def up6 (k : α → α) (T : N8 α) : N8 α := N8.rec (motive := fun _ => N8 α) (fun a b c d e f g h => .mk a b c d e f (k g) h) T
noncomputable def up7 (k : α → α) (T : N8 α) : N8 α := N8.rec (motive := fun _ => N8 α) (fun a b c d e f g h => .mk a b c d e f g (k h)) T
noncomputable def selL (n : Nat) : Lens (N8 α) α :=
  match n with
  | 0 => .mk at0 up0
  | 1 => .mk at1 up1
  | 2 => .mk at2 up2
  | 3 => .mk at3 up3
  | 4 => .mk at4 up4
  | 5 => .mk at5 up5
  | 6 => .mk at6 up6
  | _ => .mk at7 up7
omit [Laid]
theorem at_up (n : Nat) (k : α → α) (T : N8 α) : (selL n).g ((selL n).s k T) = k ((selL n).g T) := by
  cases T
  match n with
  | 0 => rfl
  | 1 => rfl
  | 2 => rfl
  | 3 => rfl
  | 4 => rfl
  | 5 => rfl
  | 6 => rfl
  | n + 7 => rfl
theorem at_up_ne (n m : Nat) (hn : n < 8) (hm : m < 8) (h : n ≠ m) (k : α → α) (T : N8 α) : (selL n).g ((selL m).s k T) = (selL n).g T := by
  cases T
  obtain rfl | rfl | rfl | rfl | rfl | rfl | rfl | rfl : n = 0 ∨ n = 1 ∨ n = 2 ∨ n = 3 ∨ n = 4 ∨ n = 5 ∨ n = 6 ∨ n = 7 := by omega
  all_goals obtain rfl | rfl | rfl | rfl | rfl | rfl | rfl | rfl : m = 0 ∨ m = 1 ∨ m = 2 ∨ m = 3 ∨ m = 4 ∨ m = 5 ∨ m = 6 ∨ m = 7 := by omega
  all_goals first | rfl | exact absurd rfl h
end
structure Tr where
  t : N8 (N8 (N8 AV))
  r : Fr
def N8.all {α : Type} (x : α) : N8 α := ⟨x, x, x, x, x, x, x, x⟩
def Tr.lf : Tr := ⟨N8.all (N8.all (N8.all .any)), []⟩
structure Pa where
  g : Tr → AV
  s : AV → Tr → Tr
noncomputable def getP (p : Pa) (T : Tr) : AV := p.g T
noncomputable def putP (p : Pa) (x : AV) (T : Tr) : Tr := p.s x T
noncomputable def upT (k : N8 (N8 (N8 AV)) → N8 (N8 (N8 AV))) (T : Tr) : Tr := Tr.rec (motive := fun _ => Tr) (fun t r => .mk (k t) r) T
noncomputable def paL (l3 : Lens (N8 (N8 (N8 AV))) (N8 (N8 AV))) (l2 : Lens (N8 (N8 AV)) (N8 AV)) (l1 : Lens (N8 AV) AV) : Pa :=
  match l3, l2, l1 with
  | ⟨g3, s3⟩, ⟨g2, s2⟩, ⟨g1, s1⟩ => ⟨fun T => g1 (g2 (g3 T.t)), fun x => upT (s3 (s2 (s1 fun _ => x)))⟩
noncomputable def paN (n : Nat) : Pa :=
  match Nat.ble n 511 with
  | true => paL (selL (Nat.div n 64)) (selL (Nat.mod (Nat.div n 8) 8)) (selL (Nat.mod n 8))
  | false => ⟨fun T => getF T.r n, fun x T => ⟨T.t, putF T.r n x⟩⟩
section
omit [Laid]
theorem paL_g (l3 : Lens (N8 (N8 (N8 AV))) (N8 (N8 AV))) (l2 : Lens (N8 (N8 AV)) (N8 AV)) (l1 : Lens (N8 AV) AV) (T : Tr) : (paL l3 l2 l1).g T = l1.g (l2.g (l3.g T.t)) := rfl
theorem paL_s (l3 : Lens (N8 (N8 (N8 AV))) (N8 (N8 AV))) (l2 : Lens (N8 (N8 AV)) (N8 AV)) (l1 : Lens (N8 AV) AV) (x : AV) (T : Tr) : ((paL l3 l2 l1).s x T).t = l3.s (l2.s (l1.s fun _ => x)) T.t := by cases T; rfl
theorem paL_r (l3 : Lens (N8 (N8 (N8 AV))) (N8 (N8 AV))) (l2 : Lens (N8 (N8 AV)) (N8 AV)) (l1 : Lens (N8 AV) AV) (x : AV) (T : Tr) : ((paL l3 l2 l1).s x T).r = T.r := by cases T; rfl
theorem get_put_self (n : Nat) (x : AV) (T : Tr) : getP (paN n) (putP (paN n) x T) = x := by
  unfold getP putP paN
  split
  · rw [paL_g, paL_s, at_up, at_up, at_up]
  · show getF (putF T.r n x) n = x
    rw [getF_put, if_pos rfl]
theorem get_put_ne (n m : Nat) (x : AV) (T : Tr) (h : n ≠ m) : getP (paN n) (putP (paN m) x T) = getP (paN n) T := by
  unfold getP putP paN
  split
  · rename_i e1
    split
    · rename_i e2
      rw [Nat.ble_eq] at e1 e2
      rw [paL_g, paL_g, paL_s]
      have c1 : Nat.div n 64 = n / 64 := rfl
      have c2 : Nat.div m 64 = m / 64 := rfl
      have c3 : Nat.mod (Nat.div n 8) 8 = n / 8 % 8 := rfl
      have c4 : Nat.mod (Nat.div m 8) 8 = m / 8 % 8 := rfl
      have c5 : Nat.mod n 8 = n % 8 := rfl
      have c6 : Nat.mod m 8 = m % 8 := rfl
      rw [c1, c2, c3, c4, c5, c6]
      by_cases h3 : n / 64 = m / 64
      · rw [h3, at_up]
        by_cases h2 : n / 8 % 8 = m / 8 % 8
        · rw [h2, at_up, at_up_ne _ _ (by omega) (by omega) (by omega)]
        · rw [at_up_ne _ _ (by omega) (by omega) h2]
      · rw [at_up_ne _ _ (by omega) (by omega) h3]
    · show (paL _ _ _).g _ = (paL _ _ _).g _
      rw [paL_g, paL_g]
  · split
    · show getF ((paL _ _ _).s x T).r n = getF T.r n
      rw [paL_r]
    · show getF (putF T.r m x) n = getF T.r n
      rw [getF_put, if_neg (Ne.symm h)]
theorem getP_lf (n : Nat) : getP (paN n) .lf = .any := by
  have key : ∀ {α : Type} (i : Nat) (x : α), (selL i).g (N8.all x) = x := by
    intro α i x
    match i with
    | 0 => rfl
    | 1 => rfl
    | 2 => rfl
    | 3 => rfl
    | 4 => rfl
    | 5 => rfl
    | 6 => rfl
    | n + 7 => rfl
  unfold getP paN
  split
  · show (selL _).g ((selL _).g ((selL _).g (N8.all (N8.all (N8.all AV.any))))) = AV.any
    rw [key, key, key]
  · rfl
end
/-- The tree holds what the frame tells. -/
def Fits (fr : Fr) (T : Tr) : Prop := ∀ t, getF fr t = getP (paN t) T
section
omit [Laid]
theorem Fits.put {fr : Fr} {T : Tr} (h : Fits fr T) (t : Nat) (x : AV) : Fits (putF fr t x) (putP (paN t) x T) := by
  intro u
  rw [getF_put]
  by_cases e : t = u
  · subst e; rw [if_pos rfl, get_put_self]
  · rw [if_neg e, get_put_ne _ _ _ _ (fun q => e q.symm)]; exact h u
theorem Fits.eq {fr fr' : Fr} {T : Tr} (h : Fits fr T) (e : FrEq fr' fr) : Fits fr' T := fun t => (e t).trans (h t)
noncomputable def args0T : List AV → Nat → Tr
  | [], _ => .lf
  | a :: r, i => putP (paN i) a (args0T r (i + 1))
theorem fits_args : ∀ (l : List AV) (i : Nat), Fits (args0 l i) (args0T l i)
  | [], i => fun t => (getP_lf _).symm
  | a :: r, i => by
    intro t
    rw [args0, args0T]
    simp only [getF]
    by_cases e : i = t
    · subst e; rw [if_pos rfl, get_put_self]
    · rw [if_neg e, get_put_ne _ _ _ _ (fun q => e q.symm)]; exact fits_args r (i + 1) t
end
noncomputable def putO (d : Option Pa) (x : AV) (T : Tr) : Tr := Option.rec (motive := fun _ => Tr) T (fun p => putP p x T) d

/-! ### Operations -/
inductive RO where
  | t (p : Pa)
  | c (v : AV)
noncomputable def evR (T : Tr) (x : RO) : AV := RO.rec (motive := fun _ => AV) (fun p => getP p T) (fun v => v) x
noncomputable def cO (x : Operand) : RO :=
  match x with
  | .tmp t => .t (paN t)
  | .const v => .c (constAV v)
  | .global g => .c (match Laid.tab g with | some cs => .ip cs | none => .any)
  | .func f => .c (.fn (.func f) [] [])
theorem evR_eq {fr : Fr} {T : Tr} (h : Fits fr T) (x : Operand) : evR T (cO x) = evalA fr x := by
  cases x with
  | tmp t => exact (h t).symm
  | const v => rfl
  | global g => rfl
  | func f => rfl

inductive ROp where
  | move (x : RO)
  | pick (c a b : RO)
  | bin (op : BinOp) (x y : RO)
  | binB (op : BinOp) (x y : RO)
  | eqA (neg : Bool) (ks : List Nat) (x y : RO)
  | not (x : RO)
  | neg (x : RO)
  | conv (k : IntKind) (x : RO)
  | strS (x : RO)
  | toBytes (e : Nat) (x : RO)
  | ofBytes (x : RO)
  | extr (x : RO) (i : Nat)
  | fld (g : Bool) (off n : Nat) (x : RO)
  | idxS (x i : RO)
  | idxA (g : Bool) (sz len : Nat) (x i : RO)
  | slS (x : RO) (lo hi : Option RO)
  | sl (n : Nat) (x : RO) (lo hi : Option RO)
  | slA (n sz : Nat) (x : RO) (lo hi : Option RO)
  | idxP (m : Nat) (x i : RO)
  | idxQ (len sz : Nat) (x i : RO)
  | fad (off : Nat) (x : RO)
  | nil (row : String → TypeId → Bool) (x : RO)
  | mkI (t : TypeId) (x : RO)
  | asI (has : TypeId → Bool) (x : RO)
  | inv (lo : Bool) (row : TypeId → Option FuncId) (x : RO) (args : List RO)
  | load (g : Bool) (sz : Nat) (x : RO)
  | store (sz : Nat) (x v : RO)
  | new (t : Nat) (z : AV)
  | box (t : Nat) (x : RO)
  | build (z : AV) (ps : List (Nat × Nat × RO))
  | mkSl (t len sz : Nat) (z : AV) (ps : List (Nat × Nat × RO))
  | mkSlP (len sz : Nat) (z : AV) (ps : List (Nat × Nat × RO))
  | make (e sz bytes : Nat) (z : AV) (l c : RO)
  | func (f : Fn) (xs ys : List RO)
  | lenS (x : RO)
  | len (x : RO)
  | min (x y : RO)
  | max (x y : RO)
  | max3 (x y z : RO)
  | app (own : Bool) (e sz bytes : Nat) (x y : RO)
  | appS (own : Bool) (e bytes : Nat) (x y : RO)
  | isNilI (neg : Bool) (x : RO)
  | isNilP (neg : Bool) (x : RO)
  | isNilS (neg : Bool) (x : RO)
  | call (lo : Bool) (x : RO) (args : List RO)
  | mkMap (r : Option RO)
  | mUpd (d : TypeDesc) (m k x : RO)
  | look (d : TypeDesc) (ok : Bool) (z : AV) (m k : RO)
  | mDel (d : TypeDesc) (m k : RO)
  | rng (m : RO)
  | entry (x : RO)
  | isNilM (neg : Bool) (x : RO)
  | sl3 (n : Nat) (x : RO) (lo : Option RO) (hi mx : RO)
  | cap0 (x : RO)
  | appZ (e sz bytes : Nat) (z : AV) (x y : RO)
  | appN (own : Bool) (e sz bytes : Nat) (x y : RO)
  | copy (sz : Nat) (x y : RO)
  | bad

/-- Against nil. -/
noncomputable def nilR (neg : Bool) (d : TypeDesc) (y : Operand) (x : RO) : ROp :=
  match d, y with
  | .interface _, .const .nilIface => .isNilI neg x
  | .pointer _, .const (.pointer none) => .isNilP neg x
  | .slice _, .const (.slice none _ _) => .isNilS neg x
  | _, _ => .bad
noncomputable def cOp (P : Program) (own : Bool) (op : Op) : ROp :=
  match op with
  | .move x | .assign x => .move (cO x)
  | .pick c a b => .pick (cO c) (cO a) (cO b)
  | .binOp op t x y _ =>
    (match tAgg P t with
    | true => (match op, P.eqGuardType P.depth t, flatK P 8 t with
      | .eql, false, some ks => .eqA false ks (cO x) (cO y)
      | .neq, false, some ks => .eqA true ks (cO x) (cO y)
      | _, _, _ => .bad)
    | false => match P.underlying t with
      | some .bool => .binB op (cO x) (cO y)
      | some (.int _) | some .string => .bin op (cO x) (cO y)
      | some d => (match op with
        | .eql => nilR false d y (cO x)
        | .neq => nilR true d y (cO x)
        | _ => .bad)
      | none => .bad)
  | .unOp .not _ x => .not (cO x)
  | .unOp .neg _ x => .neg (cO x)
  | .unOp .xor t x => (match P.underlying t with | some (.int k) => .bin .xor (.c (.v (.int k (onesK k)))) (cO x) | _ => .bad)
  | .convert s d x =>
    (match P.underlying s, P.underlying d with
    | some (.int _), some (.int k) => .conv k (cO x)
    | some .string, some .string => .strS (cO x)
    | some .string, some (.slice e) => (match isU8 P e with | true => .toBytes e (cO x) | false => .bad)
    | some (.slice e), some .string => (match isU8 P e with | true => .ofBytes (cO x) | false => .bad)
    | _, _ => .bad)
  | .extract x i => .extr (cO x) i
  | .field t x i =>
    (match P.underlying t with
    | some (.struct fs) => (match fs[i]? with
      | some f => (match tOk P f.type with | true => .fld (tAgg P f.type) f.offset (P.cellsOf f.type) (cO x) | false => .bad)
      | none => .bad)
    | _ => .bad)
  | .index t x i =>
    (match P.underlying t with
    | some .string => .idxS (cO x) (cO i)
    | some (.array n e) => (match tOk P e with | true => .idxA (tAgg P e) (P.cellsOf e) n (cO x) (cO i) | false => .bad)
    | _ => .bad)
  | .slice t x lo hi none =>
    (match P.underlying t with
    | some .string => .slS (cO x) (lo.map cO) (hi.map cO)
    | some (.slice e) => (match tOk P e with | true => .sl (P.cellsOf e) (cO x) (lo.map cO) (hi.map cO) | false => .bad)
    | some (.array n e) => (match tOk P e with | true => .slA n (P.cellsOf e) (cO x) (lo.map cO) (hi.map cO) | false => .bad)
    | _ => .bad)
  | .indexAddr t x i =>
    (match P.underlying t with
    | some (.slice e) => (match tOk P e with | true => .idxP (P.cellsOf e) (cO x) (cO i) | false => .bad)
    | some (.array n e) => (match tOk P e with | true => .idxQ n (P.cellsOf e) (cO x) (cO i) | false => .bad)
    | _ => .bad)
  | .fieldAddr t x i =>
    (match P.underlying t with
    | some (.struct fs) => (match fs[i]? with
      | some f => (match P.cellsOf f.type != 0 && tOk P f.type with | true => .fad f.offset (cO x) | false => .bad)
      | none => .bad)
    | _ => .bad)
  | .nilCheck x => .nil (fun n t => (mrow P n t).isSome) (cO x)
  | .makeInterface t x => (match P.concrete t with | true => .mkI t (cO x) | false => .bad)
  | .typeAssert x _ asserted true => .asI (hasM P asserted) (cO x)
  | .load t x => (match tOk P t with | true => .load (tAgg P t) (P.cellsOf t) (cO x) | false => .bad)
  | .store t x v => (match tOk P t with | true => .store (P.cellsOf t) (cO x) (cO v) | false => .bad)
  | .alloc t => (match zeroA P t with | some z => .new t z | none => .bad)
  | .box t x => .box t (cO x)
  | .build t parts =>
    (match P.underlying t, zeroA P t with
    | some (.struct fs), some z => (match fs.toList.all (fun f => tOk P f.type) && parts.toList.all (fun p => (fs[p.1]?).isSome) with
      | true => .build z (parts.toList.map fun p => (((fs[p.1]?).map (·.offset)).getD 0, ((fs[p.1]?).map (fun f => P.cellsOf f.type)).getD 0, cO p.2))
      | false => .bad)
    | some (.array _ e), some z => (match tOk P e with | true => .build z (parts.toList.map fun p => (p.1 * P.cellsOf e, P.cellsOf e, cO p.2)) | false => .bad)
    | _, _ => .bad)
  | .buildSlice t len parts =>
    (match P.underlying t with
    | some (.slice e) => (match zeroA P e, zok P e && tOk P e && decide (len * P.cellsOf e ≤ 16777216) && decide (len ≤ 16777216) with
      | some z, true => (match own with
        | true => .mkSlP len (P.cellsOf e) z (parts.toList.map fun p => (p.1 * P.cellsOf e, P.cellsOf e, cO p.2))
        | false => .mkSl e len (P.cellsOf e) z (parts.toList.map fun p => (p.1 * P.cellsOf e, P.cellsOf e, cO p.2)))
      | _, _ => .bad)
    | _ => .bad)
  | .makeSlice t l c =>
    (match P.underlying t with
    | some (.slice e) => (match zeroA P e, zok P e && decide (0 < P.cellsOf e) with
      | some z, true => .make e (P.cellsOf e) (bytesA P e) z (cO l) (cO c)
      | _, _ => .bad)
    | _ => .bad)
  | .makeFunc f xs ys => .func f (xs.toList.map cO) (ys.toList.map cO)
  | .call c =>
    (match c.callee with
    | .builtin .len => (match c.argTypes[0]?, c.args[0]? with
      | some t, some x => (match P.underlying t with
        | some .string => .lenS (cO x)
        | some (.slice _) => .len (cO x)
        | _ => .bad)
      | _, _ => .bad)
    | .builtin .min => (match c.args.toList with | [x, y] => .min (cO x) (cO y) | _ => .bad)
    | .builtin .max => (match c.args.toList with | [x, y] => .max (cO x) (cO y) | [x, y, z] => .max3 (cO x) (cO y) (cO z) | _ => .bad)
    | .builtin .append => (match c.argTypes.toList, c.args.toList with
      | [t, tx], [x, y] => (match P.underlying t, P.underlying tx with
        | some (.slice e), some (.slice _) => (match zok P e with | true => .app own e (P.cellsOf e) (bytesA P e) (cO x) (cO y) | false => .bad)
        | some (.slice e), some .string => (match zok P e && P.cellsOf e == 1 with | true => .appS own e (bytesA P e) (cO x) (cO y) | false => .bad)
        | _, _ => .bad)
      | _, _ => .bad)
    | .value x => .call own (cO x) (c.args.toList.map cO)
    | .invoke x name => .inv own (mrow P name) (cO x) (c.args.toList.map cO)
    | _ => .bad)
  | _ => .bad

/-- A value; memory as it was. -/
def same (v : Option AV) : Option (AV × Option Heap) := match v with | some v => some (v, none) | none => none
def turned (v : Option (AV × Heap)) : Option (AV × Option Heap) := match v with | some p => some (p.1, some p.2) | none => none
abbrev CallF := FuncId → List AV → Heap → Option (AV × Option Heap)
noncomputable def evPs (T : Tr) (ps : List (Nat × Nat × RO)) : List (Nat × Nat × AV) := ps.map fun p => (p.1, p.2.1, evR T p.2.2)
noncomputable def eAppN (own : Bool) (e sz bytes : Nat) (x : AV) (src : Option (List (List AV))) (h : Heap) : Option (AV × Option Heap) :=
  match src with
  | some [] => (match x with
    | .own a b c d => some (.own a b c d, none)
    | x => (match own, nle x with
      | true, .emp => some (x, none)
      | _, _ => turned (eAppTo own e sz bytes x (some []) h)))
  | src => turned (eAppTo own e sz bytes x src h)
noncomputable def eR (call : CallF) (o : ROp) (T : Tr) (h : Heap) : Option (AV × Option Heap) :=
  match o with
  | .move x => some (evR T x, none)
  | .pick c a b => same (ePick (evR T c) (evR T a) (evR T b))
  | .bin op x y => same (eBin op (evR T x) (evR T y))
  | .binB op x y => same (eBinB op (evR T x) (evR T y))
  | .eqA neg ks x y => same (eEqA neg ks (evR T x) (evR T y))
  | .not x => same (eNot (evR T x))
  | .neg x => same (eNeg (evR T x))
  | .conv k x => same (eConv k (evR T x))
  | .strS x => same (eStrS (evR T x))
  | .toBytes e x => turned (eToBytes e (evR T x) h)
  | .ofBytes x => same (eOfBytes (evR T x) h)
  | .extr x i => same (eExtr i (evR T x))
  | .fld g off n x => same (eFld g off n (evR T x))
  | .idxS x i => same (eIdxS (evR T x) (evR T i))
  | .idxA g sz len x i => same (eIdxA g sz len (evR T x) (evR T i))
  | .slS x lo hi => same (eSlS (evR T x) (lo.map (evR T)) (hi.map (evR T)))
  | .sl n x lo hi => same (eSl n (evR T x) (lo.map (evR T)) (hi.map (evR T)))
  | .slA n sz x lo hi => same (eSlA n sz (evR T x) (lo.map (evR T)) (hi.map (evR T)) h)
  | .idxP m x i => same (eIdxP m (evR T x) (evR T i))
  | .idxQ len sz x i => same (eIdxQ len sz (evR T x) (evR T i))
  | .fad off x => same (eFad off (evR T x))
  | .nil row x => same (eNilF row (evR T x))
  | .mkI t x => some (.ifc t (evR T x), none)
  | .asI has x => same (eAsI has (evR T x))
  | .inv _ row x args => (match evR T x with
    | .ifc t v => (match row t with | some f => call f (v :: args.map (evR T)) h | none => none)
    | _ => none)
  | .load g sz x => same (eLoad g sz (evR T x) h)
  | .store sz x v => (match eStore sz (evR T x) (evR T v) h with | some h' => some (.v undef, some h') | none => none)
  | .new t z => turned (eNew t z h)
  | .box t x => turned (eNew t (evR T x) h)
  | .build z ps => same (eBuild z (evPs T ps))
  | .mkSl t len sz z ps => turned (eMkSl t len sz z (evPs T ps) h)
  | .mkSlP len sz z ps => same (eMkSlP len sz z (evPs T ps))
  | .make e sz bytes z l c => turned (eMake e sz bytes z (evR T l) (evR T c) h)
  | .func f xs ys => some (.fn f (xs.map (evR T)) (ys.map (evR T)), none)
  | .lenS x => same (eLenS (evR T x))
  | .len x => same (eLen (evR T x))
  | .min x y => same (eMin (evR T x) (evR T y))
  | .max x y => same (eMax (evR T x) (evR T y))
  | .max3 x y z => same (match eMax (evR T x) (evR T y) with | some u => eMax u (evR T z) | none => none)
  | .app own e sz bytes x y => turned (eAppTo own e sz bytes (evR T x) (srcE h sz (evR T y)) h)
  | .appS own e bytes x y => turned (eAppTo own e 1 bytes (evR T x) (srcS (evR T y)) h)
  | .isNilI neg x => (match nilIT (evR T x) with | some b => some (bool (negB neg b), none) | none => none)
  | .isNilP neg x => (match nilPT (evR T x) with | some b => some (bool (negB neg b), none) | none => none)
  | .isNilS neg x => (match nilST (evR T x) with | some b => some (bool (negB neg b), none) | none => none)
  | .call _ x args => (match evR T x with
    | .fn (.func f) a b => call f (a ++ args.map (evR T) ++ b) h
    | _ => none)
  | .mkMap r => eMkM (r.map (evR T)) h
  | .mUpd d m k x => eMUp d (evR T m) (evR T k) (evR T x) h
  | .look d ok z m k => eMLk d ok z (evR T m) (evR T k) h
  | .mDel d m k => eMDl d (evR T m) (evR T k) h
  | .rng m => eRng (evR T m) h
  | .entry x => eEnt (evR T x) h
  | .isNilM neg x => eNlM neg (evR T x)
  | .sl3 n x lo hi mx => eSl3 n (evR T x) (lo.map (evR T)) (evR T hi) (evR T mx)
  | .cap0 x => eCap0 (evR T x)
  | .appZ e sz bytes z x y => eAppZ e sz bytes z (evR T x) (evR T y) h
  | .appN own e sz bytes x y => eAppN own e sz bytes (evR T x) (srcE h sz (evR T y)) h
  | .copy sz x y => eCopy sz (evR T x) (evR T y) h
  | .bad => none
/-- It may turn memory. -/
noncomputable def loudR (o : ROp) : Bool :=
  match o with
  | .call lo _ _ => lo
  | .inv lo _ _ _ => lo
  | .toBytes .. | .store .. | .new .. | .box .. | .mkSl .. | .make .. | .app .. | .appS .. | .mkMap .. | .mUpd .. | .mDel .. | .rng .. | .appZ .. | .appN .. | .copy .. => true
  | _ => false

/-- What a function without a body comes to. -/
def ExtSem (P : Program) (f : FuncId) (args : List AV) (h : Heap) (K : AV → Heap → Prop) : Prop :=
  hasBody P f = false ∧ ∀ base ι S w vs, RepL ι S w args vs → HOK base ι S w h → ∃ v r w' ι' S' h', (callFunc f vs.toArray).run P w = .ok (.value v) w' ∧ Evo ι.length base ι S w ι' S' w' ∧ Rep ι' S' w' r v ∧ HOK base ι' S' w' h' ∧ h.length ≤ h'.length ∧ K r h'
def CallSem (P : Program) (f : FuncId) (args : List AV) (h : Heap) (K : AV → Heap → Prop) : Prop := (hasBody P f = true ∧ ACall P f args h K) ∨ ExtSem P f args h K
/-- Calls, as they are told, are what calls come to. -/
def CallOK (P : Program) (call : CallF) : Prop :=
  ∀ f args h v oh, call f args h = some (v, oh) → CallSem P f args h fun r hh => r = v ∧ hh = oh.getD h
theorem s_ext {P : Program} {o : Oper} {base : Nat} {ι : List Ix} {S : Stab} {a : Act} {w : World} {st : St} {K : AV → Heap → Prop} {c : Call} {x : Operand} {f : FuncId} {first cap : List AV} (hr : ROK base ι S a w st) (ho : o.op = .call c) (hc : c.callee = .value x) (hx : evalA st.fr x = .fn (.func f) first cap)
    (h : ExtSem P f (first ++ c.args.toList.map (evalA st.fr) ++ cap) st.h K) : Meets P o base ι S a w st K := by
  have hv := hr.eval x
  rw [hx, Rep] at hv
  obtain ⟨vs, us, ev, r1, r2⟩ := hv
  have hargs : RepL ι S w (first ++ c.args.toList.map (evalA st.fr) ++ cap) (vs ++ c.args.toList.map a.eval ++ us) := (r1.append (RepL.evals hr _)).append r2
  obtain ⟨v, r, w', ι', S', h', e1, hE, rv, hH, hl, k⟩ := h.2 base ι S w _ hargs hr.hp
  have hrun : (execOp a.eval o).run P w = .ok (.value v) w' := by
    have e2 : (vs.toArray ++ c.args.map a.eval) ++ us.toArray = (vs ++ c.args.toList.map a.eval ++ us).toArray := by apply Array.ext'; simp
    simp only [execOp, ho, resolve, hc, Sem.run_bind, ev, Deferred.ofValue, Sem.run_pure, Result.andThen_ok, invoke, e2]
    exact e1
  exact meets_value hr hrun hE rv hH hl k

omit [Laid] in
theorem mrow_body {P : Program} {name : String} {t : TypeId} {f : FuncId} (h : mrow P name t = some f) : hasBody P f = true := (run_mrow (w := default) (.bool true) h).1

section
variable {P : Program} {call : CallF} {own : Bool} {op : Op} {T : Tr} {h : Heap} {v : AV} {oh : Option Heap} {fr : Fr} {K : AV → Heap → Prop}
omit [Laid] in
theorem same_some {x : Option AV} (e : same x = some (v, oh)) : x = some v ∧ oh = none := by
  unfold same at e
  split at e
  · cases e; exact ⟨rfl, rfl⟩
  · cases e
omit [Laid] in
theorem turned_some {x : Option (AV × Heap)} (e : turned x = some (v, oh)) : ∃ h', x = some (v, h') ∧ oh = some h' := by
  unfold turned at e
  split at e
  · rename_i p; cases e; exact ⟨p.2, rfl, rfl⟩
  · cases e

set_option maxHeartbeats 1000000 in
theorem eR_ok (hc : CallOK P call) (hf : ∀ x, evR T (cO x) = evalA fr x) (e : eR call (cOp P own op) T h = some (v, oh)) (hk : K v (oh.getD h)) :
    stepOp P own (evalA fr) h op K ∨ ∀ (n : Nat) (o : Oper), o.op = op → SemS P n h o fr K := by
  have hl : ∀ l : List Operand, (l.map cO).map (evR T) = l.map (evalA fr) := fun l => by rw [List.map_map]; exact List.map_congr_left fun x _ => hf x
  have ho : ∀ o : Option Operand, (o.map cO).map (evR T) = o.map (evalA fr) := fun o => by cases o <;> simp [hf]
  have hp : ∀ (l : List (Nat × Operand)) (f g : Nat → Nat), evPs T (l.map fun p => (f p.1, g p.1, cO p.2)) = l.map fun p => (f p.1, g p.1, evalA fr p.2) := fun l f g => by
    unfold evPs; rw [List.map_map]; exact List.map_congr_left fun p _ => by simp [hf]
  by_cases hcall : ∃ c x, op = .call c ∧ c.callee = .value x
  · obtain ⟨c, x, rfl, hcal⟩ := hcall
    simp only [cOp, hcal, eR, hf, hl] at e
    split at e
    · rename_i f first cap hx
      rcases hc _ _ _ _ _ e with ⟨hb, hA⟩ | hA
      · left
        simp only [stepOp, hcal]
        unfold iCall
        simp only [hx]
        exact ⟨hb, hA.mono fun r hh ⟨e1, e2⟩ => by subst e1; subst e2; exact hk⟩
      · right
        intro n o ho2 fr' base ι S a w he hr
        have hmem : ∀ y ∈ c.args, evalA fr' y = evalA fr y := fun y hy => he y (by rw [ho2]; simp only [Op.operands, Call.operands]; exact Array.mem_append_right _ hy)
        have hx' : evalA fr' x = evalA fr x := he x (by rw [ho2]; simp [Op.operands, Call.operands, hcal])
        refine s_ext (st := ⟨n, fr', h⟩) hr ho2 hcal (by rw [hx']; exact hx) ?_
        have : c.args.toList.map (evalA fr') = c.args.toList.map (evalA fr) := List.map_congr_left fun y hy => hmem y (by simpa using hy)
        simp only [this]
        refine ⟨hA.1, fun base ι S w vs h1 h2 => ?_⟩
        obtain ⟨v', r', w', ι', S', h', q1, q2, q3, q4, q5, q6, q7⟩ := hA.2 base ι S w vs h1 h2
        subst q6; subst q7
        exact ⟨v', _, w', ι', S', _, q1, q2, q3, q4, q5, hk⟩
    · cases e
  by_cases hinv : ∃ c x name, op = .call c ∧ c.callee = .invoke x name
  · obtain ⟨c, x, name, rfl, hcal⟩ := hinv
    simp only [cOp, hcal, eR, hf, hl] at e
    split at e
    · rename_i t y hx
      split at e
      · rename_i f hrow
        left
        simp only [stepOp, hcal]
        unfold iInv
        simp only [hx, hrow]
        rcases hc _ _ _ _ _ e with ⟨hb, hA⟩ | hA
        · exact hA.mono fun r hh ⟨e1, e2⟩ => by subst e1; subst e2; exact hk
        · exact absurd (mrow_body hrow) (by rw [hA.1]; exact Bool.false_ne_true)
      · cases e
    · cases e
  left
  unfold cOp at e
  unfold stepOp
  split at e
  · simp only [eR, hf] at e; cases e; exact hk
  · simp only [eR, hf] at e; cases e; exact hk
  · simp only [eR, hf] at e; obtain ⟨e', rfl⟩ := same_some e; exact ePick_ok e' hk
  · rename_i bop t x y yt
    split at e
    · rename_i hagg
      simp only [hagg, if_true]
      split at e
      · rename_i hg hks
        simp only [eR, hf] at e; obtain ⟨e', rfl⟩ := same_some e
        simp only [hg, hks, Bool.not_false]; exact eEqA_ok e' hk
      · rename_i hg hks
        simp only [eR, hf] at e; obtain ⟨e', rfl⟩ := same_some e
        simp only [hg, hks, Bool.not_false]; exact eEqA_ok e' hk
      · simp [eR] at e
    · rename_i hagg
      simp only [hagg, Bool.false_eq_true, if_false]
      split at e
      · rename_i ht; simp only [ht]; simp only [eR, hf] at e; obtain ⟨e', rfl⟩ := same_some e; exact eBinB_ok e' hk
      · rename_i ht; simp only [ht]; simp only [eR, hf] at e; obtain ⟨e', rfl⟩ := same_some e; exact eBin_ok e' hk
      · rename_i ht; simp only [ht]; simp only [eR, hf] at e; obtain ⟨e', rfl⟩ := same_some e; exact eBin_ok e' hk
      · rename_i d q1 q2 q3 ht
        have key : ∀ neg : Bool, eR call (nilR neg d y (cO x)) T h = some (v, oh) → iNilC neg d y (evalA fr x) fun v => K v h := by
          intro neg e
          unfold nilR at e
          unfold iNilC
          split at e
          · simp only [eR, hf] at e
            split at e
            · rename_i b hb; cases e; simp only [iIsN, hb]; exact hk
            · cases e
          · simp only [eR, hf] at e
            split at e
            · rename_i b hb; cases e; simp only [iIsN, hb]; exact hk
            · cases e
          · simp only [eR, hf] at e
            split at e
            · rename_i b hb; cases e; simp only [iIsN, hb]; exact hk
            · cases e
          · simp [eR] at e
        rw [ht]
        cases bop <;> simp only [] at e ⊢ <;> first | exact key _ e | (simp [eR] at e; done) | skip
      · simp [eR] at e
  · simp only [eR, hf] at e; obtain ⟨e', rfl⟩ := same_some e; exact eNot_ok e' hk
  · simp only [eR, hf] at e; obtain ⟨e', rfl⟩ := same_some e; exact eNeg_ok e' hk
  · split at e
    · rename_i hu
      simp only [hu]
      simp only [eR, hf] at e
      obtain ⟨e', rfl⟩ := same_some e
      exact eBin_ok e' hk
    · simp [eR] at e
  · split at e
    · rename_i hs hd; simp only [hs, hd]; simp only [eR, hf] at e; obtain ⟨e', rfl⟩ := same_some e; exact eConv_ok e' hk
    · rename_i hs hd; simp only [hs, hd]; simp only [eR, hf] at e; obtain ⟨e', rfl⟩ := same_some e; exact eStrS_ok e' hk
    · rename_i hs hd
      simp only [hs, hd]
      split at e
      · rename_i hu; simp only [hu]; simp only [eR, hf] at e; obtain ⟨h', e', rfl⟩ := turned_some e; exact eToBytes_ok e' hk
      · simp [eR] at e
    · rename_i hs hd
      simp only [hs, hd]
      split at e
      · rename_i hu; simp only [hu]; simp only [eR, hf] at e; obtain ⟨e', rfl⟩ := same_some e; exact eOfBytes_ok e' hk
      · simp [eR] at e
    · simp [eR] at e
  · simp only [eR, hf] at e; obtain ⟨e', rfl⟩ := same_some e; exact eExtr_ok e' hk
  · split at e
    · rename_i ht
      simp only [ht]
      split at e
      · rename_i hfi
        simp only [hfi]
        split at e
        · rename_i hok; simp only [hok]; simp only [eR, hf] at e; obtain ⟨e', rfl⟩ := same_some e; exact eFld_ok e' hk
        · simp [eR] at e
      · simp [eR] at e
    · simp [eR] at e
  · split at e
    · rename_i ht; simp only [ht]; simp only [eR, hf] at e; obtain ⟨e', rfl⟩ := same_some e; exact eIdxS_ok e' hk
    · rename_i ht
      simp only [ht]
      split at e
      · rename_i hok; simp only [hok]; simp only [eR, hf] at e; obtain ⟨e', rfl⟩ := same_some e; exact eIdxA_ok e' hk
      · simp [eR] at e
    · simp [eR] at e
  · split at e
    · rename_i ht; simp only [ht]; simp only [eR, hf, ho] at e; obtain ⟨e', rfl⟩ := same_some e; exact eSlS_ok e' hk
    · rename_i ht
      simp only [ht]
      split at e
      · rename_i hok; simp only [hok]; simp only [eR, hf, ho] at e; obtain ⟨e', rfl⟩ := same_some e; exact eSl_ok e' hk
      · simp [eR] at e
    · rename_i ht
      simp only [ht]
      split at e
      · rename_i hok; simp only [hok]; simp only [eR, hf, ho] at e; obtain ⟨e', rfl⟩ := same_some e; exact eSlA_ok e' hk
      · simp [eR] at e
    · simp [eR] at e
  · split at e
    · rename_i ht
      simp only [ht]
      split at e
      · rename_i hok; simp only [hok]; simp only [eR, hf] at e; obtain ⟨e', rfl⟩ := same_some e; exact eIdxP_ok e' hk
      · simp [eR] at e
    · rename_i ht
      simp only [ht]
      split at e
      · rename_i hok; simp only [hok]; simp only [eR, hf] at e; obtain ⟨e', rfl⟩ := same_some e; exact eIdxQ_ok e' hk
      · simp [eR] at e
    · simp [eR] at e
  · split at e
    · rename_i ht
      simp only [ht]
      split at e
      · rename_i hfi
        simp only [hfi]
        split at e
        · rename_i hok; simp only [hok]; simp only [eR, hf] at e; obtain ⟨e', rfl⟩ := same_some e; exact eFad_ok e' hk
        · simp [eR] at e
      · simp [eR] at e
    · simp [eR] at e
  · simp only [eR, hf] at e; obtain ⟨e', rfl⟩ := same_some e; exact eNilF_ok e' hk
  · split at e
    · rename_i hok; simp only [hok]; simp only [eR, hf] at e; cases e; exact hk
    · simp [eR] at e
  · simp only [eR, hf] at e; obtain ⟨e', rfl⟩ := same_some e; exact eAsI_ok e' hk
  · split at e
    · rename_i hok; simp only [hok]; simp only [eR, hf] at e; obtain ⟨e', rfl⟩ := same_some e; exact eLoad_ok e' hk
    · simp [eR] at e
  · split at e
    · rename_i hok
      simp only [hok]
      simp only [eR, hf] at e
      split at e
      · rename_i es; cases e; exact eStore_ok es hk
      · cases e
    · simp [eR] at e
  · split at e
    · rename_i hz; simp only [hz]; simp only [eR, hf] at e; obtain ⟨h', e', rfl⟩ := turned_some e; exact eNew_ok e' hk
    · simp [eR] at e
  · simp only [eR, hf] at e; obtain ⟨h', e', rfl⟩ := turned_some e; exact eNew_ok e' hk
  · rename_i t parts
    split at e
    · rename_i fs z ht hz
      simp only [ht, hz]
      split at e
      · rename_i hok; simp only [hok]; have hp2 := hp parts.toList (fun i => ((fs[i]?).map (·.offset)).getD 0) (fun i => ((fs[i]?).map (fun f => P.cellsOf f.type)).getD 0); simp only [eR] at e; rw [hp2] at e; obtain ⟨e', rfl⟩ := same_some e; exact eBuild_ok e' hk
      · simp [eR] at e
    · rename_i n el z ht hz
      simp only [ht, hz]
      split at e
      · rename_i hok
        simp only [hok]
        have hp2 := hp parts.toList (fun i => i * P.cellsOf el) (fun _ => P.cellsOf el)
        simp only [eR] at e
        rw [hp2] at e
        obtain ⟨e', rfl⟩ := same_some e; exact eBuild_ok e' hk
      · simp [eR] at e
    · simp [eR] at e
  · rename_i t len parts
    split at e
    · rename_i el ht
      simp only [ht]
      split at e
      · rename_i hz hok
        simp only [hz, hok]
        have hp2 := hp parts.toList (fun i => i * P.cellsOf el) (fun _ => P.cellsOf el)
        cases own with
        | true =>
          simp only [eR] at e
          rw [hp2] at e
          obtain ⟨e', rfl⟩ := same_some e; exact eMkSlP_ok e' hk
        | false =>
          simp only [eR] at e
          rw [hp2] at e
          obtain ⟨h', e', rfl⟩ := turned_some e; exact eMkSl_ok e' hk
      · simp [eR] at e
    · simp [eR] at e
  · split at e
    · rename_i ht
      simp only [ht]
      split at e
      · rename_i hz hok
        simp only [hz, hok]
        simp only [eR, hf] at e
        obtain ⟨h', e', rfl⟩ := turned_some e; exact eMake_ok e' hk
      · simp [eR] at e
    · simp [eR] at e
  · simp only [eR, hl] at e; cases e; exact hk
  · rename_i c
    split at e
    · rename_i hcal
      simp only [hcal]
      split at e
      · rename_i hat hax
        simp only [hat, hax]
        split at e
        · rename_i ht; simp only [ht]; simp only [eR, hf] at e; obtain ⟨e', rfl⟩ := same_some e; exact eLenS_ok e' hk
        · rename_i ht; simp only [ht]; simp only [eR, hf] at e; obtain ⟨e', rfl⟩ := same_some e; exact eLen_ok e' hk
        · simp [eR] at e
      · simp [eR] at e
    · rename_i hcal
      simp only [hcal]
      split at e
      · rename_i hax; simp only [hax]; simp only [eR, hf] at e; obtain ⟨e', rfl⟩ := same_some e; exact eMin_ok e' hk
      · simp [eR] at e
    · rename_i hcal
      simp only [hcal]
      split at e
      · rename_i hax; simp only [hax]; simp only [eR, hf] at e; obtain ⟨e', rfl⟩ := same_some e; exact eMax_ok e' hk
      · rename_i hax
        simp only [hax]
        simp only [eR, hf] at e
        obtain ⟨e', rfl⟩ := same_some e
        split at e'
        · rename_i u hu; exact eMax_ok hu (eMax_ok e' hk)
        · cases e'
      · simp [eR] at e
    · rename_i hcal
      simp only [hcal]
      split at e
      · rename_i t tx x y hat hax
        simp only [hat, hax]
        split at e
        · rename_i el el2 ht htx
          simp only [ht, htx]
          split at e
          · rename_i hz
            simp only [hz]
            simp only [eR, hf] at e
            obtain ⟨h', e', rfl⟩ := turned_some e
            unfold iApp
            cases hs : srcE h (P.cellsOf el) (evalA fr y) with
            | none => rw [hs] at e'; simp [eAppTo] at e'
            | some rows => rw [hs] at e'; rw [srcE_eq hs]; exact eAppTo_ok e' hk
          · simp [eR] at e
        · rename_i ht htx
          simp only [ht, htx]
          split at e
          · rename_i hz
            simp only [hz]
            simp only [eR, hf] at e
            obtain ⟨h', e', rfl⟩ := turned_some e
            unfold iAppS
            exact eAppTo_ok e' hk
          · simp [eR] at e
        · simp [eR] at e
      · simp [eR] at e
    · rename_i hcal
      exact absurd ⟨_, _, rfl, hcal⟩ hcall
    · rename_i hcal
      exact absurd ⟨_, _, _, rfl, hcal⟩ hinv
    · simp [eR] at e
  · simp [eR] at e
theorem eR_sem {n : Nat} {o : Oper} (hc : CallOK P call) (hf : ∀ x, evR T (cO x) = evalA fr x) (e : eR call (cOp P own o.op) T h = some (v, oh)) (hk : K v (oh.getD h)) : SemS P n h o fr K := by
  rcases eR_ok hc hf e hk with q | q
  · exact SemS.of q
  · exact q n o rfl

/-- With maps. -/
noncomputable def cOp2 (P : Program) (own : Bool) (op : Op) : ROp :=
  match op with
  | .makeMap t r => (match r with
    | none => .mkMap none
    | some x => (match P.underlying t with | some (.map _ _) => .mkMap (some (cO x)) | _ => .bad))
  | .mapUpdate t m k x => (match P.underlying t with
    | some (.map kt _) => (match P.underlying kt with | some d => .mUpd d (cO m) (cO k) (cO x) | none => .bad)
    | _ => .bad)
  | .insert t m k x => (match P.underlying t with
    | some (.map kt _) => (match P.underlying kt with | some d => .mUpd d (cO m) (cO k) (cO x) | none => .bad)
    | _ => .bad)
  | .lookup t m k ok => (match P.underlying t with
    | some (.map kt et) => (match P.underlying kt, zeroA P et with | some d, some z => .look d ok z (cO m) (cO k) | _, _ => .bad)
    | _ => .bad)
  | .range t x => (match P.underlying t with | some (.map _ _) => .rng (cO x) | _ => .bad)
  | .entry x => .entry (cO x)
  | .call c => (match c.callee with
    | .builtin .delete => (match c.argTypes.toList, c.args.toList with
      | [t, _], [m, k] => (match P.underlying t with
        | some (.map kt _) => (match P.underlying kt with | some d => .mDel d (cO m) (cO k) | none => .bad)
        | _ => .bad)
      | _, _ => .bad)
    | .builtin .cap => (match c.argTypes[0]?, c.args[0]? with
      | some t, some x => (match P.underlying t with | some (.slice _) => .cap0 (cO x) | _ => .bad)
      | _, _ => .bad)
    | .builtin .copy => (match c.argTypes.toList, c.args.toList with
      | [t, _], [x, y] => (match P.underlying t with
        | some (.slice e) => (match tOk P e with | true => .copy (P.cellsOf e) (cO x) (cO y) | false => .bad)
        | _ => .bad)
      | _, _ => .bad)
    | .builtin .append => (match c.argTypes.toList, c.args.toList with
      | [t, tx], [x, y] => (match P.underlying t, P.underlying tx with
        | some (.slice e), some (.int _) => (match zeroA P e, zok P e && decide (0 < P.cellsOf e) with | some z, true => .appZ e (P.cellsOf e) (bytesA P e) z (cO x) (cO y) | _, _ => .bad)
        | some (.slice e), some (.slice _) => (match zok P e with | true => .appN own e (P.cellsOf e) (bytesA P e) (cO x) (cO y) | false => .bad)
        | _, _ => cOp P own (.call c))
      | _, _ => cOp P own (.call c))
    | _ => cOp P own (.call c))
  | .slice t x lo (some hi) (some mx) => (match P.underlying t with
    | some (.slice e) => (match tOk P e with | true => .sl3 (P.cellsOf e) (cO x) (lo.map cO) (cO hi) (cO mx) | false => .bad)
    | _ => .bad)
  | .binOp op t x y yt => (match P.underlying t, y with
    | some (.map _ _), .const (.map none) => (match op with | .eql => .isNilM false (cO x) | .neq => .isNilM true (cO x) | _ => .bad)
    | _, _ => cOp P own (.binOp op t x y yt))
  | op => cOp P own op
theorem eMkM_ok {n : Nat} {o : Oper} {t : TypeId} {r : Option Operand} (ho : o.op = .makeMap t r) (ht : r = none ∨ ∃ kt et, P.underlying t = some (.map kt et)) (e : eMkM (r.map (evalA fr)) h = some (v, oh)) (hk : K v (oh.getD h)) : SemS P n h o fr K := by
  intro fr' base ι S a w hs hr
  cases r with
  | none =>
    simp only [Option.map_none, eMkM, lenF_eq, appE_eq, Option.some.injEq, Prod.mk.injEq] at e
    obtain ⟨rfl, rfl⟩ := e
    exact s_mkMap hr ho (.inl rfl) hk
  | some x =>
    obtain ⟨kt, et, ht⟩ := ht.resolve_left (by simp)
    simp only [Option.map_some, eMkM] at e
    split at e
    · rename_i k i hx
      simp only [lenF_eq, appE_eq, Option.some.injEq, Prod.mk.injEq] at e
      obtain ⟨rfl, rfl⟩ := e
      refine s_mkMap hr ho (.inr ⟨x, kt, et, k, i, rfl, ht, ?_⟩) hk
      rw [← hx]; exact hs x (by rw [ho]; simp [Op.operands])
    · cases e
theorem eMUp_ok {n : Nat} {o : Oper} {t kt et : TypeId} {d : TypeDesc} {m k x : Operand} (ho : o.op = .mapUpdate t m k x ∨ o.op = .insert t m k x) (ht : P.underlying t = some (.map kt et)) (hd : P.underlying kt = some d)
    (e : eMUp d (evalA fr m) (evalA fr k) (evalA fr x) h = some (v, oh)) (hk : K v (oh.getD h)) : SemS P n h o fr K := by
  intro fr' base ι S a w hs hr
  have hm' : evalA fr' m = evalA fr m := hs m (by rcases ho with ho | ho <;> (rw [ho]; simp [Op.operands]))
  have hk' : evalA fr' k = evalA fr k := hs k (by rcases ho with ho | ho <;> (rw [ho]; simp [Op.operands]))
  have hx' : evalA fr' x = evalA fr x := hs x (by rcases ho with ho | ho <;> (rw [ho]; simp [Op.operands]))
  unfold eMUp at e
  split at e
  · rename_i id hm
    rw [getE_eq] at e
    split at e
    · rename_i c es he
      split at e
      · rename_i hka
        split at e
        · rename_i c' es' hu
          rw [setE_eq] at e
          simp only [Option.some.injEq, Prod.mk.injEq] at e
          obtain ⟨rfl, rfl⟩ := e
          exact s_mUpd (st := ⟨n, fr', h⟩) hr ho ht hd (by rw [hm', hm]) (by show keyAt d (evalA fr' k) = true; rw [hk']; exact hka) he (by show updE c (evalA fr' k) (evalA fr' x) es = _; rw [hk', hx']; exact hu) hk
        · cases e
      · cases e
    · cases e
  · cases e
theorem eMLk_ok {n : Nat} {o : Oper} {t kt et : TypeId} {d : TypeDesc} {ok : Bool} {z : AV} {m k : Operand} (ho : o.op = .lookup t m k ok) (ht : P.underlying t = some (.map kt et)) (hd : P.underlying kt = some d) (hz : zeroA P et = some z)
    (e : eMLk d ok z (evalA fr m) (evalA fr k) h = some (v, oh)) (hk : K v (oh.getD h)) : SemS P n h o fr K := by
  intro fr' base ι S a w hs hr
  have hm' : evalA fr' m = evalA fr m := hs m (by rw [ho]; simp [Op.operands])
  have hk' : evalA fr' k = evalA fr k := hs k (by rw [ho]; simp [Op.operands])
  unfold eMLk at e
  split at e
  · cases e
  · rename_i hka
    have hka' : keyAt d (evalA (⟨n, fr', h⟩ : St).fr k) = true := by show keyAt d (evalA fr' k) = true; rw [hk']; exact hka
    split at e
    · rename_i hm
      simp only [Option.some.injEq, Prod.mk.injEq] at e
      obtain ⟨rfl, rfl⟩ := e
      exact s_look (st := ⟨n, fr', h⟩) hr ho ht hd hz hka' (.inl ⟨by rw [hm', hm], rfl⟩) hk
    · rename_i id hm
      rw [getE_eq] at e
      split at e
      · rename_i c es he
        split at e
        · rename_i q hq
          simp only [Option.some.injEq, Prod.mk.injEq] at e
          obtain ⟨rfl, rfl⟩ := e
          exact s_look (st := ⟨n, fr', h⟩) hr ho ht hd hz hka' (.inr ⟨id, _, es, by rw [hm', hm], he, by show lookE (evalA fr' k) es = _; rw [hk']; exact hq⟩) hk
        · cases e
      · cases e
    · cases e
theorem eMDl_ok {n : Nat} {o : Oper} {c : Call} {t t2 kt et : TypeId} {d : TypeDesc} {m k : Operand} (ho : o.op = .call c) (hc : c.callee = .builtin .delete) (hat : c.argTypes.toList = [t, t2]) (hax : c.args.toList = [m, k]) (ht : P.underlying t = some (.map kt et)) (hd : P.underlying kt = some d)
    (e : eMDl d (evalA fr m) (evalA fr k) h = some (v, oh)) (hk : K v (oh.getD h)) : SemS P n h o fr K := by
  intro fr' base ι S a w hs hr
  have mem : ∀ y ∈ [m, k], evalA fr' y = evalA fr y := fun y hy => hs y (by rw [ho]; simp only [Op.operands, Call.operands]; exact Array.mem_append_right _ (by rw [← hax] at hy; simpa using hy))
  have hm' : evalA fr' m = evalA fr m := mem m (by simp)
  have hk' : evalA fr' k = evalA fr k := mem k (by simp)
  unfold eMDl at e
  split at e
  · rename_i id hm
    rw [getE_eq] at e
    split at e
    · rename_i cl es he
      split at e
      · rename_i hka
        split at e
        · rename_i es' hu
          rw [setE_eq] at e
          simp only [Option.some.injEq, Prod.mk.injEq] at e
          obtain ⟨rfl, rfl⟩ := e
          exact s_mDel (st := ⟨n, fr', h⟩) hr ho hc hat hax ht hd (by rw [hm', hm]) (by show keyAt d (evalA fr' k) = true; rw [hk']; exact hka) he (by show delE (evalA fr' k) es = _; rw [hk']; exact hu) hk
        · cases e
      · cases e
    · cases e
  · cases e
theorem eRng_ok {n : Nat} {o : Oper} {t kt et : TypeId} {x : Operand} (ho : o.op = .range t x) (ht : P.underlying t = some (.map kt et)) (e : eRng (evalA fr x) h = some (v, oh)) (hk : K v (oh.getD h)) : SemS P n h o fr K := by
  intro fr' base ι S a w hs hr
  have hx' : evalA fr' x = evalA fr x := hs x (by rw [ho]; simp [Op.operands])
  unfold eRng at e
  split at e
  · rename_i id hm
    rw [getE_eq] at e
    split at e
    · rename_i c es he
      simp only [lenF_eq, appE_eq, Option.some.injEq, Prod.mk.injEq] at e
      obtain ⟨rfl, rfl⟩ := e
      exact s_rng (st := ⟨n, fr', h⟩) hr ho ht (by rw [hx', hm]) he hk
    · cases e
  · cases e
theorem eEnt_ok {n : Nat} {o : Oper} {x : Operand} (ho : o.op = .entry x) (e : eEnt (evalA fr x) h = some (v, oh)) (hk : K v (oh.getD h)) : SemS P n h o fr K := by
  intro fr' base ι S a w hs hr
  have hx' : evalA fr' x = evalA fr x := hs x (by rw [ho]; simp [Op.operands])
  unfold eEnt at e
  split at e
  · rename_i id hm
    rw [getE_eq] at e
    split at e
    · rename_i m s sn l hi
      rw [getE_eq] at e
      split at e
      · rename_i c es he
        split at e
        · rename_i b hcl hl
          split at e
          · rename_i k v' hb
            simp only [Option.some.injEq, Prod.mk.injEq] at e
            obtain ⟨rfl, rfl⟩ := e
            exact s_entry (st := ⟨n, fr', h⟩) hr ho (by rw [hx', hm]) hi he (Nat.eq_of_beq_eq_true hcl) hl hb hk
          · cases e
        · cases e
      · cases e
    · cases e
  · cases e
theorem eNlM_ok {n : Nat} {o : Oper} {neg : Bool} {t yt kt et : TypeId} {x : Operand} (ho : o.op = .binOp (if neg then .neq else .eql) t x (.const (.map none)) yt) (ht : P.underlying t = some (.map kt et)) (e : eNlM neg (evalA fr x) = some (v, oh)) (hk : K v (oh.getD h)) : SemS P n h o fr K := by
  intro fr' base ι S a w hs hr
  have hx' : evalA fr' x = evalA fr x := hs x (by rw [ho]; simp [Op.operands])
  unfold eNlM at e
  split at e
  · rename_i hm
    simp only [Option.some.injEq, Prod.mk.injEq] at e
    obtain ⟨rfl, rfl⟩ := e
    exact s_nilM (st := ⟨n, fr', h⟩) (b := true) hr ho ht (.inl ⟨by rw [hx', hm], rfl⟩) hk
  · rename_i id hm
    simp only [Option.some.injEq, Prod.mk.injEq] at e
    obtain ⟨rfl, rfl⟩ := e
    exact s_nilM (st := ⟨n, fr', h⟩) (b := false) hr ho ht (.inr ⟨id, by rw [hx', hm], rfl⟩) hk
  · cases e
theorem eSl3_ok {m : Nat} {o : Oper} {t e : TypeId} {x hi mx : Operand} {lo : Option Operand} (ho : o.op = .slice t x lo (some hi) (some mx)) (ht : P.underlying t = some (.slice e)) (hk2 : tOk P e = true)
    (e1 : eSl3 (P.cellsOf e) (evalA fr x) (lo.map (evalA fr)) (evalA fr hi) (evalA fr mx) = some (v, oh)) (hk : K v (oh.getD h)) : SemS P m h o fr K := by
  intro fr' base ι S a w hs hr
  have hx' : evalA fr' x = evalA fr x := hs x (by rw [ho]; simp [Op.operands])
  have hh' : evalA fr' hi = evalA fr hi := hs hi (by rw [ho]; simp [Op.operands])
  have hm' : evalA fr' mx = evalA fr mx := hs mx (by rw [ho]; simp [Op.operands])
  have hl' : lo.map (evalA fr') = lo.map (evalA fr) := by
    cases lo with
    | none => rfl
    | some y => simp only [Option.map_some]; rw [hs y (by rw [ho]; simp [Op.operands])]
  unfold eSl3 at e1
  split at e1
  · rename_i p kh q km mm h1 h2 h3
    have h1 := eLo_some h1
    split at e1
    · rename_i g1 g2
      have g1 := Nat.le_of_ble_eq_true g1
      have g2 := Nat.le_of_ble_eq_true g2
      split at e1
      · rename_i sz rows hu
        split at e1
        · simp only [Option.some.injEq, Prod.mk.injEq] at e1
          obtain ⟨rfl, rfl⟩ := e1
          have q0 : q = 0 := by omega
          have p0 : p = 0 := by omega
          subst q0; subst p0
          exact s_sl30 (st := ⟨m, fr', h⟩) hr ho ht hk2 (.inr ⟨sz, rows, by rw [hx', hu]⟩) (by rw [hl']; exact h1) (by rw [hh', h2]; rfl) (by rw [hm', h3]; rfl) hk
        · rename_i m' _
          split at e1
          · rename_i g3 g4
            simp only [Option.some.injEq, Prod.mk.injEq] at e1
            obtain ⟨rfl, rfl⟩ := e1
            have g4 := Nat.le_of_ble_eq_true g4
            rw [lenF_eq] at g4
            rw [dropE_eq, takeE_eq] at hk
            exact s_sl3 (st := ⟨m, fr', h⟩) (p := (p : Int)) (q := (q : Int)) (m := ((m' + 1 : Nat) : Int)) hr ho ht hk2 (by rw [hx', hu]) (by rw [hl']; exact h1) (by rw [hh', h2]; rfl) (by rw [hm', h3]; rfl) (Nat.eq_of_beq_eq_true g3) (by omega) (by omega) (by omega) (by omega) (by simpa using hk)
          · cases e1
      · rename_i hu
        split at e1
        · simp only [Option.some.injEq, Prod.mk.injEq] at e1
          obtain ⟨rfl, rfl⟩ := e1
          have q0 : q = 0 := by omega
          have p0 : p = 0 := by omega
          subst q0; subst p0
          exact s_sl30 (st := ⟨m, fr', h⟩) hr ho ht hk2 (.inl (by rw [hx', hu])) (by rw [hl']; exact h1) (by rw [hh', h2]; rfl) (by rw [hm', h3]; rfl) hk
        · cases e1
      · cases e1
    · cases e1
  · cases e1
omit [Laid] in
theorem eSl3_none {n : Nat} {x hi mx : AV} {lo : Option AV} {v : AV} {oh : Option Heap} (e : eSl3 n x lo hi mx = some (v, oh)) : oh = none := by
  unfold eSl3 at e
  split at e
  · split at e
    · split at e
      · split at e
        · cases e; rfl
        · split at e
          · cases e; rfl
          · cases e
      · split at e
        · cases e; rfl
        · cases e
      · cases e
    · cases e
  · cases e
theorem eCap0_ok {n : Nat} {o : Oper} {c : Call} {t e : TypeId} {x : Operand} (ho : o.op = .call c) (hc : c.callee = .builtin .cap) (hat : c.argTypes[0]? = some t) (hax : c.args[0]? = some x) (ht : P.underlying t = some (.slice e)) (e1 : eCap0 (evalA fr x) = some (v, oh)) (hk : K v (oh.getD h)) : SemS P n h o fr K := by
  intro fr' base ι S a w hs hr
  have hx' : evalA fr' x = evalA fr x := hs x (by rw [ho]; simp only [Op.operands, Call.operands]; exact Array.mem_append_right _ (Array.mem_of_getElem? hax))
  unfold eCap0 at e1
  split at e1
  · rename_i l k hx
    simp only [Option.some.injEq, Prod.mk.injEq] at e1
    obtain ⟨rfl, rfl⟩ := e1
    exact s_cap0 (st := ⟨n, fr', h⟩) hr ho hc hat hax ht (by rw [hx', hx]) hk
  · cases e1
theorem eAppZ_ok {n : Nat} {o : Oper} {c : Call} {t tx e : TypeId} {x y : Operand} {z : AV} {q : IntKind} (ho : o.op = .call c) (hc : c.callee = .builtin .append) (hat : c.argTypes.toList = [t, tx]) (hax : c.args.toList = [x, y]) (ht : P.underlying t = some (.slice e)) (htx : P.underlying tx = some (.int q))
    (hz : zeroA P e = some z) (hok : (zok P e && decide (0 < P.cellsOf e)) = true) (e1 : eAppZ e (P.cellsOf e) (bytesA P e) z (evalA fr x) (evalA fr y) h = some (v, oh)) (hk : K v (oh.getD h)) : SemS P n h o fr K := by
  intro fr' base ι S a w hs hr
  simp only [Bool.and_eq_true, decide_eq_true_eq] at hok
  have mem : ∀ y' ∈ [x, y], evalA fr' y' = evalA fr y' := fun y' hy => hs y' (by rw [ho]; simp only [Op.operands, Call.operands]; exact Array.mem_append_right _ (by rw [← hax] at hy; simpa using hy))
  have hx' : evalA fr' x = evalA fr x := mem x (by simp)
  have hy' : evalA fr' y = evalA fr y := mem y (by simp)
  unfold eAppZ at e1
  split at e1
  · rename_i k i hx hy
    split at e1
    · rename_i g1 g2
      simp only [lenF_eq, appE_eq, Option.some.injEq, Prod.mk.injEq] at e1
      obtain ⟨rfl, rfl⟩ := e1
      unfold roomE at g2
      split at g2
      · rename_i g3 g4
        exact s_appZ (st := ⟨n, fr', h⟩) hr ho hc hat hax ht htx hz hok.1 hok.2 (by rw [hx', hx]) (by rw [hy', hy]; rfl) (Nat.le_of_ble_eq_true g1) (Nat.le_of_ble_eq_true g3) (Nat.le_of_ble_eq_true g4) hk
      · cases g2
    · cases e1
  · cases e1
theorem eCopy_ok {n : Nat} {o : Oper} {c : Call} {t tx e : TypeId} {x y : Operand} (ho : o.op = .call c) (hc : c.callee = .builtin .copy) (hat : c.argTypes.toList = [t, tx]) (hax : c.args.toList = [x, y]) (ht : P.underlying t = some (.slice e)) (hk2 : tOk P e = true)
    (e1 : eCopy (P.cellsOf e) (evalA fr x) (evalA fr y) h = some (v, oh)) (hk : K v (oh.getD h)) : SemS P n h o fr K := by
  intro fr' base ι S a w hs hr
  have mem : ∀ y' ∈ [x, y], evalA fr' y' = evalA fr y' := fun y' hy => hs y' (by rw [ho]; simp only [Op.operands, Call.operands]; exact Array.mem_append_right _ (by rw [← hax] at hy; simpa using hy))
  have hx' : evalA fr' x = evalA fr x := mem x (by simp)
  have hy' : evalA fr' y = evalA fr y := mem y (by simp)
  unfold eCopy at e1
  split at e1
  · rename_i id off len sz' rows hx hsrc
    have hsrc := srcE_eq hsrc
    rw [getE_eq] at e1
    split at e1
    · rename_i b hb
      split at e1
      · rename_i g1 g2 g3 g4 g5
        have g1 := Nat.eq_of_beq_eq_true g1
        subst g1
        have g4 := (hasN_iff _ _).1 g4
        have g5' : rows.all (rowOK (P.cellsOf e)) = true := by
          rw [allE_eq] at g5
          rw [← g5]; congr 1; funext r; exact (rowE_eq _ _).symm
        split at e1
        · rename_i g6
          have g6 := Nat.le_of_ble_eq_true g6
          rw [lenF_eq] at g6
          simp only [setE_eq, splE_eq, flatE_eq, lenF_eq, Option.some.injEq, Prod.mk.injEq] at e1
          obtain ⟨rfl, rfl⟩ := e1
          exact s_copy (st := ⟨n, fr', h⟩) (n := rows.length) hr ho hc hat hax ht hk2 (by rw [hx', hx]) (Nat.le_of_ble_eq_true g2) hb g3 g4 (by show srcR h _ (evalA fr' y) = _; rw [hy']; exact hsrc) g5' (Nat.min_eq_left g6).symm (by rw [List.take_of_length_le (Nat.le_refl _)]; exact hk)
        · rename_i g6
          have g6 : len ≤ rows.length := by
            have : ¬ rows.length ≤ len := fun q => by rw [lenF_eq, ← Nat.ble_eq] at *; rw [q] at g6; cases g6
            omega
          simp only [setE_eq, splE_eq, flatE_eq, takeE_eq, Option.some.injEq, Prod.mk.injEq] at e1
          obtain ⟨rfl, rfl⟩ := e1
          exact s_copy (st := ⟨n, fr', h⟩) (n := len) hr ho hc hat hax ht hk2 (by rw [hx', hx]) (Nat.le_of_ble_eq_true g2) hb g3 g4 (by show srcR h _ (evalA fr' y) = _; rw [hy']; exact hsrc) g5' (Nat.min_eq_right g6).symm hk
      · cases e1
    · cases e1
  · cases e1
omit [Laid] in
theorem eR_bad {v : AV} {oh : Option Heap} (e : eR call .bad T h = some (v, oh)) : False := by simp [eR] at e
theorem eR_sem2 {n : Nat} {o : Oper} (hc : CallOK P call) (hf : ∀ x, evR T (cO x) = evalA fr x) (e : eR call (cOp2 P own o.op) T h = some (v, oh)) (hk : K v (oh.getD h)) : SemS P n h o fr K := by
  have ho' : ∀ r : Option Operand, (r.map cO).map (evR T) = r.map (evalA fr) := fun r => by cases r <;> simp [hf]
  generalize hop : o.op = op at e
  have dflt : eR call (cOp P own op) T h = some (v, oh) → SemS P n h o fr K := fun e => eR_sem (own := own) hc hf (by rw [hop]; exact e) hk
  unfold cOp2 at e
  split at e
  · rename_i t r
    split at e
    · simp only [eR, Option.map_none] at e
      exact eMkM_ok hop (.inl rfl) e hk
    · rename_i x
      split at e
      · rename_i kt et ht
        simp only [eR, Option.map_some, hf] at e
        exact eMkM_ok hop (.inr ⟨_, _, ht⟩) e hk
      · exact (eR_bad e).elim
  · split at e
    · rename_i ht
      split at e
      · rename_i hd
        simp only [eR, hf] at e
        exact eMUp_ok (.inl hop) ht hd e hk
      · exact (eR_bad e).elim
    · exact (eR_bad e).elim
  · split at e
    · rename_i ht
      split at e
      · rename_i hd
        simp only [eR, hf] at e
        exact eMUp_ok (.inr hop) ht hd e hk
      · exact (eR_bad e).elim
    · exact (eR_bad e).elim
  · split at e
    · rename_i ht
      split at e
      · rename_i hd hz
        simp only [eR, hf] at e
        exact eMLk_ok hop ht hd hz e hk
      · exact (eR_bad e).elim
    · exact (eR_bad e).elim
  · split at e
    · rename_i ht
      simp only [eR, hf] at e
      exact eRng_ok hop ht e hk
    · exact (eR_bad e).elim
  · simp only [eR, hf] at e
    exact eEnt_ok hop e hk
  · rename_i c
    split at e
    · rename_i hcal
      split at e
      · rename_i hat hax
        split at e
        · rename_i ht
          split at e
          · rename_i hd
            simp only [eR, hf] at e
            exact eMDl_ok hop hcal hat hax ht hd e hk
          · exact (eR_bad e).elim
        · exact (eR_bad e).elim
      · exact (eR_bad e).elim
    · rename_i hcal
      split at e
      · rename_i hat hax
        split at e
        · rename_i ht
          simp only [eR, hf] at e
          exact eCap0_ok hop hcal hat hax ht e hk
        · exact (eR_bad e).elim
      · exact (eR_bad e).elim
    · rename_i hcal
      split at e
      · rename_i hat hax
        split at e
        · rename_i ht
          split at e
          · rename_i hok
            simp only [eR, hf] at e
            exact eCopy_ok hop hcal hat hax ht hok e hk
          · exact (eR_bad e).elim
        · exact (eR_bad e).elim
      · exact (eR_bad e).elim
    · rename_i hcal
      split at e
      · rename_i t tx x y hat hax
        split at e
        · rename_i ht htx
          split at e
          · rename_i hz hok
            simp only [eR, hf] at e
            exact eAppZ_ok hop hcal hat hax ht htx hz hok e hk
          · exact (eR_bad e).elim
        · rename_i el el2 ht htx
          split at e
          · rename_i hz
            simp only [eR, hf] at e
            have nothing : ∀ {sz' : Nat}, srcE h sz' (evalA fr y) = some [] → ((∃ i j k l, evalA fr x = .own i j k l) ∨ nle (evalA fr x) = .emp) → K (evalA fr x) h → SemS P n h o fr K := by
              intro sz' hsrc hx hk
              intro fr' base ι S a w hs hr
              have mem : ∀ y' ∈ [x, y], evalA fr' y' = evalA fr y' := fun y' hy => hs y' (by rw [hop]; simp only [Op.operands, Call.operands]; exact Array.mem_append_right _ (by rw [← hax] at hy; simpa using hy))
              have hx' : evalA fr' x = evalA fr x := mem x (by simp)
              have hy' : evalA fr' y = evalA fr y := mem y (by simp)
              exact s_app0 (st := ⟨n, fr', h⟩) (sz' := sz') hr hop hcal hat hax ht htx hz (by rw [hx']; exact hx) (by show srcR h _ (evalA fr' y) = _; rw [hy']; exact srcE_eq hsrc) (by show K (evalA fr' x) h; rw [hx']; exact hk)
            have other : ∀ src, src = srcE h (P.cellsOf el) (evalA fr y) → turned (eAppTo own el (P.cellsOf el) (bytesA P el) (evalA fr x) src h) = some (v, oh) → SemS P n h o fr K := by
              rintro src rfl e
              refine dflt ?_
              simp only [cOp, hcal, hat, hax, ht, htx, hz, eR, hf]
              exact e
            unfold eAppN at e
            split at e
            · rename_i hsrc
              split at e
              · rename_i i j k l hx
                simp only [Option.some.injEq, Prod.mk.injEq] at e
                obtain ⟨rfl, rfl⟩ := e
                exact nothing hsrc (.inl ⟨_, _, _, _, hx⟩) (by rw [hx]; exact hk)
              · split at e
                · rename_i hx
                  simp only [Option.some.injEq, Prod.mk.injEq] at e
                  obtain ⟨rfl, rfl⟩ := e
                  exact nothing hsrc (.inr hx) hk
                · exact other _ hsrc.symm e
            · exact other _ rfl e
          · exact (eR_bad e).elim
        · exact dflt e
      · exact dflt e
    · exact dflt e
  · split at e
    · rename_i ht
      split at e
      · rename_i hok
        simp only [eR, hf, ho'] at e
        exact eSl3_ok hop ht hok e hk
      · exact (eR_bad e).elim
    · exact (eR_bad e).elim
  · rename_i bop t x y yt
    split at e
    · rename_i ht
      split at e
      · simp only [eR, hf] at e
        exact eNlM_ok (neg := false) hop ht e hk
      · simp only [eR, hf] at e
        exact eNlM_ok (neg := true) hop ht e hk
      · exact (eR_bad e).elim
    · exact dflt e
  · exact dflt e
end
end Go.Aw
end
