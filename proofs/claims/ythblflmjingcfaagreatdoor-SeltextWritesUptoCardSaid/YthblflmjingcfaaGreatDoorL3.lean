/-
  Operations at known values: what each comes to, in a form that the kernel computes; and that the words of '..Ops' hold of it. Operations that turn memory, at known values; each operation of the model as one of these. Each operation of the model as one that the kernel computes; and what it leaves.
  No conditions.
-/
import Derived.Test.YthblflmjingcfaaGreatDoorOpen
import Derived.Test.YthblflmjingcfaaGreatDoorL2
import Derived.Laws.Externs
import Derived.WideLaws
set_option linter.unusedVariables false
set_option linter.unusedSimpArgs false
section
namespace Go.Aw
open Go Go.RowKit
variable [Laid]

/-! ### Lists -/
section
variable {α : Type}
noncomputable def tailE (l : List α) : List α := List.rec (motive := fun _ => List α) [] (fun _ t _ => t) l
noncomputable def headE (l : List α) : Option α := List.rec (motive := fun _ => Option α) none (fun x _ _ => some x) l
noncomputable def dropC (n : Nat) (l : List α) : List α := Nat.rec (motive := fun _ => List α) l (fun _ ih => tailE ih) n
noncomputable def seenE (l : List α) (k : List α → List α) : List α := List.rec (motive := fun _ => List α) (k []) (fun x t _ => k (x :: t)) l
/-- By leaps of 32; what is left is found again from place to place. -/
noncomputable def dropE (n : Nat) (l : List α) : List α := Nat.rec (motive := fun _ => List α → List α) (fun l => dropC (Nat.mod n 32) l) (fun _ ih l => seenE (dropC 32 l) ih) (Nat.div n 32) l
noncomputable def getE (l : List α) (n : Nat) : Option α := headE (dropE n l)
noncomputable def appE (l r : List α) : List α := List.rec (motive := fun _ => List α) r (fun x _ ih => x :: ih) l
noncomputable def mapE {β : Type} (f : α → β) (l : List α) : List β := List.rec (motive := fun _ => List β) [] (fun x _ ih => f x :: ih) l
noncomputable def flatE (l : List (List α)) : List α := List.rec (motive := fun _ => List α) [] (fun x _ ih => appE x ih) l
noncomputable def takeE (n : Nat) : List α → List α := Nat.rec (motive := fun _ => List α → List α) (fun _ => []) (fun _ ih l => List.rec (motive := fun _ => List α) [] (fun x t _ => x :: ih t) l) n
noncomputable def setE (l : List α) : Nat → α → List α := List.rec (motive := fun _ => Nat → α → List α) (fun _ _ => []) (fun x t ih n y => Nat.rec (motive := fun _ => List α) (y :: t) (fun m _ => x :: ih m y) n) l
noncomputable def hasN (n : Nat) : List α → Bool := Nat.rec (motive := fun _ => List α → Bool) (fun _ => true) (fun _ ih l => List.rec (motive := fun _ => Bool) false (fun _ t _ => ih t) l) n
noncomputable def lenG (l : List α) : Nat → Nat := List.rec (motive := fun _ => Nat → Nat) (fun a => a) (fun _ _ ih a => Nat.rec (motive := fun _ => Nat) (ih 1) (fun m _ => ih (Nat.succ (Nat.succ m))) a) l
noncomputable def lenF (l : List α) : Nat := lenG l 0
noncomputable def allE (p : α → Bool) (l : List α) : Bool := List.rec (motive := fun _ => Bool) true (fun x _ ih => Bool.rec (motive := fun _ => Bool) false ih (p x)) l
omit [Laid]
theorem tailE_eq (l : List α) : tailE l = l.tail := by cases l <;> rfl
theorem dropC_eq (n : Nat) (l : List α) : dropC n l = l.drop n := by
  induction n with
  | zero => rfl
  | succ n ih => show tailE (dropC n l) = _; rw [tailE_eq, ih, List.tail_drop]
theorem seenE_eq (l : List α) (k : List α → List α) : seenE l k = k l := by cases l <;> rfl
theorem dropE_eq (n : Nat) (l : List α) : dropE n l = l.drop n := by
  have key : ∀ q (l : List α), (Nat.rec (motive := fun _ => List α → List α) (fun l => dropC (Nat.mod n 32) l) (fun _ ih l => seenE (dropC 32 l) ih) q : List α → List α) l = l.drop (32 * q + n % 32) := by
    intro q
    induction q with
    | zero => intro l; show dropC _ l = _; rw [dropC_eq, Nat.mul_zero, Nat.zero_add]; rfl
    | succ q ih =>
      intro l
      show seenE (dropC 32 l) _ = _
      rw [seenE_eq, ih, dropC_eq, List.drop_drop]
      congr 1; omega
  have := key (n / 32) l
  rw [Nat.div_add_mod] at this
  exact this
theorem getE_eq (l : List α) (n : Nat) : getE l n = l[n]? := by
  rw [getE, dropE_eq, ← List.head?_drop]
  cases l.drop n <;> rfl
theorem appE_eq (l r : List α) : appE l r = l ++ r := by
  induction l with
  | nil => rfl
  | cons x l ih => show x :: appE l r = _; rw [ih]; rfl
theorem mapE_eq {β : Type} (f : α → β) (l : List α) : mapE f l = l.map f := by
  induction l with
  | nil => rfl
  | cons x l ih => show f x :: mapE f l = _; rw [ih]; rfl
theorem flatE_eq (l : List (List α)) : flatE l = l.flatten := by
  induction l with
  | nil => rfl
  | cons x l ih => show appE x (flatE l) = _; rw [ih, appE_eq]; rfl
theorem takeE_eq (n : Nat) : ∀ l : List α, takeE n l = l.take n := by
  induction n with
  | zero => intro l; rfl
  | succ n ih => intro l; cases l with | nil => rfl | cons x l => show x :: takeE n l = _; rw [ih]; rfl
theorem setE_eq (l : List α) : ∀ n y, setE l n y = l.set n y := by
  induction l with
  | nil => intro n y; rfl
  | cons x l ih => intro n y; cases n with | zero => rfl | succ n => show x :: setE l n y = _; rw [ih]; rfl
theorem hasN_iff (n : Nat) : ∀ l : List α, hasN n l = true ↔ n ≤ l.length := by
  induction n with
  | zero => intro l; show true = true ↔ _; simp
  | succ n ih => intro l; cases l with | nil => simp [hasN] | cons x l => rw [show hasN (n + 1) (x :: l) = hasN n l from rfl, ih]; simp
theorem lenG_eq (l : List α) : ∀ a, lenG l a = a + l.length := by
  induction l with
  | nil => intro a; rfl
  | cons x l ih =>
    intro a
    cases a with
    | zero => rw [show lenG (x :: l) 0 = lenG l 1 from rfl, ih]; simp; omega
    | succ m => rw [show lenG (x :: l) (m + 1) = lenG l (m + 2) from rfl, ih]; simp; omega
theorem lenF_eq (l : List α) : lenF l = l.length := by rw [lenF, lenG_eq]; omega
theorem allE_eq (p : α → Bool) (l : List α) : allE p l = l.all p := by
  induction l with
  | nil => rfl
  | cons x l ih =>
    rw [List.all_cons, ← ih]
    show Bool.casesOn (motive := fun _ => Bool) (p x) false (allE p l) = _
    cases p x <;> rfl
theorem getE_some {l : List α} {n : Nat} {x : α} (h : getE l n = some x) : n < l.length ∧ l[n]? = some x := by
  rw [getE_eq] at h; exact ⟨(List.getElem?_eq_some_iff.1 h).1, h⟩
end

/-! ### Numbers -/
def inIb (n : Int) : Bool := match n with | .ofNat m => Nat.ble m 9223372036854775807 | .negSucc m => Nat.ble m 9223372036854775807
def ltI : Int → Int → Bool
  | .ofNat a, .ofNat b => Nat.ble (Nat.succ a) b
  | .negSucc _, .ofNat _ => true
  | .ofNat _, .negSucc _ => false
  | .negSucc a, .negSucc b => Nat.ble (Nat.succ b) a
def eqI : Int → Int → Bool
  | .ofNat a, .ofNat b => Nat.beq a b
  | .negSucc a, .negSucc b => Nat.beq a b
  | _, _ => false
def kN : IntKind → Nat | .i8 => 0 | .i16 => 1 | .i32 => 2 | .i64 => 3 | .u8 => 4 | .u16 => 5 | .u32 => 6 | .u64 => 7
def kEq (a b : IntKind) : Bool := Nat.beq (kN a) (kN b)
def topU : IntKind → Nat | .i8 => 127 | .i16 => 32767 | .i32 => 2147483647 | .i64 => 9223372036854775807 | .u8 => 255 | .u16 => 65535 | .u32 => 4294967295 | .u64 => 18446744073709551615
def sgn : IntKind → Bool | .i8 | .i16 | .i32 | .i64 => true | _ => false
/-- It needs no wrapping. -/
def fitsK (k : IntKind) (n : Int) : Bool := match n with | .ofNat m => Nat.ble m (topU k) | .negSucc m => match sgn k with | true => Nat.ble m (topU k) | false => false
def wrapE (k : IntKind) (n : Int) : Int := match fitsK k n with | true => n | false => k.wrap n
section
omit [Laid]
theorem ltI_eq (a b : Int) : ltI a b = decide (a < b) := by
  cases a <;> cases b <;> simp only [ltI]
  · rw [Bool.eq_iff_iff]; simp [Nat.ble_eq]; omega
  · simp; omega
  · simp; omega
  · rw [Bool.eq_iff_iff]; simp [Nat.ble_eq]; omega
theorem eqI_eq (a b : Int) : eqI a b = decide (a = b) := by
  cases a <;> cases b <;> simp only [eqI]
  · rw [Bool.eq_iff_iff]; simp only [Nat.beq_eq, decide_eq_true_eq, Int.ofNat_eq_natCast]; omega
  · simp
  · simp
  · rw [Bool.eq_iff_iff]; simp [Nat.beq_eq]
theorem inIb_iff {n : Int} (h : inIb n = true) : inI n := by
  unfold inI
  cases n with
  | ofNat m => simp only [inIb, Nat.ble_eq] at h; simp only [Int.ofNat_eq_natCast]; omega
  | negSucc m => simp only [inIb, Nat.ble_eq] at h; omega
theorem kEq_eq {a b : IntKind} (h : kEq a b = true) : a = b := by
  revert h; cases a <;> cases b <;> first | (intro _; rfl) | (intro h; cases h)
theorem fitsK_wrap {k : IntKind} {n : Int} (h : fitsK k n = true) : k.wrap n = n := by
  cases k <;> cases n <;> simp only [fitsK, topU, sgn, Nat.ble_eq, Bool.false_eq_true] at h <;> simp only [IntKind.wrap, IntKind.bits, IntKind.signed] <;> simp <;> omega
theorem wrapE_eq (k : IntKind) (n : Int) : wrapE k n = k.wrap n := by
  unfold wrapE
  split
  · rename_i h; exact (fitsK_wrap h).symm
  · rfl
end

def eWr (k : IntKind) (n : Int) : Option AV :=
  match k with
  | .i64 => (match inIb n with | true => some (.v (.int .i64 n)) | false => none)
  | k => some (.v (.int k (wrapE k n)))
def isZI : Int → Bool | .ofNat 0 => true | _ => false
def eInt (op : BinOp) (k : IntKind) (a b : Int) : Option AV :=
  match op with
  | .add => eWr k (a + b)
  | .sub => eWr k (a - b)
  | .mul => eWr k (a * b)
  | .quo => (match isZI b with | false => some (.v (.int k (wrapE k (a.tdiv b)))) | true => none)
  | .rem => (match isZI b with | false => some (.v (.int k (a.tmod b))) | true => none)
  | .and => some (.v (.int k (ibits .and k a b)))
  | .or => some (.v (.int k (ibits .or k a b)))
  | .xor => some (.v (.int k (ibits .xor k a b)))
  | .andNot => some (.v (.int k (ibits .andNot k a b)))
  | .eql => some (bool (eqI a b))
  | .neq => some (bool (!eqI a b))
  | .lss => some (bool (ltI a b))
  | .leq => some (bool (!ltI b a))
  | .gtr => some (bool (ltI b a))
  | .geq => some (bool (!ltI a b))
  | _ => none
noncomputable def eqL (a : List UInt8) : List UInt8 → Bool := List.rec (motive := fun _ => List UInt8 → Bool) (fun b => List.rec (motive := fun _ => Bool) true (fun _ _ _ => false) b) (fun x _ ih b => List.casesOn (motive := fun _ => Bool) b false (fun y t => Bool.casesOn (motive := fun _ => Bool) (Nat.beq x.toNat y.toNat) false (ih t))) a
noncomputable def ltL (a : List UInt8) : List UInt8 → Bool := List.rec (motive := fun _ => List UInt8 → Bool) (fun b => List.rec (motive := fun _ => Bool) false (fun _ _ _ => true) b) (fun x _ ih b => List.casesOn (motive := fun _ => Bool) b false (fun y t => Bool.casesOn (motive := fun _ => Bool) (Nat.beq x.toNat y.toNat) (Nat.ble (Nat.succ x.toNat) y.toNat) (ih t))) a
section
omit [Laid]
theorem u8_beq (x y : UInt8) : Nat.beq x.toNat y.toNat = decide (x = y) := by
  rw [Bool.eq_iff_iff]; simp [Nat.beq_eq, UInt8.toNat_inj]
theorem eqL_eq (a : List UInt8) : ∀ b, eqL a b = decide (a = b) := by
  induction a with
  | nil => intro b; cases b <;> simp [eqL]
  | cons x a ih =>
    intro b
    cases b with
    | nil => simp [eqL]
    | cons y b =>
      show Bool.casesOn (motive := fun _ => Bool) (Nat.beq x.toNat y.toNat) false (eqL a b) = _
      rw [u8_beq, ih]
      by_cases h : x = y <;> simp [h]
end
def bytesOp (op : BinOp) : Bool := match op with | .add | .eql | .neq => true | _ => false
noncomputable def eStr (op : BinOp) (a b : List UInt8) : Option AV :=
  match op with
  | .add => (match Nat.ble (lenF a + lenF b) maxLen with | true => some (.str (appE a b)) | false => none)
  | .eql => some (bool (eqL a b))
  | .neq => some (bool (!eqL a b))
  | .lss => some (bool (Op.bytesLess a b))
  | .leq => some (bool (Op.bytesLess a b || eqL a b))
  | .gtr => some (bool (!(Op.bytesLess a b || eqL a b)))
  | .geq => some (bool (!Op.bytesLess a b))
  | _ => none
def eShift (op : BinOp) (k : IntKind) (a b : Int) : Option AV :=
  match ltI b 0 with
  | true => none
  | false => match op with
    | .shl => some (.v (.int k (wrapE k (a * 2 ^ (min b.toNat k.bits)))))
    | .shr => some (.v (.int k (a.fdiv (2 ^ (min b.toNat k.bits)))))
    | _ => none
noncomputable def eBin (op : BinOp) (x y : AV) : Option AV :=
  match x with
  | .v (.int k a) => (match y with
    | .v (.int k' b) => (match isShift op with
      | true => eShift op k a b
      | false => (match kEq k k' with | true => eInt op k a b | false => none))
    | _ => none)
  | .str a => (match y with | .str b => eStr op a b | _ => none)
  | _ => none
def eBinB (op : BinOp) (x y : AV) : Option AV :=
  match x, y with
  | .v (.bool a), .v (.bool b) => (match op with | .eql => some (bool (a == b)) | .neq => some (bool (!(a == b))) | _ => none)
  | _, _ => none
section
omit [Laid]
variable {K : AV → Prop} {v : AV}
theorem eWr_ok {k : IntKind} {n : Int} (h : eWr k n = some v) (hk : K v) : iWr k n K := by
  unfold eWr at h
  unfold iWr
  split at h
  · split at h
    · rename_i e; cases h; exact ⟨inIb_iff e, hk⟩
    · cases h
  · rename_i hn
    cases h
    split
    · exact absurd rfl hn
    · rw [wrapE_eq] at hk; exact hk
theorem isZI_ne {b : Int} (h : isZI b = false) : b ≠ 0 := by rintro rfl; cases h
theorem eInt_ok {op : BinOp} {k : IntKind} {a b : Int} (h : eInt op k a b = some v) (hk : K v) : iInt op k a b K := by
  cases op <;> simp only [eInt] at h <;> simp only [iInt]
  case add => exact eWr_ok h hk
  case sub => exact eWr_ok h hk
  case mul => exact eWr_ok h hk
  case quo => split at h <;> cases h; rename_i e; rw [wrapE_eq] at hk; exact ⟨isZI_ne e, hk⟩
  case rem => split at h <;> cases h; rename_i e; exact ⟨isZI_ne e, hk⟩
  case leq => cases h; rw [ltI_eq] at hk; rw [show decide (a ≤ b) = !decide (b < a) by rw [Bool.eq_iff_iff]; simp]; exact hk
  case geq => cases h; rw [ltI_eq] at hk; rw [show decide (b ≤ a) = !decide (a < b) by rw [Bool.eq_iff_iff]; simp]; exact hk
  all_goals first | (cases h; done) | (cases h; simpa [eqI_eq, ltI_eq] using hk)
theorem eStr_ok {op : BinOp} {a b : List UInt8} (h : eStr op a b = some v) (hk : K v) : iStr op a b K := by
  cases op <;> simp only [eStr] at h <;> simp only [iStr]
  case add => split at h <;> cases h; rename_i e; rw [Nat.ble_eq, lenF_eq, lenF_eq] at e; rw [appE_eq] at hk; exact ⟨e, hk⟩
  all_goals first | (cases h; done) | (cases h; simpa [eqL_eq] using hk)
theorem eShift_ok {op : BinOp} {k : IntKind} {a b : Int} (h : eShift op k a b = some v) (hk : K v) : iShift op k a b K := by
  unfold eShift at h
  unfold iShift
  split at h
  · cases h
  · rename_i e
    rw [ltI_eq] at e
    refine ⟨by simpa using e, ?_⟩
    cases op <;> simp only at h ⊢
    case shl => cases h; rw [wrapE_eq] at hk; exact hk
    case shr => cases h; exact hk
    all_goals cases h
theorem eBin_ok {op : BinOp} {x y : AV} (h : eBin op x y = some v) (hk : K v) : iBin op x y K := by
  unfold eBin at h
  unfold iBin
  split at h
  · split at h
    · split at h
      · rename_i e; simp only [e, if_true]; exact eShift_ok h hk
      · rename_i e
        split at h
        · rename_i e2; simp only [e, Bool.false_eq_true, if_false]; exact ⟨kEq_eq e2, eInt_ok h hk⟩
        · cases h
    · cases h
  · split at h
    · exact eStr_ok h hk
    · cases h
  · cases h
theorem eBinB_ok {op : BinOp} {x y : AV} (h : eBinB op x y = some v) (hk : K v) : iBinB op x y K := by
  unfold eBinB at h
  unfold iBinB
  split at h
  · cases op <;> simp only at h ⊢ <;> first | (cases h; done) | (cases h; exact hk)
  · cases h
end

/-! ### Parts of values -/
def eEqA (neg : Bool) (ks : List Nat) (x y : AV) : Option AV :=
  match x, y with
  | .agg xs, .agg ys => (match eqK ks xs ys with | some b => some (bool (match neg with | true => !b | false => b)) | none => none)
  | _, _ => none
def ePick (c a b : AV) : Option AV := match c with | .v (.bool true) => some a | .v (.bool false) => some b | _ => none
def eNot (x : AV) : Option AV := match x with | .v (.bool b) => some (bool (!b)) | _ => none
def eNeg (x : AV) : Option AV := match x with | .v (.int k n) => eWr k (0 - n) | _ => none
def eConv (k : IntKind) (x : AV) : Option AV := match x with | .v (.int _ n) => some (.v (.int k (wrapE k n))) | _ => none
def eStrS (x : AV) : Option AV := match x with | .str l => some (.str l) | _ => none
noncomputable def eExtr (i : Nat) (x : AV) : Option AV := match x with | .tup cs => getE cs i | _ => none
noncomputable def ldE (g : Bool) (sz : Nat) (cs : List AV) : Option AV :=
  match g with
  | true => (match hasN sz cs with | true => some (.agg (takeE sz cs)) | false => none)
  | false => (match cs with | c :: _ => some c | [] => none)
noncomputable def eFld (g : Bool) (off n : Nat) (x : AV) : Option AV := match x with | .agg cs => ldE g n (dropE off cs) | _ => none
noncomputable def eIdxS (x i : AV) : Option AV :=
  match x, i with
  | .str l, .v (.int _ (.ofNat n)) => (match getE l n with | some b => some (.v (.int .u8 (Int.ofNat b.toNat))) | none => none)
  | _, _ => none
noncomputable def eIdxA (g : Bool) (sz len : Nat) (x i : AV) : Option AV :=
  match x, i with
  | .agg cs, .v (.int _ (.ofNat n)) => (match Nat.ble (Nat.succ n) len with | true => ldE g sz (dropE (n * sz) cs) | false => none)
  | _, _ => none
/-- A bound that is told. -/
def eLo : Option AV → Option Nat
  | none => some 0
  | some (.v (.int _ (.ofNat n))) => some n
  | _ => none
noncomputable def eSlS (x : AV) (lo hi : Option AV) : Option AV :=
  match x with
  | .str l => (match eLo lo with
    | some a => (match hi with
      | none => (match hasN a l with | true => some (.str (dropE a l)) | false => none)
      | some (.v (.int _ (.ofNat b))) => (match Nat.ble a b, hasN b l with | true, true => some (.str (dropE a (takeE b l))) | _, _ => none)
      | _ => none)
    | none => none)
  | _ => none
noncomputable def eSl (n : Nat) (x : AV) (lo hi : Option AV) : Option AV :=
  match eLo lo with
  | none => none
  | some a => match unsb x with
    | .sl sz rows => (match Nat.beq sz n with
      | false => none
      | true => (match hi with
        | none => (match hasN a rows with | true => some (.sl sz (dropE a rows)) | false => none)
        | some (.v (.int _ (.ofNat b))) => (match Nat.ble a b, hasN b rows with | true, true => some (.sl sz (dropE a (takeE b rows))) | _, _ => none)
        | _ => none))
    | .own id off len sz => (match Nat.beq sz n with
      | false => none
      | true => (match hi with
        | none => (match Nat.ble a len with | true => some (.own id (off + a * sz) (len - a) sz) | false => none)
        | some (.v (.int _ (.ofNat b))) => (match Nat.ble a b, Nat.ble b len with | true, true => some (.own id (off + a * sz) (b - a) sz) | _, _ => none)
        | _ => none))
    | .emp => (match a, hi with
      | 0, none => some .emp
      | 0, some (.v (.int _ (.ofNat 0))) => some .emp
      | _, _ => none)
    | _ => none
noncomputable def eSlA (n sz : Nat) (x : AV) (lo hi : Option AV) (h : Heap) : Option AV :=
  match eLo lo, (match hi with | none => some n | some (.v (.int _ (.ofNat b))) => some b | _ => none), x with
  | some a, some b, .op id off => (match getE h id with
    | some (.blk blk) => (match hasN (off + n * sz) blk.cells, Nat.ble a b, Nat.ble b n, Nat.ble n maxLen with
      | true, true, true, true => some (.own id (off + a * sz) (b - a) sz)
      | _, _, _, _ => none)
    | _ => none)
  | _, _, _ => none
noncomputable def eIdxP (m : Nat) (x i : AV) : Option AV :=
  match unsb x, i with
  | .sl sz rows, .v (.int _ (.ofNat n)) => (match Nat.beq sz m with | true => (match getE rows n with | some r => some (.ip r) | none => none) | false => none)
  | .own id off len sz, .v (.int _ (.ofNat n)) => (match Nat.beq sz m, Nat.ble (Nat.succ n) len with | true, true => some (.op id (off + n * sz)) | _, _ => none)
  | _, _ => none
noncomputable def eIdxQ (len sz : Nat) (x i : AV) : Option AV :=
  match x, i with
  | .op id off, .v (.int _ (.ofNat n)) => (match Nat.ble (Nat.succ n) len with | true => some (.op id (off + n * sz)) | false => none)
  | .ip cs, .v (.int _ (.ofNat n)) => (match Nat.ble (Nat.succ n) len with | true => some (.ip (dropE (n * sz) cs)) | false => none)
  | _, _ => none
noncomputable def eFad (off : Nat) (x : AV) : Option AV := match x with | .ip cs => some (.ip (dropE off cs)) | .op id o => some (.op id (o + off)) | _ => none
def eAsI (has : TypeId → Bool) (x : AV) : Option AV := match x with | .ifc t v => (match has t with | true => some (.tup [.ifc t v, bool true]) | false => none) | _ => none
def eNil (x : AV) : Option AV := match x with | .ip cs => some (.ip cs) | .op a b => some (.op a b) | .fn (.func f) a b => some (.fn (.func f) a b) | _ => none
def eNilF (row : String → TypeId → Bool) (x : AV) : Option AV := match x with | .fn (.method name) (.ifc t v :: r) ys => (match row name t with | true => some (.fn (.method name) (.ifc t v :: r) ys) | false => none) | x => eNil x
noncomputable def eLoad (g : Bool) (sz : Nat) (x : AV) (h : Heap) : Option AV :=
  match x with
  | .ip cs => ldE g sz cs
  | .op id o => (match getE h id with | some (.blk b) => ldE g sz (dropE o b.cells) | _ => none)
  | _ => none
section
omit [Laid]
variable {K : AV → Prop} {v : AV}
theorem eEqA_ok {neg : Bool} {ks : List Nat} {x y : AV} (h : eEqA neg ks x y = some v) (hk : K v) : iEqA neg ks x y K := by
  unfold eEqA at h; unfold iEqA
  split at h
  · split at h
    · rename_i b e; cases h; simp only [e]; cases neg <;> exact hk
    · cases h
  · cases h
theorem ePick_ok {c a b : AV} (h : ePick c a b = some v) (hk : K v) : iPick c a b K := by
  unfold ePick at h
  split at h
  · cases h; exact ⟨true, rfl, fun _ => hk, fun q => by cases q⟩
  · cases h; exact ⟨false, rfl, (fun q => by cases q), fun _ => hk⟩
  · cases h
theorem eNot_ok {x : AV} (h : eNot x = some v) (hk : K v) : iNot x K := by
  unfold eNot at h
  split at h
  · cases h; exact ⟨_, rfl, hk⟩
  · cases h
theorem eNeg_ok {x : AV} (h : eNeg x = some v) (hk : K v) : iNeg x K := by
  unfold eNeg at h
  split at h
  · exact ⟨_, _, rfl, eWr_ok h hk⟩
  · cases h
theorem eConv_ok {k : IntKind} {x : AV} (h : eConv k x = some v) (hk : K v) : iConv k x K := by
  unfold eConv at h
  split at h
  · cases h; rw [wrapE_eq] at hk; exact ⟨_, _, rfl, hk⟩
  · cases h
theorem eStrS_ok {x : AV} (h : eStrS x = some v) (hk : K v) : iStrS x K := by
  unfold eStrS at h
  split at h
  · cases h; exact hk
  · cases h
theorem eExtr_ok {i : Nat} {x : AV} (h : eExtr i x = some v) (hk : K v) : iExtr i x K := by
  unfold eExtr at h; unfold iExtr
  split at h
  · rw [getE_eq] at h; simp only [h]; exact hk
  · cases h
theorem ldE_ok {g : Bool} {sz : Nat} {cs : List AV} (h : ldE g sz cs = some v) (hk : K v) : ldP g sz cs K := by
  unfold ldE at h; unfold ldP
  cases g with
  | true =>
    simp only at h ⊢
    split at h
    · rename_i e; cases h; rw [takeE_eq] at hk; exact ⟨(hasN_iff _ _).1 e, hk⟩
    · cases h
  | false =>
    simp only at h ⊢
    split at h
    · cases h; exact hk
    · cases h
theorem eFld_ok {g : Bool} {off n : Nat} {x : AV} (h : eFld g off n x = some v) (hk : K v) : iFld g off n x K := by
  unfold eFld at h; unfold iFld
  split at h
  · rw [dropE_eq] at h; exact ldE_ok h hk
  · cases h
theorem eIdxS_ok {x i : AV} (h : eIdxS x i = some v) (hk : K v) : iIdxS x i K := by
  unfold eIdxS at h; unfold iIdxS
  split at h
  · split at h
    · rename_i b e
      cases h
      obtain ⟨e1, e2⟩ := getE_some e
      refine ⟨⟨Int.natCast_nonneg _, by simp only [Int.ofNat_eq_natCast]; omega⟩, ?_⟩
      simp only [Int.ofNat_eq_natCast, Int.toNat_natCast, List.getD_eq_getElem?_getD, e2, Option.getD_some]
      exact hk
    · cases h
  · cases h
theorem eIdxA_ok {g : Bool} {sz len : Nat} {x i : AV} (h : eIdxA g sz len x i = some v) (hk : K v) : iIdxA g sz len x i K := by
  unfold eIdxA at h; unfold iIdxA
  split at h
  · split at h
    · rename_i e
      rw [Nat.ble_eq] at e
      rw [dropE_eq] at h
      exact ⟨⟨Int.natCast_nonneg _, by simp only [Int.ofNat_eq_natCast]; omega⟩, ldE_ok h hk⟩
    · cases h
  · cases h
theorem eLo_some {lo : Option AV} {a : Nat} (h : eLo lo = some a) : optI lo 0 = some (a : Int) := by
  unfold eLo at h
  split at h
  · cases h; rfl
  · cases h; rfl
  · cases h
theorem eSlS_ok {x : AV} {lo hi : Option AV} (h : eSlS x lo hi = some v) (hk : K v) : iSlS x lo hi K := by
  unfold eSlS at h; unfold iSlS
  split at h
  · rename_i l
    split at h
    · rename_i a ea
      simp only [eLo_some ea]
      split at h
      · split at h
        · rename_i e
          cases h
          have := (hasN_iff _ _).1 e
          rw [dropE_eq] at hk
          simp only [optI]
          exact ⟨⟨by omega, by omega, by omega⟩, by simpa using hk⟩
        · cases h
      · rename_i b
        split at h
        · rename_i e1 e2
          cases h
          have := (hasN_iff _ _).1 e2
          rw [Nat.ble_eq] at e1
          rw [dropE_eq, takeE_eq] at hk
          simp only [optI, Int.ofNat_eq_natCast]
          exact ⟨⟨by omega, by omega, by omega⟩, by simpa using hk⟩
        · cases h
      · cases h
    · cases h
  · cases h
theorem eSl_ok {n : Nat} {x : AV} {lo hi : Option AV} (h : eSl n x lo hi = some v) (hk : K v) : iSl n x lo hi K := by
  unfold eSl at h; unfold iSl
  split at h
  · cases h
  · rename_i a ea
    simp only [eLo_some ea]
    generalize unsb x = y at h ⊢
    split at h
    · split at h
      · cases h
      · rename_i e0
        have e0 := Nat.eq_of_beq_eq_true e0
        split at h
        · split at h
          · rename_i e
            cases h
            have := (hasN_iff _ _).1 e
            rw [dropE_eq] at hk
            simp only [optI]
            exact ⟨e0, ⟨by omega, by omega, by omega⟩, by simpa using hk⟩
          · cases h
        · split at h
          · rename_i e1 e2
            cases h
            have := (hasN_iff _ _).1 e2
            rw [Nat.ble_eq] at e1
            rw [dropE_eq, takeE_eq] at hk
            simp only [optI, Int.ofNat_eq_natCast]
            exact ⟨e0, ⟨by omega, by omega, by omega⟩, by simpa using hk⟩
          · cases h
        · cases h
    · split at h
      · cases h
      · rename_i e0
        have e0 := Nat.eq_of_beq_eq_true e0
        split at h
        · split at h
          · rename_i e
            cases h
            rw [Nat.ble_eq] at e
            simp only [optI]
            refine ⟨e0, ⟨by omega, by omega, by omega⟩, ?_⟩
            rename_i id off len sz _ _ _ _
            rw [Int.toNat_natCast, show ((len : Int) - a).toNat = len - a by omega]; exact hk
          · cases h
        · rename_i b
          split at h
          · rename_i e1 e2
            cases h
            rw [Nat.ble_eq] at e1 e2
            simp only [optI, Int.ofNat_eq_natCast]
            refine ⟨e0, ⟨by omega, by omega, by omega⟩, ?_⟩
            rw [Int.toNat_natCast, show ((b : Int) - a).toNat = b - a by omega]; exact hk
          · cases h
        · cases h
    · split at h
      · cases h; exact ⟨⟨rfl, rfl⟩, hk⟩
      · cases h; exact ⟨⟨rfl, rfl⟩, hk⟩
      · cases h
    · cases h
theorem eSlA_ok {n sz : Nat} {x : AV} {lo hi : Option AV} {hp : Heap} (h : eSlA n sz x lo hi hp = some v) (hk : K v) : iSlA n sz x lo hi hp K := by
  unfold eSlA at h; unfold iSlA
  split at h
  · rename_i a b id off ea eb
    have hb : optI hi n = some (b : Int) := by
      split at eb
      · cases eb; rfl
      · cases eb; rfl
      · cases eb
    simp only [eLo_some ea, hb]
    split at h
    · rename_i blk e
      rw [getE_eq] at e
      simp only [e]
      split at h
      · rename_i e1 e2 e3 e4
        cases h
        rw [Nat.ble_eq] at e2 e3 e4
        refine ⟨⟨(hasN_iff _ _).1 e1, by omega, by omega, by omega, e4⟩, ?_⟩
        rw [Int.toNat_natCast, show ((b : Int) - a).toNat = b - a by omega]; exact hk
      · cases h
    · cases h
  · cases h
theorem eIdxP_ok {m : Nat} {x i : AV} (h : eIdxP m x i = some v) (hk : K v) : iIdxP m x i K := by
  unfold eIdxP at h; unfold iIdxP
  split at h
  · rename_i e1
    simp only [e1]
    split at h
    · rename_i e0
      split at h
      · rename_i r e
        cases h
        obtain ⟨h1, h2⟩ := getE_some e
        refine ⟨Nat.eq_of_beq_eq_true e0, ⟨Int.natCast_nonneg _, by simp only [Int.ofNat_eq_natCast]; omega⟩, ?_⟩
        simp only [Int.ofNat_eq_natCast, Int.toNat_natCast, List.getD_eq_getElem?_getD, h2, Option.getD_some]; exact hk
      · cases h
    · cases h
  · rename_i e1
    simp only [e1]
    split at h
    · rename_i e2 e3
      cases h
      rw [Nat.ble_eq] at e3
      exact ⟨Nat.eq_of_beq_eq_true e2, ⟨Int.natCast_nonneg _, by simp only [Int.ofNat_eq_natCast]; omega⟩, hk⟩
    · cases h
  · cases h
theorem eIdxQ_ok {len sz : Nat} {x i : AV} (h : eIdxQ len sz x i = some v) (hk : K v) : iIdxQ len sz x i K := by
  unfold eIdxQ at h; unfold iIdxQ
  split at h
  · split at h
    · rename_i e; cases h; rw [Nat.ble_eq] at e; exact ⟨⟨Int.natCast_nonneg _, by simp only [Int.ofNat_eq_natCast]; omega⟩, hk⟩
    · cases h
  · split at h
    · rename_i e; cases h; rw [Nat.ble_eq] at e; rw [dropE_eq] at hk; exact ⟨⟨Int.natCast_nonneg _, by simp only [Int.ofNat_eq_natCast]; omega⟩, hk⟩
    · cases h
  · cases h
theorem eFad_ok {off : Nat} {x : AV} (h : eFad off x = some v) (hk : K v) : iFad off x K := by
  unfold eFad at h; unfold iFad
  split at h
  · cases h; rw [dropE_eq] at hk; exact hk
  · cases h; exact hk
  · cases h
theorem eAsI_ok {has : TypeId → Bool} {x : AV} (h : eAsI has x = some v) (hk : K v) : iAsI has x K := by
  unfold eAsI at h
  unfold iAsI
  split at h
  · split at h
    · rename_i hh; cases h; exact ⟨hh, hk⟩
    · cases h
  · cases h
theorem eNil_ok {x : AV} (h : eNil x = some v) (hk : K v) : iNil x K := by
  unfold eNil at h; unfold iNil
  split at h <;> first | (cases h; exact hk) | cases h
theorem eNilF_ok {P : Program} {x : AV} (h : eNilF (fun n t => (mrow P n t).isSome) x = some v) (hk : K v) : iNilF P x K := by
  unfold eNilF at h
  unfold iNilF
  split at h
  · split at h
    · rename_i hm; cases h; exact ⟨hm, hk⟩
    · cases h
  · rename_i hne
    split
    · exact absurd rfl (hne _ _ _ _ _)
    · exact eNil_ok h hk
theorem eLoad_ok {g : Bool} {sz : Nat} {x : AV} {hp : Heap} (h : eLoad g sz x hp = some v) (hk : K v) : iLoad g sz x hp K := by
  unfold eLoad at h; unfold iLoad
  split at h
  · exact ldE_ok h hk
  · rw [getE_eq] at h
    split at h
    · rename_i e; simp only [e]; rw [dropE_eq] at h; exact ldE_ok h hk
    · cases h
  · cases h
end
end Go.Aw
end

section
namespace Go.Aw
open Go Go.RowKit
variable [Laid]

noncomputable def overE (cs : List AV) : List AV → List AV := List.rec (motive := fun _ => List AV → List AV) (fun l => l) (fun c _ ih l => List.casesOn (motive := fun _ => List AV) l [] (fun _ t => c :: ih t)) cs
noncomputable def splE (o : Nat) (cs : List AV) : List AV → List AV := Nat.rec (motive := fun _ => List AV → List AV) (fun l => overE cs l) (fun _ ih l => List.casesOn (motive := fun _ => List AV) l [] (fun x t => x :: ih t)) o
omit [Laid] in
theorem splE_eq : ∀ (cs : List AV) (o : Nat) (l : List AV), splE o cs l = setAll l o cs := by
  have nil : ∀ o (l : List AV), splE o [] l = l := by
    intro o
    induction o with
    | zero => intro l; rfl
    | succ o ih => intro l; cases l with | nil => rfl | cons x l => show x :: splE o [] l = _; rw [ih]
  have step : ∀ (c : AV) (cs : List AV) (o : Nat) (l : List AV), splE o (c :: cs) l = splE (o + 1) cs (l.set o c) := by
    intro c cs o
    induction o with
    | zero => intro l; cases l <;> rfl
    | succ o ih => intro l; cases l with | nil => rfl | cons x l => show x :: splE o (c :: cs) l = _; rw [ih]; rfl
  intro cs
  induction cs with
  | nil => intro o l; rw [nil]; rfl
  | cons c cs ih => intro o l; rw [step, ih]; rfl
noncomputable def eStore (sz : Nat) (x v : AV) (h : Heap) : Option Heap :=
  match x with
  | .op id o => (match getE h id with
    | some (.blk b) => (match b.wr, hasN (o + sz) b.cells, Nat.beq (lenF (vcells v)) sz, allE scal (vcells v) with
      | true, true, true, true => some (setE h id (.blk { b with cells := splE o (vcells v) b.cells }))
      | _, _, _, _ => none)
    | _ => none)
  | _ => none
noncomputable def eNew (t : TypeId) (v : AV) (h : Heap) : Option (AV × Heap) :=
  match allE scal (vcells v) with
  | true => some (.op (lenF h) 0, appE h [.blk ⟨t, vcells v, true⟩])
  | false => none
noncomputable def bfillE : List AV → List (Nat × Nat × AV) → Option (List AV)
  | cells, [] => some cells
  | cells, (o, n, x) :: r => (match Nat.beq (lenF (vcells x)) n, hasN (o + n) cells, allE scal (vcells x) with
    | true, true, true => bfillE (splE o (vcells x) cells) r
    | _, _, _ => none)
noncomputable def eBuild (zero : AV) (ps : List (Nat × Nat × AV)) : Option AV := match bfillE (vcells zero) ps with | some cs => some (.agg cs) | none => none
noncomputable def eMkSl (t len sz : Nat) (zero : AV) (ps : List (Nat × Nat × AV)) (h : Heap) : Option (AV × Heap) :=
  match bfillE (rep0 len (vcells zero)) ps with
  | some cs => (match len with
    | 0 => some (.emp, h)
    | len + 1 => some (.own (lenF h) 0 (len + 1) sz, appE h [.blk ⟨t, cs, true⟩]))
  | none => none
noncomputable def eMkSlP (len sz : Nat) (zero : AV) (ps : List (Nat × Nat × AV)) : Option AV :=
  match bfillE (rep0 len (vcells zero)) ps with
  | some cs => some (.sl sz (chunks sz len cs))
  | none => none
noncomputable def eMake (e sz bytes : Nat) (zero len cap : AV) (h : Heap) : Option (AV × Heap) :=
  match len, cap with
  | .v (.int _ (.ofNat l)), .v (.int _ (.ofNat c)) => (match Nat.ble l c, Nat.ble (bytes * c) 281474976710656, Nat.ble c 9223372036854775807 with
    | true, true, true => some (.own (lenF h) 0 l sz, appE h [.blk ⟨e, rep0 c (vcells zero), true⟩])
    | _, _, _ => none)
  | _, _ => none
noncomputable def eToBytes (e : Nat) (x : AV) (h : Heap) : Option (AV × Heap) :=
  match x with
  | .str l => some (.own (lenF h) 0 (lenF l) 1, appE h [.blk ⟨e, mapE byteA l, true⟩])
  | _ => none
noncomputable def srcE (h : Heap) (sz : Nat) (x : AV) : Option (List (List AV)) :=
  match unsb x with
  | .emp => some []
  | .sl sz' rows => (match Nat.beq sz' sz with | true => some rows | false => none)
  | .own id off len sz' => (match getE h id with
    | some (.blk b) => (match Nat.beq sz' sz, hasN (off + len * sz) b.cells with | true, true => some (chunks sz len (dropE off b.cells)) | _, _ => none)
    | _ => none)
  | _ => none
noncomputable def eOfBytes (x : AV) (h : Heap) : Option AV :=
  match srcE h 1 x with
  | some p => (match unB (flatE p) with | some l => some (.str l) | none => none)
  | none => none
noncomputable def eLenS (x : AV) : Option AV := match x with | .str l => some (int (Int.ofNat (lenF l))) | _ => none
noncomputable def eLen (x : AV) : Option AV :=
  match unsb x with
  | .sl _ rows => some (int (Int.ofNat (lenF rows)))
  | .own _ _ len _ => some (int (Int.ofNat len))
  | .emp => some (int (Int.ofNat 0))
  | _ => none
def eMin (x y : AV) : Option AV :=
  match x, y with
  | .v (.int k a), .v (.int k' b) => (match kEq k k' with | true => some (.v (.int k (match ltI b a with | true => b | false => a))) | false => none)
  | _, _ => none
def eMax (x y : AV) : Option AV :=
  match x, y with
  | .v (.int k a), .v (.int k' b) => (match kEq k k' with | true => some (.v (.int k (match ltI a b with | true => b | false => a))) | false => none)
  | _, _ => none
noncomputable def rowE (sz : Nat) (r : List AV) : Bool := match Nat.beq (lenF r) sz, allE scal r with | true, true => true | _, _ => false
def roomE (bytes n : Nat) : Bool := match Nat.ble n maxLen, Nat.ble (n * bytes) 140737488355328 with | true, true => true | _, _ => false
noncomputable def eAppTo (own : Bool) (e sz bytes : Nat) (x : AV) (src : Option (List (List AV))) (h : Heap) : Option (AV × Heap) :=
  match src with
  | none => none
  | some rows => (match allE (rowE sz) rows with
    | false => none
    | true => (match nle x with
      | .emp => (match roomE bytes (lenF rows) with
        | false => none
        | true => (match own with
          | false => some (.sb (lenF h) sz rows, appE h [.tok e sz (lenF rows)])
          | true => (match rows with
            | [] => none
            | r :: rs => some (.own (lenF h) 0 (lenF (r :: rs)) sz, appE h [.blk ⟨e, flatE (r :: rs), true⟩]))))
      | .sb id sz' base => (match getE h id with
        | some (.tok e' sz'' k) => (match Nat.beq sz' sz, Nat.beq sz'' sz, Nat.beq e' e, Nat.beq k (lenF base), roomE bytes (k + lenF rows) with
          | true, true, true, true, true => some (.sb id sz (appE base rows), setE h id (.tok e sz (k + lenF rows)))
          | _, _, _, _, _ => none)
        | _ => none)
      | .own id off len sz' => (match getE h id with
        | some (.blk b) => (match Nat.beq off 0, Nat.beq sz' sz, b.wr, Nat.beq b.ty e, hasN (len * sz) b.cells, Nat.ble 1 (len + lenF rows), roomE bytes (len + lenF rows) with
          | true, true, true, true, true, true, true => some (.own (lenF h) 0 (len + lenF rows) sz, appE (setE h id .dead) [.blk ⟨e, appE (takeE (len * sz) b.cells) (flatE rows), true⟩])
          | _, _, _, _, _, _, _ => none)
        | _ => none)
      | _ => none))

section
omit [Laid]
variable {K : AV → Prop} {KH : AV → Heap → Prop} {v : AV} {hp hp' : Heap}
theorem eStore_ok {sz : Nat} {x y : AV} {KS : Heap → Prop} (h : eStore sz x y hp = some hp') (hk : KS hp') : iStore sz x y hp KS := by
  unfold eStore at h; unfold iStore
  split at h
  · rw [getE_eq] at h
    split at h
    · rename_i b e
      simp only [e]
      split at h
      · rename_i e1 e2 e3 e4
        cases h
        have e3 := Nat.eq_of_beq_eq_true e3
        rw [lenF_eq] at e3
        rw [allE_eq] at e4
        rw [setE_eq, splE_eq] at hk
        exact ⟨⟨e1, by rw [e3]; exact (hasN_iff _ _).1 e2, e3, e4⟩, hk⟩
      · cases h
    · cases h
  · cases h
theorem eNew_ok {t : TypeId} {x : AV} (h : eNew t x hp = some (v, hp')) (hk : KH v hp') : iNew t x hp KH := by
  unfold eNew at h; unfold iNew
  split at h
  · rename_i e; cases h; rw [allE_eq] at e; rw [lenF_eq, appE_eq] at hk; exact ⟨e, hk⟩
  · cases h
theorem bfillE_eq : ∀ (ps : List (Nat × Nat × AV)) (cells cs : List AV), bfillE cells ps = some cs → bfill cells ps = some cs
  | [], _, _, h => h
  | (o, n, x) :: r, cells, cs, h => by
    rw [bfillE] at h
    rw [bfill]
    split at h
    · rename_i e1 e2 e3
      have e1 := Nat.eq_of_beq_eq_true e1
      rw [lenF_eq] at e1
      rw [allE_eq] at e3
      rw [splE_eq] at h
      rw [if_pos ⟨e1, (hasN_iff _ _).1 e2, e3⟩]
      exact bfillE_eq r _ _ h
    · cases h
theorem eBuild_ok {z : AV} {ps : List (Nat × Nat × AV)} (h : eBuild z ps = some v) (hk : K v) : iBuild z ps K := by
  unfold eBuild at h; unfold iBuild
  split at h
  · rename_i e; cases h; simp only [bfillE_eq _ _ _ e]; exact hk
  · cases h
theorem eMkSl_ok {t len sz : Nat} {z : AV} {ps : List (Nat × Nat × AV)} (h : eMkSl t len sz z ps hp = some (v, hp')) (hk : KH v hp') : iMkSl t len sz z ps hp KH := by
  unfold eMkSl at h; unfold iMkSl
  split at h
  · rename_i e
    simp only [bfillE_eq _ _ _ e]
    cases len with
    | zero => cases h; exact hk
    | succ len => simp only [Option.some.injEq, Prod.mk.injEq] at h; obtain ⟨rfl, rfl⟩ := h; rw [lenF_eq, appE_eq] at hk; exact hk
  · cases h
theorem eMkSlP_ok {len sz : Nat} {z : AV} {ps : List (Nat × Nat × AV)} (h : eMkSlP len sz z ps = some v) (hk : K v) : iMkSlP len sz z ps K := by
  unfold eMkSlP at h; unfold iMkSlP
  split at h
  · rename_i e; cases h; simp only [bfillE_eq _ _ _ e]; exact hk
  · cases h
theorem eMake_ok {e sz bytes : Nat} {z l c : AV} (h : eMake e sz bytes z l c hp = some (v, hp')) (hk : KH v hp') : iMake e sz bytes z l c hp KH := by
  unfold eMake at h; unfold iMake
  split at h
  · rename_i k1 l k2 c
    split at h
    · rename_i e1 e2 e3
      cases h
      rw [Nat.ble_eq] at e1 e2 e3
      rw [lenF_eq, appE_eq] at hk
      refine ⟨⟨Int.natCast_nonneg _, by simp only [Int.ofNat_eq_natCast]; omega, ?_, by simp only [Int.ofNat_eq_natCast]; omega⟩, ?_⟩
      · have h2 : ((bytes * c : Nat) : Int) ≤ ((281474976710656 : Nat) : Int) := Int.ofNat_le.2 e2
        rw [Int.natCast_mul] at h2
        exact h2
      · simp only [Int.ofNat_eq_natCast, Int.toNat_natCast]; exact hk
    · cases h
  · cases h
theorem eToBytes_ok {e : Nat} {x : AV} (h : eToBytes e x hp = some (v, hp')) (hk : KH v hp') : iToBytes e x hp KH := by
  unfold eToBytes at h; unfold iToBytes
  split at h
  · cases h; rw [lenF_eq, lenF_eq, appE_eq, mapE_eq] at hk; exact hk
  · cases h
theorem srcE_eq {sz : Nat} {x : AV} {rows : List (List AV)} (h : srcE hp sz x = some rows) : srcR hp sz x = some rows := by
  unfold srcE at h; unfold srcR
  generalize unsb x = y at h ⊢
  split at h
  · exact h
  · split at h
    · rename_i e; simp only [Nat.eq_of_beq_eq_true e, if_true]; exact h
    · cases h
  · rw [getE_eq] at h
    split at h
    · rename_i e
      simp only [e]
      split at h
      · rename_i e1 e2
        rw [if_pos ⟨Nat.eq_of_beq_eq_true e1, (hasN_iff _ _).1 e2⟩]
        rw [dropE_eq] at h; exact h
      · cases h
    · cases h
  · cases h
theorem eOfBytes_ok {x : AV} (h : eOfBytes x hp = some v) (hk : K v) : iOfBytes x hp K := by
  unfold eOfBytes at h; unfold iOfBytes
  split at h
  · rename_i e
    split at h
    · rename_i e2; cases h; rw [flatE_eq] at e2; simp only [srcE_eq e, Option.bind_some, e2]; exact hk
    · cases h
  · cases h
theorem eLenS_ok {x : AV} (h : eLenS x = some v) (hk : K v) : iLenS x K := by
  unfold eLenS at h; unfold iLenS
  split at h
  · cases h; intro _; rw [lenF_eq] at hk; exact hk
  · cases h
theorem eLen_ok {x : AV} (h : eLen x = some v) (hk : K v) : iLen x K := by
  unfold eLen at h; unfold iLen
  generalize unsb x = y at h ⊢
  split at h
  · cases h; intro _; rw [lenF_eq] at hk; exact hk
  · cases h; intro _; exact hk
  · cases h; exact hk
  · cases h
theorem eLenS_q {x : AV} (h : eLenS x = some v) (hk : K v) : iLenSQ x K := by
  unfold eLenS at h; unfold iLenSQ
  split at h
  · cases h; rw [lenF_eq] at hk; exact hk
  · cases h
theorem eLen_q {x : AV} (h : eLen x = some v) (hk : K v) : iLenQ x K := by
  unfold eLen at h; unfold iLenQ
  generalize unsb x = y at h ⊢
  split at h
  · cases h; rw [lenF_eq] at hk; exact hk
  · cases h; exact hk
  · cases h; exact hk
  · cases h
theorem eMin_ok {x y : AV} (h : eMin x y = some v) (hk : K v) : iMin x y K := by
  unfold eMin at h; unfold iMin
  split at h
  · rename_i k a k' b
    split at h
    · rename_i e
      cases h
      refine ⟨kEq_eq e, ?_⟩
      rw [ltI_eq] at hk
      by_cases q : b < a <;> simp only [q, decide_true, decide_false, if_true, if_false] at hk ⊢ <;> exact hk
    · cases h
  · cases h
theorem eMax_ok {x y : AV} (h : eMax x y = some v) (hk : K v) : iMax x y K := by
  unfold eMax at h; unfold iMax
  split at h
  · rename_i k a k' b
    split at h
    · rename_i e
      cases h
      refine ⟨kEq_eq e, ?_⟩
      rw [ltI_eq] at hk
      by_cases q : a < b
      · simp only [q, decide_true] at hk; rw [if_pos (show b > a from q)]; exact hk
      · simp only [q, decide_false] at hk; rw [if_neg (show ¬ b > a from q)]; exact hk
    · cases h
  · cases h
theorem rowE_eq (sz : Nat) (r : List AV) : rowE sz r = rowOK sz r := by
  unfold rowE rowOK
  rw [lenF_eq, allE_eq]
  have : Nat.beq r.length sz = (r.length == sz) := by rw [Bool.eq_iff_iff]; simp [Nat.beq_eq]
  rw [this]
  cases (r.length == sz) <;> cases r.all scal <;> rfl
theorem roomE_ok {b n : Nat} (h : roomE b n = true) : roomA b n := by
  unfold roomE at h
  split at h
  · rename_i e1 e2; rw [Nat.ble_eq] at e1 e2; exact ⟨e1, e2⟩
  · cases h
theorem eAppTo_ok {own : Bool} {e sz bytes : Nat} {x : AV} {src : Option (List (List AV))} (h : eAppTo own e sz bytes x src hp = some (v, hp')) (hk : KH v hp') : iAppTo own e sz bytes x src hp KH := by
  unfold eAppTo at h; unfold iAppTo
  split at h
  · cases h
  · rename_i rows
    split at h
    · cases h
    · rename_i eall
      rw [show rowE sz = rowOK sz from funext (rowE_eq sz), allE_eq] at eall
      refine ⟨eall, ?_⟩
      generalize nle x = y at h ⊢
      split at h
      · split at h
        · cases h
        · rename_i er
          rw [lenF_eq] at er
          cases own with
          | false => simp only [Option.some.injEq, Prod.mk.injEq] at h; obtain ⟨rfl, rfl⟩ := h; rw [lenF_eq, lenF_eq, appE_eq] at hk; exact ⟨roomE_ok er, hk⟩
          | true =>
            simp only at h ⊢
            split at h
            · cases h
            · simp only [Option.some.injEq, Prod.mk.injEq] at h; obtain ⟨rfl, rfl⟩ := h; rw [lenF_eq, lenF_eq, appE_eq, flatE_eq] at hk; exact ⟨by simp, roomE_ok er, hk⟩
      · rw [getE_eq] at h
        split at h
        · rename_i eg
          simp only [eg]
          split at h
          · rename_i e1 e2 e3 e4 e5
            simp only [Option.some.injEq, Prod.mk.injEq] at h; obtain ⟨rfl, rfl⟩ := h
            rw [lenF_eq] at e4 e5
            rw [setE_eq, lenF_eq, appE_eq] at hk
            exact ⟨⟨Nat.eq_of_beq_eq_true e1, Nat.eq_of_beq_eq_true e2, Nat.eq_of_beq_eq_true e3, Nat.eq_of_beq_eq_true e4⟩, roomE_ok e5, hk⟩
          · cases h
        · cases h
      · rw [getE_eq] at h
        split at h
        · rename_i eg
          simp only [eg]
          split at h
          · rename_i e1 e2 e3 e4 e5 e6 e7
            simp only [Option.some.injEq, Prod.mk.injEq] at h; obtain ⟨rfl, rfl⟩ := h
            rw [lenF_eq] at e6 e7
            rw [setE_eq, lenF_eq, lenF_eq, takeE_eq, appE_eq, appE_eq, flatE_eq] at hk
            rw [Nat.ble_eq] at e6
            exact ⟨⟨Nat.eq_of_beq_eq_true e1, Nat.eq_of_beq_eq_true e2, e3, Nat.eq_of_beq_eq_true e4, (hasN_iff _ _).1 e5⟩, by omega, roomE_ok e7, hk⟩
          · cases h
        · cases h
      · cases h
end
end Go.Aw
end

section
namespace Go.Aw
open Go Go.RowKit
variable [Laid]

/-! ### Slots: three steps of eight; what lies behind is a list -/
structure N8 (α : Type) where
  (a b c d e f g h : α)
structure Lens (α β : Type) where
  g : α → β
  s : (β → β) → α → α
section
variable {α : Type}
noncomputable def at0 (T : N8 α) : α := N8.rec (motive := fun _ => α) (fun a b c d e f g h => a) T
noncomputable def at1 (T : N8 α) : α := N8.rec (motive := fun _ => α) (fun a b c d e f g h => b) T
noncomputable def at2 (T : N8 α) : α := N8.rec (motive := fun _ => α) (fun a b c d e f g h => c) T
noncomputable def at3 (T : N8 α) : α := N8.rec (motive := fun _ => α) (fun a b c d e f g h => d) T
noncomputable def at4 (T : N8 α) : α := N8.rec (motive := fun _ => α) (fun a b c d e f g h => e) T
noncomputable def at5 (T : N8 α) : α := N8.rec (motive := fun _ => α) (fun a b c d e f g h => f) T
noncomputable def at6 (T : N8 α) : α := N8.rec (motive := fun _ => α) (fun a b c d e f g h => g) T
noncomputable def at7 (T : N8 α) : α := N8.rec (motive := fun _ => α) (fun a b c d e f g h => h) T
noncomputable def up0 (k : α → α) (T : N8 α) : N8 α := N8.rec (motive := fun _ => N8 α) (fun a b c d e f g h => .mk (k a) b c d e f g h) T
noncomputable def up1 (k : α → α) (T : N8 α) : N8 α := N8.rec (motive := fun _ => N8 α) (fun a b c d e f g h => .mk a (k b) c d e f g h) T
noncomputable def up2 (k : α → α) (T : N8 α) : N8 α := N8.rec (motive := fun _ => N8 α) (fun a b c d e f g h => .mk a b (k c) d e f g h) T
noncomputable def up3 (k : α → α) (T : N8 α) : N8 α := N8.rec (motive := fun _ => N8 α) (fun a b c d e f g h => .mk a b c (k d) e f g h) T
noncomputable def up4 (k : α → α) (T : N8 α) : N8 α := N8.rec (motive := fun _ => N8 α) (fun a b c d e f g h => .mk a b c d (k e) f g h) T
noncomputable def up5 (k : α → α) (T : N8 α) : N8 α := N8.rec (motive := fun _ => N8 α) (fun a b c d e f g h => .mk a b c d e (k f) g h) T
noncomputable def up6 (k : α → α) (T : N8 α) : N8 α := N8.rec (motive := fun _ => N8 α) (fun a b c d e f g h => .mk a b c d e f (k g) h) T
noncomputable def up7 (k : α → α) (T : N8 α) : N8 α := N8.rec (motive := fun _ => N8 α) (fun a b c d e f g h => .mk a b c d e f g (k h)) T
noncomputable def selL (n : Nat) : Lens (N8 α) α :=
  match n with
  | 0 => .mk at0 up0
  | 1 => .mk at1 up1
  | 2 => .mk at2 up2
  | 3 => .mk at3 up3
  | 4 => .mk at4 up4
  | 5 => .mk at5 up5
  | 6 => .mk at6 up6
  | _ => .mk at7 up7
omit [Laid]
theorem at_up (n : Nat) (k : α → α) (T : N8 α) : (selL n).g ((selL n).s k T) = k ((selL n).g T) := by
  cases T
  match n with
  | 0 => rfl
  | 1 => rfl
  | 2 => rfl
  | 3 => rfl
  | 4 => rfl
  | 5 => rfl
  | 6 => rfl
  | n + 7 => rfl
theorem at_up_ne (n m : Nat) (hn : n < 8) (hm : m < 8) (h : n ≠ m) (k : α → α) (T : N8 α) : (selL n).g ((selL m).s k T) = (selL n).g T := by
  cases T
  obtain rfl | rfl | rfl | rfl | rfl | rfl | rfl | rfl : n = 0 ∨ n = 1 ∨ n = 2 ∨ n = 3 ∨ n = 4 ∨ n = 5 ∨ n = 6 ∨ n = 7 := by omega
  all_goals obtain rfl | rfl | rfl | rfl | rfl | rfl | rfl | rfl : m = 0 ∨ m = 1 ∨ m = 2 ∨ m = 3 ∨ m = 4 ∨ m = 5 ∨ m = 6 ∨ m = 7 := by omega
  all_goals first | rfl | exact absurd rfl h
end
structure Tr where
  t : N8 (N8 (N8 AV))
  r : Fr
def N8.all {α : Type} (x : α) : N8 α := ⟨x, x, x, x, x, x, x, x⟩
def Tr.lf : Tr := ⟨N8.all (N8.all (N8.all .any)), []⟩
structure Pa where
  g : Tr → AV
  s : AV → Tr → Tr
noncomputable def getP (p : Pa) (T : Tr) : AV := p.g T
noncomputable def putP (p : Pa) (x : AV) (T : Tr) : Tr := p.s x T
noncomputable def upT (k : N8 (N8 (N8 AV)) → N8 (N8 (N8 AV))) (T : Tr) : Tr := Tr.rec (motive := fun _ => Tr) (fun t r => .mk (k t) r) T
noncomputable def paL (l3 : Lens (N8 (N8 (N8 AV))) (N8 (N8 AV))) (l2 : Lens (N8 (N8 AV)) (N8 AV)) (l1 : Lens (N8 AV) AV) : Pa :=
  match l3, l2, l1 with
  | ⟨g3, s3⟩, ⟨g2, s2⟩, ⟨g1, s1⟩ => ⟨fun T => g1 (g2 (g3 T.t)), fun x => upT (s3 (s2 (s1 fun _ => x)))⟩
noncomputable def paN (n : Nat) : Pa :=
  match Nat.ble n 511 with
  | true => paL (selL (Nat.div n 64)) (selL (Nat.mod (Nat.div n 8) 8)) (selL (Nat.mod n 8))
  | false => ⟨fun T => getF T.r n, fun x T => ⟨T.t, putF T.r n x⟩⟩
section
omit [Laid]
theorem paL_g (l3 : Lens (N8 (N8 (N8 AV))) (N8 (N8 AV))) (l2 : Lens (N8 (N8 AV)) (N8 AV)) (l1 : Lens (N8 AV) AV) (T : Tr) : (paL l3 l2 l1).g T = l1.g (l2.g (l3.g T.t)) := rfl
theorem paL_s (l3 : Lens (N8 (N8 (N8 AV))) (N8 (N8 AV))) (l2 : Lens (N8 (N8 AV)) (N8 AV)) (l1 : Lens (N8 AV) AV) (x : AV) (T : Tr) : ((paL l3 l2 l1).s x T).t = l3.s (l2.s (l1.s fun _ => x)) T.t := by cases T; rfl
theorem paL_r (l3 : Lens (N8 (N8 (N8 AV))) (N8 (N8 AV))) (l2 : Lens (N8 (N8 AV)) (N8 AV)) (l1 : Lens (N8 AV) AV) (x : AV) (T : Tr) : ((paL l3 l2 l1).s x T).r = T.r := by cases T; rfl
theorem get_put_self (n : Nat) (x : AV) (T : Tr) : getP (paN n) (putP (paN n) x T) = x := by
  unfold getP putP paN
  split
  · rw [paL_g, paL_s, at_up, at_up, at_up]
  · show getF (putF T.r n x) n = x
    rw [getF_put, if_pos rfl]
theorem get_put_ne (n m : Nat) (x : AV) (T : Tr) (h : n ≠ m) : getP (paN n) (putP (paN m) x T) = getP (paN n) T := by
  unfold getP putP paN
  split
  · rename_i e1
    split
    · rename_i e2
      rw [Nat.ble_eq] at e1 e2
      rw [paL_g, paL_g, paL_s]
      have c1 : Nat.div n 64 = n / 64 := rfl
      have c2 : Nat.div m 64 = m / 64 := rfl
      have c3 : Nat.mod (Nat.div n 8) 8 = n / 8 % 8 := rfl
      have c4 : Nat.mod (Nat.div m 8) 8 = m / 8 % 8 := rfl
      have c5 : Nat.mod n 8 = n % 8 := rfl
      have c6 : Nat.mod m 8 = m % 8 := rfl
      rw [c1, c2, c3, c4, c5, c6]
      by_cases h3 : n / 64 = m / 64
      · rw [h3, at_up]
        by_cases h2 : n / 8 % 8 = m / 8 % 8
        · rw [h2, at_up, at_up_ne _ _ (by omega) (by omega) (by omega)]
        · rw [at_up_ne _ _ (by omega) (by omega) h2]
      · rw [at_up_ne _ _ (by omega) (by omega) h3]
    · show (paL _ _ _).g _ = (paL _ _ _).g _
      rw [paL_g, paL_g]
  · split
    · show getF ((paL _ _ _).s x T).r n = getF T.r n
      rw [paL_r]
    · show getF (putF T.r m x) n = getF T.r n
      rw [getF_put, if_neg (Ne.symm h)]
theorem getP_lf (n : Nat) : getP (paN n) .lf = .any := by
  have key : ∀ {α : Type} (i : Nat) (x : α), (selL i).g (N8.all x) = x := by
    intro α i x
    match i with
    | 0 => rfl
    | 1 => rfl
    | 2 => rfl
    | 3 => rfl
    | 4 => rfl
    | 5 => rfl
    | 6 => rfl
    | n + 7 => rfl
  unfold getP paN
  split
  · show (selL _).g ((selL _).g ((selL _).g (N8.all (N8.all (N8.all AV.any))))) = AV.any
    rw [key, key, key]
  · rfl
end
/-- The tree holds what the frame tells. -/
def Fits (fr : Fr) (T : Tr) : Prop := ∀ t, getF fr t = getP (paN t) T
section
omit [Laid]
theorem Fits.put {fr : Fr} {T : Tr} (h : Fits fr T) (t : Nat) (x : AV) : Fits (putF fr t x) (putP (paN t) x T) := by
  intro u
  rw [getF_put]
  by_cases e : t = u
  · subst e; rw [if_pos rfl, get_put_self]
  · rw [if_neg e, get_put_ne _ _ _ _ (fun q => e q.symm)]; exact h u
theorem Fits.eq {fr fr' : Fr} {T : Tr} (h : Fits fr T) (e : FrEq fr' fr) : Fits fr' T := fun t => (e t).trans (h t)
noncomputable def args0T : List AV → Nat → Tr
  | [], _ => .lf
  | a :: r, i => putP (paN i) a (args0T r (i + 1))
theorem fits_args : ∀ (l : List AV) (i : Nat), Fits (args0 l i) (args0T l i)
  | [], i => fun t => (getP_lf _).symm
  | a :: r, i => by
    intro t
    rw [args0, args0T]
    simp only [getF]
    by_cases e : i = t
    · subst e; rw [if_pos rfl, get_put_self]
    · rw [if_neg e, get_put_ne _ _ _ _ (fun q => e q.symm)]; exact fits_args r (i + 1) t
end
noncomputable def putO (d : Option Pa) (x : AV) (T : Tr) : Tr := Option.rec (motive := fun _ => Tr) T (fun p => putP p x T) d

/-! ### Operations -/
inductive RO where
  | t (p : Pa)
  | c (v : AV)
noncomputable def evR (T : Tr) (x : RO) : AV := RO.rec (motive := fun _ => AV) (fun p => getP p T) (fun v => v) x
noncomputable def cO (x : Operand) : RO :=
  match x with
  | .tmp t => .t (paN t)
  | .const v => .c (constAV v)
  | .global g => .c (match Laid.tab g with | some cs => .ip cs | none => .any)
  | .func f => .c (.fn (.func f) [] [])
theorem evR_eq {fr : Fr} {T : Tr} (h : Fits fr T) (x : Operand) : evR T (cO x) = evalA fr x := by
  cases x with
  | tmp t => exact (h t).symm
  | const v => rfl
  | global g => rfl
  | func f => rfl

inductive ROp where
  | move (x : RO)
  | pick (c a b : RO)
  | bin (op : BinOp) (x y : RO)
  | binB (op : BinOp) (x y : RO)
  | eqA (neg : Bool) (ks : List Nat) (x y : RO)
  | not (x : RO)
  | neg (x : RO)
  | conv (k : IntKind) (x : RO)
  | strS (x : RO)
  | toBytes (e : Nat) (x : RO)
  | ofBytes (x : RO)
  | extr (x : RO) (i : Nat)
  | fld (g : Bool) (off n : Nat) (x : RO)
  | idxS (x i : RO)
  | idxA (g : Bool) (sz len : Nat) (x i : RO)
  | slS (x : RO) (lo hi : Option RO)
  | sl (n : Nat) (x : RO) (lo hi : Option RO)
  | slA (n sz : Nat) (x : RO) (lo hi : Option RO)
  | idxP (m : Nat) (x i : RO)
  | idxQ (len sz : Nat) (x i : RO)
  | fad (off : Nat) (x : RO)
  | nil (row : String → TypeId → Bool) (x : RO)
  | mkI (t : TypeId) (x : RO)
  | asI (has : TypeId → Bool) (x : RO)
  | inv (lo : Bool) (row : TypeId → Option FuncId) (x : RO) (args : List RO)
  | load (g : Bool) (sz : Nat) (x : RO)
  | store (sz : Nat) (x v : RO)
  | new (t : Nat) (z : AV)
  | box (t : Nat) (x : RO)
  | build (z : AV) (ps : List (Nat × Nat × RO))
  | mkSl (t len sz : Nat) (z : AV) (ps : List (Nat × Nat × RO))
  | mkSlP (len sz : Nat) (z : AV) (ps : List (Nat × Nat × RO))
  | make (e sz bytes : Nat) (z : AV) (l c : RO)
  | func (f : Fn) (xs ys : List RO)
  | lenS (x : RO)
  | len (x : RO)
  | min (x y : RO)
  | max (x y : RO)
  | app (own : Bool) (e sz bytes : Nat) (x y : RO)
  | appS (own : Bool) (e bytes : Nat) (x y : RO)
  | isNilI (neg : Bool) (x : RO)
  | isNilP (neg : Bool) (x : RO)
  | isNilS (neg : Bool) (x : RO)
  | call (lo : Bool) (x : RO) (args : List RO)
  | bad

/-- Against nil. -/
noncomputable def nilR (neg : Bool) (d : TypeDesc) (y : Operand) (x : RO) : ROp :=
  match d, y with
  | .interface _, .const .nilIface => .isNilI neg x
  | .pointer _, .const (.pointer none) => .isNilP neg x
  | .slice _, .const (.slice none _ _) => .isNilS neg x
  | _, _ => .bad
noncomputable def cOp (P : Program) (own : Bool) (op : Op) : ROp :=
  match op with
  | .move x | .assign x => .move (cO x)
  | .pick c a b => .pick (cO c) (cO a) (cO b)
  | .binOp op t x y _ =>
    (match tAgg P t with
    | true => (match op, P.eqGuardType P.depth t, flatK P 8 t with
      | .eql, false, some ks => .eqA false ks (cO x) (cO y)
      | .neq, false, some ks => .eqA true ks (cO x) (cO y)
      | _, _, _ => .bad)
    | false => match P.underlying t with
      | some .bool => .binB op (cO x) (cO y)
      | some (.int _) | some .string => .bin op (cO x) (cO y)
      | some d => (match op with
        | .eql => nilR false d y (cO x)
        | .neq => nilR true d y (cO x)
        | _ => .bad)
      | none => .bad)
  | .unOp .not _ x => .not (cO x)
  | .unOp .neg _ x => .neg (cO x)
  | .unOp .xor t x => (match P.underlying t with | some (.int k) => .bin .xor (.c (.v (.int k (onesK k)))) (cO x) | _ => .bad)
  | .convert s d x =>
    (match P.underlying s, P.underlying d with
    | some (.int _), some (.int k) => .conv k (cO x)
    | some .string, some .string => .strS (cO x)
    | some .string, some (.slice e) => (match isU8 P e with | true => .toBytes e (cO x) | false => .bad)
    | some (.slice e), some .string => (match isU8 P e with | true => .ofBytes (cO x) | false => .bad)
    | _, _ => .bad)
  | .extract x i => .extr (cO x) i
  | .field t x i =>
    (match P.underlying t with
    | some (.struct fs) => (match fs[i]? with
      | some f => (match tOk P f.type with | true => .fld (tAgg P f.type) f.offset (P.cellsOf f.type) (cO x) | false => .bad)
      | none => .bad)
    | _ => .bad)
  | .index t x i =>
    (match P.underlying t with
    | some .string => .idxS (cO x) (cO i)
    | some (.array n e) => (match tOk P e with | true => .idxA (tAgg P e) (P.cellsOf e) n (cO x) (cO i) | false => .bad)
    | _ => .bad)
  | .slice t x lo hi none =>
    (match P.underlying t with
    | some .string => .slS (cO x) (lo.map cO) (hi.map cO)
    | some (.slice e) => (match tOk P e with | true => .sl (P.cellsOf e) (cO x) (lo.map cO) (hi.map cO) | false => .bad)
    | some (.array n e) => (match tOk P e with | true => .slA n (P.cellsOf e) (cO x) (lo.map cO) (hi.map cO) | false => .bad)
    | _ => .bad)
  | .indexAddr t x i =>
    (match P.underlying t with
    | some (.slice e) => (match tOk P e with | true => .idxP (P.cellsOf e) (cO x) (cO i) | false => .bad)
    | some (.array n e) => (match tOk P e with | true => .idxQ n (P.cellsOf e) (cO x) (cO i) | false => .bad)
    | _ => .bad)
  | .fieldAddr t x i =>
    (match P.underlying t with
    | some (.struct fs) => (match fs[i]? with
      | some f => (match P.cellsOf f.type != 0 && tOk P f.type with | true => .fad f.offset (cO x) | false => .bad)
      | none => .bad)
    | _ => .bad)
  | .nilCheck x => .nil (fun n t => (mrow P n t).isSome) (cO x)
  | .makeInterface t x => (match P.concrete t with | true => .mkI t (cO x) | false => .bad)
  | .typeAssert x _ asserted true => .asI (hasM P asserted) (cO x)
  | .load t x => (match tOk P t with | true => .load (tAgg P t) (P.cellsOf t) (cO x) | false => .bad)
  | .store t x v => (match tOk P t with | true => .store (P.cellsOf t) (cO x) (cO v) | false => .bad)
  | .alloc t => (match zeroA P t with | some z => .new t z | none => .bad)
  | .box t x => .box t (cO x)
  | .build t parts =>
    (match P.underlying t, zeroA P t with
    | some (.struct fs), some z => (match fs.toList.all (fun f => tOk P f.type) && parts.toList.all (fun p => (fs[p.1]?).isSome) with
      | true => .build z (parts.toList.map fun p => (((fs[p.1]?).map (·.offset)).getD 0, ((fs[p.1]?).map (fun f => P.cellsOf f.type)).getD 0, cO p.2))
      | false => .bad)
    | some (.array _ e), some z => (match tOk P e with | true => .build z (parts.toList.map fun p => (p.1 * P.cellsOf e, P.cellsOf e, cO p.2)) | false => .bad)
    | _, _ => .bad)
  | .buildSlice t len parts =>
    (match P.underlying t with
    | some (.slice e) => (match zeroA P e, zok P e && tOk P e && decide (len * P.cellsOf e ≤ 16777216) && decide (len ≤ 16777216) with
      | some z, true => (match own with
        | true => .mkSlP len (P.cellsOf e) z (parts.toList.map fun p => (p.1 * P.cellsOf e, P.cellsOf e, cO p.2))
        | false => .mkSl e len (P.cellsOf e) z (parts.toList.map fun p => (p.1 * P.cellsOf e, P.cellsOf e, cO p.2)))
      | _, _ => .bad)
    | _ => .bad)
  | .makeSlice t l c =>
    (match P.underlying t with
    | some (.slice e) => (match zeroA P e, zok P e && decide (0 < P.cellsOf e) with
      | some z, true => .make e (P.cellsOf e) (bytesA P e) z (cO l) (cO c)
      | _, _ => .bad)
    | _ => .bad)
  | .makeFunc f xs ys => .func f (xs.toList.map cO) (ys.toList.map cO)
  | .call c =>
    (match c.callee with
    | .builtin .len => (match c.argTypes[0]?, c.args[0]? with
      | some t, some x => (match P.underlying t with
        | some .string => .lenS (cO x)
        | some (.slice _) => .len (cO x)
        | _ => .bad)
      | _, _ => .bad)
    | .builtin .min => (match c.args.toList with | [x, y] => .min (cO x) (cO y) | _ => .bad)
    | .builtin .max => (match c.args.toList with | [x, y] => .max (cO x) (cO y) | _ => .bad)
    | .builtin .append => (match c.argTypes.toList, c.args.toList with
      | [t, tx], [x, y] => (match P.underlying t, P.underlying tx with
        | some (.slice e), some (.slice _) => (match zok P e with | true => .app own e (P.cellsOf e) (bytesA P e) (cO x) (cO y) | false => .bad)
        | some (.slice e), some .string => (match zok P e && P.cellsOf e == 1 with | true => .appS own e (bytesA P e) (cO x) (cO y) | false => .bad)
        | _, _ => .bad)
      | _, _ => .bad)
    | .value x => .call own (cO x) (c.args.toList.map cO)
    | .invoke x name => .inv own (mrow P name) (cO x) (c.args.toList.map cO)
    | _ => .bad)
  | _ => .bad

/-- A value; memory as it was. -/
def same (v : Option AV) : Option (AV × Option Heap) := match v with | some v => some (v, none) | none => none
def turned (v : Option (AV × Heap)) : Option (AV × Option Heap) := match v with | some p => some (p.1, some p.2) | none => none
abbrev CallF := FuncId → List AV → Heap → Option (AV × Option Heap)
noncomputable def evPs (T : Tr) (ps : List (Nat × Nat × RO)) : List (Nat × Nat × AV) := ps.map fun p => (p.1, p.2.1, evR T p.2.2)
noncomputable def eR (call : CallF) (o : ROp) (T : Tr) (h : Heap) : Option (AV × Option Heap) :=
  match o with
  | .move x => some (evR T x, none)
  | .pick c a b => same (ePick (evR T c) (evR T a) (evR T b))
  | .bin op x y => same (eBin op (evR T x) (evR T y))
  | .binB op x y => same (eBinB op (evR T x) (evR T y))
  | .eqA neg ks x y => same (eEqA neg ks (evR T x) (evR T y))
  | .not x => same (eNot (evR T x))
  | .neg x => same (eNeg (evR T x))
  | .conv k x => same (eConv k (evR T x))
  | .strS x => same (eStrS (evR T x))
  | .toBytes e x => turned (eToBytes e (evR T x) h)
  | .ofBytes x => same (eOfBytes (evR T x) h)
  | .extr x i => same (eExtr i (evR T x))
  | .fld g off n x => same (eFld g off n (evR T x))
  | .idxS x i => same (eIdxS (evR T x) (evR T i))
  | .idxA g sz len x i => same (eIdxA g sz len (evR T x) (evR T i))
  | .slS x lo hi => same (eSlS (evR T x) (lo.map (evR T)) (hi.map (evR T)))
  | .sl n x lo hi => same (eSl n (evR T x) (lo.map (evR T)) (hi.map (evR T)))
  | .slA n sz x lo hi => same (eSlA n sz (evR T x) (lo.map (evR T)) (hi.map (evR T)) h)
  | .idxP m x i => same (eIdxP m (evR T x) (evR T i))
  | .idxQ len sz x i => same (eIdxQ len sz (evR T x) (evR T i))
  | .fad off x => same (eFad off (evR T x))
  | .nil row x => same (eNilF row (evR T x))
  | .mkI t x => some (.ifc t (evR T x), none)
  | .asI has x => same (eAsI has (evR T x))
  | .inv _ row x args => (match evR T x with
    | .ifc t v => (match row t with | some f => call f (v :: args.map (evR T)) h | none => none)
    | _ => none)
  | .load g sz x => same (eLoad g sz (evR T x) h)
  | .store sz x v => (match eStore sz (evR T x) (evR T v) h with | some h' => some (.v undef, some h') | none => none)
  | .new t z => turned (eNew t z h)
  | .box t x => turned (eNew t (evR T x) h)
  | .build z ps => same (eBuild z (evPs T ps))
  | .mkSl t len sz z ps => turned (eMkSl t len sz z (evPs T ps) h)
  | .mkSlP len sz z ps => same (eMkSlP len sz z (evPs T ps))
  | .make e sz bytes z l c => turned (eMake e sz bytes z (evR T l) (evR T c) h)
  | .func f xs ys => some (.fn f (xs.map (evR T)) (ys.map (evR T)), none)
  | .lenS x => same (eLenS (evR T x))
  | .len x => same (eLen (evR T x))
  | .min x y => same (eMin (evR T x) (evR T y))
  | .max x y => same (eMax (evR T x) (evR T y))
  | .app own e sz bytes x y => turned (eAppTo own e sz bytes (evR T x) (srcE h sz (evR T y)) h)
  | .appS own e bytes x y => turned (eAppTo own e 1 bytes (evR T x) (srcS (evR T y)) h)
  | .isNilI neg x => (match nilIT (evR T x) with | some b => some (bool (negB neg b), none) | none => none)
  | .isNilP neg x => (match nilPT (evR T x) with | some b => some (bool (negB neg b), none) | none => none)
  | .isNilS neg x => (match nilST (evR T x) with | some b => some (bool (negB neg b), none) | none => none)
  | .call _ x args => (match evR T x with
    | .fn (.func f) a b => call f (a ++ args.map (evR T) ++ b) h
    | _ => none)
  | .bad => none
/-- It may turn memory. -/
noncomputable def loudR (o : ROp) : Bool :=
  match o with
  | .call lo _ _ => lo
  | .inv lo _ _ _ => lo
  | .toBytes .. | .store .. | .new .. | .box .. | .mkSl .. | .make .. | .app .. | .appS .. => true
  | _ => false

/-- What a function without a body comes to. -/
def ExtSem (P : Program) (f : FuncId) (args : List AV) (h : Heap) (K : AV → Heap → Prop) : Prop :=
  hasBody P f = false ∧ ∀ base ι S w vs, RepL ι S w args vs → HOK base ι S w h → ∃ v r w' ι' S' h', (callFunc f vs.toArray).run P w = .ok (.value v) w' ∧ Evo ι.length base ι S w ι' S' w' ∧ Rep ι' S' w' r v ∧ HOK base ι' S' w' h' ∧ h.length ≤ h'.length ∧ K r h'
def CallSem (P : Program) (f : FuncId) (args : List AV) (h : Heap) (K : AV → Heap → Prop) : Prop := (hasBody P f = true ∧ ACall P f args h K) ∨ ExtSem P f args h K
/-- Calls, as they are told, are what calls come to. -/
def CallOK (P : Program) (call : CallF) : Prop :=
  ∀ f args h v oh, call f args h = some (v, oh) → CallSem P f args h fun r hh => r = v ∧ hh = oh.getD h
theorem s_ext {P : Program} {o : Oper} {base : Nat} {ι : List Ix} {S : Stab} {a : Act} {w : World} {st : St} {K : AV → Heap → Prop} {c : Call} {x : Operand} {f : FuncId} {first cap : List AV} (hr : ROK base ι S a w st) (ho : o.op = .call c) (hc : c.callee = .value x) (hx : evalA st.fr x = .fn (.func f) first cap)
    (h : ExtSem P f (first ++ c.args.toList.map (evalA st.fr) ++ cap) st.h K) : Meets P o base ι S a w st K := by
  have hv := hr.eval x
  rw [hx, Rep] at hv
  obtain ⟨vs, us, ev, r1, r2⟩ := hv
  have hargs : RepL ι S w (first ++ c.args.toList.map (evalA st.fr) ++ cap) (vs ++ c.args.toList.map a.eval ++ us) := (r1.append (RepL.evals hr _)).append r2
  obtain ⟨v, r, w', ι', S', h', e1, hE, rv, hH, hl, k⟩ := h.2 base ι S w _ hargs hr.hp
  have hrun : (execOp a.eval o).run P w = .ok (.value v) w' := by
    have e2 : (vs.toArray ++ c.args.map a.eval) ++ us.toArray = (vs ++ c.args.toList.map a.eval ++ us).toArray := by apply Array.ext'; simp
    simp only [execOp, ho, resolve, hc, Sem.run_bind, ev, Deferred.ofValue, Sem.run_pure, Result.andThen_ok, invoke, e2]
    exact e1
  exact meets_value hr hrun hE rv hH hl k

omit [Laid] in
theorem mrow_body {P : Program} {name : String} {t : TypeId} {f : FuncId} (h : mrow P name t = some f) : hasBody P f = true := (run_mrow (w := default) (.bool true) h).1

section
variable {P : Program} {call : CallF} {own : Bool} {op : Op} {T : Tr} {h : Heap} {v : AV} {oh : Option Heap} {fr : Fr} {K : AV → Heap → Prop}
omit [Laid] in
theorem same_some {x : Option AV} (e : same x = some (v, oh)) : x = some v ∧ oh = none := by
  unfold same at e
  split at e
  · cases e; exact ⟨rfl, rfl⟩
  · cases e
omit [Laid] in
theorem turned_some {x : Option (AV × Heap)} (e : turned x = some (v, oh)) : ∃ h', x = some (v, h') ∧ oh = some h' := by
  unfold turned at e
  split at e
  · rename_i p; cases e; exact ⟨p.2, rfl, rfl⟩
  · cases e

set_option maxHeartbeats 1000000 in
theorem eR_ok (hc : CallOK P call) (hf : ∀ x, evR T (cO x) = evalA fr x) (e : eR call (cOp P own op) T h = some (v, oh)) (hk : K v (oh.getD h)) :
    stepOp P own (evalA fr) h op K ∨ ∀ (n : Nat) (o : Oper), o.op = op → SemS P n h o fr K := by
  have hl : ∀ l : List Operand, (l.map cO).map (evR T) = l.map (evalA fr) := fun l => by rw [List.map_map]; exact List.map_congr_left fun x _ => hf x
  have ho : ∀ o : Option Operand, (o.map cO).map (evR T) = o.map (evalA fr) := fun o => by cases o <;> simp [hf]
  have hp : ∀ (l : List (Nat × Operand)) (f g : Nat → Nat), evPs T (l.map fun p => (f p.1, g p.1, cO p.2)) = l.map fun p => (f p.1, g p.1, evalA fr p.2) := fun l f g => by
    unfold evPs; rw [List.map_map]; exact List.map_congr_left fun p _ => by simp [hf]
  by_cases hcall : ∃ c x, op = .call c ∧ c.callee = .value x
  · obtain ⟨c, x, rfl, hcal⟩ := hcall
    simp only [cOp, hcal, eR, hf, hl] at e
    split at e
    · rename_i f first cap hx
      rcases hc _ _ _ _ _ e with ⟨hb, hA⟩ | hA
      · left
        simp only [stepOp, hcal]
        unfold iCall
        simp only [hx]
        exact ⟨hb, hA.mono fun r hh ⟨e1, e2⟩ => by subst e1; subst e2; exact hk⟩
      · right
        intro n o ho2 fr' base ι S a w he hr
        have hmem : ∀ y ∈ c.args, evalA fr' y = evalA fr y := fun y hy => he y (by rw [ho2]; simp only [Op.operands, Call.operands]; exact Array.mem_append_right _ hy)
        have hx' : evalA fr' x = evalA fr x := he x (by rw [ho2]; simp [Op.operands, Call.operands, hcal])
        refine s_ext (st := ⟨n, fr', h⟩) hr ho2 hcal (by rw [hx']; exact hx) ?_
        have : c.args.toList.map (evalA fr') = c.args.toList.map (evalA fr) := List.map_congr_left fun y hy => hmem y (by simpa using hy)
        simp only [this]
        refine ⟨hA.1, fun base ι S w vs h1 h2 => ?_⟩
        obtain ⟨v', r', w', ι', S', h', q1, q2, q3, q4, q5, q6, q7⟩ := hA.2 base ι S w vs h1 h2
        subst q6; subst q7
        exact ⟨v', _, w', ι', S', _, q1, q2, q3, q4, q5, hk⟩
    · cases e
  by_cases hinv : ∃ c x name, op = .call c ∧ c.callee = .invoke x name
  · obtain ⟨c, x, name, rfl, hcal⟩ := hinv
    simp only [cOp, hcal, eR, hf, hl] at e
    split at e
    · rename_i t y hx
      split at e
      · rename_i f hrow
        left
        simp only [stepOp, hcal]
        unfold iInv
        simp only [hx, hrow]
        rcases hc _ _ _ _ _ e with ⟨hb, hA⟩ | hA
        · exact hA.mono fun r hh ⟨e1, e2⟩ => by subst e1; subst e2; exact hk
        · exact absurd (mrow_body hrow) (by rw [hA.1]; exact Bool.false_ne_true)
      · cases e
    · cases e
  left
  unfold cOp at e
  unfold stepOp
  split at e
  · simp only [eR, hf] at e; cases e; exact hk
  · simp only [eR, hf] at e; cases e; exact hk
  · simp only [eR, hf] at e; obtain ⟨e', rfl⟩ := same_some e; exact ePick_ok e' hk
  · rename_i bop t x y yt
    split at e
    · rename_i hagg
      simp only [hagg, if_true]
      split at e
      · rename_i hg hks
        simp only [eR, hf] at e; obtain ⟨e', rfl⟩ := same_some e
        simp only [hg, hks, Bool.not_false]; exact eEqA_ok e' hk
      · rename_i hg hks
        simp only [eR, hf] at e; obtain ⟨e', rfl⟩ := same_some e
        simp only [hg, hks, Bool.not_false]; exact eEqA_ok e' hk
      · simp [eR] at e
    · rename_i hagg
      simp only [hagg, Bool.false_eq_true, if_false]
      split at e
      · rename_i ht; simp only [ht]; simp only [eR, hf] at e; obtain ⟨e', rfl⟩ := same_some e; exact eBinB_ok e' hk
      · rename_i ht; simp only [ht]; simp only [eR, hf] at e; obtain ⟨e', rfl⟩ := same_some e; exact eBin_ok e' hk
      · rename_i ht; simp only [ht]; simp only [eR, hf] at e; obtain ⟨e', rfl⟩ := same_some e; exact eBin_ok e' hk
      · rename_i d q1 q2 q3 ht
        have key : ∀ neg : Bool, eR call (nilR neg d y (cO x)) T h = some (v, oh) → iNilC neg d y (evalA fr x) fun v => K v h := by
          intro neg e
          unfold nilR at e
          unfold iNilC
          split at e
          · simp only [eR, hf] at e
            split at e
            · rename_i b hb; cases e; simp only [iIsN, hb]; exact hk
            · cases e
          · simp only [eR, hf] at e
            split at e
            · rename_i b hb; cases e; simp only [iIsN, hb]; exact hk
            · cases e
          · simp only [eR, hf] at e
            split at e
            · rename_i b hb; cases e; simp only [iIsN, hb]; exact hk
            · cases e
          · simp [eR] at e
        rw [ht]
        cases bop <;> simp only [] at e ⊢ <;> first | exact key _ e | (simp [eR] at e; done) | skip
      · simp [eR] at e
  · simp only [eR, hf] at e; obtain ⟨e', rfl⟩ := same_some e; exact eNot_ok e' hk
  · simp only [eR, hf] at e; obtain ⟨e', rfl⟩ := same_some e; exact eNeg_ok e' hk
  · split at e
    · rename_i hu
      simp only [hu]
      simp only [eR, hf] at e
      obtain ⟨e', rfl⟩ := same_some e
      exact eBin_ok e' hk
    · simp [eR] at e
  · split at e
    · rename_i hs hd; simp only [hs, hd]; simp only [eR, hf] at e; obtain ⟨e', rfl⟩ := same_some e; exact eConv_ok e' hk
    · rename_i hs hd; simp only [hs, hd]; simp only [eR, hf] at e; obtain ⟨e', rfl⟩ := same_some e; exact eStrS_ok e' hk
    · rename_i hs hd
      simp only [hs, hd]
      split at e
      · rename_i hu; simp only [hu]; simp only [eR, hf] at e; obtain ⟨h', e', rfl⟩ := turned_some e; exact eToBytes_ok e' hk
      · simp [eR] at e
    · rename_i hs hd
      simp only [hs, hd]
      split at e
      · rename_i hu; simp only [hu]; simp only [eR, hf] at e; obtain ⟨e', rfl⟩ := same_some e; exact eOfBytes_ok e' hk
      · simp [eR] at e
    · simp [eR] at e
  · simp only [eR, hf] at e; obtain ⟨e', rfl⟩ := same_some e; exact eExtr_ok e' hk
  · split at e
    · rename_i ht
      simp only [ht]
      split at e
      · rename_i hfi
        simp only [hfi]
        split at e
        · rename_i hok; simp only [hok]; simp only [eR, hf] at e; obtain ⟨e', rfl⟩ := same_some e; exact eFld_ok e' hk
        · simp [eR] at e
      · simp [eR] at e
    · simp [eR] at e
  · split at e
    · rename_i ht; simp only [ht]; simp only [eR, hf] at e; obtain ⟨e', rfl⟩ := same_some e; exact eIdxS_ok e' hk
    · rename_i ht
      simp only [ht]
      split at e
      · rename_i hok; simp only [hok]; simp only [eR, hf] at e; obtain ⟨e', rfl⟩ := same_some e; exact eIdxA_ok e' hk
      · simp [eR] at e
    · simp [eR] at e
  · split at e
    · rename_i ht; simp only [ht]; simp only [eR, hf, ho] at e; obtain ⟨e', rfl⟩ := same_some e; exact eSlS_ok e' hk
    · rename_i ht
      simp only [ht]
      split at e
      · rename_i hok; simp only [hok]; simp only [eR, hf, ho] at e; obtain ⟨e', rfl⟩ := same_some e; exact eSl_ok e' hk
      · simp [eR] at e
    · rename_i ht
      simp only [ht]
      split at e
      · rename_i hok; simp only [hok]; simp only [eR, hf, ho] at e; obtain ⟨e', rfl⟩ := same_some e; exact eSlA_ok e' hk
      · simp [eR] at e
    · simp [eR] at e
  · split at e
    · rename_i ht
      simp only [ht]
      split at e
      · rename_i hok; simp only [hok]; simp only [eR, hf] at e; obtain ⟨e', rfl⟩ := same_some e; exact eIdxP_ok e' hk
      · simp [eR] at e
    · rename_i ht
      simp only [ht]
      split at e
      · rename_i hok; simp only [hok]; simp only [eR, hf] at e; obtain ⟨e', rfl⟩ := same_some e; exact eIdxQ_ok e' hk
      · simp [eR] at e
    · simp [eR] at e
  · split at e
    · rename_i ht
      simp only [ht]
      split at e
      · rename_i hfi
        simp only [hfi]
        split at e
        · rename_i hok; simp only [hok]; simp only [eR, hf] at e; obtain ⟨e', rfl⟩ := same_some e; exact eFad_ok e' hk
        · simp [eR] at e
      · simp [eR] at e
    · simp [eR] at e
  · simp only [eR, hf] at e; obtain ⟨e', rfl⟩ := same_some e; exact eNilF_ok e' hk
  · split at e
    · rename_i hok; simp only [hok]; simp only [eR, hf] at e; cases e; exact hk
    · simp [eR] at e
  · simp only [eR, hf] at e; obtain ⟨e', rfl⟩ := same_some e; exact eAsI_ok e' hk
  · split at e
    · rename_i hok; simp only [hok]; simp only [eR, hf] at e; obtain ⟨e', rfl⟩ := same_some e; exact eLoad_ok e' hk
    · simp [eR] at e
  · split at e
    · rename_i hok
      simp only [hok]
      simp only [eR, hf] at e
      split at e
      · rename_i es; cases e; exact eStore_ok es hk
      · cases e
    · simp [eR] at e
  · split at e
    · rename_i hz; simp only [hz]; simp only [eR, hf] at e; obtain ⟨h', e', rfl⟩ := turned_some e; exact eNew_ok e' hk
    · simp [eR] at e
  · simp only [eR, hf] at e; obtain ⟨h', e', rfl⟩ := turned_some e; exact eNew_ok e' hk
  · rename_i t parts
    split at e
    · rename_i fs z ht hz
      simp only [ht, hz]
      split at e
      · rename_i hok; simp only [hok]; have hp2 := hp parts.toList (fun i => ((fs[i]?).map (·.offset)).getD 0) (fun i => ((fs[i]?).map (fun f => P.cellsOf f.type)).getD 0); simp only [eR] at e; rw [hp2] at e; obtain ⟨e', rfl⟩ := same_some e; exact eBuild_ok e' hk
      · simp [eR] at e
    · rename_i n el z ht hz
      simp only [ht, hz]
      split at e
      · rename_i hok
        simp only [hok]
        have hp2 := hp parts.toList (fun i => i * P.cellsOf el) (fun _ => P.cellsOf el)
        simp only [eR] at e
        rw [hp2] at e
        obtain ⟨e', rfl⟩ := same_some e; exact eBuild_ok e' hk
      · simp [eR] at e
    · simp [eR] at e
  · rename_i t len parts
    split at e
    · rename_i el ht
      simp only [ht]
      split at e
      · rename_i hz hok
        simp only [hz, hok]
        have hp2 := hp parts.toList (fun i => i * P.cellsOf el) (fun _ => P.cellsOf el)
        cases own with
        | true =>
          simp only [eR] at e
          rw [hp2] at e
          obtain ⟨e', rfl⟩ := same_some e; exact eMkSlP_ok e' hk
        | false =>
          simp only [eR] at e
          rw [hp2] at e
          obtain ⟨h', e', rfl⟩ := turned_some e; exact eMkSl_ok e' hk
      · simp [eR] at e
    · simp [eR] at e
  · split at e
    · rename_i ht
      simp only [ht]
      split at e
      · rename_i hz hok
        simp only [hz, hok]
        simp only [eR, hf] at e
        obtain ⟨h', e', rfl⟩ := turned_some e; exact eMake_ok e' hk
      · simp [eR] at e
    · simp [eR] at e
  · simp only [eR, hl] at e; cases e; exact hk
  · rename_i c
    split at e
    · rename_i hcal
      simp only [hcal]
      split at e
      · rename_i hat hax
        simp only [hat, hax]
        split at e
        · rename_i ht; simp only [ht]; simp only [eR, hf] at e; obtain ⟨e', rfl⟩ := same_some e; exact eLenS_ok e' hk
        · rename_i ht; simp only [ht]; simp only [eR, hf] at e; obtain ⟨e', rfl⟩ := same_some e; exact eLen_ok e' hk
        · simp [eR] at e
      · simp [eR] at e
    · rename_i hcal
      simp only [hcal]
      split at e
      · rename_i hax; simp only [hax]; simp only [eR, hf] at e; obtain ⟨e', rfl⟩ := same_some e; exact eMin_ok e' hk
      · simp [eR] at e
    · rename_i hcal
      simp only [hcal]
      split at e
      · rename_i hax; simp only [hax]; simp only [eR, hf] at e; obtain ⟨e', rfl⟩ := same_some e; exact eMax_ok e' hk
      · simp [eR] at e
    · rename_i hcal
      simp only [hcal]
      split at e
      · rename_i t tx x y hat hax
        simp only [hat, hax]
        split at e
        · rename_i el el2 ht htx
          simp only [ht, htx]
          split at e
          · rename_i hz
            simp only [hz]
            simp only [eR, hf] at e
            obtain ⟨h', e', rfl⟩ := turned_some e
            unfold iApp
            cases hs : srcE h (P.cellsOf el) (evalA fr y) with
            | none => rw [hs] at e'; simp [eAppTo] at e'
            | some rows => rw [hs] at e'; rw [srcE_eq hs]; exact eAppTo_ok e' hk
          · simp [eR] at e
        · rename_i ht htx
          simp only [ht, htx]
          split at e
          · rename_i hz
            simp only [hz]
            simp only [eR, hf] at e
            obtain ⟨h', e', rfl⟩ := turned_some e
            unfold iAppS
            exact eAppTo_ok e' hk
          · simp [eR] at e
        · simp [eR] at e
      · simp [eR] at e
    · rename_i hcal
      exact absurd ⟨_, _, rfl, hcal⟩ hcall
    · rename_i hcal
      exact absurd ⟨_, _, _, rfl, hcal⟩ hinv
    · simp [eR] at e
  · simp [eR] at e
theorem eR_sem {n : Nat} {o : Oper} (hc : CallOK P call) (hf : ∀ x, evR T (cO x) = evalA fr x) (e : eR call (cOp P own o.op) T h = some (v, oh)) (hk : K v (oh.getD h)) : SemS P n h o fr K := by
  rcases eR_ok hc hf e hk with q | q
  · exact SemS.of q
  · exact q n o rfl
end
end Go.Aw
end
