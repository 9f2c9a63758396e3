/-
  Operations at known values: what each comes to, in a form that the kernel computes; and that the words of '..Ops' hold of it.
  No conditions: definitions and lemmas over any program.
-/
import Derived.Test.YtpggiljgcckmoaaGreatDoorOpen
import Derived.Test.YtpggiljgcckmoaaGreatDoorTell
namespace Go.Aw
open Go Go.RowKit
variable [Laid]

/-! ### Lists -/
section
variable {α : Type}
noncomputable def getE (l : List α) : Nat → Option α := List.rec (motive := fun _ => Nat → Option α) (fun _ => none) (fun x _ ih n => Nat.casesOn (motive := fun _ => Option α) n (some x) ih) l
noncomputable def dropE (n : Nat) : List α → List α := Nat.rec (motive := fun _ => List α → List α) (fun l => l) (fun _ ih l => List.casesOn (motive := fun _ => List α) l [] (fun _ t => ih t)) n
noncomputable def takeE (n : Nat) : List α → List α := Nat.rec (motive := fun _ => List α → List α) (fun _ => []) (fun _ ih l => List.casesOn (motive := fun _ => List α) l [] (fun x t => x :: ih t)) n
noncomputable def setE (l : List α) : Nat → α → List α := List.rec (motive := fun _ => Nat → α → List α) (fun _ _ => []) (fun x t ih n y => Nat.casesOn (motive := fun _ => List α) n (y :: t) (fun m => x :: ih m y)) l
noncomputable def hasN (n : Nat) : List α → Bool := Nat.rec (motive := fun _ => List α → Bool) (fun _ => true) (fun _ ih l => List.casesOn (motive := fun _ => Bool) l false (fun _ t => ih t)) n
noncomputable def lenG (l : List α) : Nat → Nat := List.rec (motive := fun _ => Nat → Nat) (fun a => a) (fun _ _ ih a => Nat.casesOn (motive := fun _ => Nat) a (ih 1) (fun m => ih (Nat.succ (Nat.succ m)))) l
noncomputable def lenF (l : List α) : Nat := lenG l 0
noncomputable def allE (p : α → Bool) (l : List α) : Bool := List.rec (motive := fun _ => Bool) true (fun x _ ih => Bool.casesOn (motive := fun _ => Bool) (p x) false ih) l
omit [Laid]
theorem getE_eq (l : List α) : ∀ n, getE l n = l[n]? := by
  induction l with
  | nil => intro n; rfl
  | cons x l ih => intro n; cases n with | zero => rfl | succ n => show getE l n = _; rw [ih]; rfl
theorem dropE_eq (n : Nat) : ∀ l : List α, dropE n l = l.drop n := by
  induction n with
  | zero => intro l; rfl
  | succ n ih => intro l; cases l with | nil => rfl | cons x l => exact ih l
theorem takeE_eq (n : Nat) : ∀ l : List α, takeE n l = l.take n := by
  induction n with
  | zero => intro l; rfl
  | succ n ih => intro l; cases l with | nil => rfl | cons x l => show x :: takeE n l = _; rw [ih]; rfl
theorem setE_eq (l : List α) : ∀ n y, setE l n y = l.set n y := by
  induction l with
  | nil => intro n y; rfl
  | cons x l ih => intro n y; cases n with | zero => rfl | succ n => show x :: setE l n y = _; rw [ih]; rfl
theorem hasN_iff (n : Nat) : ∀ l : List α, hasN n l = true ↔ n ≤ l.length := by
  induction n with
  | zero => intro l; show true = true ↔ _; simp
  | succ n ih => intro l; cases l with | nil => simp [hasN] | cons x l => rw [show hasN (n + 1) (x :: l) = hasN n l from rfl, ih]; simp
theorem lenG_eq (l : List α) : ∀ a, lenG l a = a + l.length := by
  induction l with
  | nil => intro a; rfl
  | cons x l ih =>
    intro a
    cases a with
    | zero => rw [show lenG (x :: l) 0 = lenG l 1 from rfl, ih]; simp; omega
    | succ m => rw [show lenG (x :: l) (m + 1) = lenG l (m + 2) from rfl, ih]; simp; omega
theorem lenF_eq (l : List α) : lenF l = l.length := by rw [lenF, lenG_eq]; omega
theorem allE_eq (p : α → Bool) (l : List α) : allE p l = l.all p := by
  induction l with
  | nil => rfl
  | cons x l ih =>
    rw [List.all_cons, ← ih]
    show Bool.casesOn (motive := fun _ => Bool) (p x) false (allE p l) = _
    cases p x <;> rfl
theorem getE_some {l : List α} {n : Nat} {x : α} (h : getE l n = some x) : n < l.length ∧ l[n]? = some x := by
  rw [getE_eq] at h; exact ⟨(List.getElem?_eq_some_iff.1 h).1, h⟩
end

/-! ### Numbers -/
def inIb (n : Int) : Bool := match n with | .ofNat m => Nat.ble m 9223372036854775807 | .negSucc m => Nat.ble m 9223372036854775807
def ltI : Int → Int → Bool
  | .ofNat a, .ofNat b => Nat.ble (Nat.succ a) b
  | .negSucc _, .ofNat _ => true
  | .ofNat _, .negSucc _ => false
  | .negSucc a, .negSucc b => Nat.ble (Nat.succ b) a
def eqI : Int → Int → Bool
  | .ofNat a, .ofNat b => Nat.beq a b
  | .negSucc a, .negSucc b => Nat.beq a b
  | _, _ => false
def kN : IntKind → Nat | .i8 => 0 | .i16 => 1 | .i32 => 2 | .i64 => 3 | .u8 => 4 | .u16 => 5 | .u32 => 6 | .u64 => 7
def kEq (a b : IntKind) : Bool := Nat.beq (kN a) (kN b)
def topU : IntKind → Nat | .i8 => 127 | .i16 => 32767 | .i32 => 2147483647 | .i64 => 9223372036854775807 | .u8 => 255 | .u16 => 65535 | .u32 => 4294967295 | .u64 => 18446744073709551615
def sgn : IntKind → Bool | .i8 | .i16 | .i32 | .i64 => true | _ => false
/-- It needs no wrapping. -/
def fitsK (k : IntKind) (n : Int) : Bool := match n with | .ofNat m => Nat.ble m (topU k) | .negSucc m => match sgn k with | true => Nat.ble m (topU k) | false => false
def wrapE (k : IntKind) (n : Int) : Int := match fitsK k n with | true => n | false => k.wrap n
section
omit [Laid]
theorem ltI_eq (a b : Int) : ltI a b = decide (a < b) := by
  cases a <;> cases b <;> simp only [ltI]
  · rw [Bool.eq_iff_iff]; simp [Nat.ble_eq]; omega
  · simp; omega
  · simp; omega
  · rw [Bool.eq_iff_iff]; simp [Nat.ble_eq]; omega
theorem eqI_eq (a b : Int) : eqI a b = decide (a = b) := by
  cases a <;> cases b <;> simp only [eqI]
  · rw [Bool.eq_iff_iff]; simp only [Nat.beq_eq, decide_eq_true_eq, Int.ofNat_eq_natCast]; omega
  · simp
  · simp
  · rw [Bool.eq_iff_iff]; simp [Nat.beq_eq]
theorem inIb_iff {n : Int} (h : inIb n = true) : inI n := by
  unfold inI
  cases n with
  | ofNat m => simp only [inIb, Nat.ble_eq] at h; simp only [Int.ofNat_eq_natCast]; omega
  | negSucc m => simp only [inIb, Nat.ble_eq] at h; omega
theorem kEq_eq {a b : IntKind} (h : kEq a b = true) : a = b := by
  revert h; cases a <;> cases b <;> first | (intro _; rfl) | (intro h; cases h)
theorem fitsK_wrap {k : IntKind} {n : Int} (h : fitsK k n = true) : k.wrap n = n := by
  cases k <;> cases n <;> simp only [fitsK, topU, sgn, Nat.ble_eq, Bool.false_eq_true] at h <;> simp only [IntKind.wrap, IntKind.bits, IntKind.signed] <;> simp <;> omega
theorem wrapE_eq (k : IntKind) (n : Int) : wrapE k n = k.wrap n := by
  unfold wrapE
  split
  · rename_i h; exact (fitsK_wrap h).symm
  · rfl
end

def eWr (k : IntKind) (n : Int) : Option AV :=
  match k with
  | .i64 => (match inIb n with | true => some (.v (.int .i64 n)) | false => none)
  | k => some (.v (.int k (wrapE k n)))
def isZI : Int → Bool | .ofNat 0 => true | _ => false
def eInt (op : BinOp) (k : IntKind) (a b : Int) : Option AV :=
  match op with
  | .add => eWr k (a + b)
  | .sub => eWr k (a - b)
  | .mul => eWr k (a * b)
  | .quo => (match isZI b with | false => some (.v (.int k (wrapE k (a.tdiv b)))) | true => none)
  | .rem => (match isZI b with | false => some (.v (.int k (a.tmod b))) | true => none)
  | .and => some (.v (.int k (ibits .and k a b)))
  | .or => some (.v (.int k (ibits .or k a b)))
  | .xor => some (.v (.int k (ibits .xor k a b)))
  | .andNot => some (.v (.int k (ibits .andNot k a b)))
  | .eql => some (bool (eqI a b))
  | .neq => some (bool (!eqI a b))
  | .lss => some (bool (ltI a b))
  | .leq => some (bool (!ltI b a))
  | .gtr => some (bool (ltI b a))
  | .geq => some (bool (!ltI a b))
  | _ => none
noncomputable def eqL (a : List UInt8) : List UInt8 → Bool := List.rec (motive := fun _ => List UInt8 → Bool) (fun b => List.casesOn (motive := fun _ => Bool) b true (fun _ _ => false)) (fun x _ ih b => List.casesOn (motive := fun _ => Bool) b false (fun y t => Bool.casesOn (motive := fun _ => Bool) (Nat.beq x.toNat y.toNat) false (ih t))) a
noncomputable def ltL (a : List UInt8) : List UInt8 → Bool := List.rec (motive := fun _ => List UInt8 → Bool) (fun b => List.casesOn (motive := fun _ => Bool) b false (fun _ _ => true)) (fun x _ ih b => List.casesOn (motive := fun _ => Bool) b false (fun y t => Bool.casesOn (motive := fun _ => Bool) (Nat.beq x.toNat y.toNat) (Nat.ble (Nat.succ x.toNat) y.toNat) (ih t))) a
section
omit [Laid]
theorem u8_beq (x y : UInt8) : Nat.beq x.toNat y.toNat = decide (x = y) := by
  rw [Bool.eq_iff_iff]; simp [Nat.beq_eq, UInt8.toNat_inj]
theorem eqL_eq (a : List UInt8) : ∀ b, eqL a b = decide (a = b) := by
  induction a with
  | nil => intro b; cases b <;> simp [eqL]
  | cons x a ih =>
    intro b
    cases b with
    | nil => simp [eqL]
    | cons y b =>
      show Bool.casesOn (motive := fun _ => Bool) (Nat.beq x.toNat y.toNat) false (eqL a b) = _
      rw [u8_beq, ih]
      by_cases h : x = y <;> simp [h]
end
def bytesOp (op : BinOp) : Bool := match op with | .add | .eql | .neq => true | _ => false
noncomputable def eStr (op : BinOp) (a b : List UInt8) : Option AV :=
  match op with
  | .add => (match Nat.ble (lenF a + lenF b) maxLen with | true => some (.str (a ++ b)) | false => none)
  | .eql => some (bool (eqL a b))
  | .neq => some (bool (!eqL a b))
  | .lss => some (bool (Op.bytesLess a b))
  | .leq => some (bool (Op.bytesLess a b || eqL a b))
  | .gtr => some (bool (!(Op.bytesLess a b || eqL a b)))
  | .geq => some (bool (!Op.bytesLess a b))
  | _ => none
def eShift (op : BinOp) (k : IntKind) (a b : Int) : Option AV :=
  match ltI b 0 with
  | true => none
  | false => match op with
    | .shl => some (.v (.int k (wrapE k (a * 2 ^ (min b.toNat k.bits)))))
    | .shr => some (.v (.int k (a.fdiv (2 ^ (min b.toNat k.bits)))))
    | _ => none
noncomputable def eBin (op : BinOp) (x y : AV) : Option AV :=
  match x with
  | .v (.int k a) => (match y with
    | .v (.int k' b) => (match isShift op with
      | true => eShift op k a b
      | false => (match kEq k k' with | true => eInt op k a b | false => none))
    | _ => none)
  | .str a => (match y with | .str b => eStr op a b | _ => none)
  | _ => none
def eBinB (op : BinOp) (x y : AV) : Option AV :=
  match x, y with
  | .v (.bool a), .v (.bool b) => (match op with | .eql => some (bool (a == b)) | .neq => some (bool (!(a == b))) | _ => none)
  | _, _ => none
section
omit [Laid]
variable {K : AV → Prop} {v : AV}
theorem eWr_ok {k : IntKind} {n : Int} (h : eWr k n = some v) (hk : K v) : iWr k n K := by
  unfold eWr at h
  unfold iWr
  split at h
  · split at h
    · rename_i e; cases h; exact ⟨inIb_iff e, hk⟩
    · cases h
  · rename_i hn
    cases h
    split
    · exact absurd rfl hn
    · rw [wrapE_eq] at hk; exact hk
theorem isZI_ne {b : Int} (h : isZI b = false) : b ≠ 0 := by rintro rfl; cases h
theorem eInt_ok {op : BinOp} {k : IntKind} {a b : Int} (h : eInt op k a b = some v) (hk : K v) : iInt op k a b K := by
  cases op <;> simp only [eInt] at h <;> simp only [iInt]
  case add => exact eWr_ok h hk
  case sub => exact eWr_ok h hk
  case mul => exact eWr_ok h hk
  case quo => split at h <;> cases h; rename_i e; rw [wrapE_eq] at hk; exact ⟨isZI_ne e, hk⟩
  case rem => split at h <;> cases h; rename_i e; exact ⟨isZI_ne e, hk⟩
  case leq => cases h; rw [ltI_eq] at hk; rw [show decide (a ≤ b) = !decide (b < a) by rw [Bool.eq_iff_iff]; simp]; exact hk
  case geq => cases h; rw [ltI_eq] at hk; rw [show decide (b ≤ a) = !decide (a < b) by rw [Bool.eq_iff_iff]; simp]; exact hk
  all_goals first | (cases h; done) | (cases h; simpa [eqI_eq, ltI_eq] using hk)
theorem eStr_ok {op : BinOp} {a b : List UInt8} (h : eStr op a b = some v) (hk : K v) : iStr op a b K := by
  cases op <;> simp only [eStr] at h <;> simp only [iStr]
  case add => split at h <;> cases h; rename_i e; rw [Nat.ble_eq, lenF_eq, lenF_eq] at e; exact ⟨e, hk⟩
  all_goals first | (cases h; done) | (cases h; simpa [eqL_eq] using hk)
theorem eShift_ok {op : BinOp} {k : IntKind} {a b : Int} (h : eShift op k a b = some v) (hk : K v) : iShift op k a b K := by
  unfold eShift at h
  unfold iShift
  split at h
  · cases h
  · rename_i e
    rw [ltI_eq] at e
    refine ⟨by simpa using e, ?_⟩
    cases op <;> simp only at h ⊢
    case shl => cases h; rw [wrapE_eq] at hk; exact hk
    case shr => cases h; exact hk
    all_goals cases h
theorem eBin_ok {op : BinOp} {x y : AV} (h : eBin op x y = some v) (hk : K v) : iBin op x y K := by
  unfold eBin at h
  unfold iBin
  split at h
  · split at h
    · split at h
      · rename_i e; simp only [e, if_true]; exact eShift_ok h hk
      · rename_i e
        split at h
        · rename_i e2; simp only [e, Bool.false_eq_true, if_false]; exact ⟨kEq_eq e2, eInt_ok h hk⟩
        · cases h
    · cases h
  · split at h
    · exact eStr_ok h hk
    · cases h
  · cases h
theorem eBinB_ok {op : BinOp} {x y : AV} (h : eBinB op x y = some v) (hk : K v) : iBinB op x y K := by
  unfold eBinB at h
  unfold iBinB
  split at h
  · cases op <;> simp only at h ⊢ <;> first | (cases h; done) | (cases h; exact hk)
  · cases h
end

/-! ### Parts of values -/
def eEqA (neg : Bool) (ks : List Nat) (x y : AV) : Option AV :=
  match x, y with
  | .agg xs, .agg ys => (match eqK ks xs ys with | some b => some (bool (match neg with | true => !b | false => b)) | none => none)
  | _, _ => none
def ePick (c a b : AV) : Option AV := match c with | .v (.bool true) => some a | .v (.bool false) => some b | _ => none
def eNot (x : AV) : Option AV := match x with | .v (.bool b) => some (bool (!b)) | _ => none
def eNeg (x : AV) : Option AV := match x with | .v (.int k n) => eWr k (0 - n) | _ => none
def eConv (k : IntKind) (x : AV) : Option AV := match x with | .v (.int _ n) => some (.v (.int k (wrapE k n))) | _ => none
def eStrS (x : AV) : Option AV := match x with | .str l => some (.str l) | _ => none
noncomputable def eExtr (i : Nat) (x : AV) : Option AV := match x with | .tup cs => getE cs i | _ => none
noncomputable def ldE (g : Bool) (sz : Nat) (cs : List AV) : Option AV :=
  match g with
  | true => (match hasN sz cs with | true => some (.agg (takeE sz cs)) | false => none)
  | false => (match cs with | c :: _ => some c | [] => none)
noncomputable def eFld (g : Bool) (off n : Nat) (x : AV) : Option AV := match x with | .agg cs => ldE g n (dropE off cs) | _ => none
noncomputable def eIdxS (x i : AV) : Option AV :=
  match x, i with
  | .str l, .v (.int _ (.ofNat n)) => (match getE l n with | some b => some (.v (.int .u8 (Int.ofNat b.toNat))) | none => none)
  | _, _ => none
noncomputable def eIdxA (g : Bool) (sz len : Nat) (x i : AV) : Option AV :=
  match x, i with
  | .agg cs, .v (.int _ (.ofNat n)) => (match Nat.ble (Nat.succ n) len with | true => ldE g sz (dropE (n * sz) cs) | false => none)
  | _, _ => none
/-- A bound that is told. -/
def eLo : Option AV → Option Nat
  | none => some 0
  | some (.v (.int _ (.ofNat n))) => some n
  | _ => none
noncomputable def eSlS (x : AV) (lo hi : Option AV) : Option AV :=
  match x with
  | .str l => (match eLo lo with
    | some a => (match hi with
      | none => (match hasN a l with | true => some (.str (dropE a l)) | false => none)
      | some (.v (.int _ (.ofNat b))) => (match Nat.ble a b, hasN b l with | true, true => some (.str (dropE a (takeE b l))) | _, _ => none)
      | _ => none)
    | none => none)
  | _ => none
noncomputable def eSl (n : Nat) (x : AV) (lo hi : Option AV) : Option AV :=
  match eLo lo with
  | none => none
  | some a => match unsb x with
    | .sl sz rows => (match Nat.beq sz n with
      | false => none
      | true => (match hi with
        | none => (match hasN a rows with | true => some (.sl sz (dropE a rows)) | false => none)
        | some (.v (.int _ (.ofNat b))) => (match Nat.ble a b, hasN b rows with | true, true => some (.sl sz (dropE a (takeE b rows))) | _, _ => none)
        | _ => none))
    | .own id off len sz => (match Nat.beq sz n with
      | false => none
      | true => (match hi with
        | none => (match Nat.ble a len with | true => some (.own id (off + a * sz) (len - a) sz) | false => none)
        | some (.v (.int _ (.ofNat b))) => (match Nat.ble a b, Nat.ble b len with | true, true => some (.own id (off + a * sz) (b - a) sz) | _, _ => none)
        | _ => none))
    | .emp => (match a, hi with
      | 0, none => some .emp
      | 0, some (.v (.int _ (.ofNat 0))) => some .emp
      | _, _ => none)
    | _ => none
noncomputable def eSlA (n sz : Nat) (x : AV) (lo hi : Option AV) (h : Heap) : Option AV :=
  match eLo lo, (match hi with | none => some n | some (.v (.int _ (.ofNat b))) => some b | _ => none), x with
  | some a, some b, .op id off => (match getE h id with
    | some (.blk blk) => (match hasN (off + n * sz) blk.cells, Nat.ble a b, Nat.ble b n, Nat.ble n maxLen with
      | true, true, true, true => some (.own id (off + a * sz) (b - a) sz)
      | _, _, _, _ => none)
    | _ => none)
  | _, _, _ => none
noncomputable def eIdxP (m : Nat) (x i : AV) : Option AV :=
  match unsb x, i with
  | .sl sz rows, .v (.int _ (.ofNat n)) => (match Nat.beq sz m with | true => (match getE rows n with | some r => some (.ip r) | none => none) | false => none)
  | .own id off len sz, .v (.int _ (.ofNat n)) => (match Nat.beq sz m, Nat.ble (Nat.succ n) len with | true, true => some (.op id (off + n * sz)) | _, _ => none)
  | _, _ => none
noncomputable def eIdxQ (len sz : Nat) (x i : AV) : Option AV :=
  match x, i with
  | .op id off, .v (.int _ (.ofNat n)) => (match Nat.ble (Nat.succ n) len with | true => some (.op id (off + n * sz)) | false => none)
  | .ip cs, .v (.int _ (.ofNat n)) => (match Nat.ble (Nat.succ n) len with | true => some (.ip (dropE (n * sz) cs)) | false => none)
  | _, _ => none
noncomputable def eFad (off : Nat) (x : AV) : Option AV := match x with | .ip cs => some (.ip (dropE off cs)) | .op id o => some (.op id (o + off)) | _ => none
def eAsI (has : TypeId → Bool) (x : AV) : Option AV := match x with | .ifc t v => (match has t with | true => some (.tup [.ifc t v, bool true]) | false => none) | _ => none
def eNil (x : AV) : Option AV := match x with | .ip cs => some (.ip cs) | .op a b => some (.op a b) | .fn (.func f) a b => some (.fn (.func f) a b) | _ => none
def eNilF (row : String → TypeId → Bool) (x : AV) : Option AV := match x with | .fn (.method name) (.ifc t v :: r) ys => (match row name t with | true => some (.fn (.method name) (.ifc t v :: r) ys) | false => none) | x => eNil x
noncomputable def eLoad (g : Bool) (sz : Nat) (x : AV) (h : Heap) : Option AV :=
  match x with
  | .ip cs => ldE g sz cs
  | .op id o => (match getE h id with | some (.blk b) => ldE g sz (dropE o b.cells) | _ => none)
  | _ => none
section
omit [Laid]
variable {K : AV → Prop} {v : AV}
theorem eEqA_ok {neg : Bool} {ks : List Nat} {x y : AV} (h : eEqA neg ks x y = some v) (hk : K v) : iEqA neg ks x y K := by
  unfold eEqA at h; unfold iEqA
  split at h
  · split at h
    · rename_i b e; cases h; simp only [e]; cases neg <;> exact hk
    · cases h
  · cases h
theorem ePick_ok {c a b : AV} (h : ePick c a b = some v) (hk : K v) : iPick c a b K := by
  unfold ePick at h
  split at h
  · cases h; exact ⟨true, rfl, fun _ => hk, fun q => by cases q⟩
  · cases h; exact ⟨false, rfl, (fun q => by cases q), fun _ => hk⟩
  · cases h
theorem eNot_ok {x : AV} (h : eNot x = some v) (hk : K v) : iNot x K := by
  unfold eNot at h
  split at h
  · cases h; exact ⟨_, rfl, hk⟩
  · cases h
theorem eNeg_ok {x : AV} (h : eNeg x = some v) (hk : K v) : iNeg x K := by
  unfold eNeg at h
  split at h
  · exact ⟨_, _, rfl, eWr_ok h hk⟩
  · cases h
theorem eConv_ok {k : IntKind} {x : AV} (h : eConv k x = some v) (hk : K v) : iConv k x K := by
  unfold eConv at h
  split at h
  · cases h; rw [wrapE_eq] at hk; exact ⟨_, _, rfl, hk⟩
  · cases h
theorem eStrS_ok {x : AV} (h : eStrS x = some v) (hk : K v) : iStrS x K := by
  unfold eStrS at h
  split at h
  · cases h; exact hk
  · cases h
theorem eExtr_ok {i : Nat} {x : AV} (h : eExtr i x = some v) (hk : K v) : iExtr i x K := by
  unfold eExtr at h; unfold iExtr
  split at h
  · rw [getE_eq] at h; simp only [h]; exact hk
  · cases h
theorem ldE_ok {g : Bool} {sz : Nat} {cs : List AV} (h : ldE g sz cs = some v) (hk : K v) : ldP g sz cs K := by
  unfold ldE at h; unfold ldP
  cases g with
  | true =>
    simp only at h ⊢
    split at h
    · rename_i e; cases h; rw [takeE_eq] at hk; exact ⟨(hasN_iff _ _).1 e, hk⟩
    · cases h
  | false =>
    simp only at h ⊢
    split at h
    · cases h; exact hk
    · cases h
theorem eFld_ok {g : Bool} {off n : Nat} {x : AV} (h : eFld g off n x = some v) (hk : K v) : iFld g off n x K := by
  unfold eFld at h; unfold iFld
  split at h
  · rw [dropE_eq] at h; exact ldE_ok h hk
  · cases h
theorem eIdxS_ok {x i : AV} (h : eIdxS x i = some v) (hk : K v) : iIdxS x i K := by
  unfold eIdxS at h; unfold iIdxS
  split at h
  · split at h
    · rename_i b e
      cases h
      obtain ⟨e1, e2⟩ := getE_some e
      refine ⟨⟨Int.natCast_nonneg _, by simp only [Int.ofNat_eq_natCast]; omega⟩, ?_⟩
      simp only [Int.ofNat_eq_natCast, Int.toNat_natCast, List.getD_eq_getElem?_getD, e2, Option.getD_some]
      exact hk
    · cases h
  · cases h
theorem eIdxA_ok {g : Bool} {sz len : Nat} {x i : AV} (h : eIdxA g sz len x i = some v) (hk : K v) : iIdxA g sz len x i K := by
  unfold eIdxA at h; unfold iIdxA
  split at h
  · split at h
    · rename_i e
      rw [Nat.ble_eq] at e
      rw [dropE_eq] at h
      exact ⟨⟨Int.natCast_nonneg _, by simp only [Int.ofNat_eq_natCast]; omega⟩, ldE_ok h hk⟩
    · cases h
  · cases h
theorem eLo_some {lo : Option AV} {a : Nat} (h : eLo lo = some a) : optI lo 0 = some (a : Int) := by
  unfold eLo at h
  split at h
  · cases h; rfl
  · cases h; rfl
  · cases h
theorem eSlS_ok {x : AV} {lo hi : Option AV} (h : eSlS x lo hi = some v) (hk : K v) : iSlS x lo hi K := by
  unfold eSlS at h; unfold iSlS
  split at h
  · rename_i l
    split at h
    · rename_i a ea
      simp only [eLo_some ea]
      split at h
      · split at h
        · rename_i e
          cases h
          have := (hasN_iff _ _).1 e
          rw [dropE_eq] at hk
          simp only [optI]
          exact ⟨⟨by omega, by omega, by omega⟩, by simpa using hk⟩
        · cases h
      · rename_i b
        split at h
        · rename_i e1 e2
          cases h
          have := (hasN_iff _ _).1 e2
          rw [Nat.ble_eq] at e1
          rw [dropE_eq, takeE_eq] at hk
          simp only [optI, Int.ofNat_eq_natCast]
          exact ⟨⟨by omega, by omega, by omega⟩, by simpa using hk⟩
        · cases h
      · cases h
    · cases h
  · cases h
theorem eSl_ok {n : Nat} {x : AV} {lo hi : Option AV} (h : eSl n x lo hi = some v) (hk : K v) : iSl n x lo hi K := by
  unfold eSl at h; unfold iSl
  split at h
  · cases h
  · rename_i a ea
    simp only [eLo_some ea]
    generalize unsb x = y at h ⊢
    split at h
    · split at h
      · cases h
      · rename_i e0
        have e0 := Nat.eq_of_beq_eq_true e0
        split at h
        · split at h
          · rename_i e
            cases h
            have := (hasN_iff _ _).1 e
            rw [dropE_eq] at hk
            simp only [optI]
            exact ⟨e0, ⟨by omega, by omega, by omega⟩, by simpa using hk⟩
          · cases h
        · split at h
          · rename_i e1 e2
            cases h
            have := (hasN_iff _ _).1 e2
            rw [Nat.ble_eq] at e1
            rw [dropE_eq, takeE_eq] at hk
            simp only [optI, Int.ofNat_eq_natCast]
            exact ⟨e0, ⟨by omega, by omega, by omega⟩, by simpa using hk⟩
          · cases h
        · cases h
    · split at h
      · cases h
      · rename_i e0
        have e0 := Nat.eq_of_beq_eq_true e0
        split at h
        · split at h
          · rename_i e
            cases h
            rw [Nat.ble_eq] at e
            simp only [optI]
            refine ⟨e0, ⟨by omega, by omega, by omega⟩, ?_⟩
            rename_i id off len sz _ _ _ _
            rw [Int.toNat_natCast, show ((len : Int) - a).toNat = len - a by omega]; exact hk
          · cases h
        · rename_i b
          split at h
          · rename_i e1 e2
            cases h
            rw [Nat.ble_eq] at e1 e2
            simp only [optI, Int.ofNat_eq_natCast]
            refine ⟨e0, ⟨by omega, by omega, by omega⟩, ?_⟩
            rw [Int.toNat_natCast, show ((b : Int) - a).toNat = b - a by omega]; exact hk
          · cases h
        · cases h
    · split at h
      · cases h; exact ⟨⟨rfl, rfl⟩, hk⟩
      · cases h; exact ⟨⟨rfl, rfl⟩, hk⟩
      · cases h
    · cases h
theorem eSlA_ok {n sz : Nat} {x : AV} {lo hi : Option AV} {hp : Heap} (h : eSlA n sz x lo hi hp = some v) (hk : K v) : iSlA n sz x lo hi hp K := by
  unfold eSlA at h; unfold iSlA
  split at h
  · rename_i a b id off ea eb
    have hb : optI hi n = some (b : Int) := by
      split at eb
      · cases eb; rfl
      · cases eb; rfl
      · cases eb
    simp only [eLo_some ea, hb]
    split at h
    · rename_i blk e
      rw [getE_eq] at e
      simp only [e]
      split at h
      · rename_i e1 e2 e3 e4
        cases h
        rw [Nat.ble_eq] at e2 e3 e4
        refine ⟨⟨(hasN_iff _ _).1 e1, by omega, by omega, by omega, e4⟩, ?_⟩
        rw [Int.toNat_natCast, show ((b : Int) - a).toNat = b - a by omega]; exact hk
      · cases h
    · cases h
  · cases h
theorem eIdxP_ok {m : Nat} {x i : AV} (h : eIdxP m x i = some v) (hk : K v) : iIdxP m x i K := by
  unfold eIdxP at h; unfold iIdxP
  split at h
  · rename_i e1
    simp only [e1]
    split at h
    · rename_i e0
      split at h
      · rename_i r e
        cases h
        obtain ⟨h1, h2⟩ := getE_some e
        refine ⟨Nat.eq_of_beq_eq_true e0, ⟨Int.natCast_nonneg _, by simp only [Int.ofNat_eq_natCast]; omega⟩, ?_⟩
        simp only [Int.ofNat_eq_natCast, Int.toNat_natCast, List.getD_eq_getElem?_getD, h2, Option.getD_some]; exact hk
      · cases h
    · cases h
  · rename_i e1
    simp only [e1]
    split at h
    · rename_i e2 e3
      cases h
      rw [Nat.ble_eq] at e3
      exact ⟨Nat.eq_of_beq_eq_true e2, ⟨Int.natCast_nonneg _, by simp only [Int.ofNat_eq_natCast]; omega⟩, hk⟩
    · cases h
  · cases h
theorem eIdxQ_ok {len sz : Nat} {x i : AV} (h : eIdxQ len sz x i = some v) (hk : K v) : iIdxQ len sz x i K := by
  unfold eIdxQ at h; unfold iIdxQ
  split at h
  · split at h
    · rename_i e; cases h; rw [Nat.ble_eq] at e; exact ⟨⟨Int.natCast_nonneg _, by simp only [Int.ofNat_eq_natCast]; omega⟩, hk⟩
    · cases h
  · split at h
    · rename_i e; cases h; rw [Nat.ble_eq] at e; rw [dropE_eq] at hk; exact ⟨⟨Int.natCast_nonneg _, by simp only [Int.ofNat_eq_natCast]; omega⟩, hk⟩
    · cases h
  · cases h
theorem eFad_ok {off : Nat} {x : AV} (h : eFad off x = some v) (hk : K v) : iFad off x K := by
  unfold eFad at h; unfold iFad
  split at h
  · cases h; rw [dropE_eq] at hk; exact hk
  · cases h; exact hk
  · cases h
theorem eAsI_ok {has : TypeId → Bool} {x : AV} (h : eAsI has x = some v) (hk : K v) : iAsI has x K := by
  unfold eAsI at h
  unfold iAsI
  split at h
  · split at h
    · rename_i hh; cases h; exact ⟨hh, hk⟩
    · cases h
  · cases h
theorem eNil_ok {x : AV} (h : eNil x = some v) (hk : K v) : iNil x K := by
  unfold eNil at h; unfold iNil
  split at h <;> first | (cases h; exact hk) | cases h
theorem eNilF_ok {P : Program} {x : AV} (h : eNilF (fun n t => (mrow P n t).isSome) x = some v) (hk : K v) : iNilF P x K := by
  unfold eNilF at h
  unfold iNilF
  split at h
  · split at h
    · rename_i hm; cases h; exact ⟨hm, hk⟩
    · cases h
  · rename_i hne
    split
    · exact absurd rfl (hne _ _ _ _ _)
    · exact eNil_ok h hk
theorem eLoad_ok {g : Bool} {sz : Nat} {x : AV} {hp : Heap} (h : eLoad g sz x hp = some v) (hk : K v) : iLoad g sz x hp K := by
  unfold eLoad at h; unfold iLoad
  split at h
  · exact ldE_ok h hk
  · rw [getE_eq] at h
    split at h
    · rename_i e; simp only [e]; rw [dropE_eq] at h; exact ldE_ok h hk
    · cases h
  · cases h
end
end Go.Aw
