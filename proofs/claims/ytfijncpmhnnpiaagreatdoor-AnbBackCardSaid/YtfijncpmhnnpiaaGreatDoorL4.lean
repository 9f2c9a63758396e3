/-
  Code at known values, in a form that the kernel runs; and that the model does what it says. Statements in an open order, and code, at known values, in a form that the kernel runs; and that the model does what it says. A statement of few operations, in each order that it may take; a bool of which nothing is known; scopes that nothing jumps in. Code and calls at known values, in a form that the kernel runs; and that the model does what it says.
  No conditions.
-/
import Derived.Test.YtfijncpmhnnpiaaGreatDoorL3
import Derived.Scope
set_option linter.unusedVariables false
set_option linter.unusedSimpArgs false
section
namespace Go.Aw
open Go Go.RowKit
variable [Laid]

abbrev Out := AV × Heap
inductive RGd where
  | all
  | when (p : Pa) (w : Bool)
  | bad
inductive RG where
  | mk (d : Option Pa) (g : RGd) (o : ROp)
def RG.d (g : RG) : Option Pa := match g with | .mk d _ _ => d
def fitsD (n : Nat) (d : Option Tmp) : Bool := match d with | some t => Nat.ble (t + 1) n | none => true
noncomputable def cG (P : Program) (own : Bool) (n : Nat) (ops : Array Oper) (o : Oper) : RG :=
  .mk (o.dst.map paN)
    (match fitsD n o.dst, o.guard with
    | false, _ => .bad
    | true, none => .all
    | true, some (j, w) => (match dstOf ops j with | some d => .when (paN d) w | none => .bad))
    (cOp2 P own o.op)
/-- What an operation does, as a value that the kernel finds once. -/
inductive FB where
  | mk (f : CallF → Tr → Heap → Option (AV × Option Heap))
noncomputable def FB.go (b : FB) : CallF → Tr → Heap → Option (AV × Option Heap) := FB.casesOn (motive := fun _ => CallF → Tr → Heap → Option (AV × Option Heap)) b (fun f => f)
def iAdd (k : IntKind) (a b : Int) : Option AV := eWr k (a + b)
def iSub (k : IntKind) (a b : Int) : Option AV := eWr k (a - b)
def iMul (k : IntKind) (a b : Int) : Option AV := eWr k (a * b)
def iQuo (k : IntKind) (a b : Int) : Option AV := match isZI b with | false => some (.v (.int k (wrapE k (a.tdiv b)))) | true => none
def iRem (k : IntKind) (a b : Int) : Option AV := match isZI b with | false => some (.v (.int k (a.tmod b))) | true => none
def iAndF (k : IntKind) (a b : Int) : Option AV := some (.v (.int k (ibits .and k a b)))
def iOrF (k : IntKind) (a b : Int) : Option AV := some (.v (.int k (ibits .or k a b)))
def iXorF (k : IntKind) (a b : Int) : Option AV := some (.v (.int k (ibits .xor k a b)))
def iAndNotF (k : IntKind) (a b : Int) : Option AV := some (.v (.int k (ibits .andNot k a b)))
def iEqlF (_ : IntKind) (a b : Int) : Option AV := some (bool (eqI a b))
def iNeqF (_ : IntKind) (a b : Int) : Option AV := some (bool (!eqI a b))
def iLssF (_ : IntKind) (a b : Int) : Option AV := some (bool (ltI a b))
def iLeqF (_ : IntKind) (a b : Int) : Option AV := some (bool (!ltI b a))
def iGtrF (_ : IntKind) (a b : Int) : Option AV := some (bool (ltI b a))
def iGeqF (_ : IntKind) (a b : Int) : Option AV := some (bool (!ltI a b))
def iNoF (_ : IntKind) (_ _ : Int) : Option AV := none
inductive IB where
  | mk (f : IntKind → Int → Int → Option AV)
def IB.go (b : IB) : IntKind → Int → Int → Option AV := IB.casesOn (motive := fun _ => IntKind → Int → Int → Option AV) b (fun f => f)
def intB (op : BinOp) : IB :=
  match isShift op with
  | true => .mk (eShift op)
  | false => match op with
    | .add => .mk iAdd | .sub => .mk iSub | .mul => .mk iMul | .quo => .mk iQuo | .rem => .mk iRem
    | .and => .mk iAndF | .or => .mk iOrF | .xor => .mk iXorF | .andNot => .mk iAndNotF
    | .eql => .mk iEqlF | .neq => .mk iNeqF | .lss => .mk iLssF | .leq => .mk iLeqF | .gtr => .mk iGtrF | .geq => .mk iGeqF
    | _ => .mk iNoF
def intS (op : BinOp) (k k' : IntKind) (a b : Int) : Option AV := match isShift op with
  | true => (intB op).go k a b
  | false => (match kEq k k' with | true => (intB op).go k a b | false => none)
omit [Laid] in
theorem intS_eq (op : BinOp) (k k' : IntKind) (a b : Int) : intS op k k' a b = (match isShift op with | true => eShift op k a b | false => (match kEq k k' with | true => eInt op k a b | false => none)) := by
  cases op <;> rfl
noncomputable def eBinF (op : BinOp) (x y : AV) : Option AV :=
  match x with
  | .v (.int k a) => (match y with
    | .v (.int k' b) => intS op k k' a b
    | _ => none)
  | .str a => (match y with | .str b => eStr op a b | _ => none)
  | _ => none
omit [Laid] in
theorem eBinF_eq (op : BinOp) (x y : AV) : eBinF op x y = eBin op x y := by
  have h : ∀ k a, eBinF op (.v (.int k a)) y = eBin op (.v (.int k a)) y := by
    intro k a
    cases y with
    | v b => cases b with
      | int k' b => exact intS_eq _ _ _ _ _
      | _ => rfl
    | _ => rfl
  cases x with
  | v a => cases a with
    | int k a => exact h k a
    | _ => rfl
  | str a => cases y <;> rfl
  | _ => rfl
noncomputable def f_move (x : RO) (_ : CallF) (T : Tr) (_ : Heap) : Option (AV × Option Heap) := some (evR T x, none)
noncomputable def f_pick (c : RO) (a : RO) (b : RO) (_ : CallF) (T : Tr) (_ : Heap) : Option (AV × Option Heap) := same (ePick (evR T c) (evR T a) (evR T b))
noncomputable def f_bin (op : BinOp) (x : RO) (y : RO) (_ : CallF) (T : Tr) (_ : Heap) : Option (AV × Option Heap) := same (eBinF op (evR T x) (evR T y))
noncomputable def f_binB (op : BinOp) (x : RO) (y : RO) (_ : CallF) (T : Tr) (_ : Heap) : Option (AV × Option Heap) := same (eBinB op (evR T x) (evR T y))
noncomputable def f_eqA (neg : Bool) (ks : List Nat) (x : RO) (y : RO) (_ : CallF) (T : Tr) (_ : Heap) : Option (AV × Option Heap) := same (eEqA neg ks (evR T x) (evR T y))
noncomputable def f_not (x : RO) (_ : CallF) (T : Tr) (_ : Heap) : Option (AV × Option Heap) := same (eNot (evR T x))
noncomputable def f_neg (x : RO) (_ : CallF) (T : Tr) (_ : Heap) : Option (AV × Option Heap) := same (eNeg (evR T x))
noncomputable def f_conv (k : IntKind) (x : RO) (_ : CallF) (T : Tr) (_ : Heap) : Option (AV × Option Heap) := same (eConv k (evR T x))
noncomputable def f_strS (x : RO) (_ : CallF) (T : Tr) (_ : Heap) : Option (AV × Option Heap) := same (eStrS (evR T x))
noncomputable def f_toBytes (e : Nat) (x : RO) (_ : CallF) (T : Tr) (h : Heap) : Option (AV × Option Heap) := turned (eToBytes e (evR T x) h)
noncomputable def f_ofBytes (x : RO) (_ : CallF) (T : Tr) (h : Heap) : Option (AV × Option Heap) := same (eOfBytes (evR T x) h)
noncomputable def f_extr (x : RO) (i : Nat) (_ : CallF) (T : Tr) (_ : Heap) : Option (AV × Option Heap) := same (eExtr i (evR T x))
noncomputable def f_fld (g : Bool) (off : Nat) (n : Nat) (x : RO) (_ : CallF) (T : Tr) (_ : Heap) : Option (AV × Option Heap) := same (eFld g off n (evR T x))
noncomputable def f_idxS (x : RO) (i : RO) (_ : CallF) (T : Tr) (_ : Heap) : Option (AV × Option Heap) := same (eIdxS (evR T x) (evR T i))
noncomputable def f_idxA (g : Bool) (sz : Nat) (len : Nat) (x : RO) (i : RO) (_ : CallF) (T : Tr) (_ : Heap) : Option (AV × Option Heap) := same (eIdxA g sz len (evR T x) (evR T i))
noncomputable def f_slS (x : RO) (lo : Option RO) (hi : Option RO) (_ : CallF) (T : Tr) (_ : Heap) : Option (AV × Option Heap) := same (eSlS (evR T x) (lo.map (evR T)) (hi.map (evR T)))
noncomputable def f_sl (n : Nat) (x : RO) (lo : Option RO) (hi : Option RO) (_ : CallF) (T : Tr) (_ : Heap) : Option (AV × Option Heap) := same (eSl n (evR T x) (lo.map (evR T)) (hi.map (evR T)))
noncomputable def f_slA (n : Nat) (sz : Nat) (x : RO) (lo : Option RO) (hi : Option RO) (_ : CallF) (T : Tr) (h : Heap) : Option (AV × Option Heap) := same (eSlA n sz (evR T x) (lo.map (evR T)) (hi.map (evR T)) h)
noncomputable def f_idxP (m : Nat) (x : RO) (i : RO) (_ : CallF) (T : Tr) (_ : Heap) : Option (AV × Option Heap) := same (eIdxP m (evR T x) (evR T i))
noncomputable def f_idxQ (len : Nat) (sz : Nat) (x : RO) (i : RO) (_ : CallF) (T : Tr) (_ : Heap) : Option (AV × Option Heap) := same (eIdxQ len sz (evR T x) (evR T i))
noncomputable def f_fad (off : Nat) (x : RO) (_ : CallF) (T : Tr) (_ : Heap) : Option (AV × Option Heap) := same (eFad off (evR T x))
noncomputable def f_nil (row : String → TypeId → Bool) (x : RO) (_ : CallF) (T : Tr) (_ : Heap) : Option (AV × Option Heap) := same (eNilF row (evR T x))
noncomputable def f_mkI (t : TypeId) (x : RO) (_ : CallF) (T : Tr) (_ : Heap) : Option (AV × Option Heap) := some (.ifc t (evR T x), none)
noncomputable def f_asI (has : TypeId → Bool) (x : RO) (_ : CallF) (T : Tr) (_ : Heap) : Option (AV × Option Heap) := same (eAsI has (evR T x))
noncomputable def f_inv (_x0 : Bool) (row : TypeId → Option FuncId) (x : RO) (args : List RO) (call : CallF) (T : Tr) (h : Heap) : Option (AV × Option Heap) := (match evR T x with
      | .ifc t v => (match row t with | some f => call f (v :: args.map (evR T)) h | none => none)
      | _ => none)
noncomputable def f_load (g : Bool) (sz : Nat) (x : RO) (_ : CallF) (T : Tr) (h : Heap) : Option (AV × Option Heap) := same (eLoad g sz (evR T x) h)
noncomputable def f_store (sz : Nat) (x : RO) (v : RO) (_ : CallF) (T : Tr) (h : Heap) : Option (AV × Option Heap) := (match eStore sz (evR T x) (evR T v) h with | some h' => some (.v undef, some h') | none => none)
noncomputable def f_new (t : Nat) (z : AV) (_ : CallF) (_ : Tr) (h : Heap) : Option (AV × Option Heap) := turned (eNew t z h)
noncomputable def f_box (t : Nat) (x : RO) (_ : CallF) (T : Tr) (h : Heap) : Option (AV × Option Heap) := turned (eNew t (evR T x) h)
noncomputable def f_build (z : AV) (ps : List (Nat × Nat × RO)) (_ : CallF) (T : Tr) (_ : Heap) : Option (AV × Option Heap) := same (eBuild z (evPs T ps))
noncomputable def f_mkSl (t : Nat) (len : Nat) (sz : Nat) (z : AV) (ps : List (Nat × Nat × RO)) (_ : CallF) (T : Tr) (h : Heap) : Option (AV × Option Heap) := turned (eMkSl t len sz z (evPs T ps) h)
noncomputable def f_mkSlP (len : Nat) (sz : Nat) (z : AV) (ps : List (Nat × Nat × RO)) (_ : CallF) (T : Tr) (_ : Heap) : Option (AV × Option Heap) := same (eMkSlP len sz z (evPs T ps))
noncomputable def f_make (e : Nat) (sz : Nat) (bytes : Nat) (z : AV) (l : RO) (c : RO) (_ : CallF) (T : Tr) (h : Heap) : Option (AV × Option Heap) := turned (eMake e sz bytes z (evR T l) (evR T c) h)
noncomputable def f_func (f : Fn) (xs : List RO) (ys : List RO) (_ : CallF) (T : Tr) (_ : Heap) : Option (AV × Option Heap) := some (.fn f (xs.map (evR T)) (ys.map (evR T)), none)
noncomputable def f_lenS (x : RO) (_ : CallF) (T : Tr) (_ : Heap) : Option (AV × Option Heap) := same (eLenS (evR T x))
noncomputable def f_len (x : RO) (_ : CallF) (T : Tr) (_ : Heap) : Option (AV × Option Heap) := same (eLen (evR T x))
noncomputable def f_min (x : RO) (y : RO) (_ : CallF) (T : Tr) (_ : Heap) : Option (AV × Option Heap) := same (eMin (evR T x) (evR T y))
noncomputable def f_max3 (x : RO) (y : RO) (z : RO) (_ : CallF) (T : Tr) (_ : Heap) : Option (AV × Option Heap) := same (match eMax (evR T x) (evR T y) with | some u => eMax u (evR T z) | none => none)
noncomputable def f_max (x : RO) (y : RO) (_ : CallF) (T : Tr) (_ : Heap) : Option (AV × Option Heap) := same (eMax (evR T x) (evR T y))
noncomputable def f_app (own : Bool) (e : Nat) (sz : Nat) (bytes : Nat) (x : RO) (y : RO) (_ : CallF) (T : Tr) (h : Heap) : Option (AV × Option Heap) := turned (eAppTo own e sz bytes (evR T x) (srcE h sz (evR T y)) h)
noncomputable def f_appS (own : Bool) (e : Nat) (bytes : Nat) (x : RO) (y : RO) (_ : CallF) (T : Tr) (h : Heap) : Option (AV × Option Heap) := turned (eAppTo own e 1 bytes (evR T x) (srcS (evR T y)) h)
noncomputable def f_isNilI (neg : Bool) (x : RO) (_ : CallF) (T : Tr) (_ : Heap) : Option (AV × Option Heap) := (match nilIT (evR T x) with | some b => some (bool (negB neg b), none) | none => none)
noncomputable def f_isNilP (neg : Bool) (x : RO) (_ : CallF) (T : Tr) (_ : Heap) : Option (AV × Option Heap) := (match nilPT (evR T x) with | some b => some (bool (negB neg b), none) | none => none)
noncomputable def f_isNilS (neg : Bool) (x : RO) (_ : CallF) (T : Tr) (_ : Heap) : Option (AV × Option Heap) := (match nilST (evR T x) with | some b => some (bool (negB neg b), none) | none => none)
noncomputable def f_call (_x0 : Bool) (x : RO) (args : List RO) (call : CallF) (T : Tr) (h : Heap) : Option (AV × Option Heap) := (match evR T x with
      | .fn (.func f) a b => call f (a ++ args.map (evR T) ++ b) h
      | _ => none)
noncomputable def f_mkMap (r : Option RO) (_ : CallF) (T : Tr) (h : Heap) : Option (AV × Option Heap) := eMkM (r.map (evR T)) h
noncomputable def f_mUpd (d : TypeDesc) (m k x : RO) (_ : CallF) (T : Tr) (h : Heap) : Option (AV × Option Heap) := eMUp d (evR T m) (evR T k) (evR T x) h
noncomputable def f_look (d : TypeDesc) (ok : Bool) (z : AV) (m k : RO) (_ : CallF) (T : Tr) (h : Heap) : Option (AV × Option Heap) := eMLk d ok z (evR T m) (evR T k) h
noncomputable def f_mDel (d : TypeDesc) (m k : RO) (_ : CallF) (T : Tr) (h : Heap) : Option (AV × Option Heap) := eMDl d (evR T m) (evR T k) h
noncomputable def f_rng (m : RO) (_ : CallF) (T : Tr) (h : Heap) : Option (AV × Option Heap) := eRng (evR T m) h
noncomputable def f_entry (x : RO) (_ : CallF) (T : Tr) (h : Heap) : Option (AV × Option Heap) := eEnt (evR T x) h
noncomputable def f_isNilM (neg : Bool) (x : RO) (_ : CallF) (T : Tr) (_ : Heap) : Option (AV × Option Heap) := eNlM neg (evR T x)
noncomputable def f_sl3 (n : Nat) (x : RO) (lo : Option RO) (hi mx : RO) (_ : CallF) (T : Tr) (_ : Heap) : Option (AV × Option Heap) := eSl3 n (evR T x) (lo.map (evR T)) (evR T hi) (evR T mx)
noncomputable def f_cap0 (x : RO) (_ : CallF) (T : Tr) (_ : Heap) : Option (AV × Option Heap) := eCap0 (evR T x)
noncomputable def f_appZ (e sz bytes : Nat) (z : AV) (x y : RO) (_ : CallF) (T : Tr) (h : Heap) : Option (AV × Option Heap) := eAppZ e sz bytes z (evR T x) (evR T y) h
noncomputable def f_appN (own : Bool) (e sz bytes : Nat) (x y : RO) (_ : CallF) (T : Tr) (h : Heap) : Option (AV × Option Heap) := eAppN own e sz bytes (evR T x) (srcE h sz (evR T y)) h
noncomputable def f_copy (sz : Nat) (x y : RO) (_ : CallF) (T : Tr) (h : Heap) : Option (AV × Option Heap) := eCopy sz (evR T x) (evR T y) h
noncomputable def f_bad  (_ : CallF) (_ : Tr) (_ : Heap) : Option (AV × Option Heap) := none
noncomputable def toFB (o : ROp) : FB :=
  match o with
  | .move x => .mk (f_move x)
  | .pick c a b => .mk (f_pick c a b)
  | .bin op x y => .mk (f_bin op x y)
  | .binB op x y => .mk (f_binB op x y)
  | .eqA neg ks x y => .mk (f_eqA neg ks x y)
  | .not x => .mk (f_not x)
  | .neg x => .mk (f_neg x)
  | .conv k x => .mk (f_conv k x)
  | .strS x => .mk (f_strS x)
  | .toBytes e x => .mk (f_toBytes e x)
  | .ofBytes x => .mk (f_ofBytes x)
  | .extr x i => .mk (f_extr x i)
  | .fld g off n x => .mk (f_fld g off n x)
  | .idxS x i => .mk (f_idxS x i)
  | .idxA g sz len x i => .mk (f_idxA g sz len x i)
  | .slS x lo hi => .mk (f_slS x lo hi)
  | .sl n x lo hi => .mk (f_sl n x lo hi)
  | .slA n sz x lo hi => .mk (f_slA n sz x lo hi)
  | .idxP m x i => .mk (f_idxP m x i)
  | .idxQ len sz x i => .mk (f_idxQ len sz x i)
  | .fad off x => .mk (f_fad off x)
  | .nil row x => .mk (f_nil row x)
  | .mkI t x => .mk (f_mkI t x)
  | .asI has x => .mk (f_asI has x)
  | .inv x0 row x args => .mk (f_inv x0 row x args)
  | .load g sz x => .mk (f_load g sz x)
  | .store sz x v => .mk (f_store sz x v)
  | .new t z => .mk (f_new t z)
  | .box t x => .mk (f_box t x)
  | .build z ps => .mk (f_build z ps)
  | .mkSl t len sz z ps => .mk (f_mkSl t len sz z ps)
  | .mkSlP len sz z ps => .mk (f_mkSlP len sz z ps)
  | .make e sz bytes z l c => .mk (f_make e sz bytes z l c)
  | .func f xs ys => .mk (f_func f xs ys)
  | .lenS x => .mk (f_lenS x)
  | .len x => .mk (f_len x)
  | .min x y => .mk (f_min x y)
  | .max x y => .mk (f_max x y)
  | .max3 x y z => .mk (f_max3 x y z)
  | .app own e sz bytes x y => .mk (f_app own e sz bytes x y)
  | .appS own e bytes x y => .mk (f_appS own e bytes x y)
  | .isNilI neg x => .mk (f_isNilI neg x)
  | .isNilP neg x => .mk (f_isNilP neg x)
  | .isNilS neg x => .mk (f_isNilS neg x)
  | .call x0 x args => .mk (f_call x0 x args)
  | .mkMap r => .mk (f_mkMap r)
  | .mUpd d m k x => .mk (f_mUpd d m k x)
  | .look d ok z m k => .mk (f_look d ok z m k)
  | .mDel d m k => .mk (f_mDel d m k)
  | .rng m => .mk (f_rng m)
  | .entry x => .mk (f_entry x)
  | .isNilM neg x => .mk (f_isNilM neg x)
  | .sl3 n x lo hi mx => .mk (f_sl3 n x lo hi mx)
  | .cap0 x => .mk (f_cap0 x)
  | .appZ e sz bytes z x y => .mk (f_appZ e sz bytes z x y)
  | .appN own e sz bytes x y => .mk (f_appN own e sz bytes x y)
  | .copy sz x y => .mk (f_copy sz x y)
  | .bad => .mk (f_bad)
omit [Laid] in
theorem toFB_go (call : CallF) (o : ROp) (T : Tr) (h : Heap) : (toFB o).go call T h = eR call o T h := by
  cases o with
  | bin op x y => exact congrArg same (eBinF_eq op _ _)
  | _ => rfl
noncomputable def f_when (p : Pa) (w : Bool) (b : FB) (call : CallF) (T : Tr) (h : Heap) : Option (AV × Option Heap) := match getP p T with
  | .v (.bool b') => (match b', w with
    | true, true => b.go call T h
    | false, false => b.go call T h
    | _, _ => some (.v undef, none))
  | .v (.tuple x) => (match x.toList with | [] => some (.v undef, none) | _ => none)
  | _ => none
noncomputable def f_no (_ : CallF) (_ : Tr) (_ : Heap) : Option (AV × Option Heap) := none
noncomputable def gFB (g : RG) : FB :=
  match g with
  | .mk _ gd o => match gd with
    | .all => toFB o
    | .when p w => .mk (f_when p w (toFB o))
    | .bad => .mk f_no
noncomputable def eG (call : CallF) (g : RG) (T : Tr) (h : Heap) : Option (AV × Option Heap) := (gFB g).go call T h
noncomputable def eG0 (call : CallF) (g : RG) (T : Tr) (h : Heap) : Option (AV × Option Heap) :=
  match g with
  | .mk _ gd o => match gd with
    | .all => eR call o T h
    | .when p w => (match getP p T with
      | .v (.bool b) => (match b, w with
        | true, true => eR call o T h
        | false, false => eR call o T h
        | _, _ => some (.v undef, none))
      | .v (.tuple x) => (match x.toList with | [] => some (.v undef, none) | _ => none)
      | _ => none)
    | .bad => none

omit [Laid] in
theorem eG_eq (call : CallF) (g : RG) (T : Tr) (h : Heap) : eG call g T h = eG0 call g T h := by
  unfold eG eG0 gFB
  split
  split
  · exact toFB_go call _ T h
  · show f_when _ _ _ call T h = _
    unfold f_when
    simp only [toFB_go]
  · rfl

section
variable {P : Program} {call : CallF} {own : Bool} {n : Nat} {ops : Array Oper} {o : Oper} {T : Tr} {h : Heap} {v : AV} {oh : Option Heap} {fr : Fr}
theorem eG_ok (hc : CallOK P call) (hf : Fits fr T) (e : eG call (cG P own n ops o) T h = some (v, oh)) : YO P ops n h (oh.getD h) o v fr ∧ ∀ d : Nat, o.dst = some d → d < n := by
  unfold cG at e
  simp only [eG_eq, eG0] at e
  have run : eR call (cOp2 P own o.op) T h = some (v, oh) → SemS P n h o fr fun v' h' => v' = v ∧ h' = oh.getD h := fun e => eR_sem2 (own := own) hc (evR_eq hf) e ⟨rfl, rfl⟩
  have fd : fitsD n o.dst = true → ∀ d : Nat, o.dst = some d → d < n := fun q d hd => by
    rw [hd] at q; simp only [fitsD, Nat.ble_eq] at q; omega
  cases hfd : fitsD n o.dst with
  | false => rw [hfd] at e; simp at e
  | true =>
    rw [hfd] at e
    refine ⟨?_, fd hfd⟩
    cases hg : o.guard with
    | none => rw [hg] at e; simp only at e; exact .inl ⟨by simp [wantA, hg], run e⟩
    | some jw =>
      obtain ⟨j, w⟩ := jw
      rw [hg] at e
      simp only at e
      cases hd : dstOf ops j with
      | none => rw [hd] at e; simp at e
      | some d =>
        rw [hd] at e
        simp only at e
        have hgd := hf d
        split at e
        · rename_i b hb
          rw [hb] at hgd
          cases b <;> cases w <;> simp only at e
          · exact .inl ⟨by simp [wantA, hg, hd, hgd], run e⟩
          · cases e; exact .inr ⟨by simp [wantA, hg, hd, hgd], rfl, rfl⟩
          · cases e; exact .inr ⟨by simp [wantA, hg, hd, hgd], rfl, rfl⟩
          · exact .inl ⟨by simp [wantA, hg, hd, hgd], run e⟩
        · rename_i x hb
          rw [hb] at hgd
          split at e
          · rename_i hx
            cases e
            have hx : x = #[] := by cases x; simp at hx; rw [hx]
            exact .inr ⟨by simp [wantA, hg, hd, hgd, hx], rfl, rfl⟩
          · cases e
        · cases e
omit [Laid] in
theorem Fits.set {d : Option Tmp} {x : AV} (hf : Fits fr T) (hd : ∀ t : Nat, d = some t → t < n) : Fits (setFr n fr d x) (putO (d.map paN) x T) := by
  cases d with
  | none => exact hf
  | some t =>
    simp only [setFr, hd t rfl, if_true, Option.map_some, putO]
    exact hf.put t x
end

/-! ### Operations in a row -/
noncomputable def runReg (call : CallF) (l : List RG) : Tr → Heap → (Tr → Heap → Option Out) → Option Out :=
  List.rec (motive := fun _ => Tr → Heap → (Tr → Heap → Option Out) → Option Out) (fun T h k => k T h)
    (fun g _ ih T h k => match eG call g T h with
      | some (v, none) => ih (putO g.d v T) h k
      | some (v, some h') => ih (putO g.d v T) h' k
      | none => none) l
noncomputable def cGs (P : Program) (own : Nat → Bool) (n : Nat) (ops : Array Oper) : Nat → List Oper → List RG
  | _, [] => []
  | i, o :: r => cG P (own i) n ops o :: cGs P own n ops (i + 1) r

/-- What code comes to, told of trees. -/
def PostR (n : Nat) (q : Exit → Tr → Heap → Option Out) (r : Out) : Exit → St → Prop := fun e st' => st'.n = n ∧ ∃ T', Fits st'.fr T' ∧ q e T' st'.h = some r

section
variable {P : Program} {call : CallF} {own : Nat → Bool} {n : Nat} {ops : Array Oper} {m : Nat} {r : Out}
theorem reg_sound (hc : CallOK P call) {k : Tr → Heap → Option Out} {Q : Exit → St → Prop} (hQ : ∀ st' T', st'.n = n → Fits st'.fr T' → k T' st'.h = some r → Q .normal st') : ∀ (l : List Oper) (i : Nat) (base : Nat) (ι : List Ix) (S : Stab) (a : Act) (w : World) (fr : Fr) (h : Heap) (T : Tr),
    (∀ j, j < l.length → ops[i + j]? = l[j]?) → m ≤ h.length → ROK base ι S a w ⟨n, fr, h⟩ → Fits fr T → runReg call (cGs P own n ops i l) T h k = some r → wpOps P ops (Post m base ι S w Q) (List.range' i l.length) a w
  | [], i, base, ι, S, a, w, fr, h, T, _, hm, hr, hf, e => ⟨ι, S, ⟨n, fr, h⟩, Evo.refl _ _ _ _ _, hm, hr, hQ _ T rfl hf e⟩
  | o :: l, i, base, ι, S, a, w, fr, h, T, hl, hm, hr, hf, e => by
    have h0 : ops[i]? = some o := by simpa using hl 0 (by simp)
    rw [List.length_cons, List.range'_succ, wpOps_cons]
    simp only [cGs, runReg] at e
    cases eg : eG call (cG P (own i) n ops o) T h with
    | none => rw [eg] at e; simp at e
    | some p =>
      obtain ⟨v, oh⟩ := p
      obtain ⟨hy, hd⟩ := eG_ok hc hf eg
      rw [eg] at e
      refine hy.sound h0 hr fun ι' S' a' w' hE hlen hr' => ?_
      have hf' : Fits (setFr n fr o.dst v) (putO (RG.d (cG P (own i) n ops o)) v T) := hf.set hd
      have key : ∀ h2, oh.getD h = h2 → runReg call (cGs P own n ops (i + 1) l) (putO (RG.d (cG P (own i) n ops o)) v T) h2 k = some r → wpOps P ops (Post m base ι S w Q) (List.range' (i + 1) l.length) a' w' := by
        rintro h2 rfl e2
        have := reg_sound hc hQ l (i + 1) base ι' S' a' w' _ _ _ (fun j hj => by have := hl (j + 1) (by simp; omega); simpa [Nat.add_assoc, Nat.add_comm 1 j] using this) (by omega) hr' hf' e2
        exact wpOps_mono (fun e a w z => Post.trans (hE.mono (by rw [hr.hp.len]; exact hm) (Nat.le_refl _)) z) _ _ _ this
      cases oh with
      | none => exact key _ rfl e
      | some h' => exact key _ rfl e
end

/-! ### Operations in an open order -/
noncomputable def beqV (x y : Value) : Bool :=
  match x, y with
  | .bool a, .bool b => a == b
  | .int k a, .int k' b => (match kEq k k' with | true => eqI a b | false => false)
  | .pointer none, .pointer none => true
  | .nilFunc, .nilFunc => true
  | .nilIface, .nilIface => true
  | .slice none 0 0, .slice none 0 0 => true
  | .tuple a, .tuple b => (match a.toList, b.toList with | [], [] => true | _, _ => false)
  | _, _ => false
/-- The same value; false where that is not seen at once. -/
noncomputable def beqA (a : AV) : AV → Bool :=
  AV.rec (motive_1 := fun _ => AV → Bool) (motive_2 := fun _ => List AV → Bool) (motive_3 := fun _ => List (List AV) → Bool)
    (fun x b => match b with | .v y => beqV x y | _ => false)
    (fun l b => match b with | .str m => eqL l m | _ => false)
    (fun b => match b with | .any => true | _ => false)
    (fun _ ih b => match b with | .agg ds => ih ds | _ => false)
    (fun _ ih b => match b with | .tup ds => ih ds | _ => false)
    (fun b => match b with | .emp => true | _ => false)
    (fun sz _ ih b => match b with | .sl sz' rows => (match Nat.beq sz sz' with | true => ih rows | false => false) | _ => false)
    (fun id sz _ ih b => match b with | .sb id' sz' rows => (match Nat.beq id id', Nat.beq sz sz' with | true, true => ih rows | _, _ => false) | _ => false)
    (fun _ ih b => match b with | .ip ds => ih ds | _ => false)
    (fun id off len sz b => match b with | .own id' off' len' sz' => (match Nat.beq id id', Nat.beq off off', Nat.beq len len', Nat.beq sz sz' with | true, true, true, true => true | _, _, _, _ => false) | _ => false)
    (fun id off b => match b with | .op id' off' => (match Nat.beq id id', Nat.beq off off' with | true, true => true | _, _ => false) | _ => false)
    (fun f _ _ ih1 ih2 b => match b with | .fn g xs ys => (match f, g with | .func i, .func j => (match Nat.beq i j, ih1 xs, ih2 ys with | true, true, true => true | _, _, _ => false) | _, _ => false) | _ => false)
    (fun t _ ih b => match b with | .ifc t' y => (match Nat.beq t t' with | true => ih y | false => false) | _ => false)
    (fun id b => match b with | .mp id' => Nat.beq id id' | _ => false)
    (fun b => match b with | [] => true | _ => false)
    (fun _ _ ih1 ih2 b => match b with | [] => false | y :: ys => (match ih1 y with | true => ih2 ys | false => false))
    (fun b => match b with | [] => true | _ => false)
    (fun _ _ ih1 ih2 b => match b with | [] => false | y :: ys => (match ih1 y with | true => ih2 ys | false => false)) a
omit [Laid] in
theorem beqV_eq {x y : Value} (h : beqV x y = true) : x = y := by
  unfold beqV at h
  split at h
  · simpa using h
  · split at h
    · rename_i e; rw [eqI_eq] at h; rw [kEq_eq e, of_decide_eq_true h]
    · cases h
  · rfl
  · rfl
  · rfl
  · rfl
  · rename_i a b
    cases a; cases b
    split at h
    · rename_i e1 e2; simp only at e1 e2; rw [e1, e2]
    · cases h
  · cases h
omit [Laid] in
theorem beqA_eq (a : AV) : ∀ b, beqA a b = true → a = b := by
  refine AV.rec (motive_1 := fun a => ∀ b, beqA a b = true → a = b)
    (motive_2 := fun l => ∀ m : List AV, (AV.rec_1 (motive_1 := fun _ => AV → Bool) (motive_2 := fun _ => List AV → Bool) (motive_3 := fun _ => List (List AV) → Bool) (fun x b => match b with | .v y => beqV x y | _ => false)
    (fun l b => match b with | .str m => eqL l m | _ => false)
    (fun b => match b with | .any => true | _ => false)
    (fun _ ih b => match b with | .agg ds => ih ds | _ => false)
    (fun _ ih b => match b with | .tup ds => ih ds | _ => false)
    (fun b => match b with | .emp => true | _ => false)
    (fun sz _ ih b => match b with | .sl sz' rows => (match Nat.beq sz sz' with | true => ih rows | false => false) | _ => false)
    (fun id sz _ ih b => match b with | .sb id' sz' rows => (match Nat.beq id id', Nat.beq sz sz' with | true, true => ih rows | _, _ => false) | _ => false)
    (fun _ ih b => match b with | .ip ds => ih ds | _ => false)
    (fun id off len sz b => match b with | .own id' off' len' sz' => (match Nat.beq id id', Nat.beq off off', Nat.beq len len', Nat.beq sz sz' with | true, true, true, true => true | _, _, _, _ => false) | _ => false)
    (fun id off b => match b with | .op id' off' => (match Nat.beq id id', Nat.beq off off' with | true, true => true | _, _ => false) | _ => false)
    (fun f _ _ ih1 ih2 b => match b with | .fn g xs ys => (match f, g with | .func i, .func j => (match Nat.beq i j, ih1 xs, ih2 ys with | true, true, true => true | _, _, _ => false) | _, _ => false) | _ => false)
    (fun t _ ih b => match b with | .ifc t' y => (match Nat.beq t t' with | true => ih y | false => false) | _ => false)
    (fun id b => match b with | .mp id' => Nat.beq id id' | _ => false)
    (fun b => match b with | [] => true | _ => false)
    (fun _ _ ih1 ih2 b => match b with | [] => false | y :: ys => (match ih1 y with | true => ih2 ys | false => false))
    (fun b => match b with | [] => true | _ => false)
    (fun _ _ ih1 ih2 b => match b with | [] => false | y :: ys => (match ih1 y with | true => ih2 ys | false => false)) l m) = true → l = m)
    (motive_3 := fun l => ∀ m : List (List AV), (AV.rec_2 (motive_1 := fun _ => AV → Bool) (motive_2 := fun _ => List AV → Bool) (motive_3 := fun _ => List (List AV) → Bool) (fun x b => match b with | .v y => beqV x y | _ => false)
    (fun l b => match b with | .str m => eqL l m | _ => false)
    (fun b => match b with | .any => true | _ => false)
    (fun _ ih b => match b with | .agg ds => ih ds | _ => false)
    (fun _ ih b => match b with | .tup ds => ih ds | _ => false)
    (fun b => match b with | .emp => true | _ => false)
    (fun sz _ ih b => match b with | .sl sz' rows => (match Nat.beq sz sz' with | true => ih rows | false => false) | _ => false)
    (fun id sz _ ih b => match b with | .sb id' sz' rows => (match Nat.beq id id', Nat.beq sz sz' with | true, true => ih rows | _, _ => false) | _ => false)
    (fun _ ih b => match b with | .ip ds => ih ds | _ => false)
    (fun id off len sz b => match b with | .own id' off' len' sz' => (match Nat.beq id id', Nat.beq off off', Nat.beq len len', Nat.beq sz sz' with | true, true, true, true => true | _, _, _, _ => false) | _ => false)
    (fun id off b => match b with | .op id' off' => (match Nat.beq id id', Nat.beq off off' with | true, true => true | _, _ => false) | _ => false)
    (fun f _ _ ih1 ih2 b => match b with | .fn g xs ys => (match f, g with | .func i, .func j => (match Nat.beq i j, ih1 xs, ih2 ys with | true, true, true => true | _, _, _ => false) | _, _ => false) | _ => false)
    (fun t _ ih b => match b with | .ifc t' y => (match Nat.beq t t' with | true => ih y | false => false) | _ => false)
    (fun id b => match b with | .mp id' => Nat.beq id id' | _ => false)
    (fun b => match b with | [] => true | _ => false)
    (fun _ _ ih1 ih2 b => match b with | [] => false | y :: ys => (match ih1 y with | true => ih2 ys | false => false))
    (fun b => match b with | [] => true | _ => false)
    (fun _ _ ih1 ih2 b => match b with | [] => false | y :: ys => (match ih1 y with | true => ih2 ys | false => false)) l m) = true → l = m) ?_ ?_ ?_ ?_ ?_ ?_ ?_ ?_ ?_ ?_ ?_ ?_ ?_ ?_ ?_ ?_ ?_ ?_ a
  · intro x b h; unfold beqA at h; simp only at h; split at h
    · rw [beqV_eq h]
    · cases h
  · intro l b h; unfold beqA at h; simp only at h; split at h
    · rw [eqL_eq] at h; rw [of_decide_eq_true h]
    · cases h
  · intro b h; unfold beqA at h; simp only at h; split at h
    · rfl
    · cases h
  · intro cs ih b h; unfold beqA at h; simp only at h; split at h
    · rw [ih _ h]
    · cases h
  · intro cs ih b h; unfold beqA at h; simp only at h; split at h
    · rw [ih _ h]
    · cases h
  · intro b h; unfold beqA at h; simp only at h; split at h
    · rfl
    · cases h
  · intro sz rows ih b h; unfold beqA at h; simp only at h; split at h
    · split at h
      · rename_i e; rw [ih _ h, Nat.eq_of_beq_eq_true e]
      · cases h
    · cases h
  · intro id sz rows ih b h; unfold beqA at h; simp only at h; split at h
    · split at h
      · rename_i e1 e2; rw [ih _ h, Nat.eq_of_beq_eq_true e1, Nat.eq_of_beq_eq_true e2]
      · cases h
    · cases h
  · intro cs ih b h; unfold beqA at h; simp only at h; split at h
    · rw [ih _ h]
    · cases h
  · intro id off len sz b h; unfold beqA at h; simp only at h; split at h
    · split at h
      · rename_i e1 e2 e3 e4; rw [Nat.eq_of_beq_eq_true e1, Nat.eq_of_beq_eq_true e2, Nat.eq_of_beq_eq_true e3, Nat.eq_of_beq_eq_true e4]
      · cases h
    · cases h
  · intro id off b h; unfold beqA at h; simp only at h; split at h
    · split at h
      · rename_i e1 e2; rw [Nat.eq_of_beq_eq_true e1, Nat.eq_of_beq_eq_true e2]
      · cases h
    · cases h
  · intro f xs ys ih1 ih2 b h; unfold beqA at h; simp only at h; split at h
    · split at h
      · split at h
        · rename_i e1 e2 e3; rw [Nat.eq_of_beq_eq_true e1, ih1 _ e2, ih2 _ e3]
        · cases h
      · cases h
    · cases h
  · intro t x ih b h; unfold beqA at h; simp only at h; split at h
    · split at h
      · rename_i e; rw [ih _ h, Nat.eq_of_beq_eq_true e]
      · cases h
    · cases h
  · intro id b h; unfold beqA at h; simp only at h; split at h
    · rw [Nat.eq_of_beq_eq_true h]
    · cases h
  · intro m h; simp only at h; split at h
    · rfl
    · cases h
  · intro x l ih1 ih2 m h; simp only at h; split at h
    · cases h
    · split at h
      · rename_i e; rw [ih1 _ e, ih2 _ h]
      · cases h
  · intro m h; simp only at h; split at h
    · rfl
    · cases h
  · intro x l ih1 ih2 m h; simp only at h; split at h
    · cases h
    · split at h
      · rename_i e; rw [ih1 _ e, ih2 _ h]
      · cases h
noncomputable def beqMp (a : List (Nat × AV × AV)) : List (Nat × AV × AV) → Bool :=
  List.rec (motive := fun _ => List (Nat × AV × AV) → Bool) (fun b => match b with | [] => true | _ => false)
    (fun p _ ih b => match b with | [] => false | q :: b => (match Nat.beq p.1 q.1, beqA p.2.1 q.2.1, beqA p.2.2 q.2.2 with | true, true, true => ih b | _, _, _ => false)) a
omit [Laid] in
theorem beqMp_eq : ∀ (a b : List (Nat × AV × AV)), beqMp a b = true → a = b
  | [], [], _ => rfl
  | [], _ :: _, h => by cases h
  | _ :: _, [], h => by cases h
  | (n, k, c) :: a, (n', k', c') :: b, h => by
    have h : (match Nat.beq n n', beqA k k', beqA c c' with | true, true, true => beqMp a b | _, _, _ => false) = true := h
    split at h
    · rename_i e1 e2 e3
      rw [Nat.eq_of_beq_eq_true e1, beqA_eq _ _ e2, beqA_eq _ _ e3, beqMp_eq a b h]
    · cases h
def beqNs : List Nat → List Nat → Bool
  | [], [] => true
  | a :: l, b :: m => (match Nat.beq a b with | true => beqNs l m | false => false)
  | _, _ => false
omit [Laid] in
theorem beqNs_eq : ∀ (a b : List Nat), beqNs a b = true → a = b
  | [], [], _ => rfl
  | [], _ :: _, h => by cases h
  | _ :: _, [], h => by cases h
  | a :: l, b :: m, h => by
    rw [beqNs] at h
    split at h
    · rename_i e; rw [Nat.eq_of_beq_eq_true e, beqNs_eq l m h]
    · cases h
noncomputable def beqEnt (x y : Ent) : Bool :=
  match x, y with
  | .blk a, .blk b => (match Nat.beq a.ty b.ty, a.wr, b.wr, beqA (.agg a.cells) (.agg b.cells) with | true, true, true, true => true | _, _, _, _ => false)
  | .tok e s n, .tok e' s' n' => (match Nat.beq e e', Nat.beq s s', Nat.beq n n' with | true, true, true => true | _, _, _ => false)
  | .dead, .dead => true
  | .mp c es, .mp c' es' => (match Nat.beq c c' with | true => beqMp es es' | false => false)
  | .it m s sn l, .it m' s' sn' l' => (match Nat.beq m m', Nat.beq s s', beqNs sn sn', Nat.beq l l' with | true, true, true, true => true | _, _, _, _ => false)
  | _, _ => false
noncomputable def beqH (h : Heap) : Heap → Bool := List.rec (motive := fun _ => Heap → Bool) (fun g => match g with | [] => true | _ => false) (fun x _ ih g => match g with | [] => false | y :: g => (match beqEnt x y with | true => ih g | false => false)) h
omit [Laid] in
theorem beqEnt_eq {x y : Ent} (h : beqEnt x y = true) : x = y := by
  unfold beqEnt at h
  split at h
  · rename_i a b
    split at h
    · rename_i e1 e2 e3 e4
      have e4 := beqA_eq _ _ e4
      cases a; cases b
      simp only at e1 e2 e3 e4
      cases e4
      rw [Nat.eq_of_beq_eq_true e1, e2, e3]
    · cases h
  · split at h
    · rename_i e1 e2 e3; rw [Nat.eq_of_beq_eq_true e1, Nat.eq_of_beq_eq_true e2, Nat.eq_of_beq_eq_true e3]
    · cases h
  · rfl
  · split at h
    · rename_i e1; rw [Nat.eq_of_beq_eq_true e1, beqMp_eq _ _ h]
    · cases h
  · split at h
    · rename_i e1 e2 e3 e4; rw [Nat.eq_of_beq_eq_true e1, Nat.eq_of_beq_eq_true e2, beqNs_eq _ _ e3, Nat.eq_of_beq_eq_true e4]
    · cases h
  · cases h
omit [Laid] in
theorem beqH_eq : ∀ (h g : Heap), beqH h g = true → h = g
  | [], [], _ => rfl
  | [], _ :: _, h => by cases h
  | _ :: _, [], h => by cases h
  | x :: h, y :: g, e => by
    have e : (match beqEnt x y with | true => beqH h g | false => false) = true := e
    split at e
    · rename_i q; rw [beqEnt_eq q, beqH_eq h g e]
    · cases e
/-- As 'eG'; where memory is as it was, that is told. -/
noncomputable def eQ (call : CallF) (g : RG) (T : Tr) (h : Heap) : Option (AV × Option Heap) :=
  match eG call g T h with
  | some (v, none) => some (v, none)
  | some (v, some h') => (match beqH h' h with | true => some (v, none) | false => some (v, some h'))
  | none => none
theorem eQ_ok {P : Program} {call : CallF} {own : Bool} {n : Nat} {ops : Array Oper} {o : Oper} {T : Tr} {h : Heap} {v : AV} {oh : Option Heap} {fr : Fr} (hc : CallOK P call) (hf : Fits fr T) (e : eQ call (cG P own n ops o) T h = some (v, oh)) : YO P ops n h (oh.getD h) o v fr ∧ ∀ d : Nat, o.dst = some d → d < n := by
  unfold eQ at e
  split at e
  · rename_i v0 hp
    cases e
    exact eG_ok hc hf hp
  · rename_i v0 h' hp
    have q := eG_ok hc hf hp
    split at e
    · rename_i hb
      cases e
      have := beqH_eq _ _ hb
      subst this
      exact q
    · cases e; exact q
  · cases e
end Go.Aw
end

section
namespace Go.Aw
open Go Go.RowKit
variable [Laid]

inductive OG where
  | mk (g : RG) (lo : Bool) (ck : List Nat)
def OG.g (o : OG) : RG := match o with | .mk g _ _ => g
def OG.lo (o : OG) : Bool := match o with | .mk _ l _ => l
def OG.ck (o : OG) : List Nat := match o with | .mk _ _ c => c
/-- It reads no memory. -/
noncomputable def freeR (o : ROp) : Bool :=
  match o with
  | .load .. | .slA .. | .ofBytes .. | .inv .. | .call .. | .toBytes .. | .store .. | .new .. | .box .. | .mkSl .. | .make .. | .app .. | .appS .. | .mkMap .. | .mUpd .. | .look .. | .mDel .. | .rng .. | .entry .. | .appZ .. | .appN .. | .copy .. => false
  | _ => true
noncomputable def loAt (P : Program) (own : Nat → Bool) (ops : Array Oper) (i : Nat) : Bool := match ops[i]? with | some o => loudR (cOp2 P (own i) o.op) | none => false
/-- Where else it may come up. -/
def ckAt (lo : Nat → Bool) (ms : List Nat) (N i : Nat) : List Nat :=
  (List.range (cntL lo (fun _ => true) N + 1)).filter fun c => !Nat.beq c (cntL lo (fun _ => true) i) && (List.range N).all fun l => !lo l || ((!anB ms i l || Nat.ble (cntL lo (fun _ => true) l + 1) c) && (!anB ms l i || Nat.ble c (cntL lo (fun _ => true) l)))
noncomputable def cOG (P : Program) (own : Nat → Bool) (n : Nat) (ops : Array Oper) (lo : Nat → Bool) (ms : List Nat) (i : Nat) (o : Oper) : OG :=
  .mk (cG P (own i) n ops o) (lo i) (match lo i, freeR (cOp2 P (own i) o.op) with | false, false => ckAt lo ms ops.size i | _, _ => [])
noncomputable def cOGs (P : Program) (own : Nat → Bool) (n : Nat) (ops : Array Oper) (lo : Nat → Bool) (ms : List Nat) : Nat → List Oper → List OG
  | _, [] => []
  | i, o :: r => cOG P own n ops lo ms i o :: cOGs P own n ops lo ms (i + 1) r

noncomputable def canon (call : CallF) (l : List OG) : Tr → Heap → Option (List (Tr × AV) × List Heap × Tr) :=
  List.rec (motive := fun _ => Tr → Heap → Option (List (Tr × AV) × List Heap × Tr)) (fun T h => some ([], [h], T))
    (fun og _ ih T h => match eQ call og.g T h with
      | some (v, none) => (match og.lo with
        | false => (match ih (putO og.g.d v T) h with | some (a, b, c) => some ((T, v) :: a, b, c) | none => none)
        | true => (match ih (putO og.g.d v T) h with | some (a, b, c) => some ((T, v) :: a, h :: b, c) | none => none))
      | some (v, some h') => (match og.lo with
        | true => (match ih (putO og.g.d v T) h' with | some (a, b, c) => some ((T, v) :: a, h :: b, c) | none => none)
        | false => none)
      | none => none) l
noncomputable def ckAll (call : CallF) (hs : List Heap) (l : List OG) : List (Tr × AV) → Bool :=
  List.rec (motive := fun _ => List (Tr × AV) → Bool) (fun _ => true)
    (fun og _ ih es => match es with
      | [] => false
      | (T, v) :: es => (match allE (fun c => match getE hs c with
        | some hc => (match eQ call og.g T hc with | some (v', none) => beqA v' v | _ => false)
        | none => false) og.ck with | true => ih es | false => false)) l
noncomputable def lastE (l : List Heap) : Option Heap := List.rec (motive := fun _ => Option Heap → Option Heap) (fun a => a) (fun x _ ih _ => ih (some x)) l none
noncomputable def runOpen (call : CallF) (l : List OG) (T : Tr) (h : Heap) (k : Tr → Heap → Option Out) : Option Out :=
  match canon call l T h with
  | some (es, hs, T') => (match ckAll call hs l es, lastE hs with | true, some h' => k T' h' | _, _ => none)
  | none => none

section
variable {P : Program} {call : CallF} {own : Nat → Bool} {n : Nat} {ops : Array Oper}
omit [Laid] in
theorem lastE_eq (l : List Heap) : lastE l = l.getLast? := by
  have key : ∀ (l : List Heap) (a : Option Heap), (List.rec (motive := fun _ => Option Heap → Option Heap) (fun a => a) (fun x _ ih _ => ih (some x)) l : Option Heap → Option Heap) a = (match l with | [] => a | _ => l.getLast?) := by
    intro l
    induction l with
    | nil => intro a; rfl
    | cons x l ih =>
      intro a
      have := ih (some x)
      cases l with
      | nil => rfl
      | cons y l => simpa [List.getLast?_cons_cons] using this
  have := key l none
  cases l with
  | nil => rfl
  | cons x l => exact this
theorem eG_free {o : Oper} {ow : Bool} {T : Tr} {h h2 : Heap} {v : AV} (hfree : freeR (cOp2 P ow o.op) = true) (e : eQ call (cG P ow n ops o) T h = some (v, none)) : eQ call (cG P ow n ops o) T h2 = some (v, none) := by
  have none2 : ∀ rop : ROp, freeR rop = true → ∀ T v h', ¬ eR call rop T h = some (v, some h') := by
    intro rop hr T v h' q
    cases rop <;> first | (cases hr; done) | skip
    all_goals (simp only [eR] at q)
    all_goals first | (have := (same_some q).2; cases this; done) | (cases q; done) | (split at q <;> cases q; done) | (unfold eNlM at q; split at q <;> cases q; done) | (have := eSl3_none q; cases this; done) | (unfold eCap0 at q; split at q <;> cases q; done)
  have key : ∀ rop : ROp, freeR rop = true → eR call rop T h2 = eR call rop T h := by
    intro rop hr
    cases rop <;> first | rfl | (cases hr; done)
  have key2 : eG call (cG P ow n ops o) T h2 = eG call (cG P ow n ops o) T h := by
    unfold cG
    simp only [eG_eq, eG0]
    rw [key _ hfree]
  have nh : ∀ v h', ¬ eG call (cG P ow n ops o) T h = some (v, some h') := by
    intro v h' q
    unfold cG at q
    simp only [eG_eq, eG0] at q
    split at q
    · exact none2 _ hfree _ _ _ q
    · split at q
      · split at q
        · exact none2 _ hfree _ _ _ q
        · exact none2 _ hfree _ _ _ q
        · cases q
      · split at q <;> cases q
      · cases q
    · cases q
  unfold eQ at *
  rw [key2]
  cases eg : eG call (cG P ow n ops o) T h with
  | none => rw [eg] at e; cases e
  | some p =>
    obtain ⟨v0, oh0⟩ := p
    cases oh0 with
    | none => rw [eg] at e; exact e
    | some h' => exact absurd eg (nh v0 h')

/-- What the run says of each operation. -/
theorem canon_spec {V : Nat → AV} {Hs : Nat → Heap} {fr0 : Fr} {lo : Nat → Bool} {ms : List Nat} (hc : CallOK P call) : ∀ (l : List Oper) (i : Nat) (T : Tr) (h : Heap) (es : List (Tr × AV)) (hs : List Heap) (T' : Tr),
    canon call (cOGs P own n ops lo ms i l) T h = some (es, hs, T') → Fits (frL ops n V fr0 (fun _ => true) i) T → (∀ j, j < l.length → ops[i + j]? = l[j]?) → (∀ q e, es[q]? = some e → V (i + q) = e.2) → (∀ q x, hs[q]? = some x → Hs (cntL lo (fun _ => true) i + q) = x) →
    Fits (frL ops n V fr0 (fun _ => true) (i + l.length)) T' ∧ hs[0]? = some h ∧ hs.getLast? = some (Hs (cntL lo (fun _ => true) (i + l.length))) ∧ hs.length = cntL lo (fun _ => true) (i + l.length) - cntL lo (fun _ => true) i + 1 ∧
      ∀ q, q < l.length → ∃ o Tq oh, ops[i + q]? = some o ∧ (cOGs P own n ops lo ms i l)[q]? = some (cOG P own n ops lo ms (i + q) o) ∧ es[q]? = some (Tq, V (i + q)) ∧ Fits (frL ops n V fr0 (fun _ => true) (i + q)) Tq ∧
        eQ call (cG P (own (i + q)) n ops o) Tq (Hs (cntL lo (fun _ => true) (i + q))) = some (V (i + q), oh) ∧ (lo (i + q) = false → oh = none) ∧ (lo (i + q) = true → oh.getD (Hs (cntL lo (fun _ => true) (i + q))) = Hs (cntL lo (fun _ => true) (i + q) + 1)) := by
  intro l
  induction l with
  | nil =>
    intro i T h es hs T' e hf hl hV hH
    simp only [cOGs, canon, Option.some.injEq, Prod.mk.injEq] at e
    obtain ⟨rfl, rfl, rfl⟩ := e
    have h0 := hH 0 h rfl
    refine ⟨hf, rfl, by simp only [List.length_nil, Nat.add_zero] at h0 ⊢; rw [h0]; rfl, by simp, fun q hq => by simp at hq⟩
  | cons o l ih =>
    intro i T h es hs T' e hf hl hV hH
    have h0 : ops[i]? = some o := by simpa using hl 0 (by simp)
    have hl' : ∀ j, j < l.length → ops[i + 1 + j]? = l[j]? := fun j hj => by have := hl (j + 1) (by simp; omega); simpa [Nat.add_assoc, Nat.add_comm 1 j] using this
    simp only [cOGs, canon] at e
    cases eg : eQ call (OG.g (cOG P own n ops lo ms i o)) T h with
    | none => rw [eg] at e; simp at e
    | some p =>
      obtain ⟨v, oh⟩ := p
      rw [eg] at e
      have eg' : eQ call (cG P (own i) n ops o) T h = some (v, oh) := eg
      obtain ⟨hy, hd⟩ := eQ_ok hc hf eg'
      have hdst : dstOf ops i = o.dst := by unfold dstOf; rw [h0]; rfl
      have fin : ∀ (q : List (Tr × AV) × List Heap × Tr) (h2 : Heap), canon call (cOGs P own n ops lo ms (i + 1) l) (putO (OG.g (cOG P own n ops lo ms i o)).d v T) h2 = some q → es = (T, v) :: q.1 → T' = q.2.2 → (lo i = false → oh = none ∧ h2 = h ∧ hs = q.2.1) → (lo i = true → h2 = oh.getD h ∧ hs = h :: q.2.1) →
          Fits (frL ops n V fr0 (fun _ => true) (i + (o :: l).length)) T' ∧ hs[0]? = some h ∧ hs.getLast? = some (Hs (cntL lo (fun _ => true) (i + (o :: l).length))) ∧ hs.length = cntL lo (fun _ => true) (i + (o :: l).length) - cntL lo (fun _ => true) i + 1 ∧
      ∀ q, q < (o :: l).length → ∃ o' Tq oh, ops[i + q]? = some o' ∧ (cOGs P own n ops lo ms i (o :: l))[q]? = some (cOG P own n ops lo ms (i + q) o') ∧ es[q]? = some (Tq, V (i + q)) ∧ Fits (frL ops n V fr0 (fun _ => true) (i + q)) Tq ∧
        eQ call (cG P (own (i + q)) n ops o') Tq (Hs (cntL lo (fun _ => true) (i + q))) = some (V (i + q), oh) ∧ (lo (i + q) = false → oh = none) ∧ (lo (i + q) = true → oh.getD (Hs (cntL lo (fun _ => true) (i + q))) = Hs (cntL lo (fun _ => true) (i + q) + 1)) := by
        rintro ⟨es', hs', T''⟩ h2 e2 rfl rfl q0 q1
        have hVi : V i = v := hV 0 (T, v) rfl
        have hf' : Fits (frL ops n V fr0 (fun _ => true) (i + 1)) (putO (OG.g (cOG P own n ops lo ms i o)).d v T) := by
          rw [frL]; simp only; rw [hdst, hVi]; exact hf.set hd
        have hlen : i + (o :: l).length = i + 1 + l.length := by simp; omega
        have hmono : cntL lo (fun _ => true) (i + 1) ≤ cntL lo (fun _ => true) (i + 1 + l.length) := cntL_mono (by omega)
        have hV' : ∀ q e, es'[q]? = some e → V (i + 1 + q) = e.2 := fun q e he => by rw [show i + 1 + q = i + (q + 1) by omega]; exact hV (q + 1) e (by simpa using he)
        cases hlo : lo i with
        | false =>
          obtain ⟨z1, z2, z3⟩ := q0 hlo
          simp only at z3
          subst z1 z2 z3
          have hcnt : cntL lo (fun _ => true) (i + 1) = cntL lo (fun _ => true) i := by rw [cntL, hlo]; rfl
          obtain ⟨r1, r2, r3, r4, r5⟩ := ih (i + 1) _ _ es' hs _ e2 hf' hl' hV' (fun q x hx => by rw [hcnt]; exact hH q x hx)
          have hHi : Hs (cntL lo (fun _ => true) i) = h2 := hH 0 h2 r2
          refine ⟨by rw [hlen]; exact r1, r2, by rw [hlen]; exact r3, by rw [hlen, ← hcnt]; exact r4, fun q hq => ?_⟩
          cases q with
          | zero => exact ⟨o, T, none, h0, rfl, by rw [Nat.add_zero, hVi]; rfl, hf, by rw [Nat.add_zero, hHi, hVi]; exact eg', fun _ => rfl, fun z => by rw [Nat.add_zero, hlo] at z; cases z⟩
          | succ q =>
            obtain ⟨o', Tq, oh', s1, s2, s3⟩ := r5 q (by simp at hq; omega)
            rw [show i + (q + 1) = i + 1 + q by omega]
            exact ⟨o', Tq, oh', s1, by simpa [cOGs] using s2, by simpa using s3⟩
        | true =>
          obtain ⟨z2, z3⟩ := q1 hlo
          simp only at z3
          subst z2 z3
          have hcnt : cntL lo (fun _ => true) (i + 1) = cntL lo (fun _ => true) i + 1 := by rw [cntL, hlo]; rfl
          have hH' : ∀ q x, hs'[q]? = some x → Hs (cntL lo (fun _ => true) (i + 1) + q) = x := fun q x hx => by
            rw [hcnt, show cntL lo (fun _ => true) i + 1 + q = cntL lo (fun _ => true) i + (q + 1) by omega]
            exact hH (q + 1) x (by simpa using hx)
          obtain ⟨r1, r2, r3, r4, r5⟩ := ih (i + 1) _ _ es' hs' _ e2 hf' hl' hV' hH'
          have hHi : Hs (cntL lo (fun _ => true) i) = h := hH 0 h rfl
          have hHi1 : Hs (cntL lo (fun _ => true) i + 1) = oh.getD h := hH 1 _ (by simpa using r2)
          refine ⟨by rw [hlen]; exact r1, rfl, ?_, ?_, fun q hq => ?_⟩
          · rw [hlen, ← r3]
            cases hs' with
            | nil => simp at r2
            | cons x hs' => rw [List.getLast?_cons_cons]
          · rw [hlen, List.length_cons, r4]; omega
          · cases q with
            | zero =>
              refine ⟨o, T, oh, h0, rfl, by rw [Nat.add_zero, hVi]; rfl, hf, by rw [Nat.add_zero, hHi, hVi]; exact eg', fun z => (by rw [Nat.add_zero, hlo] at z; cases z), fun _ => ?_⟩
              rw [Nat.add_zero, hHi, hHi1]
            | succ q =>
              obtain ⟨o', Tq, oh', s1, s2, s3⟩ := r5 q (by simp at hq; omega)
              rw [show i + (q + 1) = i + 1 + q by omega]
              exact ⟨o', Tq, oh', s1, by simpa [cOGs] using s2, by simpa using s3⟩
      have hlo' : OG.lo (cOG P own n ops lo ms i o) = lo i := rfl
      cases oh with
      | none =>
        simp only [hlo'] at e
        cases hlo : lo i with
        | false =>
          rw [hlo] at e
          simp only at e
          split at e
          · rename_i hq; cases e; exact fin (_, _, _) h hq rfl rfl (fun _ => ⟨rfl, rfl, rfl⟩) (fun z => by rw [hlo] at z; cases z)
          · cases e
        | true =>
          rw [hlo] at e
          simp only at e
          split at e
          · rename_i hq; cases e; exact fin (_, _, _) h hq rfl rfl (fun z => by rw [hlo] at z; cases z) (fun _ => ⟨rfl, rfl⟩)
          · cases e
      | some h' =>
        simp only [hlo'] at e
        cases hlo : lo i with
        | false => rw [hlo] at e; simp at e
        | true =>
          rw [hlo] at e
          simp only at e
          split at e
          · rename_i hq; cases e; exact fin (_, _, _) h' hq rfl rfl (fun z => by rw [hlo] at z; cases z) (fun _ => ⟨rfl, rfl⟩)
          · cases e
omit [Laid] in
theorem ckAll_spec {hs : List Heap} : ∀ (l : List OG) (es : List (Tr × AV)), ckAll call hs l es = true → ∀ (q : Nat) (og : OG) (e : Tr × AV), l[q]? = some og → es[q]? = some e → ∀ c ∈ og.ck, ∃ hc, hs[c]? = some hc ∧ eQ call og.g e.1 hc = some (e.2, none)
  | [], es, _, q, og, e, hl, _, _, _ => by simp at hl
  | x :: l, [], h, q, og, e, _, he, _, _ => by simp at he
  | x :: l, (T, v) :: es, h, q, og, e, hl, he, c, hcm => by
    simp only [ckAll] at h
    split at h
    · rename_i h1
      cases q with
      | zero =>
        simp only [List.getElem?_cons_zero, Option.some.injEq] at hl he
        subst hl he
        rw [allE_eq] at h1
        have := List.all_eq_true.1 h1 c hcm
        split at this
        · rename_i hc hg
          rw [getE_eq] at hg
          split at this
          · rename_i p hp
            exact ⟨hc, hg, by rw [hp, beqA_eq _ _ this]⟩
          · cases this
        · cases this
      | succ q => exact ckAll_spec l es h q og e (by simpa using hl) (by simpa using he) c hcm
    · cases h

theorem open_sound {m id : Nat} {k : Tr → Heap → Option Out} {r : Out} {Q : Exit → St → Prop} {st : St} {ms : List Nat} {T : Tr} (hc : CallOK P call) (hfo : P.follows .mixedOrders = true) (hed : edgesB ops (loAt P own ops) ms ops.size = true) (hn : st.n = n) (hf : Fits st.fr T)
    (e : runOpen call (cOGs P own n ops (loAt P own ops) ms 0 ops.toList) T st.h k = some r) (hQ : ∀ st' T', st'.n = n → Fits st'.fr T' → k T' st'.h = some r → Q .normal st') : AW P m (.region id ops true) Q st := by
  unfold runOpen at e
  cases ec : canon call (cOGs P own n ops (loAt P own ops) ms 0 ops.toList) T st.h with
  | none => rw [ec] at e; simp at e
  | some q =>
    obtain ⟨es, hs, T'⟩ := q
    rw [ec] at e
    simp only at e
    split at e
    · rename_i h' hck hlast
      rw [lastE_eq] at hlast
      obtain ⟨r1, r2, r3, r4, r5⟩ := canon_spec (V := fun i => (es.getD i (.lf, .any)).2) (Hs := fun c => hs.getD c []) (fr0 := st.fr) hc ops.toList 0 T st.h es hs T' ec hf (fun j hj => by simp)
        (fun q e he => by simp [List.getD_eq_getElem?_getD, he]) (fun q x hx => by simp [List.getD_eq_getElem?_getD, cntL, hx])
      subst hn
      have hsz : ops.toList.length = ops.size := by simp
      simp only [Nat.zero_add, hsz, cntL, Nat.sub_zero] at r1 r2 r3 r4 r5
      have hE := edges_of hed
      refine sound_open (V := fun i => (es.getD i (.lf, .any)).2) (Hs := fun c => hs.getD c []) (an := anB ms) (lo := loAt P own ops) hfo hE ⟨fun i o ho hlo => ?_, fun i o ho hlo c hcl hall => ?_⟩ (by simp [List.getD_eq_getElem?_getD, r2]) fun fr hfr => ?_
      · obtain ⟨o', Tq, oh, s1, s2, s3, s4, s5, s6, s7⟩ := r5 i (Array.getElem?_eq_some_iff.1 ho).1
        rw [ho] at s1; cases s1
        have := (eQ_ok hc s4 s5).1
        rw [s7 hlo] at this
        exact this
      · obtain ⟨o', Tq, oh, s1, s2, s3, s4, s5, s6, s7⟩ := r5 i (Array.getElem?_eq_some_iff.1 ho).1
        rw [ho] at s1; cases s1
        rw [s6 hlo] at s5
        have goal : eQ call (cG P (own i) st.n ops o) Tq (hs.getD c []) = some ((es.getD i (.lf, .any)).2, none) → YO P ops st.n (hs.getD c []) (hs.getD c []) o ((es.getD i (.lf, .any)).2) (frL ops st.n (fun i => (es.getD i (.lf, .any)).2) st.fr (fun _ => true) i) := fun z => (eQ_ok hc s4 z).1
        by_cases hcc : c = cntL (loAt P own ops) (fun _ => true) i
        · subst hcc; exact goal s5
        · cases hfr : freeR (cOp2 P (own i) o.op) with
          | true => exact goal (eG_free hfr s5)
          | false =>
            have hmem : c ∈ (cOG P own st.n ops (loAt P own ops) ms i o).ck := by
              unfold cOG OG.ck
              simp only [hlo, hfr]
              unfold ckAt
              rw [List.mem_filter, List.mem_range]
              refine ⟨by omega, ?_⟩
              simp only [Bool.and_eq_true, Bool.not_eq_true', List.all_eq_true, List.mem_range, Bool.or_eq_true]
              refine ⟨by cases z : Nat.beq c (cntL (loAt P own ops) (fun _ => true) i) with
                | false => rfl
                | true => exact absurd (Nat.eq_of_beq_eq_true z) hcc, fun l hl => ?_⟩
              cases hll : loAt P own ops l with
              | false => exact .inl rfl
              | true =>
                obtain ⟨a1, a2⟩ := hall l hl hll
                refine .inr ⟨?_, ?_⟩
                · cases z : anB ms i l with
                  | false => exact .inl rfl
                  | true => exact .inr (by rw [Nat.ble_eq]; exact a1 z)
                · cases z : anB ms l i with
                  | false => exact .inl rfl
                  | true => exact .inr (by rw [Nat.ble_eq]; exact a2 z)
            obtain ⟨hc', g1, g2⟩ := ckAll_spec _ _ hck i _ _ s2 s3 c hmem
            refine goal ?_
            rw [List.getD_eq_getElem?_getD, g1]
            exact g2
      · rw [r3] at hlast
        cases hlast
        exact hQ ⟨st.n, fr, _⟩ T' rfl (r1.eq hfr) e
    · cases e
end
end Go.Aw
end

section
namespace Go.Aw
open Go Go.RowKit
variable [Laid]

theorem AW.post {P : Program} {m : Nat} {c : Code} {Q Q' : Exit → St → Prop} {st : St} (h : AW P m c Q' st) (hq : ∀ e st', Q' e st' → ∃ st'', Weak m st' st'' ∧ Q e st'') : AW P m c Q st :=
  fun base ι S a w hm hr => wp_mono (h base ι S a w hm hr) fun _ _ _ ⟨ι', S', st', h1, h2, h3, h4⟩ => by
    obtain ⟨st'', hw, q⟩ := hq _ _ h4
    obtain ⟨ι'', S'', e, m2, r2⟩ := hw base ι' S' _ _ h2 h3
    exact ⟨ι'', S'', st'', h1.trans e, m2, r2, q⟩

/-- In each order. -/
def anyVC (P : Program) (ops : Array Oper) (Q : St → Prop) : Nat → Array Bool → St → Prop
  | 0, L, st => Region.ready .any ops L = [] ∧ Q st
  | k + 1, L, st => Region.ready .any ops L ≠ [] ∧ ∀ i ∈ Region.ready .any ops L, ∃ o, ops[i]? = some o ∧ o.guard = none ∧ stepOp P false (evalA st.fr) st.h o.op fun v h => anyVC P ops Q k (L.setIfInBounds i true) (setS st o.dst v h)
theorem anyVC_sound {P : Program} {ops : Array Oper} {m : Nat} {Q : Exit → St → Prop} : ∀ (k : Nat) (L : Array Bool) (base : Nat) (ι : List Ix) (S : Stab) (a : Act) (w : World) (st : St), m ≤ st.h.length → ROK base ι S a w st → anyVC P ops (Q .normal) k L st → wpAny P .any ops (Post m base ι S w Q) k L a w
  | 0, L, base, ι, S, a, w, st, hm, hr, q => ⟨q.1, ι, S, st, Evo.refl _ _ _ _ _, hm, hr, q.2⟩
  | k + 1, L, base, ι, S, a, w, st, hm, hr, q => by
    refine ⟨fun e => absurd e q.1, fun i hi => ?_⟩
    obtain ⟨o, ho, hg, hs⟩ := q.2 i hi
    unfold wpOp
    rw [ho]
    simp only
    have hw : Region.wanted o (yielded ops a.tmps) = true := by unfold Region.wanted; rw [hg]
    rw [if_pos hw]
    left
    refine wp_mono2 (fun a' w' k' => ?_) (fun _ _ _ k' => k') (sound_step hr hs _)
    obtain ⟨ι', S', v, h', hE, hR, hl, q'⟩ := k'
    have := anyVC_sound k (L.setIfInBounds i true) base ι' S' a' w' _ (by show m ≤ h'.length; omega) hR q'
    exact wpAny_mono (fun e a w z => Post.trans (hE.mono (by rw [hr.hp.len]; exact hm) (Nat.le_refl _)) z) _ _ _ _ this

/-- A new bool; true and false are stored, in some order; it is read. -/
def coinB (P : Program) (n : Nat) (ops : Array Oper) : Option (Tmp × Tmp) :=
  match ops.toList with
  | [o0, o1, o2, o3] =>
    (match o0.op, o0.dst, o0.guard with
    | .alloc tb, some d, none => (match o1.op, o1.dst, o1.guard with
      | .store t1 (.tmp x1) (.const (.bool true)), none, none => (match o2.op, o2.dst, o2.guard with
        | .store t2 (.tmp x2) (.const (.bool false)), none, none => (match o3.op, o3.dst, o3.guard with
          | .load t3 (.tmp x3), some t, none =>
            (match Nat.beq t1 tb && Nat.beq t2 tb && Nat.beq t3 tb && Nat.beq x1 d && Nat.beq x2 d && Nat.beq x3 d && Nat.ble (d + 1) n && Nat.ble (t + 1) n && !Nat.beq d t && P.follows .mixedOrders && tOk P tb && !tAgg P tb && Nat.beq (P.cellsOf tb) 1 &&
              (match zeroA P tb with | some (.v (.bool false)) => true | _ => false) &&
              (Region.ready .any ops #[false, false, false, false] == [0]) && (Region.ready .any ops #[true, false, false, false] == [1, 2]) && (Region.ready .any ops #[true, true, false, false] == [2]) && (Region.ready .any ops #[true, false, true, false] == [1]) && (Region.ready .any ops #[true, true, true, false] == [3]) && (Region.ready .any ops #[true, true, true, true] == []) with
            | true => some (d, t)
            | false => none)
          | _, _, _ => none)
        | _, _, _ => none)
      | _, _, _ => none)
    | _, _, _ => none)
  | _ => none
theorem coin_sound {P : Program} {m id : Nat} {ops : Array Oper} {d t : Tmp} {Q : Exit → St → Prop} {st : St} (hm : m ≤ st.h.length) (hc : coinB P st.n ops = some (d, t)) (hq : ∀ b : Bool, Q .normal ⟨st.n, putF (putF st.fr d .any) t (bool b), st.h ++ [.dead]⟩) : AW P m (.region id ops true) Q st := by
  unfold coinB at hc
  split at hc
  · rename_i o0 o1 o2 o3 hops
    split at hc
    · rename_i tb d' e0 f0 g0
      split at hc
      · rename_i t1 x1 e1 f1 g1
        split at hc
        · rename_i t2 x2 e2 f2 g2
          split at hc
          · rename_i t3 x3 t' e3 f3 g3
            split at hc
            · rename_i hok
              simp only [Option.some.injEq, Prod.mk.injEq] at hc
              obtain ⟨rfl, rfl⟩ := hc
              simp only [Bool.and_eq_true, Bool.not_eq_true', beq_iff_eq] at hok
              obtain ⟨⟨⟨⟨⟨⟨⟨⟨⟨⟨⟨⟨⟨⟨⟨⟨⟨⟨⟨k1, k2⟩, k3⟩, k4⟩, k5⟩, k6⟩, k7⟩, k8⟩, k9⟩, k10⟩, k11⟩, k12⟩, k13⟩, k14⟩, r0⟩, r1⟩, r2⟩, r3⟩, r4⟩, r5⟩ := hok
              obtain rfl := Nat.eq_of_beq_eq_true k1
              obtain rfl := Nat.eq_of_beq_eq_true k2
              obtain rfl := Nat.eq_of_beq_eq_true k3
              obtain rfl := Nat.eq_of_beq_eq_true k4
              obtain rfl := Nat.eq_of_beq_eq_true k5
              obtain rfl := Nat.eq_of_beq_eq_true k6
              have k7 := Nat.le_of_ble_eq_true k7
              have k8 := Nat.le_of_ble_eq_true k8
              have k9 : x3 ≠ t' := fun q => by rw [q] at k9; simp at k9
              have k13 := Nat.eq_of_beq_eq_true k13
              have hz : zeroA P t3 = some (.v (.bool false)) := by
                split at k14
                · assumption
                · cases k14
              have at' : ∀ i o, [o0, o1, o2, o3][i]? = some o → ops[i]? = some o := fun i o e => by rw [← hops, Array.getElem?_toList] at e; exact e
              have hsz : ops.size = 4 := by have := congrArg List.length hops; simpa using this
              intro base ι S a w _ hr
              obtain ⟨hE, hr'⟩ := hr.drew
              refine wp_region_any k10 (wpAny_mono (fun e a w z => Post.trans (hE.mono (by rw [hr.hp.len]; exact hm) (Nat.le_refl _)) z) _ _ _ _ ?_)
              rw [hsz]
              let Q2 : Exit → St → Prop := fun e st' => ∃ b : Bool, st' = ⟨st.n, putF (putF st.fr x3 (.op st.h.length 0)) t' (bool b), st.h ++ [.blk ⟨t3, [bool b], true⟩]⟩
              have key : anyVC P ops (Q2 .normal) 4 #[false, false, false, false] st := by
                refine ⟨by rw [r0]; simp, fun i hi => ?_⟩
                rw [r0] at hi
                simp only [List.mem_singleton] at hi
                subst hi
                refine ⟨o0, at' 0 o0 rfl, g0, ?_⟩
                rw [e0]
                simp only [stepOp, hz]
                unfold iNew
                refine ⟨by simp [vcells, scal, Value.oneCell'], ?_⟩
                have s0 : setS st o0.dst (.op st.h.length 0) (st.h ++ [.blk ⟨t3, vcells (.v (.bool false)), true⟩]) = ⟨st.n, putF st.fr x3 (.op st.h.length 0), st.h ++ [.blk ⟨t3, [bool false], true⟩]⟩ := by
                  unfold setS setFr; rw [f0]; have : x3 < st.n := k7; simp [this, vcells, scal]
                show anyVC P ops (Q2 .normal) 3 _ (setS st o0.dst _ _)
                rw [s0]
                -- a store
                have sto : ∀ (fr : Fr) (b c : Bool) (K : AV → Heap → Prop), getF fr x3 = .op st.h.length 0 → K (.v undef) (st.h ++ [.blk ⟨t3, [bool c], true⟩]) → stepOp P false (evalA fr) (st.h ++ [.blk ⟨t3, [bool b], true⟩]) (.store t3 (.tmp x3) (.const (.bool c))) K := by
                  intro fr b c K hfr hk
                  simp only [stepOp, k11, req]
                  simp only [evalA, hfr, constAV, constS, iStore]
                  rw [List.getElem?_append_right (Nat.le_refl _)]
                  simp [vcells, scal, Value.oneCell', k13, setAll]
                  exact hk
                show anyVC P ops (Q2 .normal) 3 #[true, false, false, false] _
                refine ⟨by rw [r1]; simp, fun i hi => ?_⟩
                rw [r1] at hi
                have g3' : getF (putF st.fr x3 (.op st.h.length 0)) x3 = .op st.h.length 0 := by rw [getF_put, if_pos rfl]
                have fin : ∀ b : Bool, anyVC P ops (Q2 .normal) 1 #[true, true, true, false] ⟨st.n, putF st.fr x3 (.op st.h.length 0), st.h ++ [.blk ⟨t3, [bool b], true⟩]⟩ := by
                  intro b
                  refine ⟨by rw [r4]; simp, fun i hi => ?_⟩
                  rw [r4] at hi
                  simp only [List.mem_singleton] at hi
                  subst hi
                  refine ⟨o3, at' 3 o3 rfl, g3, ?_⟩
                  rw [e3]
                  simp only [stepOp, k11, req, k12, k13]
                  simp only [evalA, g3', iLoad]
                  rw [List.getElem?_append_right (Nat.le_refl _)]
                  simp [ldP]
                  refine ⟨r5, b, ?_⟩
                  unfold setS setFr
                  rw [f3]
                  have : t' < st.n := k8
                  simp [this]
                simp only [List.mem_cons, List.not_mem_nil, or_false] at hi
                rcases hi with rfl | rfl
                · refine ⟨o1, at' 1 o1 rfl, g1, ?_⟩
                  rw [e1]
                  refine sto _ false true _ g3' ?_
                  have s1 : setS (⟨st.n, putF st.fr x3 (.op st.h.length 0), st.h ++ [.blk ⟨t3, [bool false], true⟩]⟩ : St) o1.dst (.v undef) (st.h ++ [.blk ⟨t3, [bool true], true⟩]) = ⟨st.n, putF st.fr x3 (.op st.h.length 0), st.h ++ [.blk ⟨t3, [bool true], true⟩]⟩ := by unfold setS setFr; rw [f1]
                  rw [s1]
                  show anyVC P ops (Q2 .normal) 2 #[true, true, false, false] _
                  refine ⟨by rw [r2]; simp, fun i hi => ?_⟩
                  rw [r2] at hi
                  simp only [List.mem_singleton] at hi
                  subst hi
                  refine ⟨o2, at' 2 o2 rfl, g2, ?_⟩
                  rw [e2]
                  refine sto _ true false _ g3' ?_
                  have s2 : setS (⟨st.n, putF st.fr x3 (.op st.h.length 0), st.h ++ [.blk ⟨t3, [bool true], true⟩]⟩ : St) o2.dst (.v undef) (st.h ++ [.blk ⟨t3, [bool false], true⟩]) = ⟨st.n, putF st.fr x3 (.op st.h.length 0), st.h ++ [.blk ⟨t3, [bool false], true⟩]⟩ := by unfold setS setFr; rw [f2]
                  rw [s2]
                  exact fin false
                · refine ⟨o2, at' 2 o2 rfl, g2, ?_⟩
                  rw [e2]
                  refine sto _ false false _ g3' ?_
                  have s1 : setS (⟨st.n, putF st.fr x3 (.op st.h.length 0), st.h ++ [.blk ⟨t3, [bool false], true⟩]⟩ : St) o2.dst (.v undef) (st.h ++ [.blk ⟨t3, [bool false], true⟩]) = ⟨st.n, putF st.fr x3 (.op st.h.length 0), st.h ++ [.blk ⟨t3, [bool false], true⟩]⟩ := by unfold setS setFr; rw [f2]
                  rw [s1]
                  show anyVC P ops (Q2 .normal) 2 #[true, false, true, false] _
                  refine ⟨by rw [r3]; simp, fun i hi => ?_⟩
                  rw [r3] at hi
                  simp only [List.mem_singleton] at hi
                  subst hi
                  refine ⟨o1, at' 1 o1 rfl, g1, ?_⟩
                  rw [e1]
                  refine sto _ false true _ g3' ?_
                  have s2 : setS (⟨st.n, putF st.fr x3 (.op st.h.length 0), st.h ++ [.blk ⟨t3, [bool false], true⟩]⟩ : St) o1.dst (.v undef) (st.h ++ [.blk ⟨t3, [bool true], true⟩]) = ⟨st.n, putF st.fr x3 (.op st.h.length 0), st.h ++ [.blk ⟨t3, [bool true], true⟩]⟩ := by unfold setS setFr; rw [f1]
                  rw [s2]
                  exact fin true
              have res := anyVC_sound (m := m) (Q := fun e st' => e = .normal ∧ Q2 e st') 4 #[false, false, false, false] base ι S a _ st hm hr' (by
                have mono : ∀ (k : Nat) (L : Array Bool) (s : St), anyVC P ops (Q2 .normal) k L s → anyVC P ops (fun st' => Exit.normal = .normal ∧ Q2 .normal st') k L s := by
                  intro k L s h
                  simpa using h
                exact mono _ _ _ key)
              refine wpAny_mono (fun e a w z => ?_) _ _ _ _ res
              obtain ⟨ι', S', st', z1, z2, z3, rfl, b, rfl⟩ := z
              have hk := z3.hp.kill st.h.length
              rw [List.set_append_right _ _ (Nat.le_refl _)] at hk
              simp only [Nat.sub_self, List.set_cons_zero] at hk
              refine ⟨ι', S', ⟨st.n, putF (putF st.fr x3 .any) t' (bool b), st.h ++ [.dead]⟩, z1, by simp; omega, ⟨z3.df, z3.sz, fun u => ?_, hk⟩, hq b⟩
              have r := z3.fr u
              show Rep ι' S' w (getF (putF (putF st.fr x3 .any) t' (bool b)) u) _
              have r : Rep ι' S' w (getF (putF (putF st.fr x3 (.op st.h.length 0)) t' (bool b)) u) _ := r
              rw [getF_put] at r ⊢
              split
              · rename_i q; rw [if_pos q] at r; exact r
              · rename_i q
                rw [if_neg q, getF_put] at r
                rw [getF_put]
                split
                · simp
                · rename_i q2; rw [if_neg q2] at r; exact r
            · cases hc
          · cases hc
        · cases hc
      · cases hc
    · cases hc
  · cases hc
end Go.Aw
end

section
namespace Go.Aw
open Go Go.RowKit
variable [Laid]

inductive RC where
  | skip
  | ret
  | exit (i : Nat)
  | seq (a b : RC)
  | block (i : Nat) (a : RC)
  | cond (x : RO) (a b : RC)
  | loop (a : RC)
  | reg (l : List RG)
  | opn (l : List OG)
  | coin (d t : Pa) (K : List Pa) (a : RC)
  | scp (a : RC)
  | nxt (d : Option Pa) (x : RO) (l : List RG)
  | bad
/-- The slots that a piece of code writes. -/
def writesC : Code → List Nat
  | .region _ ops _ => ops.toList.filterMap (·.dst)
  | .seq a b => writesC a ++ writesC b
  | .cond x a b => (match x with | .tmp t => [t] | _ => []) ++ writesC a ++ writesC b
  | .block _ a => writesC a
  | .loop a => writesC a
  | .scope a => writesC a
  | _ => []
def keepC (n d t : Nat) (b : Code) : List Nat := let l := d :: t :: writesC b; (List.range n).filter fun s => !(l.any fun u => Nat.beq u s)
def coinC (P : Program) (n : Nat) : Code → Option (Tmp × Tmp)
  | .region _ ops true => coinB P n ops
  | _ => none
/-- Operations in a row; the first may be the next step of a walk over a map. -/
noncomputable def cReg (P : Program) (own : Nat → Bool) (n : Nat) (ops : Array Oper) : RC :=
  match ops.toList with
  | [] => .reg []
  | o0 :: rest => (match o0.op, o0.guard, fitsD n o0.dst with
    | .next x false, none, true => .nxt (o0.dst.map paN) (cO x) (cGs P own n ops 1 rest)
    | _, _, _ => .reg (cGs P own n ops 0 (o0 :: rest)))
noncomputable def cC (P : Program) (own : Nat → Nat → Bool) (n : Nat) (c : Code) : RC :=
  match c with
  | .skip => .skip
  | .ret => .ret
  | .exit i => .exit i
  | .label _ => .skip
  | .seq a b =>
    (match coinC P n a with
    | some (d, t) => .coin (paN d) (paN t) ((keepC n d t b).map paN) (cC P own n b)
    | none => .seq (cC P own n a) (cC P own n b))
  | .scope a => .scp (cC P own n a)
  | .block i a => .block i (cC P own n a)
  | .cond x a b => .cond (cO x) (cC P own n a) (cC P own n b)
  | .loop a => .loop (cC P own n a)
  | .region id ops draw =>
    (match draw with
    | false => cReg P (own id) n ops
    | true => (match P.follows .mixedOrders, edgesB ops (loAt P (own id) ops) (masks ops ops.size) ops.size with
      | true, true => .opn (cOGs P (own id) n ops (loAt P (own id) ops) (masks ops ops.size) 0 ops.toList)
      | _, _ => .bad))
  | _ => .bad

/-- Some slots, and memory, as they are behind a piece of code. -/
noncomputable def endK (K : List Pa) : Exit → Tr → Heap → Option Out := fun e T h => match e with | .normal => some (.tup (K.map fun p => getP p T), h) | _ => none
/-- The slots are as they were; memory, as it is behind a piece of code. -/
noncomputable def endV (K : List Pa) (T : Tr) : Exit → Tr → Heap → Option Out := fun e _ h => match e with | .normal => some (.tup (K.map fun p => getP p T), h) | _ => none
noncomputable def allT : List Pa → List AV → Tr
  | p :: K, v :: vs => putP p v (allT K vs)
  | _, _ => .lf
/-- The frame that tells the same. -/
def frK : List Nat → List AV → Fr
  | k :: K, v :: vs => putF (frK K vs) k v
  | _, _ => []
omit [Laid] in
theorem frK_fits : ∀ (K : List Nat) (vs : List AV), Fits (frK K vs) (allT (K.map paN) vs)
  | [], _ => fun t => by simp [frK, allT, getF, getP_lf]
  | _ :: _, [] => fun t => by simp [frK, allT, getF, getP_lf]
  | k :: K, v :: vs => by
    simp only [List.map_cons, frK, allT]
    exact (frK_fits K vs).put k v
omit [Laid] in
theorem frK_get (fr : Fr) : ∀ (K : List Nat) (u : Nat), getF (frK K (K.map fun k => getF fr k)) u = getF fr u ∨ getF (frK K (K.map fun k => getF fr k)) u = .any
  | [], u => .inr (by simp [frK, getF])
  | k :: K, u => by
    simp only [List.map_cons, frK]
    rw [getF_put]
    split
    · rename_i h; exact .inl (by rw [h])
    · exact frK_get fr K u
theorem weak_frK {m : Nat} (st : St) (K : List Nat) : Weak m st ⟨st.n, frK K (K.map fun k => getF st.fr k), st.h⟩ := by
  intro base ι S a w hm hr
  refine ⟨ι, S, Evo.refl _ _ _ _ _, hm, ⟨hr.df, hr.sz, fun u => ?_, hr.hp⟩⟩
  show Rep ι S w (getF (frK K (K.map fun k => getF st.fr k)) u) _
  rcases frK_get st.fr K u with h | h
  · rw [h]; exact hr.fr u
  · rw [h]; simp
noncomputable def loopR (F : Nat) (body : Tr → Heap → (Exit → Tr → Heap → Option Out) → Option Out) (q : Exit → Tr → Heap → Option Out) : Tr → Heap → Option Out :=
  Nat.rec (motive := fun _ => Tr → Heap → Option Out) (fun _ _ => none) (fun _ nx T h => body T h (fun e T h => match e with | .normal => nx T h | e => q e T h)) F
noncomputable def beqO (a b : Out) : Bool := match a, b with | (x, g), (y, g') => (match beqA x y, beqH g g' with | true, true => true | _, _ => false)
noncomputable def sameAs (r : Out) : List (Option Out) → Bool
  | [] => true
  | some r' :: l => (match beqO r' r with | true => sameAs r l | false => false)
  | none :: _ => false
/-- All come to the same. -/
noncomputable def allSame : List (Option Out) → Option Out
  | [] => none
  | some r :: l => (match sameAs r l with | true => some r | false => none)
  | none :: _ => none
omit [Laid] in
theorem beqO_eq {a b : Out} (h : beqO a b = true) : a = b := by
  obtain ⟨x, g⟩ := a
  obtain ⟨y, g'⟩ := b
  unfold beqO at h
  simp only at h
  split at h
  · rename_i e1 e2; rw [beqA_eq _ _ e1, beqH_eq _ _ e2]
  · cases h
omit [Laid] in
theorem sameAs_ok {r : Out} : ∀ {l : List (Option Out)}, sameAs r l = true → ∀ x ∈ l, x = some r
  | [], _, x, hx => by cases hx
  | some r' :: l, h, x, hx => by
    rw [sameAs] at h
    split at h
    · rename_i e
      rcases List.mem_cons.1 hx with rfl | hx
      · rw [beqO_eq e]
      · exact sameAs_ok h x hx
    · cases h
  | none :: l, h, _, _ => by simp [sameAs] at h
omit [Laid] in
theorem allSame_ok {r : Out} {l : List (Option Out)} (h : allSame l = some r) : ∀ x ∈ l, x = some r := by
  intro x hx
  cases l with
  | nil => cases hx
  | cons y l =>
    cases y with
    | none => simp [allSame] at h
    | some r' =>
      rw [allSame] at h
      split at h
      · rename_i e
        cases h
        rcases List.mem_cons.1 hx with rfl | hx
        · rfl
        · exact sameAs_ok e x hx
      · cases h
noncomputable def run (call : CallF) (F : Nat) (c : RC) : Tr → Heap → (Exit → Tr → Heap → Option Out) → Option Out :=
  RC.rec (motive := fun _ => Tr → Heap → (Exit → Tr → Heap → Option Out) → Option Out)
    (fun T h q => q .normal T h)
    (fun T h q => q .ret T h)
    (fun i T h q => q (.exit i) T h)
    (fun _ _ iha ihb T h q => iha T h (fun e T h => match e with | .normal => ihb T h q | e => q e T h))
    (fun i _ ih T h q => ih T h (fun e T h => match e with | .exit j => (match Nat.beq j i with | true => q .normal T h | false => q (.exit j) T h) | e => q e T h))
    (fun x _ _ iha ihb T h q => match evR T x with | .v (.bool true) => iha T h q | .v (.bool false) => ihb T h q | _ => none)
    (fun _ ih T h q => loopR F ih q T h)
    (fun l T h q => runReg call l T h (fun T h => q .normal T h))
    (fun l T h q => runOpen call l T h (fun T h => q .normal T h))
    (fun d t K _ ih T h q => match ih (putP t (bool true) (putP d .any T)) (h ++ [.dead]) (endV K T), ih (putP t (bool false) (putP d .any T)) (h ++ [.dead]) (endV K T) with
      | some r1, some r2 => (match beqH r1.2 r2.2 with
        | true => q .normal (allT K (K.map fun p => getP p T)) r1.2
        | false => none)
      | _, _ => none)
    (fun _ ih T h q => ih T h (fun e T h => match e with | .goto _ => none | e => q e T h))
    (fun d x l T h q => match eNxt (evR T x) h with | some l2 => allSame (l2.map fun p => runReg call l (putO d p.1 T) p.2 (fun T h => q .normal T h)) | none => none)
    (fun _ _ _ => none) c

/-! ### Slots that a piece of code does not write -/
def Sm (S : List Nat) (T T' : Tr) : Prop := ∀ u ∈ S, getP (paN u) T' = getP (paN u) T
section
omit [Laid]
theorem Sm.refl (S : List Nat) (T : Tr) : Sm S T T := fun _ _ => rfl
theorem Sm.trans {S : List Nat} {T T' T'' : Tr} (h : Sm S T T') (k : Sm S T' T'') : Sm S T T'' := fun u hu => (k u hu).trans (h u hu)
theorem Sm.put {S : List Nat} {t : Nat} (h : t ∉ S) (x : AV) (T : Tr) : Sm S T (putP (paN t) x T) := fun u hu => get_put_ne u t x T fun e => h (e ▸ hu)
theorem Sm.putO {S : List Nat} {d : Option Tmp} (h : ∀ t : Nat, d = some t → t ∉ S) (x : AV) (T : Tr) : Sm S T (Go.Aw.putO (d.map paN) x T) := by
  cases d with
  | none => exact Sm.refl S T
  | some t => exact Sm.put (h t rfl) x T
theorem allT_get (T : Tr) {u : Nat} : ∀ {K : List Nat}, u ∈ K → getP (paN u) (allT (K.map paN) ((K.map paN).map fun p => getP p T)) = getP (paN u) T
  | k :: K, h => by
    simp only [List.map_cons, allT]
    by_cases e : u = k
    · subst e; exact get_put_self _ _ _
    · rw [get_put_ne _ _ _ _ e]
      exact allT_get T ((List.mem_cons.1 h).resolve_left e)
theorem coinB_dst {P : Program} {n : Nat} {ops : Array Oper} {d t : Tmp} (h : coinB P n ops = some (d, t)) : d ∈ ops.toList.filterMap (·.dst) ∧ t ∈ ops.toList.filterMap (·.dst) := by
  unfold coinB at h
  split at h
  · rename_i o0 o1 o2 o3 hl
    split at h
    · rename_i tb d' e0 e1 e2
      split at h
      · split at h
        · split at h
          · rename_i t3 x3 t' f0 f1 f2
            split at h
            · cases h
              rw [hl]
              simp only [List.mem_filterMap]
              exact ⟨⟨o0, by simp, e1⟩, ⟨o3, by simp, f1⟩⟩
            · cases h
          · cases h
        · cases h
      · cases h
    · cases h
  · cases h
end
def WrG (S : List Nat) (g : RG) : Prop := ∀ x T, Sm S T (putO g.d x T)
omit [Laid] in
theorem runReg_inv {call : CallF} {S : List Nat} : ∀ (l : List RG), (∀ g ∈ l, WrG S g) → ∀ (T : Tr) (h : Heap) (k k' : Tr → Heap → Option Out), (∀ T' h', Sm S T T' → k T' h' = k' T' h') → runReg call l T h k = runReg call l T h k'
  | [], _, T, h, k, k', hk => hk T h (Sm.refl S T)
  | g :: l, hw, T, h, k, k', hk => by
    show (match eG call g T h with | some (v, none) => runReg call l (putO g.d v T) h k | some (v, some h') => runReg call l (putO g.d v T) h' k | none => none) = (match eG call g T h with | some (v, none) => runReg call l (putO g.d v T) h k' | some (v, some h') => runReg call l (putO g.d v T) h' k' | none => none)
    have ih := fun v h' => runReg_inv (call := call) l (fun g hg => hw g (List.mem_cons_of_mem _ hg)) (putO g.d v T) h' k k' (fun T' h'' e => hk T' h'' ((hw g (List.mem_cons_self ..) v T).trans e))
    split
    · exact ih _ _
    · exact ih _ _
    · rfl
omit [Laid] in
theorem canon_sm {call : CallF} {S : List Nat} : ∀ (l : List OG), (∀ o ∈ l, WrG S o.g) → ∀ (T : Tr) (h : Heap) (x : List (Tr × AV) × List Heap × Tr), canon call l T h = some x → Sm S T x.2.2
  | [], _, T, h, x, e => by cases e; exact Sm.refl S T
  | o :: l, hw, T, h, x, e => by
    have ih := fun v h' y (q : canon call l (putO o.g.d v T) h' = some y) => (hw o (List.mem_cons_self ..) v T).trans (canon_sm l (fun g hg => hw g (List.mem_cons_of_mem _ hg)) (putO o.g.d v T) h' y q)
    have e : (match eQ call o.g T h with
      | some (v, none) => (match o.lo with
        | false => (match canon call l (putO o.g.d v T) h with | some (a, b, c) => some ((T, v) :: a, b, c) | none => none)
        | true => (match canon call l (putO o.g.d v T) h with | some (a, b, c) => some ((T, v) :: a, h :: b, c) | none => none))
      | some (v, some h') => (match o.lo with
        | true => (match canon call l (putO o.g.d v T) h' with | some (a, b, c) => some ((T, v) :: a, h :: b, c) | none => none)
        | false => none)
      | none => none) = some x := e
    split at e
    · split at e
      all_goals
        split at e
        · rename_i q; cases e; have w := ih _ _ _ q; exact w
        · cases e
    · split at e
      · split at e
        · rename_i q; cases e; have w := ih _ _ _ q; exact w
        · cases e
      · cases e
    · cases e
omit [Laid] in
theorem runOpen_inv {call : CallF} {S : List Nat} {l : List OG} (hw : ∀ o ∈ l, WrG S o.g) {T : Tr} {h : Heap} {k k' : Tr → Heap → Option Out} (hk : ∀ T' h', Sm S T T' → k T' h' = k' T' h') : runOpen call l T h k = runOpen call l T h k' := by
  unfold runOpen
  split
  · rename_i es hs T' e
    split
    · exact hk _ _ (canon_sm l hw T h _ e)
    · rfl
  · rfl
section
variable {P : Program} {call : CallF} {own : Nat → Nat → Bool} {n F : Nat}
theorem cG_wr {S : List Nat} {P : Program} {own : Bool} {n : Nat} {ops : Array Oper} {o : Oper} (h : ∀ t : Nat, o.dst = some t → t ∉ S) : WrG S (cG P own n ops o) := fun x T => Sm.putO h x T
theorem cGs_wr {S : List Nat} {P : Program} {own : Nat → Bool} {n : Nat} {ops : Array Oper} : ∀ (i : Nat) (l : List Oper), (∀ u ∈ S, u ∉ l.filterMap (·.dst)) → ∀ g ∈ cGs P own n ops i l, WrG S g
  | _, [], _, g, hg => by cases hg
  | i, o :: l, h, g, hg => by
    rcases List.mem_cons.1 hg with rfl | hg
    · exact cG_wr fun t ht hs => h t hs (List.mem_filterMap.2 ⟨o, List.mem_cons_self .., ht⟩)
    · refine cGs_wr (i + 1) l (fun u hu hm => h u hu ?_) g hg
      obtain ⟨o', ho', e⟩ := List.mem_filterMap.1 hm
      exact List.mem_filterMap.2 ⟨o', List.mem_cons_of_mem _ ho', e⟩
theorem cOGs_wr {S : List Nat} {P : Program} {own : Nat → Bool} {n : Nat} {ops : Array Oper} {lo : Nat → Bool} {ms : List Nat} : ∀ (i : Nat) (l : List Oper), (∀ u ∈ S, u ∉ l.filterMap (·.dst)) → ∀ g ∈ cOGs P own n ops lo ms i l, WrG S g.g
  | _, [], _, g, hg => by cases hg
  | i, o :: l, h, g, hg => by
    rcases List.mem_cons.1 hg with rfl | hg
    · exact cG_wr fun t ht hs => h t hs (List.mem_filterMap.2 ⟨o, List.mem_cons_self .., ht⟩)
    · refine cOGs_wr (i + 1) l (fun u hu hm => h u hu ?_) g hg
      obtain ⟨o', ho', e⟩ := List.mem_filterMap.1 hm
      exact List.mem_filterMap.2 ⟨o', List.mem_cons_of_mem _ ho', e⟩
omit [Laid] in
theorem loopR_inv {S : List Nat} {body : Tr → Heap → (Exit → Tr → Heap → Option Out) → Option Out} (hb : ∀ (T : Tr) (h : Heap) (q q' : Exit → Tr → Heap → Option Out), (∀ e T' h', Sm S T T' → q e T' h' = q' e T' h') → body T h q = body T h q')
    {q q' : Exit → Tr → Heap → Option Out} : ∀ (F : Nat) (T : Tr) (h : Heap), (∀ e T' h', Sm S T T' → q e T' h' = q' e T' h') → loopR F body q T h = loopR F body q' T h
  | 0, _, _, _ => rfl
  | F + 1, T, h, hq => by
    show body T h (fun e T h => match e with | .normal => loopR F body q T h | e => q e T h) = body T h (fun e T h => match e with | .normal => loopR F body q' T h | e => q' e T h)
    refine hb T h _ _ fun e T' h' hs => ?_
    cases e with
    | normal => exact loopR_inv hb F T' h' fun e T'' h'' hs' => hq e T'' h'' (hs.trans hs')
    | _ => exact hq _ T' h' hs
theorem run_inv {S : List Nat} (hn : ∀ u ∈ S, u < n) : ∀ (c : Code), (∀ u ∈ S, u ∉ writesC c) → ∀ (T : Tr) (h : Heap) (q q' : Exit → Tr → Heap → Option Out), (∀ e T' h', Sm S T T' → q e T' h' = q' e T' h') → run call F (cC P own n c) T h q = run call F (cC P own n c) T h q'
  | .skip, _, T, h, q, q', hq => hq _ _ _ (Sm.refl S T)
  | .ret, _, T, h, q, q', hq => hq _ _ _ (Sm.refl S T)
  | .exit i, _, T, h, q, q', hq => hq _ _ _ (Sm.refl S T)
  | .label l, _, T, h, q, q', hq => hq _ _ _ (Sm.refl S T)
  | .goto l, _, T, h, q, q', hq => rfl
  | .scope a, hw, T, h, q, q', hq => by
    show run call F (cC P own n a) T h _ = run call F (cC P own n a) T h _
    refine run_inv hn a hw T h _ _ fun e T' h' hs => ?_
    cases e <;> first | rfl | exact hq _ T' h' hs
  | .seq a b, hw, T, h, q, q', hq => by
    have ha : ∀ u ∈ S, u ∉ writesC a := fun u hu hm => hw u hu (by simp only [writesC, List.mem_append]; exact .inl hm)
    have hb : ∀ u ∈ S, u ∉ writesC b := fun u hu hm => hw u hu (by simp only [writesC, List.mem_append]; exact .inr hm)
    simp only [cC]
    split
    · rename_i d t hco
      have hcode : ∃ id ops, a = .region id ops true ∧ coinB P n ops = some (d, t) := by
        cases a with
        | region id ops draw =>
          cases draw with
          | true => exact ⟨id, ops, rfl, hco⟩
          | false => simp [coinC] at hco
        | _ => simp [coinC] at hco
      obtain ⟨id, ops, rfl, hcb⟩ := hcode
      obtain ⟨hd, ht⟩ := coinB_dst hcb
      simp only [run]
      split
      · rename_i r1 r2 e1 e2
        split
        · refine hq _ _ _ fun u hu => allT_get T ?_
          unfold keepC
          rw [List.mem_filter]
          refine ⟨List.mem_range.2 (hn u hu), ?_⟩
          simp only [List.any_cons, Bool.not_eq_true', Bool.or_eq_false_iff]
          have ne : ∀ v : Nat, v ≠ u → Nat.beq v u = false := fun v hv => by
            cases z : Nat.beq v u with
            | false => rfl
            | true => exact absurd (Nat.eq_of_beq_eq_true z) hv
          refine ⟨ne d fun e => ha u hu (e ▸ hd), ne t fun e => ha u hu (e ▸ ht), ?_⟩
          rw [List.any_eq_false]
          intro v hv z
          exact hb u hu ((Nat.eq_of_beq_eq_true z) ▸ hv)
        · rfl
      · rfl
    · show run call F (cC P own n a) T h _ = run call F (cC P own n a) T h _
      refine run_inv hn a ha T h _ _ fun e T' h' hs => ?_
      cases e with
      | normal => exact run_inv hn b hb T' h' q q' fun e T'' h'' hs' => hq e T'' h'' (hs.trans hs')
      | _ => exact hq _ T' h' hs
  | .block i a, hw, T, h, q, q', hq => by
    show run call F (cC P own n a) T h _ = run call F (cC P own n a) T h _
    refine run_inv hn a hw T h _ _ fun e T' h' hs => ?_
    cases e with
    | exit j =>
      simp only
      split
      · exact hq _ T' h' hs
      · exact hq _ T' h' hs
    | _ => exact hq _ T' h' hs
  | .cond x a b, hw, T, h, q, q', hq => by
    have ha : ∀ u ∈ S, u ∉ writesC a := fun u hu hm => hw u hu (by simp only [writesC, List.mem_append]; exact .inl (.inr hm))
    have hb : ∀ u ∈ S, u ∉ writesC b := fun u hu hm => hw u hu (by simp only [writesC, List.mem_append]; exact .inr hm)
    simp only [cC, run]
    split
    · exact run_inv hn a ha T h q q' hq
    · exact run_inv hn b hb T h q q' hq
    · rfl
  | .loop a, hw, T, h, q, q', hq => loopR_inv (fun T h q q' => run_inv hn a hw T h q q') F T h hq
  | .region id ops draw, hw, T, h, q, q', hq => by
    have hw' : ∀ u ∈ S, u ∉ ops.toList.filterMap (·.dst) := hw
    cases draw with
    | false =>
      simp only [cC]
      unfold cReg
      split
      · simp only [run]
        exact runReg_inv [] (fun _ h => by cases h) T h _ _ fun T' h' hs => hq _ T' h' hs
      · rename_i o0 rest hops
        rw [hops] at hw'
        split
        · rename_i x h1 h2 h3
          simp only [run]
          split
          · rename_i l2 _
            congr 1
            refine List.map_congr_left fun p _ => ?_
            have s0 : Sm S T (putO (o0.dst.map paN) p.1 T) := Sm.putO (fun t ht hs => hw' t hs (List.mem_filterMap.2 ⟨o0, List.mem_cons_self .., ht⟩)) _ _
            refine runReg_inv _ (cGs_wr 1 rest fun u hu hm => hw' u hu ?_) _ _ _ _ fun T' h' hs => hq _ T' h' (s0.trans hs)
            obtain ⟨o', ho', e⟩ := List.mem_filterMap.1 hm
            exact List.mem_filterMap.2 ⟨o', List.mem_cons_of_mem _ ho', e⟩
          · rfl
        · simp only [run]
          exact runReg_inv _ (cGs_wr 0 (o0 :: rest) hw') T h _ _ fun T' h' hs => hq _ T' h' hs
    | true =>
      simp only [cC]
      split
      · simp only [run]
        exact runOpen_inv (cOGs_wr 0 ops.toList hw') fun T' h' hs => hq _ T' h' hs
      · rfl
  | .rangeFunc _ _ _ _, _, T, h, q, q', hq => rfl
  | .refuse _, _, T, h, q, q', hq => rfl
end
/-- The next of a walk. -/
theorem eNxt_ok {P : Program} {o : Oper} {base : Nat} {ι : List Ix} {S : Stab} {a : Act} {w : World} {st : St} {x : Operand} {l2 : List (AV × Heap)} (hr : ROK base ι S a w st) (ho : o.op = .next x false) (e : eNxt (evalA st.fr x) st.h = some l2) : Meets P o base ι S a w st fun v h => (v, h) ∈ l2 := by
  unfold eNxt at e
  split at e
  · rename_i id hx
    rw [getE_eq] at e
    split at e
    · rename_i m s sn l hi
      rw [getE_eq] at e
      split at e
      · rename_i c es he
        split at e
        · rename_i hb hs
          refine s_next hr ho hx hi he hb (Nat.le_of_ble_eq_true hs) (fun hl => ?_) (fun p hp => ?_)
          · rw [hl] at e; simp only [setE_eq, Option.some.injEq] at e; rw [← e]; simp
          · split at e
            · rename_i hl; rw [hl] at hp; cases hp
            · rename_i p0 r hl
              simp only [setE_eq, Option.some.injEq] at e
              rw [← e, ← hl]
              exact List.mem_map.2 ⟨p, hp, rfl⟩
        · cases e
      · cases e
    · cases e
  · cases e
section
variable {P : Program} {call : CallF} {own : Nat → Nat → Bool} {n F : Nat}
theorem next_sound (hc : CallOK P call) {id : Nat} {ops : Array Oper} {o0 : Oper} {rest : List Oper} {x : Operand} {T : Tr} {st : St} {q : Exit → Tr → Heap → Option Out} {r : Out} {m : Nat} (hops : ops.toList = o0 :: rest) (h1 : o0.op = .next x false) (h2 : o0.guard = none) (h3 : fitsD n o0.dst = true)
    (hn : st.n = n) (hf : Fits st.fr T) (e : (match eNxt (evR T (cO x)) st.h with | some l2 => allSame (l2.map fun p => runReg call (cGs P (own id) n ops 1 rest) (putO (o0.dst.map paN) p.1 T) p.2 (fun T h => q .normal T h)) | none => none) = some r) : AW P m (.region id ops false) (PostR n q r) st := by
  subst hn
  split at e
  · rename_i l2 hl2
    rw [evR_eq hf] at hl2
    intro base ι S a w hm hr
    refine wp_region ?_
    have hsz : ops.size = rest.length + 1 := by have := congrArg List.length hops; simpa using this
    have h0 : ops[0]? = some o0 := by rw [← Array.getElem?_toList, hops]; rfl
    rw [hsz, List.range_eq_range', List.range'_succ, wpOps_cons]
    unfold wpOp
    rw [h0]
    simp only
    have hw : Region.wanted o0 (yielded ops a.tmps) = true := by unfold Region.wanted; rw [h2]
    rw [if_pos hw]
    left
    refine wp_mono2 (fun a' w' k' => ?_) (fun _ _ _ k' => k') (eNxt_ok (P := P) hr h1 hl2 _)
    obtain ⟨ι', S', v, h', hE, hR, hl, hmem⟩ := k'
    have hrun := allSame_ok e _ (List.mem_map.2 ⟨(v, h'), hmem, rfl⟩)
    have hd : ∀ t : Nat, o0.dst = some t → t < st.n := fun t ht => by
      rw [ht] at h3; simp only [fitsD, Nat.ble_eq] at h3; omega
    have hQ : ∀ st' T', st'.n = st.n → Fits st'.fr T' → q .normal T' st'.h = some r → PostR st.n q r .normal st' := fun st' T' h1 h2 h3 => ⟨h1, T', h2, h3⟩
    have := reg_sound (m := m) (Q := PostR st.n q r) hc hQ rest 1 base ι' S' a' w' (setFr st.n st.fr o0.dst v) h' (putO (o0.dst.map paN) v T) (fun j hj => by
      rw [← Array.getElem?_toList, hops, Nat.add_comm 1 j]; rfl) (by omega) hR (hf.set hd) hrun
    exact wpOps_mono (fun e a w z => Post.trans (hE.mono (by rw [hr.hp.len]; exact hm) (Nat.le_refl _)) z) _ _ _ this
  · cases e
theorem run_sound (hc : CallOK P call) : ∀ (c : Code) (T : Tr) (st : St) (q : Exit → Tr → Heap → Option Out) (r : Out) (m : Nat), st.n = n → Fits st.fr T → run call F (cC P own n c) T st.h q = some r → AW P m c (PostR n q r) st
  | .skip, T, st, q, r, m, hn, hf, e => AW_skip ⟨hn, T, hf, e⟩
  | .ret, T, st, q, r, m, hn, hf, e => AW_ret ⟨hn, T, hf, e⟩
  | .exit i, T, st, q, r, m, hn, hf, e => AW_exit ⟨hn, T, hf, e⟩
  | .label l, T, st, q, r, m, hn, hf, e => AW_label ⟨hn, T, hf, e⟩
  | .goto l, T, st, q, r, m, hn, hf, e => by simp [cC, run] at e
  | .scope a, T, st, q, r, m, hn, hf, e => by
    intro base ι S ac w hm hr
    refine wp_scope_straight (wp_mono (run_sound hc a T st _ r m hn hf e base ι S ac w hm hr) fun ex a' w' k => ?_)
    obtain ⟨ι', S', st', h1, h2, h3, hn', T', hf', e'⟩ := k
    cases ex with
    | goto l => simp at e'
    | normal => exact ⟨ι', S', st', h1, h2, h3, hn', T', hf', e'⟩
    | exit i => exact ⟨ι', S', st', h1, h2, h3, hn', T', hf', e'⟩
    | ret => exact ⟨ι', S', st', h1, h2, h3, hn', T', hf', e'⟩
    | panic ch => exact ⟨ι', S', st', h1, h2, h3, hn', T', hf', e'⟩
    | outgrown => exact ⟨ι', S', st', h1, h2, h3, hn', T', hf', e'⟩
  | .seq a b, T, st, q, r, m, hn, hf, e => by
    simp only [cC] at e
    split at e
    · rename_i d t hco
      simp only [run] at e
      split at e
      · rename_i r1 r2 e1 e2
        split at e
        · rename_i b2
          have q2 := beqH_eq _ _ b2
          have hcode : ∃ id ops, a = .region id ops true ∧ coinB P n ops = some (d, t) := by
            cases a with
            | region id ops draw =>
              cases draw with
              | true => exact ⟨id, ops, rfl, hco⟩
              | false => simp [coinC] at hco
            | _ => simp [coinC] at hco
          obtain ⟨id, ops, rfl, hcb⟩ := hcode
          have hK : ∀ u ∈ keepC n d t b, u < n ∧ u ≠ d ∧ u ≠ t ∧ u ∉ writesC b := fun u hu => by
            unfold keepC at hu
            rw [List.mem_filter] at hu
            obtain ⟨h1, h2⟩ := hu
            simp only [List.any_cons, Bool.not_eq_true', Bool.or_eq_false_iff] at h2
            refine ⟨List.mem_range.1 h1, fun z => ?_, fun z => ?_, fun z => ?_⟩
            · rw [z] at h2; simp at h2
            · rw [z] at h2; simp at h2
            · have := List.any_eq_false.1 h2.2.2 u z
              simp at this
          have fin : ∀ (v : Bool) (rv : Out), rv.2 = r1.2 → run call F (cC P own n b) (putP (paN t) (bool v) (putP (paN d) .any T)) (st.h ++ [.dead]) (endV ((keepC n d t b).map paN) T) = some rv → AW P m b (PostR n q r) ⟨st.n, putF (putF st.fr d .any) t (bool v), st.h ++ [.dead]⟩ := by
            intro v rv hrv ev
            have hT : ∀ u ∈ keepC n d t b, getP (paN u) (putP (paN t) (bool v) (putP (paN d) .any T)) = getP (paN u) T := fun u hu => by
              obtain ⟨_, h2, h3, _⟩ := hK u hu
              rw [get_put_ne _ _ _ _ h3, get_put_ne _ _ _ _ h2]
            let q2 : Exit → Tr → Heap → Option Out := fun e T' h => match e with | .normal => (open Classical in if ∀ u ∈ keepC n d t b, getP (paN u) T' = getP (paN u) T then some (.tup (((keepC n d t b).map paN).map fun p => getP p T), h) else none) | _ => none
            have eq : run call F (cC P own n b) (putP (paN t) (bool v) (putP (paN d) .any T)) (st.h ++ [.dead]) q2 = some rv := by
              rw [← ev]
              refine run_inv (S := keepC n d t b) (fun u hu => (hK u hu).1) b (fun u hu => (hK u hu).2.2.2) _ _ _ _ fun e T' h' hs => ?_
              cases e with
              | normal => simp only [q2, endV]; rw [if_pos fun u hu => (hs u hu).trans (hT u hu)]
              | _ => rfl
            refine AW.post (run_sound hc b _ ⟨st.n, putF (putF st.fr d .any) t (bool v), st.h ++ [.dead]⟩ _ rv m hn ((hf.put d .any).put t (bool v)) eq) ?_
            rintro ex st' ⟨hn', T', hf', e'⟩
            cases ex with
            | normal =>
              simp only [q2] at e'
              split at e'
              · rename_i hs
                simp only [Option.some.injEq] at e'
                rw [← e'] at hrv
                simp only at hrv
                refine ⟨_, weak_frK st' (keepC n d t b), hn', _, frK_fits _ _, ?_⟩
                have : (keepC n d t b).map (fun k => getF st'.fr k) = ((keepC n d t b).map paN).map fun p => getP p T := by
                  rw [List.map_map]
                  exact List.map_congr_left fun k hk => (hf' k).trans (hs k hk)
                rw [this]
                simp only [hrv]
                exact e
              · cases e'
            | _ => simp [q2] at e'
          intro base ι S ac w hm hr
          exact AW_seq (coin_sound (st := st) hm (by rw [hn]; exact hcb) fun v => by
            cases v with
            | true => exact fin true r1 rfl e1
            | false => exact fin false r2 q2.symm e2) base ι S ac w hm hr
        · cases e
      · cases e
    · refine AW_seq ((run_sound hc a T st _ r m hn hf e).mono fun ex st' k => ?_)
      obtain ⟨hn', T', hf', e'⟩ := k
      cases ex with
      | normal => exact run_sound hc b T' st' q r m hn' hf' e'
      | exit i => exact ⟨hn', T', hf', e'⟩
      | goto l => exact ⟨hn', T', hf', e'⟩
      | ret => exact ⟨hn', T', hf', e'⟩
      | panic ch => exact ⟨hn', T', hf', e'⟩
      | outgrown => exact ⟨hn', T', hf', e'⟩
  | .block i a, T, st, q, r, m, hn, hf, e => by
    refine AW_block ((run_sound hc a T st _ r m hn hf e).mono fun ex st' k => ?_)
    obtain ⟨hn', T', hf', e'⟩ := k
    cases ex with
    | exit j =>
      simp only [blockQ]
      simp only at e'
      split
      · rename_i h
        rw [show Nat.beq j i = true from Nat.beq_eq ▸ h] at e'
        exact ⟨hn', T', hf', e'⟩
      · rename_i h
        have : Nat.beq j i = false := by
          cases z : Nat.beq j i with
          | false => rfl
          | true => exact absurd (Nat.eq_of_beq_eq_true z) h
        rw [this] at e'
        exact ⟨hn', T', hf', e'⟩
    | normal => exact ⟨hn', T', hf', e'⟩
    | goto l => exact ⟨hn', T', hf', e'⟩
    | ret => exact ⟨hn', T', hf', e'⟩
    | panic ch => exact ⟨hn', T', hf', e'⟩
    | outgrown => exact ⟨hn', T', hf', e'⟩
  | .cond x a b, T, st, q, r, m, hn, hf, e => by
    simp only [cC, run] at e
    intro base ι S ac w hm hr
    have rv := hr.eval x
    rw [← evR_eq hf x] at rv
    split at e
    · rename_i hx
      rw [hx, Rep_v] at rv
      exact wp_cond_true rv (run_sound hc a T st q r m hn hf e base ι S ac w hm hr)
    · rename_i hx
      rw [hx, Rep_v] at rv
      exact wp_cond_false rv (run_sound hc b T st q r m hn hf e base ι S ac w hm hr)
    · cases e
  | .loop a, T, st, q, r, m, hn, hf, e => by
    refine AW_loop (α := St × Tr × Nat) (fun x => x.1.n = n ∧ Fits x.1.fr x.2.1 ∧ loopR x.2.2 (run call F (cC P own n a)) q x.2.1 x.1.h = some r) (fun x => x.1) (fun x => x.2.2) (st, T, F) ⟨hn, hf, e⟩ (Weak.refl _ _) ?_
    rintro ⟨s, T, k⟩ ⟨hn, hf, e⟩
    cases k with
    | zero => simp [loopR] at e
    | succ k =>
      refine (run_sound hc a T s _ r m hn hf e).mono fun ex st' hk => ?_
      obtain ⟨hn', T', hf', e'⟩ := hk
      cases ex with
      | normal => exact ⟨(st', T', k), ⟨hn', hf', e'⟩, Weak.refl _ _, Nat.lt_succ_self k⟩
      | exit i => exact ⟨hn', T', hf', e'⟩
      | goto l => exact ⟨hn', T', hf', e'⟩
      | ret => exact ⟨hn', T', hf', e'⟩
      | panic ch => exact ⟨hn', T', hf', e'⟩
      | outgrown => exact ⟨hn', T', hf', e'⟩
  | .region id ops draw, T, st, q, r, m, hn, hf, e => by
    have hQ : ∀ st' T', st'.n = n → Fits st'.fr T' → q .normal T' st'.h = some r → PostR n q r .normal st' := fun st' T' h1 h2 h3 => ⟨h1, T', h2, h3⟩
    cases draw with
    | false =>
      simp only [cC] at e
      by_cases hx : ∃ o0 rest x, ops.toList = o0 :: rest ∧ o0.op = .next x false ∧ o0.guard = none ∧ fitsD n o0.dst = true
      · obtain ⟨o0, rest, x, hops, h1, h2, h3⟩ := hx
        refine next_sound (own := own) (x := x) hc hops h1 h2 h3 hn hf ?_
        simpa only [cReg, hops, h1, h2, h3, run] using e
      have e : run call F (.reg (cGs P (own id) n ops 0 ops.toList)) T st.h q = some r := by
        unfold cReg at e
        split at e
        · rename_i hl; rw [hl]; exact e
        · rename_i o0 rest hops
          split at e
          · rename_i x h1 h2 h3; exact absurd ⟨o0, rest, x, hops, h1, h2, h3⟩ hx
          · rw [hops]; exact e
      simp only [run] at e
      intro base ι S a w hm hr
      subst hn
      have := reg_sound (m := m) (Q := PostR st.n q r) hc hQ ops.toList 0 base ι S a w st.fr st.h T (fun j hj => by simp) hm hr hf e
      rw [show List.range' 0 ops.toList.length = List.range ops.size by rw [List.range_eq_range']; simp] at this
      exact wp_region this
    | true =>
      simp only [cC] at e
      split at e
      · rename_i h1 h2
        simp only [run] at e
        exact open_sound hc h1 h2 hn hf e hQ
      · simp [run] at e
  | .rangeFunc _ _ _ _, T, st, q, r, m, hn, hf, e => by simp [cC, run] at e
  | .refuse _, T, st, q, r, m, hn, hf, e => by simp [cC, run] at e
end

/-! ### Results -/
inductive RR where
  | t (p : Pa)
  | c (p : Pa) (g : Bool) (sz : Nat)
  | bad
noncomputable def cR (P : Program) (x : ResultVar) : RR :=
  match x with
  | .tmp t => .t (paN t)
  | .cell a t => (match tOk P t with | true => .c (paN a) (tAgg P t) (P.cellsOf t) | false => .bad)
noncomputable def resE (T : Tr) (h : Heap) : List RR → Option (List AV)
  | [] => some []
  | .t p :: r => (match resE T h r with | some l => some (getP p T :: l) | none => none)
  | .c p g sz :: r => (match eLoad g sz (getP p T) h, resE T h r with | some v, some l => some (v :: l) | _, _ => none)
  | .bad :: _ => none
theorem resE_ok {P : Program} {T : Tr} {st : St} (hf : Fits st.fr T) : ∀ (rs : List ResultVar) (l : List AV) (K : List AV → Prop), resE T st.h (rs.map (cR P)) = some l → K l → resA P st rs K
  | [], l, K, e, hk => by simp only [List.map_nil, resE, Option.some.injEq] at e; subst e; exact hk
  | .tmp t :: rs, l, K, e, hk => by
    simp only [List.map_cons, cR, resE] at e
    split at e
    · rename_i l' hl
      cases e
      refine resE_ok hf rs l' _ hl ?_
      have : evalA st.fr (.tmp t) = getP (paN t) T := hf t
      rw [this]; exact hk
    · cases e
  | .cell a t :: rs, l, K, e, hk => by
    simp only [List.map_cons, cR] at e
    cases ht : tOk P t with
    | false => rw [ht] at e; simp [resE] at e
    | true =>
      rw [ht] at e
      simp only [resE] at e
      split at e
      · rename_i v l' hv hl
        cases e
        simp only [resA, ht]
        have : evalA st.fr (.tmp a) = getP (paN a) T := hf a
        rw [this]
        exact eLoad_ok hv (resE_ok hf rs l' _ hl hk)
      · cases e

/-! ### Functions -/
structure RFn where
  code : RC
  rs : List RR
  n : Nat
noncomputable def cF (P : Program) (own : Nat → Nat → Nat → Bool) (f : FuncId) : Option RFn :=
  match P.funcs[f]? with
  | some fn => (match fn.body, hasBody P f with
    | some c, true => some ⟨cC P (own f) fn.ntmps c, fn.results.toList.map (cR P), fn.ntmps⟩
    | _, _ => none)
  | none => none
noncomputable def bodyE (call : CallF) (F : Nat) (g : RFn) (args : List AV) (h : Heap) : Option Out :=
  match Nat.ble (lenF args) g.n with
  | true => run call F g.code (args0T args 0) h (fun e T h => match e with
    | .normal => (match resE T h g.rs with | some l => some (retA l, h) | none => none)
    | .ret => (match resE T h g.rs with | some l => some (retA l, h) | none => none)
    | _ => none)
  | false => none

theorem FnOK.acallW {P : Program} {f : FuncId} {c : Code} {n : Nat} {rs : List ResultVar} (F : FnOK P f c n rs) {args : List AV} {h : Heap} {K : AV → Heap → Prop} (hl : args.length ≤ n)
    (q : AW P h.length c (bodyQ P rs fun r h' => ∃ r' h'', Wk h.length [r] h' [r'] h'' ∧ K r' h'') ⟨n, args0 args 0, h⟩) : ACall P f args h K := by
  obtain ⟨fn, hf, hb, hrs, hn, _⟩ := F
  subst hrs
  intro base ι S w vs h1 h2
  have hlen := h1.length
  refine calls_of_wp hf hb (wp_mono (q base ι S _ w (Nat.le_refl _) ⟨rfl, by simp [hn]; omega, args_ok h1 _, h2⟩) ?_)
  rintro e a' w' ⟨ι', S', st', hE, hm, hr, hq⟩
  have fin : resA P st' fn.results.toList (fun l => ∃ r' h'', Wk h.length [retA l] st'.h [r'] h'' ∧ K r' h'') → a'.defers = [] ∧ ∃ v, (results fn a'.tmps).run P w' = .ok v w' ∧
      ∃ u ι'' S'' r h', Ending.returned v = .returned u ∧ Evo h.length base ι S w ι'' S'' w' ∧ Rep ι'' S'' w' r u ∧ HOK base ι'' S'' w' h' ∧ h.length ≤ h'.length ∧ K r h' := by
    intro hq
    obtain ⟨l, us, e1, rl, r', h'', ⟨wk1, wk2, wk3⟩, k⟩ := run_results (P := P) hr fn.results.toList _ hq
    have hv : Rep ι' S' w' (retA l) (if hh : us.length = 1 then us[0] else .tuple us.toArray) := by
      have hl := rl.length
      match l, us, hl, rl with
      | [], [], _, _ => simp only [retA]; rw [Rep]; exact ⟨[], rfl, by simp⟩
      | [x], [u], _, rl => simp at rl; simpa [retA] using rl
      | x :: y :: l, u :: v :: us, _, rl => simp only [retA]; rw [Rep]; exact ⟨u :: v :: us, by simp, rl⟩
    obtain ⟨ι2, S2, hE2, hs2, hp2⟩ := wk3 base ι' S' w' [_] ((RepL_cons _ _ _ _).2 ⟨hv, by simp⟩) hr.hp
    refine ⟨hr.df, if hh : us.length = 1 then us[0] else .tuple us.toArray, ?_, _, ι2, S2, r', h'', rfl, hE.trans hE2, ((RepL_cons _ _ _ _).1 hs2).1, hp2, wk1, k⟩
    rw [results_eq, ← Array.toArray_toList (xs := fn.results), List.mapM_toArray]
    simp only [Sem.run_bind, Sem.run_map, e1, Result.andThen_ok, Sem.run_pure]
    by_cases hh : us.length = 1 <;> simp [hh]
  cases e with
  | normal => exact fin hq
  | ret => exact fin hq
  | _ => exact hq.elim

theorem cF_ok {P : Program} {own : Nat → Nat → Nat → Bool} {f : FuncId} {g : RFn} (h : cF P own f = some g) : ∃ c rs, FnOK P f c g.n rs ∧ g.code = cC P (own f) g.n c ∧ g.rs = rs.map (cR P) := by
  unfold cF at h
  split at h
  · rename_i fn hf
    split at h
    · rename_i c hb hh
      cases h
      exact ⟨c, fn.results.toList, ⟨fn, hf, hb, rfl, rfl, hh⟩, rfl, rfl⟩
    · cases h
  · cases h

theorem bodyE_ok {P : Program} {own : Nat → Nat → Nat → Bool} {call : CallF} {F : Nat} {f : FuncId} {g : RFn} {args : List AV} {h h1 : Heap} {v : AV} {K : AV → Heap → Prop} (hc : CallOK P call) (hg : cF P own f = some g) (e : bodyE call F g args h = some (v, h1))
    (hk : h.length ≤ h1.length → ∃ r' h'', Wk h.length [v] h1 [r'] h'' ∧ K r' h'') : hasBody P f = true ∧ ACall P f args h K := by
  obtain ⟨c, rs, hF, ec, er⟩ := cF_ok hg
  unfold bodyE at e
  split at e
  · rename_i hl
    rw [Nat.ble_eq, lenF_eq] at hl
    refine ⟨hF.hb, hF.acallW hl ?_⟩
    rw [ec] at e
    refine AW.mono2 (run_sound hc c _ ⟨g.n, args0 args 0, h⟩ _ (v, h1) h.length rfl (fits_args args 0) e) fun ex st' hm k => ?_
    obtain ⟨hn', T', hf', e'⟩ := k
    have fin : (match resE T' st'.h g.rs with | some l => some (retA l, st'.h) | none => none) = some (v, h1) → resA P st' rs fun l => ∃ r' h'', Wk h.length [retA l] st'.h [r'] h'' ∧ K r' h'' := by
      intro e'
      split at e'
      · rename_i l hl'
        simp only [Option.some.injEq, Prod.mk.injEq] at e'
        obtain ⟨rfl, rfl⟩ := e'
        rw [er] at hl'
        exact resE_ok hf' rs l _ hl' (hk hm)
      · cases e'
    cases ex with
    | normal => exact fin e'
    | ret => exact fin e'
    | exit i => cases e'
    | goto l => cases e'
    | panic ch => cases e'
    | outgrown => cases e'
  · cases e

/-! ### What is told behind a call -/
/-- The greatest place that it names, and one more. -/
noncomputable def mxE (a : AV) : Nat :=
  AV.rec (motive_1 := fun _ => Nat) (motive_2 := fun _ => Nat) (motive_3 := fun _ => Nat)
    (fun _ => 0) (fun _ => 0) 0 (fun _ ih => ih) (fun _ ih => ih) 0 (fun _ _ ih => ih) (fun id _ _ ih => match Nat.ble ih id with | true => id + 1 | false => ih) (fun _ ih => ih) (fun id _ _ _ => id + 1) (fun id _ => id + 1)
    (fun _ _ _ ih1 ih2 => match Nat.ble ih1 ih2 with | true => ih2 | false => ih1) (fun _ _ ih => ih) (fun id => id + 1)
    0 (fun _ _ ih1 ih2 => match Nat.ble ih1 ih2 with | true => ih2 | false => ih1) 0 (fun _ _ ih1 ih2 => match Nat.ble ih1 ih2 with | true => ih2 | false => ih1) a
omit [Laid] in
theorem mx2 {a b n : Nat} (h : (match Nat.ble a b with | true => b | false => a) ≤ n) : a ≤ n ∧ b ≤ n := by
  split at h
  · rename_i e; rw [Nat.ble_eq] at e; omega
  · rename_i e
    have : ¬ a ≤ b := fun q => by rw [← Nat.ble_eq] at q; rw [q] at e; cases e
    omega
omit [Laid] in
theorem mx3 {a j n : Nat} (h : (match Nat.ble a j with | true => j + 1 | false => a) ≤ n) : a ≤ n ∧ j < n := by
  split at h
  · rename_i e; rw [Nat.ble_eq] at e; have h : j < n := h; exact ⟨by omega, h⟩
  · rename_i e
    have : ¬ a ≤ j := fun q => by rw [← Nat.ble_eq] at q; rw [q] at e; cases e
    omega
omit [Laid] in
theorem mxE_bd (n : Nat) (a : AV) : mxE a ≤ n → Bd n a := by
  refine AV.rec (motive_1 := fun a => mxE a ≤ n → Bd n a) (motive_2 := fun l => mxE (.agg l) ≤ n → BdL n l) (motive_3 := fun r => mxE (.sl 0 r) ≤ n → BdR n r) ?_ ?_ ?_ ?_ ?_ ?_ ?_ ?_ ?_ ?_ ?_ ?_ ?_ ?_ ?_ ?_ ?_ ?_ a
  · intro x _; simp [Bd]
  · intro x _; simp [Bd]
  · intro _; simp [Bd]
  · intro cs ih h; rw [Bd]; exact ih h
  · intro cs ih h; rw [Bd]; exact ih h
  · intro _; simp [Bd]
  · intro sz rows ih h; rw [Bd]; exact ih h
  · intro id sz rows ih h
    rw [Bd]
    have := mx3 (a := mxE (.sl 0 rows)) (j := id) h
    exact ⟨this.2, ih this.1⟩
  · intro cs ih h; rw [Bd]; exact ih h
  · intro id off len sz h; rw [Bd]; have h : id + 1 ≤ n := h; omega
  · intro id off h; rw [Bd]; have h : id + 1 ≤ n := h; omega
  · intro f xs ys ih1 ih2 h; rw [Bd]; have := mx2 (a := mxE (.agg xs)) (b := mxE (.agg ys)) h; exact ⟨ih1 this.1, ih2 this.2⟩
  · intro t x ih h; rw [Bd]; exact ih h
  · intro id h; rw [Bd]; have h : id + 1 ≤ n := h; omega
  · intro _; simp [BdL]
  · intro x l ih1 ih2 h; rw [BdL]; have := mx2 (a := mxE x) (b := mxE (.agg l)) h; exact ⟨ih1 this.1, ih2 this.2⟩
  · intro _; simp [BdR]
  · intro x l ih1 ih2 h; rw [BdR]; have := mx2 (a := mxE (.agg x)) (b := mxE (.sl 0 l)) h; exact ⟨ih1 this.1, ih2 this.2⟩
omit [Laid] in
theorem bd0_pure (a : AV) : Bd 0 a → Pure a := by
  refine AV.rec (motive_1 := fun a => Bd 0 a → Pure a) (motive_2 := fun l => BdL 0 l → PureL l) (motive_3 := fun r => BdR 0 r → PureR r) ?_ ?_ ?_ ?_ ?_ ?_ ?_ ?_ ?_ ?_ ?_ ?_ ?_ ?_ ?_ ?_ ?_ ?_ a
  all_goals intros
  all_goals simp_all [Bd, BdL, BdR, Pure, PureL, PureR]
omit [Laid] in
theorem bdL_iff (n : Nat) : ∀ l, BdL n l ↔ ∀ a ∈ l, Bd n a
  | [] => by simp [BdL]
  | a :: l => by rw [BdL, bdL_iff n l]; simp

/-- A map's keys and values. -/
def mpC : List (Nat × AV × AV) → List AV
  | [] => []
  | (_, k, c) :: r => k :: c :: mpC r
omit [Laid] in
theorem mpC_mem : ∀ {es : List (Nat × AV × AV)} {p : Nat × AV × AV}, p ∈ es → p.2.1 ∈ mpC es ∧ p.2.2 ∈ mpC es
  | (n, k, c) :: r, p, h => by
    rcases List.mem_cons.1 h with rfl | h
    · simp [mpC]
    · have := mpC_mem h
      simp [mpC, this.1, this.2]
def entB (M : Nat) (e : Ent) : Prop := match e with | .blk b => BdL M b.cells | .mp _ es => BdL M (mpC es) | .it m _ _ _ => m < M | _ => True
noncomputable def entE (e : Ent) : Nat := match e with | .blk b => mxE (.agg b.cells) | .mp _ es => mxE (.agg (mpC es)) | .it m _ _ _ => m + 1 | _ => 0
omit [Laid] in
theorem entE_bd {M : Nat} {e : Ent} (h : entE e ≤ M) : entB M e := by
  cases e with
  | blk b => have := mxE_bd M (.agg b.cells) h; rw [Bd] at this; exact this
  | tok => trivial
  | dead => trivial
  | mp c es => have := mxE_bd M (.agg (mpC es)) h; rw [Bd] at this; exact this
  | it m s sn l => have h : m + 1 ≤ M := h; show m < M; omega

/-- The first 'M' places are kept as they are; what lies behind them is told. -/
theorem HOK.cut {base : Nat} {ι : List Ix} {S : Stab} {w : World} {h : Heap} {M : Nat} (hh : HOK base ι S w h) (hM : M ≤ h.length) (hb : ∀ e ∈ h.take M, entB M e) :
    Evo M base ι S w (ι.take M) (stabT M ι S h) w ∧ HOK base (ι.take M) (stabT M ι S h) w (h.take M) := by
  obtain ⟨hE, hT⟩ := hh.told hM
  refine ⟨hE, ?_⟩
  have pre : ∀ {i : Nat}, i < M → (ι.take M)[i]? = ι[i]? := fun q => by rw [List.getElem?_take, if_pos q]
  have ent : ∀ {i : Nat} {x : Ent}, (h.take M)[i]? = some x → i < M ∧ h[i]? = some x ∧ (tlH M h)[i]? = some (tlE M h x) := by
    intro i x e
    rw [List.getElem?_take] at e
    split at e
    · rename_i q; exact ⟨q, e, by simp only [tlH, List.getElem?_map, List.getElem?_take, if_pos q, e, Option.map_some]⟩
    · cases e
  have alv : ∀ {i : Nat}, alive (h.take M)[i]? → alive (tlH M h)[i]? := by
    intro i ha
    cases e : (h.take M)[i]? with
    | none => rw [e] at ha; exact ha.elim
    | some x =>
      rw [(ent e).2.2]
      rw [e] at ha
      cases x with
      | it m s sn l =>
        have : entB M (.it m s sn l) := hb _ (List.mem_of_getElem? e)
        have : m < M := this
        simp only [tlE, if_pos this]
        trivial
      | dead => exact ha
      | _ => exact trivial
  refine ⟨by simp [hh.len], fun id x e => ?_, fun id t sz n e => ?_, fun id en e => ?_, fun i j b ai aj hi hj => hT.inj i j b (alv ai) (alv aj) hi hj, hT.stb, hh.bas, hh.gl.evo hE⟩
  rotate_left 2
  · obtain ⟨q, e1, e2⟩ := ent e
    have hbd : entB M en := hb _ (List.mem_of_getElem? e)
    have hTo := hT.oth id _ e2
    have hho := hh.oth id en e1
    cases en with
    | blk => trivial
    | tok => trivial
    | dead => trivial
    | mp c es =>
      obtain ⟨b, arr, h1, h2, h3, h4, _⟩ := hTo
      obtain ⟨b', arr', k1, _, k3, _, k5⟩ := hho
      rw [pre q, k1] at h1; cases h1
      rw [k3] at h3; cases h3
      exact ⟨b, arr, (pre q).trans k1, h2, k3, h4, k5.bd fun p hp => ⟨fun y => Rep.evoB hE _ y ((bdL_iff M _).1 hbd _ (mpC_mem hp).1), fun y => Rep.evoB hE _ y ((bdL_iff M _).1 hbd _ (mpC_mem hp).2)⟩⟩
    | it m s sn l =>
      have hm : m < M := hbd
      simp only [tlE, if_pos hm] at hTo
      exact hTo
  · obtain ⟨q, e1, e2⟩ := ent e
    obtain ⟨b, arr, fz, h1, h2, h3, h4, h5, h6, h7, h8, h9⟩ := hT.live id _ e2
    refine ⟨b, arr, fz, h1, h2, h3, h4, by simpa using h5, fun i c ec => ?_, h7, fun o ho => by simpa using h8 o ho, fun hw o ho => h9 hw o (by simpa using ho)⟩
    obtain ⟨b', arr', fz', k1, k2, k3, k4, k5, k6, _⟩ := hh.live id x e1
    rw [pre q, k1] at h1; cases h1
    rw [k3] at h3; cases h3
    obtain ⟨v, e3, r⟩ := k6 i c ec
    have hbd : entB M (.blk x) := hb _ (List.mem_of_getElem? e)
    exact ⟨v, e3, Rep.evoB hE c v ((bdL_iff M x.cells).1 hbd c (List.mem_of_getElem? ec)) r⟩
  · obtain ⟨q, e1, e2⟩ := ent e
    exact hT.tok id t sz n e2

/-- What a value is told as, where what lies from 'M' on is told. -/
noncomputable def toldE (M : Nat) (h : Heap) (a : AV) : AV := match Nat.ble (mxE a) M with | true => a | false => tl M h 6 a
theorem Wk.cut {L M : Nat} {h : Heap} {v : AV} (hL : L ≤ M) (hM : M ≤ h.length) (hb : ∀ e ∈ h.take M, entB M e) : Wk L [v] h [toldE M h v] (h.take M) :=
  ⟨by simp; omega, rfl, fun base ι S w vs r k => by
    obtain ⟨hE, hT⟩ := k.cut hM hb
    refine ⟨_, _, hE.mono hL (Nat.le_refl _), ?_, hT⟩
    obtain ⟨u, rfl⟩ : ∃ u, vs = [u] := by
      cases vs with
      | nil => simp at r
      | cons u us => simp at r; exact ⟨u, by rw [r.2]⟩
    simp only [RepL_cons, RepL_nil, and_true] at r ⊢
    unfold toldE
    split
    · rename_i e; rw [Nat.ble_eq] at e; exact Rep.evoB hE v u (mxE_bd M v e) r
    · exact Rep.tl k 6 v u r⟩

noncomputable def mxH (l : Heap) : Nat := List.rec (motive := fun _ => Nat) 0 (fun e _ ih => match Nat.ble (entE e) ih with | true => ih | false => entE e) l
omit [Laid] in
theorem mxH_ge (l : Heap) : ∀ e ∈ l, entE e ≤ mxH l := by
  induction l with
  | nil => intro e h; cases h
  | cons x l ih =>
    intro e he
    have hx : entE x ≤ mxH (x :: l) ∧ mxH l ≤ mxH (x :: l) := by
      show entE x ≤ (match Nat.ble (entE x) (mxH l) with | true => mxH l | false => entE x) ∧ mxH l ≤ (match Nat.ble (entE x) (mxH l) with | true => mxH l | false => entE x)
      split
      · rename_i e; rw [Nat.ble_eq] at e; exact ⟨e, Nat.le_refl _⟩
      · rename_i e
        have : ¬ entE x ≤ mxH l := fun q => by rw [← Nat.ble_eq] at q; rw [q] at e; cases e
        omega
    rcases List.mem_cons.1 he with rfl | he
    · exact hx.1
    · exact Nat.le_trans (ih e he) hx.2
def maxE (a b : Nat) : Nat := match Nat.ble a b with | true => b | false => a
/-- How much of the memory is kept: the first places, and what they name. -/
noncomputable def keepE (h : Heap) : Nat → Nat → Nat
  | 0, M => M
  | k + 1, M => match Nat.ble (mxH (takeE M h)) M with | true => M | false => keepE h k (mxH (takeE M h))
noncomputable def cutE (L : Nat) (keepRes : Bool) (v : AV) (h : Heap) : AV × Heap :=
  match Nat.beq (lenF h) L with
  | true => (v, h)
  | false => match keepE h 4 (match keepRes with | true => maxE L (mxE v) | false => L) with
    | M => match Nat.ble (mxH (takeE M h)) M, Nat.ble L M, hasN M h with
      | true, true, true => (toldE M h v, takeE M h)
      | _, _, _ => (v, h)
theorem cutE_ok {L : Nat} {kr : Bool} {v v' : AV} {h h' : Heap} (hL : L ≤ h.length) (e : cutE L kr v h = (v', h')) : Wk L [v] h [v'] h' := by
  unfold cutE at e
  split at e
  · cases e; exact Wk.refl _ _ _ hL
  · simp only at e
    split at e
    · rename_i e1 e2 e3
      cases e
      rw [takeE_eq] at e1 ⊢
      rw [Nat.ble_eq] at e1 e2
      exact Wk.cut e2 ((hasN_iff _ _).1 e3) fun x hx => entE_bd (Nat.le_trans (mxH_ge _ x hx) e1)
    · cases e; exact Wk.refl _ _ _ hL

/-! ### Calls -/
/-- What is asked of a call: which functions are known, whose results stay the call's own. -/
structure Cfg where
  own : Nat → Nat → Nat → Bool
  keep : Nat → Bool
  fuel : Nat
noncomputable def isPure (args : List AV) : Bool := allE (fun a => match mxE a with | 0 => true | _ => false) args
noncomputable def stepCall (P : Program) (C : Cfg) (call : CallF) (f : FuncId) (args : List AV) (h : Heap) : Option (AV × Option Heap) :=
  match cF P C.own f with
  | none => none
  | some g => (match isPure args, C.keep f with
    | true, false => (match bodyE call C.fuel g args [] with
      | some (v, h1) => (match mxE (toldE 0 h1 v) with | 0 => some (toldE 0 h1 v, none) | _ => none)
      | none => none)
    | _, kr => (match bodyE call C.fuel g args h with
      | some (v, h1) => (match cutE (lenF h) kr v h1 with | (v', h') => some (v', some h'))
      | none => none))
noncomputable def callD (P : Program) (C : Cfg) (known : CallF) (d : Nat) : CallF :=
  Nat.rec (motive := fun _ => CallF) (fun _ _ _ => none) (fun _ ih f args h => match known f args h with | some r => some r | none => stepCall P C ih f args h) d

theorem stepCall_ok {P : Program} {C : Cfg} {call : CallF} (hc : CallOK P call) : CallOK P (stepCall P C call) := by
  intro f args h v oh e
  unfold stepCall at e
  split at e
  · cases e
  · rename_i g hg
    split at e
    · rename_i hp hk
      split at e
      · rename_i v0 h0 hb
        split at e
        · rename_i hm
          cases e
          have pure : PureL args := by
            unfold isPure at hp
            rw [allE_eq] at hp
            have : ∀ a ∈ args, Bd 0 a := fun a ha => by
              have := List.all_eq_true.1 hp a ha
              split at this
              · rename_i z; exact mxE_bd 0 a (by omega)
              · cases this
            have h2 : Pure (.agg args) := bd0_pure _ (by rw [Bd]; exact (bdL_iff 0 args).2 this)
            rw [Pure] at h2; exact h2
          have hcon : hasBody P f = true ∧ ACall P f args [] fun r' _ => r' = toldE 0 h0 v0 := bodyE_ok hc hg hb fun _ => ⟨_, _, Wk.cut (Nat.le_refl 0) (Nat.zero_le _) (by simp), rfl⟩
          have C' : Con P f args (toldE 0 h0 v0) := ⟨pure, bd0_pure _ (mxE_bd 0 _ (by omega)), hcon.2⟩
          exact .inl ⟨hcon.1, C'.call ⟨rfl, rfl⟩⟩
        · cases e
      · cases e
    · split at e
      · rename_i v0 h0 hb
        split at e
        rename_i v' h' hq
        simp only [Option.some.injEq, Prod.mk.injEq] at e
        obtain ⟨rfl, rfl⟩ := e
        rw [lenF_eq] at hq
        exact .inl (bodyE_ok hc hg hb fun hl => ⟨_, _, cutE_ok hl hq, rfl, rfl⟩)
      · cases e
theorem callD_ok {P : Program} {C : Cfg} {known : CallF} (hk : CallOK P known) : ∀ d, CallOK P (callD P C known d)
  | 0 => fun f args h v oh e => by simp [callD] at e
  | d + 1 => fun f args h v oh e => by
    simp only [callD] at e
    split at e
    · rename_i r hr; cases e; exact hk f args h v oh hr
    · exact stepCall_ok (callD_ok hk d) f args h v oh e
/-! ### Functions without a body -/
def idxF (c : Nat) : List UInt8 → Nat → Int
  | [], _ => -1
  | x :: r, i => match Nat.beq x.toNat c with | true => Int.ofNat i | false => idxF c r (i + 1)
omit [Laid] in
theorem idxF_eq (c : Int) (hc : 0 ≤ c ∧ c < 256) (l : List UInt8) : idxF c.toNat l 0 = firstIdx ⟨l.toArray⟩ c.toNat.toUInt8 := by
  have key : ∀ (pre l : List UInt8), (∀ x ∈ pre, ¬ x = c.toNat.toUInt8) → idxF c.toNat l pre.length = firstIdx ⟨(pre ++ l).toArray⟩ c.toNat.toUInt8 := by
    intro pre l
    induction l generalizing pre with
    | nil =>
      intro hp
      rw [idxF]
      unfold firstIdx
      have : ((List.range (ByteArray.size ⟨(pre ++ []).toArray⟩)).find? fun i => (⟨(pre ++ []).toArray⟩ : ByteArray)[i]! == c.toNat.toUInt8) = none := by
        rw [List.find?_eq_none]
        intro i hi
        have hi : i < pre.length := by simpa [ByteArray.size] using hi
        have h1 : (⟨(pre ++ []).toArray⟩ : ByteArray)[i]! = pre[i] := by
          rw [getElem!_pos _ i (by simpa [ByteArray.size] using hi)]
          show ((pre ++ []).toArray)[i]'(by simpa using hi) = pre[i]
          simp
        rw [h1]
        simpa using hp _ (List.getElem_mem hi)
      rw [this]
    | cons x l ih =>
      intro hp
      rw [idxF]
      have hx : Nat.beq x.toNat c.toNat = decide (x = c.toNat.toUInt8) := by
        rw [Bool.eq_iff_iff, Nat.beq_eq, decide_eq_true_eq]
        constructor
        · intro h; rw [← h]; simp
        · intro h; rw [h]; simp; omega
      rw [hx]
      by_cases e : x = c.toNat.toUInt8
      · rw [decide_eq_true e]
        simp only
        unfold firstIdx
        have : ((List.range (ByteArray.size ⟨(pre ++ x :: l).toArray⟩)).find? fun i => (⟨(pre ++ x :: l).toArray⟩ : ByteArray)[i]! == c.toNat.toUInt8) = some pre.length := by
          rw [List.find?_range_eq_some]
          refine ⟨?_, by simp [ByteArray.size], fun j hj => ?_⟩
          · rw [getElem!_pos _ pre.length (by simp [ByteArray.size])]
            show (((pre ++ x :: l).toArray)[pre.length]'(by simp) == _) = true
            simp [e]
          · rw [getElem!_pos _ j (by simp [ByteArray.size]; omega)]
            show (!(((pre ++ x :: l).toArray)[j]'(by simp; omega) == _)) = true
            have : ((pre ++ x :: l).toArray)[j]'(by simp; omega) = pre[j] := by simp [hj]
            rw [this]
            simpa using hp _ (List.getElem_mem hj)
        rw [this]
        rfl
      · rw [decide_eq_false e]
        simp only
        have := ih (pre ++ [x]) (by intro y hy; rcases List.mem_append.1 hy with h | h; exact hp y h; simp at h; rw [h]; exact e)
        simp only [List.length_append, List.length_cons, List.length_nil, List.append_assoc, List.cons_append, List.nil_append] at this
        exact this
  exact key [] l (by simp)
def byteI (n : Int) : Bool := match n with | .ofNat m => Nat.ble m 255 | _ => false
theorem ext_indexByte {P : Program} {f : FuncId} {fn : Func} (hf : P.funcs[f]? = some fn) (hname : (fn.name == "runtime.NumGoroutine") = false) (hb : fn.body.isNone = true) (hn : Extern.findNext fn = none) (he : Extern.find fn = some Extern.BytealgIndexByte.indexByte)
    {l : List UInt8} {c : Int} (hc : byteI c = true) (h : Heap) : ExtSem P f [.str l, .v (.int .u8 c)] h fun r hh => r = int (idxF c.toNat l 0) ∧ hh = h := by
  refine ⟨by unfold hasBody; rw [hf]; simp at hb; simp [hb], fun base ι S w vs h1 h2 => ?_⟩
  have hc' : 0 ≤ c ∧ c < 256 := by
    unfold byteI at hc
    split at hc
    · rw [Nat.ble_eq] at hc; simp only [Int.ofNat_eq_natCast]; omega
    · cases hc
  match vs, h1 with
  | [v1, v2], h1 =>
    simp only [RepL_cons, Rep_str, Rep_v, RepL_nil, and_true] at h1
    obtain ⟨⟨rfl, _⟩, rfl⟩ := h1
    refine ⟨.int .i64 (firstIdx ⟨l.toArray⟩ c.toNat.toUInt8), _, w, ι, S, h, ?_, Evo.refl _ _ _ _ _, ?_, h2, Nat.le_refl _, rfl, rfl⟩
    · rw [run_callFunc_extern hf hname hb hn he, run_indexByte_string]; rfl
    · rw [idxF_eq c hc']; simp
  | [], h1 => simp at h1
  | [_], h1 => simp at h1
  | _ :: _ :: _ :: _, h1 => simp at h1
/-- **A run is a contract.** -/
theorem callD_con {P : Program} {C : Cfg} {known : CallF} (hk : CallOK P known) {d : Nat} {f : FuncId} {args : List AV} {r : AV} (pa : isPure args = true) (pr : isPure [r] = true) (hb : hasBody P f = true) (e : callD P C known d f args [] = some (r, none)) : Con P f args r := by
  have p : ∀ l : List AV, isPure l = true → PureL l := fun l hp => by
    unfold isPure at hp
    rw [allE_eq] at hp
    have : ∀ a ∈ l, Bd 0 a := fun a ha => by
      have := List.all_eq_true.1 hp a ha
      split at this
      · rename_i z; exact mxE_bd 0 a (by omega)
      · cases this
    have h2 : Pure (.agg l) := bd0_pure _ (by rw [Bd]; exact (bdL_iff 0 l).2 this)
    rw [Pure] at h2; exact h2
  have pr' := p [r] pr
  rw [PureL] at pr'
  rcases (callD_ok hk d) f args [] r none e with ⟨_, hA⟩ | hA
  · exact ⟨p args pa, pr'.1, hA.mono fun r' hh q => q.1⟩
  · rw [hA.1] at hb; cases hb
end Go.Aw
end
