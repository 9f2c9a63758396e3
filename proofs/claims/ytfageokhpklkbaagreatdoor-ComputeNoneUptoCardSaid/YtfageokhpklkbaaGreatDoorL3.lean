/-
  Operations at known values: what each comes to,in a form that the kernel computes;and that the words of '..Ops' hold of it. Operations that turn memory,at known values;each operation of the model as one of these. Maps of the call's own,at known values: made,looked into,written,walked over. Slices,more: cut with three bounds;the capacity of nothing;zeros behind nothing;nothing behind the call's own;copied. Each operation of the model as one that the kernel computes;and what it leaves.
  No conditions.
-/
import Derived.Test.YtfageokhpklkbaaGreatDoorOpen
import Derived.Test.YtfageokhpklkbaaGreatDoorL2
import Derived.Maps.RangeRun
import Derived.Laws.Externs
import Derived.WideLaws
set_option linter.unusedVariables false
set_option linter.unusedSimpArgs false
section
namespace Go.Aw
open Go Go.RowKit
variable [Laid]

/-! ### Lists -/
section
variable {α : Type}
noncomputable def DI (l : List α) : List α:=List.rec (motive:=fun _=>List α) [] (fun _ t _=>t) l
noncomputable def M0 (l : List α) : Option α:=List.rec (motive:=fun _=>Option α) none (fun x _ _=>some x) l
noncomputable def lL (n : Nat) (l : List α) : List α:=Nat.rec (motive:=fun _=>List α) l (fun _ ih=>DI ih) n
noncomputable def vp (l : List α) (k : List α → List α) : List α:=List.rec (motive:=fun _=>List α) (k []) (fun x t _=>k (x :: t)) l
noncomputable def gS (n : Nat) (l : List α) : List α:=Nat.rec (motive:=fun _=>List α → List α) (fun l=>lL (Nat.mod n 32) l) (fun _ ih l=>vp (lL 32 l) ih) (Nat.div n 32) l
noncomputable def fg (l : List α) (n : Nat) : Option α:=M0 (gS n l)
noncomputable def gz (l r : List α) : List α:=List.rec (motive:=fun _=>List α) r (fun x _ ih=>x :: ih) l
noncomputable def Hm {β : Type} (f : α → β) (l : List α) : List β:=List.rec (motive:=fun _=>List β) [] (fun x _ ih=>f x :: ih) l
noncomputable def ng (l : List (List α)) : List α:=List.rec (motive:=fun _=>List α) [] (fun x _ ih=>gz x ih) l
noncomputable def iG (n : Nat) : List α → List α:=Nat.rec (motive:=fun _=>List α → List α) (fun _=>[]) (fun _ ih l=>List.rec (motive:=fun _=>List α) [] (fun x t _=>x :: ih t) l) n
noncomputable def lC (l : List α) : Nat → α → List α:=List.rec (motive:=fun _=>Nat → α → List α) (fun _ _=>[]) (fun x t ih n y=>Nat.rec (motive:=fun _=>List α) (y :: t) (fun m _=>x :: ih m y) n) l
noncomputable def ie (n : Nat) : List α → Bool:=Nat.rec (motive:=fun _=>List α → Bool) (fun _=>true) (fun _ ih l=>List.rec (motive:=fun _=>Bool) false (fun _ t _=>ih t) l) n
noncomputable def tP (l : List α) : Nat → Nat:=List.rec (motive:=fun _=>Nat → Nat) (fun a=>a) (fun _ _ ih a=>Nat.rec (motive:=fun _=>Nat) (ih 1) (fun m _=>ih (Nat.succ (Nat.succ m))) a) l
noncomputable def dh (l : List α) : Nat:=tP l 0
noncomputable def js (p : α → Bool) (l : List α) : Bool:=List.rec (motive:=fun _=>Bool) true (fun x _ ih=>Bool.rec (motive:=fun _=>Bool) false ih (p x)) l
omit [Laid]
theorem HI (l : List α) : DI l = l.tail:=by cases l <;> rfl
theorem wa (n : Nat) (l : List α) : lL n l = l.drop n:=by
 induction n with
 | zero=>rfl
 | succ n ih=>show DI (lL n l) = _;rw [HI,ih,List.tail_drop]
theorem HA (l : List α) (k : List α → List α) : vp l k = k l:=by cases l <;> rfl
theorem eZ (n : Nat) (l : List α) : gS n l = l.drop n:=by
 have key : ∀ q (l : List α),(Nat.rec (motive:=fun _=>List α → List α) (fun l=>lL (Nat.mod n 32) l) (fun _ ih l=>vp (lL 32 l) ih) q : List α → List α) l = l.drop (32 * q + n % 32):=by
  intro q
  induction q with
  | zero=>intro l;show lL _ l = _;rw [wa,Nat.mul_zero,Nat.zero_add];rfl
  | succ q ih =>
    intro l
    show vp (lL 32 l) _ = _
    rw [HA,ih,wa,List.drop_drop]
    congr 1;omega
 have:=key (n / 32) l
 rw [Nat.div_add_mod] at this
 exact this
theorem dy (l : List α) (n : Nat) : fg l n = l[n]?:=by
 rw [fg,eZ,← List.head?_drop]
 cases l.drop n <;> rfl
theorem eI (l r : List α) : gz l r = l ++ r:=by
 induction l with
 | nil=>rfl
 | cons x l ih=>show x :: gz l r = _;rw [ih];rfl
theorem JL {β : Type} (f : α → β) (l : List α) : Hm f l = l.map f:=by
 induction l with
 | nil=>rfl
 | cons x l ih=>show f x :: Hm f l = _;rw [ih];rfl
theorem kU (l : List (List α)) : ng l = l.flatten:=by
 induction l with
 | nil=>rfl
 | cons x l ih=>show gz x (ng l) = _;rw [ih,eI];rfl
theorem iO (n : Nat) : ∀ l : List α,iG n l = l.take n:=by
 induction n with
 | zero=>intro l;rfl
 | succ n ih=>intro l;cases l with|nil=>rfl|cons x l=>show x :: iG n l = _;rw [ih];rfl
theorem ia (l : List α) : ∀ n y,lC l n y = l.set n y:=by
 induction l with
 | nil=>intro n y;rfl
 | cons x l ih=>intro n y;cases n with|zero=>rfl|succ n=>show x :: lC l n y = _;rw [ih];rfl
theorem e9 (n : Nat) : ∀ l : List α,ie n l = true ↔ n ≤ l.length:=by
 induction n with
 | zero=>intro l;show true = true ↔ _;simp
 | succ n ih=>intro l;cases l with|nil=>simp [ie]|cons x l=>rw [show ie (n + 1) (x :: l) = ie n l from rfl,ih];simp
theorem JF (l : List α) : ∀ a,tP l a = a + l.length:=by
 induction l with
 | nil=>intro a;rfl
 | cons x l ih =>
   intro a
   cases a with
   | zero=>rw [show tP (x :: l) 0 = tP l 1 from rfl,ih];simp;omega
   | succ m=>rw [show tP (x :: l) (m + 1) = tP l (m + 2) from rfl,ih];simp;omega
theorem b7 (l : List α) : dh l = l.length:=by rw [dh,JF];omega
theorem eH (p : α → Bool) (l : List α) : js p l = l.all p:=by
 induction l with
 | nil=>rfl
 | cons x l ih =>
   rw [List.all_cons,← ih]
   show Bool.casesOn (motive:=fun _=>Bool) (p x) false (js p l) = _
   cases p x <;> rfl
theorem uD {l : List α} {n : Nat} {x : α} (h : fg l n = some x) : n < l.length ∧ l[n]? = some x:=by
 rw [dy] at h;exact ⟨(List.getElem?_eq_some_iff.1 h).1,h⟩
end

/-! ### Numbers -/
def Cb (n : Int) : Bool:=match n with|.ofNat m=>Nat.ble m 9223372036854775807|.negSucc m=>Nat.ble m 9223372036854775807
def ltI : Int → Int → Bool
 | .ofNat a,.ofNat b=>Nat.ble (Nat.succ a) b
 | .negSucc _,.ofNat _=>true
 | .ofNat _,.negSucc _=>false
 | .negSucc a,.negSucc b=>Nat.ble (Nat.succ b) a
def eqI : Int → Int → Bool
 | .ofNat a,.ofNat b=>Nat.beq a b
 | .negSucc a,.negSucc b=>Nat.beq a b
 | _,_=>false
def kN : IntKind → Nat|.i8=>0|.i16=>1|.i32=>2|.i64=>3|.u8=>4|.u16=>5|.u32=>6|.u64=>7
def kEq (a b : IntKind) : Bool:=Nat.beq (kN a) (kN b)
def HK : IntKind → Nat|.i8=>127|.i16=>32767|.i32=>2147483647|.i64=>9223372036854775807|.u8=>255|.u16=>65535|.u32=>4294967295|.u64=>18446744073709551615
def sgn : IntKind → Bool|.i8|.i16|.i32|.i64=>true|_=>false
def B4 (k : IntKind) (n : Int) : Bool:=match n with|.ofNat m=>Nat.ble m (HK k)|.negSucc m=>match sgn k with|true=>Nat.ble m (HK k)|false=>false
def nL (k : IntKind) (n : Int) : Int:=match B4 k n with|true=>n|false=>k.wrap n
section
omit [Laid]
theorem jf (a b : Int) : ltI a b = decide (a < b):=by
 cases a <;> cases b <;> simp only [ltI]
 ·rw [Bool.eq_iff_iff];simp [Nat.ble_eq];omega
 ·simp;omega
 ·simp;omega
 ·rw [Bool.eq_iff_iff];simp [Nat.ble_eq];omega
theorem wj (a b : Int) : eqI a b = decide (a = b):=by
 cases a <;> cases b <;> simp only [eqI]
 ·rw [Bool.eq_iff_iff];simp only [Nat.beq_eq,decide_eq_true_eq,Int.ofNat_eq_natCast];omega
 ·simp
 ·simp
 ·rw [Bool.eq_iff_iff];simp [Nat.beq_eq]
theorem Hc {n : Int} (h : Cb n = true) : inI n:=by
 unfold inI
 cases n with
 | ofNat m=>simp only [Cb,Nat.ble_eq] at h;simp only [Int.ofNat_eq_natCast];omega
 | negSucc m=>simp only [Cb,Nat.ble_eq] at h;omega
theorem mE {a b : IntKind} (h : kEq a b = true) : a = b:=by
 revert h;cases a <;> cases b <;> first|(intro _;rfl)|(intro h;cases h)
theorem B5 {k : IntKind} {n : Int} (h : B4 k n = true) : k.wrap n = n:=by
 cases k <;> cases n <;> simp only [B4,HK,sgn,Nat.ble_eq,Bool.false_eq_true] at h <;> simp only [IntKind.wrap,IntKind.bits,IntKind.signed] <;> simp <;> omega
theorem nM (k : IntKind) (n : Int) : nL k n = k.wrap n:=by
 unfold nL
 split
 ·rename_i h;exact (B5 h).symm
 ·rfl
end

def eWr (k : IntKind) (n : Int) : Option AV :=
 match k with
 | .i64=>(match Cb n with|true=>some (.v (.int .i64 n))|false=>none)
 | k=>some (.v (.int k (nL k n)))
def wM : Int → Bool|.ofNat 0=>true|_=>false
def BJ (op : BinOp) (k : IntKind) (a b : Int) : Option AV :=
 match op with
 | .add=>eWr k (a + b)
 | .sub=>eWr k (a - b)
 | .mul=>eWr k (a * b)
 | .quo=>(match wM b with|false=>some (.v (.int k (nL k (a.tdiv b))))|true=>none)
 | .rem=>(match wM b with|false=>some (.v (.int k (a.tmod b)))|true=>none)
 | .and=>some (.v (.int k (eK .and k a b)))
 | .or=>some (.v (.int k (eK .or k a b)))
 | .xor=>some (.v (.int k (eK .xor k a b)))
 | .andNot=>some (.v (.int k (eK .andNot k a b)))
 | .eql=>some (bool (eqI a b))
 | .neq=>some (bool (!eqI a b))
 | .lss=>some (bool (ltI a b))
 | .leq=>some (bool (!ltI b a))
 | .gtr=>some (bool (ltI b a))
 | .geq=>some (bool (!ltI a b))
 | _=>none
noncomputable def eqL (a : List UInt8) : List UInt8 → Bool:=List.rec (motive:=fun _=>List UInt8 → Bool) (fun b=>List.rec (motive:=fun _=>Bool) true (fun _ _ _=>false) b) (fun x _ ih b=>List.casesOn (motive:=fun _=>Bool) b false (fun y t=>Bool.casesOn (motive:=fun _=>Bool) (Nat.beq x.toNat y.toNat) false (ih t))) a
section
omit [Laid]
theorem Mp (x y : UInt8) : Nat.beq x.toNat y.toNat = decide (x = y):=by
 rw [Bool.eq_iff_iff];simp [Nat.beq_eq,UInt8.toNat_inj]
theorem kS (a : List UInt8) : ∀ b,eqL a b = decide (a = b):=by
 induction a with
 | nil=>intro b;cases b <;> simp [eqL]
 | cons x a ih =>
   intro b
   cases b with
   | nil=>simp [eqL]
   | cons y b =>
     show Bool.casesOn (motive:=fun _=>Bool) (Nat.beq x.toNat y.toNat) false (eqL a b) = _
     rw [Mp,ih]
     by_cases h : x = y <;> simp [h]
end
noncomputable def BW (op : BinOp) (a b : List UInt8) : Option AV :=
 match op with
 | .add=>(match Nat.ble (dh a + dh b) maxLen with|true=>some (.str (gz a b))|false=>none)
 | .eql=>some (bool (eqL a b))
 | .neq=>some (bool (!eqL a b))
 | .lss=>some (bool (Op.bytesLess a b))
 | .leq=>some (bool (Op.bytesLess a b || eqL a b))
 | .gtr=>some (bool (!(Op.bytesLess a b || eqL a b)))
 | .geq=>some (bool (!Op.bytesLess a b))
 | _=>none
def oy (op : BinOp) (k : IntKind) (a b : Int) : Option AV :=
 match ltI b 0 with
 | true=>none
 | false=>match op with
   | .shl=>some (.v (.int k (nL k (a * 2 ^ (min b.toNat k.bits)))))
   | .shr=>some (.v (.int k (a.fdiv (2 ^ (min b.toNat k.bits)))))
   | _=>none
noncomputable def wc (op : BinOp) (x y : AV) : Option AV :=
 match x with
 | .v (.int k a)=>(match y with
   | .v (.int k' b)=>(match fy op with
     | true=>oy op k a b
     | false=>(match kEq k k' with|true=>BJ op k a b|false=>none))
   | _=>none)
 | .str a=>(match y with|.str b=>BW op a b|_=>none)
 | _=>none
def uY (op : BinOp) (x y : AV) : Option AV :=
 match x,y with
 | .v (.bool a),.v (.bool b)=>(match op with|.eql=>some (bool (a == b))|.neq=>some (bool (!(a == b)))|_=>none)
 | _,_=>none
section
omit [Laid]
variable {K : AV → Prop} {v : AV}
theorem rJ {k : IntKind} {n : Int} (h : eWr k n = some v) (hk : K v) : iWr k n K:=by
 unfold eWr at h
 unfold iWr
 split at h
 ·split at h
  ·rename_i e;cases h;exact ⟨Hc e,hk⟩
  ·cases h
 ·rename_i hn
  cases h
  split
  ·exact absurd rfl hn
  ·rw [nM] at hk;exact hk
theorem za {b : Int} (h : wM b = false) : b ≠ 0:=by rintro rfl;cases h
theorem I7 {op : BinOp} {k : IntKind} {a b : Int} (h : BJ op k a b = some v) (hk : K v) : mc op k a b K:=by
 cases op <;> simp only [BJ] at h <;> simp only [mc]
 case add=>exact rJ h hk
 case sub=>exact rJ h hk
 case mul=>exact rJ h hk
 case quo=>split at h <;> cases h;rename_i e;rw [nM] at hk;exact ⟨za e,hk⟩
 case rem=>split at h <;> cases h;rename_i e;exact ⟨za e,hk⟩
 case leq=>cases h;rw [jf] at hk;rw [show decide (a ≤ b) = !decide (b < a) by rw [Bool.eq_iff_iff];simp];exact hk
 case geq=>cases h;rw [jf] at hk;rw [show decide (b ≤ a) = !decide (a < b) by rw [Bool.eq_iff_iff];simp];exact hk
 all_goals first|(cases h;done)|(cases h;simpa [wj,jf] using hk)
theorem Jl {op : BinOp} {a b : List UInt8} (h : BW op a b = some v) (hk : K v) : nk op a b K:=by
 cases op <;> simp only [BW] at h <;> simp only [nk]
 case add=>split at h <;> cases h;rename_i e;rw [Nat.ble_eq,b7,b7] at e;rw [eI] at hk;exact ⟨e,hk⟩
 all_goals first|(cases h;done)|(cases h;simpa [kS] using hk)
theorem El {op : BinOp} {k : IntKind} {a b : Int} (h : oy op k a b = some v) (hk : K v) : kX op k a b K:=by
 unfold oy at h
 unfold kX
 split at h
 ·cases h
 ·rename_i e
  rw [jf] at e
  refine ⟨by simpa using e, ?_⟩
  cases op <;> simp only at h ⊢
  case shl=>cases h;rw [nM] at hk;exact hk
  case shr=>cases h;exact hk
  all_goals cases h
theorem tm {op : BinOp} {x y : AV} (h : wc op x y = some v) (hk : K v) : af op x y K:=by
 unfold wc at h
 unfold af
 split at h
 ·split at h
  ·split at h
   ·rename_i e;simp only [e,if_true];exact El h hk
   ·rename_i e
    split at h
    ·rename_i e2;simp only [e,Bool.false_eq_true,if_false];exact ⟨mE e2,I7 h hk⟩
    ·cases h
  ·cases h
 ·split at h
  ·exact Jl h hk
  ·cases h
 ·cases h
theorem Gx {op : BinOp} {x y : AV} (h : uY op x y = some v) (hk : K v) : lS op x y K:=by
 unfold uY at h
 unfold lS
 split at h
 ·cases op <;> simp only at h ⊢ <;> first|(cases h;done)|(cases h;exact hk)
 ·cases h
end

/-! ### Parts of values -/
def BE (neg : Bool) (ks : List Nat) (x y : AV) : Option AV :=
 match x,y with
 | .agg xs,.agg ys=>(match eqK ks xs ys with|some b=>some (bool (match neg with|true=>!b|false=>b))|none=>none)
 | _,_=>none
def vf (c a b : AV) : Option AV:=match c with|.v (.bool true)=>some a|.v (.bool false)=>some b|_=>none
def BQ (x : AV) : Option AV:=match x with|.v (.bool b)=>some (bool (!b))|_=>none
def BP (x : AV) : Option AV:=match x with|.v (.int k n)=>eWr k (0 - n)|_=>none
def uZ (k : IntKind) (x : AV) : Option AV:=match x with|.v (.int _ n)=>some (.v (.int k (nL k n)))|_=>none
def vg (x : AV) : Option AV:=match x with|.str l=>some (.str l)|_=>none
noncomputable def u5 (i : Nat) (x : AV) : Option AV:=match x with|.tup cs=>fg cs i|_=>none
noncomputable def ldE (g : Bool) (sz : Nat) (cs : List AV) : Option AV :=
 match g with
 | true=>(match ie sz cs with|true=>some (.agg (iG sz cs))|false=>none)
 | false=>(match cs with|c :: _=>some c|[]=>none)
noncomputable def BG (g : Bool) (off n : Nat) (x : AV) : Option AV:=match x with|.agg cs=>ldE g n (gS off cs)|_=>none
noncomputable def va (x i : AV) : Option AV :=
 match x,i with
 | .str l,.v (.int _ (.ofNat n))=>(match fg l n with|some b=>some (.v (.int .u8 (Int.ofNat b.toNat)))|none=>none)
 | _,_=>none
noncomputable def u6 (g : Bool) (sz len : Nat) (x i : AV) : Option AV :=
 match x,i with
 | .agg cs,.v (.int _ (.ofNat n))=>(match Nat.ble (Nat.succ n) len with|true=>ldE g sz (gS (n * sz) cs)|false=>none)
 | _,_=>none
def eLo : Option AV → Option Nat
 | none=>some 0
 | some (.v (.int _ (.ofNat n)))=>some n
 | _=>none
noncomputable def BV (x : AV) (lo hi : Option AV) : Option AV :=
 match x with
 | .str l=>(match eLo lo with
   | some a=>(match hi with
     | none=>(match ie a l with|true=>some (.str (gS a l))|false=>none)
     | some (.v (.int _ (.ofNat b)))=>(match Nat.ble a b,ie b l with|true,true=>some (.str (gS a (iG b l)))|_,_=>none)
     | _=>none)
   | none=>none)
 | _=>none
noncomputable def eSl (n : Nat) (x : AV) (lo hi : Option AV) : Option AV :=
 match eLo lo with
 | none=>none
 | some a=>match eA x with
   | .sl sz rows=>(match Nat.beq sz n with
     | false=>none
     | true=>(match hi with
       | none=>(match ie a rows with|true=>some (.sl sz (gS a rows))|false=>none)
       | some (.v (.int _ (.ofNat b)))=>(match Nat.ble a b,ie b rows with|true,true=>some (.sl sz (gS a (iG b rows)))|_,_=>none)
       | _=>none))
   | .own id off len sz=>(match Nat.beq sz n with
     | false=>none
     | true=>(match hi with
       | none=>(match Nat.ble a len with|true=>some (.own id (off + a * sz) (len - a) sz)|false=>none)
       | some (.v (.int _ (.ofNat b)))=>(match Nat.ble a b,Nat.ble b len with|true,true=>some (.own id (off + a * sz) (b - a) sz)|_,_=>none)
       | _=>none))
   | .emp=>(match a,hi with
     | 0,none=>some .emp
     | 0,some (.v (.int _ (.ofNat 0)))=>some .emp
     | _,_=>none)
   | _=>none
noncomputable def BU (n sz : Nat) (x : AV) (lo hi : Option AV) (h : aa) : Option AV :=
 match eLo lo,(match hi with|none=>some n|some (.v (.int _ (.ofNat b)))=>some b|_=>none),x with
 | some a,some b,.op id off=>(match fg h id with
   | some (.blk blk)=>(match ie (off + n * sz) blk.cells,Nat.ble a b,Nat.ble b n,Nat.ble n maxLen with
     | true,true,true,true=>some (.own id (off + a * sz) (b - a) sz)
     | _,_,_,_=>none)
   | _=>none)
 | some 0,some b,.ip cs=>(match ie (n * sz) cs,Nat.ble 1 n,Nat.beq b n,Nat.ble n maxLen with
   | true,true,true,true=>some (.sl sz (chunks sz n cs))
   | _,_,_,_=>none)
 | _,_,_=>none
noncomputable def u7 (m : Nat) (x i : AV) : Option AV :=
 match eA x,i with
 | .sl sz rows,.v (.int _ (.ofNat n))=>(match Nat.beq sz m with|true=>(match fg rows n with|some r=>some (.ip r)|none=>none)|false=>none)
 | .own id off len sz,.v (.int _ (.ofNat n))=>(match Nat.beq sz m,Nat.ble (Nat.succ n) len with|true,true=>some (.op id (off + n * sz))|_,_=>none)
 | _,_=>none
noncomputable def u9 (len sz : Nat) (x i : AV) : Option AV :=
 match x,i with
 | .op id off,.v (.int _ (.ofNat n))=>(match Nat.ble (Nat.succ n) len with|true=>some (.op id (off + n * sz))|false=>none)
 | .ip cs,.v (.int _ (.ofNat n))=>(match Nat.ble (Nat.succ n) len with|true=>some (.ip (gS (n * sz) cs))|false=>none)
 | _,_=>none
noncomputable def BF (off : Nat) (x : AV) : Option AV:=match x with|.ip cs=>some (.ip (gS off cs))|.op id o=>some (.op id (o + off))|_=>none
def BB (has : TypeId → Bool) (x : AV) : Option AV:=match x with|.ifc t v=>(match has t with|true=>some (.tup [.ifc t v,bool true])|false=>none)|_=>none
def GL (x : AV) : Option AV:=match x with|.ip cs=>some (.ip cs)|.op a b=>some (.op a b)|.fn (.func f) a b=>some (.fn (.func f) a b)|_=>none
def ve (row : String → TypeId → Bool) (x : AV) : Option AV:=match x with|.fn (.method name) (.ifc t v :: r) ys=>(match row name t with|true=>some (.fn (.method name) (.ifc t v :: r) ys)|false=>none)|x=>GL x
noncomputable def rG (g : Bool) (sz : Nat) (x : AV) (h : aa) : Option AV :=
 match x with
 | .ip cs=>ldE g sz cs
 | .op id o=>(match fg h id with|some (.blk b)=>ldE g sz (gS o b.cells)|_=>none)
 | _=>none
section
omit [Laid]
variable {K : AV → Prop} {v : AV}
theorem yT {neg : Bool} {ks : List Nat} {x y : AV} (h : BE neg ks x y = some v) (hk : K v) : iJ neg ks x y K:=by
 unfold BE at h;unfold iJ
 split at h
 ·split at h
  ·rename_i b e;cases h;simp only [e];cases neg <;> exact hk
  ·cases h
 ·cases h
theorem GN {c a b : AV} (h : vf c a b = some v) (hk : K v) : a8 c a b K:=by
 unfold vf at h
 split at h
 ·cases h;exact ⟨true,rfl,fun _=>hk,fun q=>by cases q⟩
 ·cases h;exact ⟨false,rfl,(fun q=>by cases q),fun _=>hk⟩
 ·cases h
theorem Je {x : AV} (h : BQ x = some v) (hk : K v) : dT x K:=by
 unfold BQ at h
 split at h
 ·cases h;exact ⟨_,rfl,hk⟩
 ·cases h
theorem Jc {x : AV} (h : BP x = some v) (hk : K v) : oK x K:=by
 unfold BP at h
 split at h
 ·exact ⟨_,_,rfl,rJ h hk⟩
 ·cases h
theorem GA {k : IntKind} {x : AV} (h : uZ k x = some v) (hk : K v) : lU k x K:=by
 unfold uZ at h
 split at h
 ·cases h;rw [nM] at hk;exact ⟨_,_,rfl,hk⟩
 ·cases h
theorem GP {x : AV} (h : vg x = some v) (hk : K v) : pt x K:=by
 unfold vg at h
 split at h
 ·cases h;exact hk
 ·cases h
theorem GC {i : Nat} {x : AV} (h : u5 i x = some v) (hk : K v) : bh i x K:=by
 unfold u5 at h;unfold bh
 split at h
 ·rw [dy] at h;simp only [h];exact hk
 ·cases h
theorem sy {g : Bool} {sz : Nat} {cs : List AV} (h : ldE g sz cs = some v) (hk : K v) : ldP g sz cs K:=by
 unfold ldE at h;unfold ldP
 cases g with
 | true =>
   simp only at h ⊢
   split at h
   ·rename_i e;cases h;rw [iO] at hk;exact ⟨(e9 _ _).1 e,hk⟩
   ·cases h
 | false =>
   simp only at h ⊢
   split at h
   ·cases h;exact hk
   ·cases h
theorem I5 {g : Bool} {off n : Nat} {x : AV} (h : BG g off n x = some v) (hk : K v) : oJ g off n x K:=by
 unfold BG at h;unfold oJ
 split at h
 ·rw [eZ] at h;exact sy h hk
 ·cases h
theorem GH {x i : AV} (h : va x i = some v) (hk : K v) : iA x i K:=by
 unfold va at h;unfold iA
 split at h
 ·split at h
  ·rename_i b e
   cases h
   obtain ⟨e1,e2⟩:=uD e
   refine ⟨⟨Int.natCast_nonneg _,by simp only [Int.ofNat_eq_natCast];omega⟩, ?_⟩
   simp only [Int.ofNat_eq_natCast,Int.toNat_natCast,List.getD_eq_getElem?_getD,e2,Option.getD_some]
   exact hk
  ·cases h
 ·cases h
theorem GD {g : Bool} {sz len : Nat} {x i : AV} (h : u6 g sz len x i = some v) (hk : K v) : lV g sz len x i K:=by
 unfold u6 at h;unfold lV
 split at h
 ·split at h
  ·rename_i e
   rw [Nat.ble_eq] at e
   rw [eZ] at h
   exact ⟨⟨Int.natCast_nonneg _,by simp only [Int.ofNat_eq_natCast];omega⟩,sy h hk⟩
  ·cases h
 ·cases h
theorem kQ {lo : Option AV} {a : Nat} (h : eLo lo = some a) : cM lo 0 = some (a : Int):=by
 unfold eLo at h
 split at h
 ·cases h;rfl
 ·cases h;rfl
 ·cases h
theorem Jk {x : AV} {lo hi : Option AV} (h : BV x lo hi = some v) (hk : K v) : kY x lo hi K:=by
 unfold BV at h;unfold kY
 split at h
 ·rename_i l
  split at h
  ·rename_i a ea
   simp only [kQ ea]
   split at h
   ·split at h
    ·rename_i e
     cases h
     have:=(e9 _ _).1 e
     rw [eZ] at hk
     simp only [cM]
     exact ⟨⟨by omega,by omega,by omega⟩,by simpa using hk⟩
    ·cases h
   ·rename_i b
    split at h
    ·rename_i e1 e2
     cases h
     have:=(e9 _ _).1 e2
     rw [Nat.ble_eq] at e1
     rw [eZ,iO] at hk
     simp only [cM,Int.ofNat_eq_natCast]
     exact ⟨⟨by omega,by omega,by omega⟩,by simpa using hk⟩
    ·cases h
   ·cases h
  ·cases h
 ·cases h
theorem K9 {n : Nat} {x : AV} {lo hi : Option AV} (h : eSl n x lo hi = some v) (hk : K v) : iSl n x lo hi K:=by
 unfold eSl at h;unfold iSl
 split at h
 ·cases h
 ·rename_i a ea
  simp only [kQ ea]
  generalize eA x = y at h ⊢
  split at h
  ·split at h
   ·cases h
   ·rename_i e0
    have e0:=Nat.eq_of_beq_eq_true e0
    split at h
    ·split at h
     ·rename_i e
      cases h
      have:=(e9 _ _).1 e
      rw [eZ] at hk
      simp only [cM]
      exact ⟨e0,⟨by omega,by omega,by omega⟩,by simpa using hk⟩
     ·cases h
    ·split at h
     ·rename_i e1 e2
      cases h
      have:=(e9 _ _).1 e2
      rw [Nat.ble_eq] at e1
      rw [eZ,iO] at hk
      simp only [cM,Int.ofNat_eq_natCast]
      exact ⟨e0,⟨by omega,by omega,by omega⟩,by simpa using hk⟩
     ·cases h
    ·cases h
  ·split at h
   ·cases h
   ·rename_i e0
    have e0:=Nat.eq_of_beq_eq_true e0
    split at h
    ·split at h
     ·rename_i e
      cases h
      rw [Nat.ble_eq] at e
      simp only [cM]
      refine ⟨e0,⟨by omega,by omega,by omega⟩, ?_⟩
      rename_i id off len sz _ _ _ _
      rw [Int.toNat_natCast,show ((len : Int) - a).toNat = len - a by omega];exact hk
     ·cases h
    ·rename_i b
     split at h
     ·rename_i e1 e2
      cases h
      rw [Nat.ble_eq] at e1 e2
      simp only [cM,Int.ofNat_eq_natCast]
      refine ⟨e0,⟨by omega,by omega,by omega⟩, ?_⟩
      rw [Int.toNat_natCast,show ((b : Int) - a).toNat = b - a by omega];exact hk
     ·cases h
    ·cases h
  ·split at h
   ·cases h;exact ⟨⟨rfl,rfl⟩,hk⟩
   ·cases h;exact ⟨⟨rfl,rfl⟩,hk⟩
   ·cases h
  ·cases h
theorem Jj {n sz : Nat} {x : AV} {lo hi : Option AV} {hp : aa} (h : BU n sz x lo hi hp = some v) (hk : K v) : oO n sz x lo hi hp K:=by
 unfold BU at h;unfold oO
 split at h
 ·rename_i a b id off ea eb
  have hb : cM hi n = some (b : Int):=by
   split at eb
   ·cases eb;rfl
   ·cases eb;rfl
   ·cases eb
  simp only [kQ ea,hb]
  split at h
  ·rename_i blk e
   rw [dy] at e
   simp only [e]
   split at h
   ·rename_i e1 e2 e3 e4
    cases h
    rw [Nat.ble_eq] at e2 e3 e4
    refine ⟨⟨(e9 _ _).1 e1,by omega,by omega,by omega,e4⟩, ?_⟩
    rw [Int.toNat_natCast,show ((b : Int) - a).toNat = b - a by omega];exact hk
   ·cases h
  ·cases h
 ·rename_i b cs ea eb
  have hb : cM hi n = some (b : Int):=by
   split at eb
   ·cases eb;rfl
   ·cases eb;rfl
   ·cases eb
  simp only [kQ ea,hb]
  split at h
  ·rename_i e1 e2 e3 e4
   cases h
   rw [Nat.ble_eq] at e2 e4
   have e3:=Nat.eq_of_beq_eq_true e3
   exact ⟨⟨(e9 _ _).1 e1,by omega,e4,by omega,by omega⟩,hk⟩
  ·cases h
 ·cases h
theorem GF {m : Nat} {x i : AV} (h : u7 m x i = some v) (hk : K v) : aO m x i K:=by
 unfold u7 at h;unfold aO
 split at h
 ·rename_i e1
  simp only [e1]
  split at h
  ·rename_i e0
   split at h
   ·rename_i r e
    cases h
    obtain ⟨h1,h2⟩:=uD e
    refine ⟨Nat.eq_of_beq_eq_true e0,⟨Int.natCast_nonneg _,by simp only [Int.ofNat_eq_natCast];omega⟩, ?_⟩
    simp only [Int.ofNat_eq_natCast,Int.toNat_natCast,List.getD_eq_getElem?_getD,h2,Option.getD_some];exact hk
   ·cases h
  ·cases h
 ·rename_i e1
  simp only [e1]
  split at h
  ·rename_i e2 e3
   cases h
   rw [Nat.ble_eq] at e3
   exact ⟨Nat.eq_of_beq_eq_true e2,⟨Int.natCast_nonneg _,by simp only [Int.ofNat_eq_natCast];omega⟩,hk⟩
  ·cases h
 ·cases h
theorem GG {len sz : Nat} {x i : AV} (h : u9 len sz x i = some v) (hk : K v) : eP len sz x i K:=by
 unfold u9 at h;unfold eP
 split at h
 ·split at h
  ·rename_i e;cases h;rw [Nat.ble_eq] at e;exact ⟨⟨Int.natCast_nonneg _,by simp only [Int.ofNat_eq_natCast];omega⟩,hk⟩
  ·cases h
 ·split at h
  ·rename_i e;cases h;rw [Nat.ble_eq] at e;rw [eZ] at hk;exact ⟨⟨Int.natCast_nonneg _,by simp only [Int.ofNat_eq_natCast];omega⟩,hk⟩
  ·cases h
 ·cases h
theorem I4 {off : Nat} {x : AV} (h : BF off x = some v) (hk : K v) : ah off x K:=by
 unfold BF at h;unfold ah
 split at h
 ·cases h;rw [eZ] at hk;exact hk
 ·cases h;exact hk
 ·cases h
theorem I2 {has : TypeId → Bool} {x : AV} (h : BB has x = some v) (hk : K v) : oH has x K:=by
 unfold BB at h
 unfold oH
 split at h
 ·split at h
  ·rename_i hh;cases h;exact ⟨hh,hk⟩
  ·cases h
 ·cases h
theorem Jd {x : AV} (h : GL x = some v) (hk : K v) : me x K:=by
 unfold GL at h;unfold me
 split at h <;> first|(cases h;exact hk)|cases h
theorem GM {P : Program} {x : AV} (h : ve (fun n t=>(ml P n t).isSome) x = some v) (hk : K v) : dt P x K:=by
 unfold ve at h
 unfold dt
 split at h
 ·split at h
  ·rename_i hm;cases h;exact ⟨hm,hk⟩
  ·cases h
 ·rename_i hne
  split
  ·exact absurd rfl (hne _ _ _ _ _)
  ·exact Jd h hk
theorem we {g : Bool} {sz : Nat} {x : AV} {hp : aa} (h : rG g sz x hp = some v) (hk : K v) : ab g sz x hp K:=by
 unfold rG at h;unfold ab
 split at h
 ·exact sy h hk
 ·rw [dy] at h
  split at h
  ·rename_i e;simp only [e];rw [eZ] at h;exact sy h hk
  ·cases h
 ·cases h
end
end Go.Aw
end

section
namespace Go.Aw
open Go Go.RowKit
variable [Laid]

noncomputable def Nf (cs : List AV) : List AV → List AV:=List.rec (motive:=fun _=>List AV → List AV) (fun l=>l) (fun c _ ih l=>List.casesOn (motive:=fun _=>List AV) l [] (fun _ t=>c :: ih t)) cs
noncomputable def mr (o : Nat) (cs : List AV) : List AV → List AV:=Nat.rec (motive:=fun _=>List AV → List AV) (fun l=>Nf cs l) (fun _ ih l=>List.casesOn (motive:=fun _=>List AV) l [] (fun x t=>x :: ih t)) o
omit [Laid] in
theorem pM : ∀ (cs : List AV) (o : Nat) (l : List AV),mr o cs l = cx l o cs:=by
 have nil : ∀ o (l : List AV),mr o [] l = l:=by
  intro o
  induction o with
  | zero=>intro l;rfl
  | succ o ih=>intro l;cases l with|nil=>rfl|cons x l=>show x :: mr o [] l = _;rw [ih]
 have step : ∀ (c : AV) (cs : List AV) (o : Nat) (l : List AV),mr o (c :: cs) l = mr (o + 1) cs (l.set o c):=by
  intro c cs o
  induction o with
  | zero=>intro l;cases l <;> rfl
  | succ o ih=>intro l;cases l with|nil=>rfl|cons x l=>show x :: mr o (c :: cs) l = _;rw [ih];rfl
 intro cs
 induction cs with
 | nil=>intro o l;rw [nil];rfl
 | cons c cs ih=>intro o l;rw [step,ih];rfl
noncomputable def rI (sz : Nat) (x v : AV) (h : aa) : Option aa :=
 match x with
 | .op id o=>(match fg h id with
   | some (.blk b)=>(match b.wr,ie (o + sz) b.cells,Nat.beq (dh (bc v)) sz,js cv (bc v) with
     | true,true,true,true=>some (lC h id (.blk { b with cells:=mr o (bc v) b.cells }))
     | _,_,_,_=>none)
   | _=>none)
 | _=>none
noncomputable def eNew (t : TypeId) (v : AV) (h : aa) : Option (AV × aa) :=
 match js cv (bc v) with
 | true=>some (.op (dh h) 0,gz h [.blk ⟨t,bc v,true⟩])
 | false=>none
noncomputable def mB : List AV → List (Nat × Nat × AV) → Option (List AV)
 | cells,[]=>some cells
 | cells,(o,n,x) :: r=>(match Nat.beq (dh (bc x)) n,ie (o + n) cells,js cv (bc x) with
   | true,true,true=>mB (mr o (bc x) cells) r
   | _,_,_=>none)
noncomputable def rE (zero : AV) (ps : List (Nat × Nat × AV)) : Option AV:=match mB (bc zero) ps with|some cs=>some (.agg cs)|none=>none
noncomputable def vd (t len sz : Nat) (zero : AV) (ps : List (Nat × Nat × AV)) (h : aa) : Option (AV × aa) :=
 match mB (fp len (bc zero)) ps with
 | some cs=>(match len with
   | 0=>some (.emp,h)
   | len + 1=>some (.own (dh h) 0 (len + 1) sz,gz h [.blk ⟨t,cs,true⟩]))
 | none=>none
noncomputable def rH (len sz : Nat) (zero : AV) (ps : List (Nat × Nat × AV)) : Option AV :=
 match mB (fp len (bc zero)) ps with
 | some cs=>some (.sl sz (chunks sz len cs))
 | none=>none
noncomputable def vc (e sz bytes : Nat) (zero len cap : AV) (h : aa) : Option (AV × aa) :=
 match len,cap with
 | .v (.int _ (.ofNat l)),.v (.int _ (.ofNat c))=>(match Nat.ble l c,Nat.ble (bytes * c) 281474976710656,Nat.ble c 9223372036854775807 with
   | true,true,true=>some (.own (dh h) 0 l sz,gz h [.blk ⟨e,fp c (bc zero),true⟩])
   | _,_,_=>none)
 | _,_=>none
noncomputable def m8 (e : Nat) (x : AV) (h : aa) : Option (AV × aa) :=
 match x with
 | .str l=>some (.own (dh h) 0 (dh l) 1,gz h [.blk ⟨e,Hm fe l,true⟩])
 | _=>none
noncomputable def lF (h : aa) (sz : Nat) (x : AV) : Option (List (List AV)) :=
 match eA x with
 | .emp=>some []
 | .sl sz' rows=>(match Nat.beq sz' sz with|true=>some rows|false=>none)
 | .own id off len sz' => (match fg h id with
   | some (.blk b)=>(match Nat.beq sz' sz,ie (off + len * sz) b.cells with|true,true=>some (chunks sz len (gS off b.cells))|_,_=>none)
   | _=>none)
 | _=>none
noncomputable def m7 (x : AV) (h : aa) : Option AV :=
 match lF h 1 x with
 | some p=>(match unB (ng p) with|some l=>some (.str l)|none=>none)
 | none=>none
noncomputable def vb (x : AV) : Option AV:=match x with|.str l=>some (int (Int.ofNat (dh l)))|_=>none
noncomputable def BK (x : AV) : Option AV :=
 match eA x with
 | .sl _ rows=>some (int (Int.ofNat (dh rows)))
 | .own _ _ len _=>some (int (Int.ofNat len))
 | .emp=>some (int (Int.ofNat 0))
 | _=>none
def BO (x y : AV) : Option AV :=
 match x,y with
 | .v (.int k a),.v (.int k' b)=>(match kEq k k' with|true=>some (.v (.int k (match ltI b a with|true=>b|false=>a)))|false=>none)
 | _,_=>none
def ox (x y : AV) : Option AV :=
 match x,y with
 | .v (.int k a),.v (.int k' b)=>(match kEq k k' with|true=>some (.v (.int k (match ltI a b with|true=>b|false=>a)))|false=>none)
 | _,_=>none
noncomputable def xu (sz : Nat) (r : List AV) : Bool:=match Nat.beq (dh r) sz,js cv r with|true,true=>true|_,_=>false
def nB (bytes n : Nat) : Bool:=match Nat.ble n maxLen,Nat.ble (n * bytes) 140737488355328 with|true,true=>true|_,_=>false
noncomputable def DJ (n : Nat) (l : List AV) : List AV:=match Nat.beq (dh l) n with|true=>l|false=>iG n l
omit [Laid] in
theorem HJ (n : Nat) (l : List AV) : DJ n l = l.take n:=by
 unfold DJ
 split
 ·rename_i h
  have h:=Nat.eq_of_beq_eq_true h
  rw [b7] at h
  rw [← h,List.take_length]
 ·exact iO n l
noncomputable def il (own : Bool) (e sz bytes : Nat) (x : AV) (src : Option (List (List AV))) (h : aa) : Option (AV × aa) :=
 match src with
 | none=>none
 | some rows=>(match js (xu sz) rows with
   | false=>none
   | true=>(match nle x with
     | .emp=>(match nB bytes (dh rows) with
       | false=>none
       | true=>(match own with
         | false=>some (.sb (dh h) sz rows,gz h [.tok e sz (dh rows)])
         | true=>(match rows with
           | []=>none
           | r :: rs=>some (.own (dh h) 0 (dh (r :: rs)) sz,gz h [.blk ⟨e,ng (r :: rs),true⟩]))))
     | .sb id sz' base=>(match fg h id with
       | some (.tok e' sz'' k)=>(match Nat.beq sz' sz,Nat.beq sz'' sz,Nat.beq e' e,Nat.beq k (dh base),nB bytes (k + dh rows) with
         | true,true,true,true,true=>some (.sb id sz (gz base rows),lC h id (.tok e sz (k + dh rows)))
         | _,_,_,_,_=>none)
       | _=>none)
     | .own id off len sz' => (match fg h id with
       | some (.blk b)=>(match Nat.beq off 0,Nat.beq sz' sz,b.wr,Nat.beq b.ty e,Nat.ble (len * sz) (dh b.cells),Nat.ble 1 (len + dh rows),nB bytes (len + dh rows) with
         | true,true,true,true,true,true,true=>some (.own (dh h) 0 (len + dh rows) sz,gz (lC h id .dead) [.blk ⟨e,gz (DJ (len * sz) b.cells) (ng rows),true⟩])
         | _,_,_,_,_,_,_=>none)
       | _=>none)
     | _=>none))

section
omit [Laid]
variable {K : AV → Prop} {KH : AV → aa → Prop} {v : AV} {hp hp' : aa}
theorem En {sz : Nat} {x y : AV} {KS : aa → Prop} (h : rI sz x y hp = some hp') (hk : KS hp') : aN sz x y hp KS:=by
 unfold rI at h;unfold aN
 split at h
 ·rw [dy] at h
  split at h
  ·rename_i b e
   simp only [e]
   split at h
   ·rename_i e1 e2 e3 e4
    cases h
    have e3:=Nat.eq_of_beq_eq_true e3
    rw [b7] at e3
    rw [eH] at e4
    rw [ia,pM] at hk
    exact ⟨⟨e1,by rw [e3];exact (e9 _ _).1 e2,e3,e4⟩,hk⟩
   ·cases h
  ·cases h
 ·cases h
theorem yW {t : TypeId} {x : AV} (h : eNew t x hp = some (v,hp')) (hk : KH v hp') : bz t x hp KH:=by
 unfold eNew at h;unfold bz
 split at h
 ·rename_i e;cases h;rw [eH] at e;rw [b7,eI] at hk;exact ⟨e,hk⟩
 ·cases h
theorem lJ : ∀ (ps : List (Nat × Nat × AV)) (cells cs : List AV),mB cells ps = some cs → dQ cells ps = some cs
 | [],_,_,h=>h
 | (o,n,x) :: r,cells,cs,h=>by
  rw [mB] at h
  rw [dQ]
  split at h
  ·rename_i e1 e2 e3
   have e1:=Nat.eq_of_beq_eq_true e1
   rw [b7] at e1
   rw [eH] at e3
   rw [pM] at h
   rw [if_pos ⟨e1,(e9 _ _).1 e2,e3⟩]
   exact lJ r _ _ h
  ·cases h
theorem uz {z : AV} {ps : List (Nat × Nat × AV)} (h : rE z ps = some v) (hk : K v) : bl z ps K:=by
 unfold rE at h;unfold bl
 split at h
 ·rename_i e;cases h;simp only [lJ _ _ _ e];exact hk
 ·cases h
theorem GK {t len sz : Nat} {z : AV} {ps : List (Nat × Nat × AV)} (h : vd t len sz z ps hp = some (v,hp')) (hk : KH v hp') : fG t len sz z ps hp KH:=by
 unfold vd at h;unfold fG
 split at h
 ·rename_i e
  simp only [lJ _ _ _ e]
  cases len with
  | zero=>cases h;exact hk
  | succ len=>simp only [Option.some.injEq,Prod.mk.injEq] at h;obtain ⟨rfl,rfl⟩:=h;rw [b7,eI] at hk;exact hk
 ·cases h
theorem Ej {len sz : Nat} {z : AV} {ps : List (Nat × Nat × AV)} (h : rH len sz z ps = some v) (hk : K v) : bP len sz z ps K:=by
 unfold rH at h;unfold bP
 split at h
 ·rename_i e;cases h;simp only [lJ _ _ _ e];exact hk
 ·cases h
theorem GJ {e sz bytes : Nat} {z l c : AV} (h : vc e sz bytes z l c hp = some (v,hp')) (hk : KH v hp') : pq e sz bytes z l c hp KH:=by
 unfold vc at h;unfold pq
 split at h
 ·rename_i k1 l k2 c
  split at h
  ·rename_i e1 e2 e3
   cases h
   rw [Nat.ble_eq] at e1 e2 e3
   rw [b7,eI] at hk
   refine ⟨⟨Int.natCast_nonneg _,by simp only [Int.ofNat_eq_natCast];omega, ?_,by simp only [Int.ofNat_eq_natCast];omega⟩, ?_⟩
   ·have h2 : ((bytes * c : Nat) : Int) ≤ ((281474976710656 : Nat) : Int):=Int.ofNat_le.2 e2
    rw [Int.natCast_mul] at h2
    exact h2
   ·simp only [Int.ofNat_eq_natCast,Int.toNat_natCast];exact hk
  ·cases h
 ·cases h
theorem x4 {e : Nat} {x : AV} (h : m8 e x hp = some (v,hp')) (hk : KH v hp') : gK e x hp KH:=by
 unfold m8 at h;unfold gK
 split at h
 ·cases h;rw [b7,b7,eI,JL] at hk;exact hk
 ·cases h
theorem pN {sz : Nat} {x : AV} {rows : List (List AV)} (h : lF hp sz x = some rows) : ej hp sz x = some rows:=by
 unfold lF at h;unfold ej
 generalize eA x = y at h ⊢
 split at h
 ·exact h
 ·split at h
  ·rename_i e;simp only [Nat.eq_of_beq_eq_true e,if_true];exact h
  ·cases h
 ·rw [dy] at h
  split at h
  ·rename_i e
   simp only [e]
   split at h
   ·rename_i e1 e2
    rw [if_pos ⟨Nat.eq_of_beq_eq_true e1,(e9 _ _).1 e2⟩]
    rw [eZ] at h;exact h
   ·cases h
  ·cases h
 ·cases h
theorem xZ {x : AV} (h : m7 x hp = some v) (hk : K v) : fk x hp K:=by
 unfold m7 at h;unfold fk
 split at h
 ·rename_i e
  split at h
  ·rename_i e2;cases h;rw [kU] at e2;simp only [pN e,Option.bind_some,e2];exact hk
  ·cases h
 ·cases h
theorem GI {x : AV} (h : vb x = some v) (hk : K v) : eS x K:=by
 unfold vb at h;unfold eS
 split at h
 ·cases h;intro _;rw [b7] at hk;exact hk
 ·cases h
theorem I8 {x : AV} (h : BK x = some v) (hk : K v) : bI x K:=by
 unfold BK at h;unfold bI
 generalize eA x = y at h ⊢
 split at h
 ·cases h;intro _;rw [b7] at hk;exact hk
 ·cases h;intro _;exact hk
 ·cases h;exact hk
 ·cases h
theorem Jb {x y : AV} (h : BO x y = some v) (hk : K v) : jd x y K:=by
 unfold BO at h;unfold jd
 split at h
 ·rename_i k a k' b
  split at h
  ·rename_i e
   cases h
   refine ⟨mE e, ?_⟩
   rw [jf] at hk
   by_cases q : b < a <;> simp only [q,decide_true,decide_false,if_true,if_false] at hk ⊢ <;> exact hk
  ·cases h
 ·cases h
theorem tn {x y : AV} (h : ox x y = some v) (hk : K v) : fw x y K:=by
 unfold ox at h;unfold fw
 split at h
 ·rename_i k a k' b
  split at h
  ·rename_i e
   cases h
   refine ⟨mE e, ?_⟩
   rw [jf] at hk
   by_cases q : a < b
   ·simp only [q,decide_true] at hk;rw [if_pos (show b > a from q)];exact hk
   ·simp only [q,decide_false] at hk;rw [if_neg (show ¬ b > a from q)];exact hk
  ·cases h
 ·cases h
theorem AF (sz : Nat) (r : List AV) : xu sz r = dJ sz r:=by
 unfold xu dJ
 rw [b7,eH]
 have : Nat.beq r.length sz = (r.length == sz):=by rw [Bool.eq_iff_iff];simp [Nat.beq_eq]
 rw [this]
 cases (r.length == sz) <;> cases r.all cv <;> rfl
theorem nC {b n : Nat} (h : nB b n = true) : cT b n:=by
 unfold nB at h
 split at h
 ·rename_i e1 e2;rw [Nat.ble_eq] at e1 e2;exact ⟨e1,e2⟩
 ·cases h
theorem uy {own : Bool} {e sz bytes : Nat} {x : AV} {src : Option (List (List AV))} (h : il own e sz bytes x src hp = some (v,hp')) (hk : KH v hp') : dP own e sz bytes x src hp KH:=by
 unfold il at h;unfold dP
 split at h
 ·cases h
 ·rename_i rows
  split at h
  ·cases h
  ·rename_i eall
   rw [show xu sz = dJ sz from funext (AF sz),eH] at eall
   refine ⟨eall, ?_⟩
   generalize nle x = y at h ⊢
   split at h
   ·split at h
    ·cases h
    ·rename_i er
     rw [b7] at er
     cases own with
     | false=>simp only [Option.some.injEq,Prod.mk.injEq] at h;obtain ⟨rfl,rfl⟩:=h;rw [b7,b7,eI] at hk;exact ⟨nC er,hk⟩
     | true =>
       simp only at h ⊢
       split at h
       ·cases h
       ·simp only [Option.some.injEq,Prod.mk.injEq] at h;obtain ⟨rfl,rfl⟩:=h;rw [b7,b7,eI,kU] at hk;exact ⟨by simp,nC er,hk⟩
   ·rw [dy] at h
    split at h
    ·rename_i eg
     simp only [eg]
     split at h
     ·rename_i e1 e2 e3 e4 e5
      simp only [Option.some.injEq,Prod.mk.injEq] at h;obtain ⟨rfl,rfl⟩:=h
      rw [b7] at e4 e5
      rw [ia,b7,eI] at hk
      exact ⟨⟨Nat.eq_of_beq_eq_true e1,Nat.eq_of_beq_eq_true e2,Nat.eq_of_beq_eq_true e3,Nat.eq_of_beq_eq_true e4⟩,nC e5,hk⟩
     ·cases h
    ·cases h
   ·rw [dy] at h
    split at h
    ·rename_i eg
     simp only [eg]
     split at h
     ·rename_i e1 e2 e3 e4 e5 e6 e7
      simp only [Option.some.injEq,Prod.mk.injEq] at h;obtain ⟨rfl,rfl⟩:=h
      rw [b7] at e5 e6 e7
      rw [ia,b7,b7,HJ,eI,eI,kU] at hk
      rw [Nat.ble_eq] at e6
      exact ⟨⟨Nat.eq_of_beq_eq_true e1,Nat.eq_of_beq_eq_true e2,e3,Nat.eq_of_beq_eq_true e4,Nat.le_of_ble_eq_true e5⟩,by omega,nC e7,hk⟩
     ·cases h
    ·cases h
   ·cases h
end
end Go.Aw
end

section
namespace Go.Aw
open Go Go.RowKit Go.MapKept
variable [Laid]

/-! ### Keys -/
def dR (d : TypeDesc) (k : AV) : Bool:=match d,k with|.int j,.v (.int j' _)=>kEq j' j|.string,.str _=>true|_,_=>false
noncomputable def nG (a b : AV) : Option Bool :=
 match a,b with
 | .str a,.str b=>some (eqL a b)
 | .v (.int k a),.v (.int k' b)=>(match kEq k k' with|true=>some (eqI a b)|false=>none)
 | _,_=>none
noncomputable def hU (k : AV) : List (Nat × AV × AV) → Option (Option AV)
 | []=>some none
 | (_,k',c) :: r=>(match nG k k' with|some true=>some (some c)|some false=>hU k r|none=>none)
noncomputable def lG (c : Nat) (k v : AV) : List (Nat × AV × AV) → Option (Nat × List (Nat × AV × AV))
 | []=>some (c + 1,[(c,k,v)])
 | (n,k',x) :: r=>(match nG k k' with
  | some true=>some (c,(n,k,v) :: r)
  | some false=>(match lG c k v r with|some (c',r')=>some (c',(n,k',x) :: r')|none=>none)
  | none=>none)
noncomputable def mb (k : AV) : List (Nat × AV × AV) → Option (List (Nat × AV × AV))
 | []=>some []
 | (n,k',x) :: r=>(match nG k k' with
  | some true=>some r
  | some false=>(match mb k r with|some r' => some ((n,k',x) :: r')|none=>none)
  | none=>none)
def inE (n : Nat) : List Nat → Bool
 | []=>false
 | m :: r=>(match Nat.beq n m with|true=>true|false=>inE n r)
def du (sn : List Nat) : List (Nat × AV × AV) → List (Nat × AV × AV)
 | []=>[]
 | (n,k,v) :: r=>(match inE n sn with|true=>du sn r|false=>(n,k,v) :: du sn r)
def jW (s : Nat) : List (Nat × AV × AV) → Bool
 | []=>true
 | (n,_,_) :: r=>(match Nat.ble (n + 1) s with|true=>jW s r|false=>false)
def gh (b : Nat) : List (Nat × AV × AV) → Option (AV × AV)
 | []=>none
 | (n,k,v) :: r=>(match Nat.beq n b with|true=>some (k,v)|false=>gh b r)
def kp : List Nat → Option Nat
 | []=>none
 | [a]=>some a
 | _ :: b :: r=>kp (b :: r)
def fU (b : Nat) : List Nat → List Nat
 | []=>[b]
 | a :: r=>a :: fU b r

section
omit [Laid]
variable {ι : List Ix} {S : aJ} {w : World}
theorem qn {d : TypeDesc} {k : AV} {v : Value} (h : dR d k = true) (r : Rep ι S w k v) : IsKey d v:=by
 unfold dR at h
 split at h
 ·rw [bL] at r;subst r;exact mE h
 ·simp at r;rw [r.1];trivial
 ·cases h
theorem jB {d : TypeDesc} {k k' : AV} {v v' : Value} {b : Bool} (hd : dR d k = true) (r : Rep ι S w k v) (r' : Rep ι S w k' v') (h : nG k k' = some b) : Instr.sameNow d v v' = some b ∧ (b = true → v' = v):=by
 unfold nG at h
 split at h
 ·rename_i x y
  simp only [Option.some.injEq] at h
  subst h
  simp only [dk] at r r'
  rw [r.1,r'.1]
  have e : ((⟨x.toArray⟩ : ByteArray) == ⟨y.toArray⟩) = decide (x = y):=by
   rw [Bool.eq_iff_iff,bytes_beq];simp
  cases d <;> simp only [dR,Bool.false_eq_true] at hd
  rw [kS]
  refine ⟨by simp [Instr.sameNow,e],fun hb=>by rw [of_decide_eq_true hb]⟩
 ·rename_i k a k' b'
  split at h
  ·rename_i hk
   simp only [Option.some.injEq] at h
   subst h
   simp only [bL] at r r'
   rw [r,r']
   have hk:=mE hk
   subst hk
   have e : (a == b') = decide (a = b'):=by by_cases q : a = b' <;> simp [q]
   cases d <;> simp only [dR,Bool.false_eq_true] at hd
   rw [wj]
   refine ⟨by simp [Instr.sameNow,e],fun hb=>by rw [of_decide_eq_true hb]⟩
  ·cases h
 ·cases h

theorem xc {d : TypeDesc} {k : AV} {kv : Value} (hd : dR d k = true) (r : Rep ι S w k kv) : ∀ (es : List (Nat × AV × AV)) (l : List MapEntry) (i : Nat) (q : Option AV),MpR ι S w es l → hU k es = some q →
 (q = none ∧ Instr.findNow d kv l i = some none) ∨ ∃ c j v,q = some c ∧ Instr.findNow d kv l i = some (some (j,v)) ∧ Rep ι S w c v
 | [],l,i,q,hm,h=>by
   rw [MpR] at hm;subst hm;cases h;exact .inl ⟨rfl,rfl⟩
 | (n,k',c) :: es,l,i,q,hm,h=>by
  obtain ⟨e,l',rfl,_,h3,h4,h5⟩:=hm
  rw [hU] at h
  split at h
  ·rename_i hs
   cases h
   obtain ⟨g,_⟩:=jB hd r h3 hs
   exact .inr ⟨c,i,e.val,rfl,by simp only [Instr.findNow,g],h4⟩
  ·rename_i hs
   obtain ⟨g,_⟩:=jB hd r h3 hs
   rcases xc hd r es l' (i + 1) q h5 h with ⟨a,b⟩|⟨c,j,v,a,b,f⟩
   ·exact .inl ⟨a,by simp only [Instr.findNow,g];exact b⟩
   ·exact .inr ⟨c,j,v,a,by simp only [Instr.findNow,g];exact b,f⟩
  ·cases h
theorem AQ {d : TypeDesc} {k x : AV} {kv xv : Value} {c c' : Nat} (hd : dR d k = true) (r : Rep ι S w k kv) (rx : Rep ι S w x xv) : ∀ (es : List (Nat × AV × AV)) (l : List MapEntry) (i : Nat) (es' : List (Nat × AV × AV)),MpR ι S w es l → lG c k x es = some (c',es') →
 (c' = c + 1 ∧ Instr.findNow d kv l i = some none ∧ MpR ι S w es' (l ++ [{ key:=kv,val:=xv,born:=c }])) ∨
 (c' = c ∧ ∃ j e,Instr.findNow d kv l i = some (some (i + j,e.val)) ∧ l[j]? = some e ∧ e.key = kv ∧ MpR ι S w es' (l.modify j fun e=>{ e with key:=kv,val:=xv }))
 | [],l,i,es',hm,h=>by
   rw [MpR] at hm;subst hm;cases h
   exact .inl ⟨rfl,rfl,_,[],rfl,rfl,r,rx,rfl⟩
 | (n,k',y) :: es,l,i,es',hm,h=>by
  obtain ⟨e,l',rfl,h2,h3,h4,h5⟩:=hm
  rw [lG] at h
  split at h
  ·rename_i hs
   cases h
   obtain ⟨g,g2⟩:=jB hd r h3 hs
   refine .inr ⟨rfl,0,e,by simp only [Instr.findNow,g,Nat.add_zero],rfl,g2 rfl, ?_⟩
   exact ⟨_,l',rfl,h2,r,rx,h5⟩
  ·rename_i hs
   obtain ⟨g,_⟩:=jB hd r h3 hs
   split at h
   ·rename_i c2 r2 hu
    cases h
    rcases AQ hd r rx es l' (i + 1) r2 h5 hu with ⟨a,b,f⟩|⟨a,j,e2,b,f,p,m⟩
    ·exact .inl ⟨a,by simp only [Instr.findNow,g];exact b,e,_,rfl,h2,h3,h4,f⟩
    ·refine .inr ⟨a,j + 1,e2,by simp only [Instr.findNow,g];rw [b];congr 3;omega,by simpa using f,p,e,_,rfl,h2,h3,h4,m⟩
   ·cases h
  ·cases h
theorem yK {d : TypeDesc} {k : AV} {kv : Value} (hd : dR d k = true) (r : Rep ι S w k kv) : ∀ (es : List (Nat × AV × AV)) (l : List MapEntry) (i : Nat) (es' : List (Nat × AV × AV)),MpR ι S w es l → mb k es = some es' →
 (Instr.findNow d kv l i = some none ∧ MpR ι S w es' l) ∨ ∃ j v,Instr.findNow d kv l i = some (some (i + j,v)) ∧ MpR ι S w es' (l.eraseIdx j)
 | [],l,i,es',hm,h=>by
   rw [MpR] at hm;subst hm;cases h
   exact .inl ⟨rfl,rfl⟩
 | (n,k',y) :: es,l,i,es',hm,h=>by
  obtain ⟨e,l',rfl,h2,h3,h4,h5⟩:=hm
  rw [mb] at h
  split at h
  ·rename_i hs
   cases h
   obtain ⟨g,_⟩:=jB hd r h3 hs
   exact .inr ⟨0,e.val,by simp only [Instr.findNow,g,Nat.add_zero],h5⟩
  ·rename_i hs
   obtain ⟨g,_⟩:=jB hd r h3 hs
   split at h
   ·rename_i r2 hu
    cases h
    rcases yK hd r es l' (i + 1) r2 h5 hu with ⟨b,f⟩|⟨j,v,b,f⟩
    ·exact .inl ⟨by simp only [Instr.findNow,g];exact b,e,_,rfl,h2,h3,h4,f⟩
    ·exact .inr ⟨j + 1,v,by simp only [Instr.findNow,g];rw [b];congr 3;omega,e,_,rfl,h2,h3,h4,f⟩
   ·cases h
  ·cases h
theorem wH (n : Nat) : ∀ l : List Nat,inE n l = l.toArray.contains n
 | []=>by simp [inE]
 | m :: r=>by
   have ih:=wH n r
   rw [inE]
   simp only [List.contains_toArray,List.contains_cons] at ih ⊢
   by_cases q : n = m
   ·subst q;simp
   ·have : Nat.beq n m = false:=by
     cases z : Nat.beq n m with
     | false=>rfl
     | true=>exact absurd (Nat.eq_of_beq_eq_true z) q
    rw [this];simp only;rw [ih];simp [q]
theorem xz (b : Nat) : ∀ l,fU b l = l ++ [b]
 | []=>rfl
 | a :: r=>by rw [fU,xz b r];rfl
theorem w4 : ∀ {l : List Nat} {b : Nat},kp l = some b → l.toArray.back? = some b
 | [],_,h=>by cases h
 | [a],b,h=>by cases h;rfl
 | x :: y :: r,b,h=>by
   rw [kp] at h
   have:=w4 h
   simp only [List.back?_toArray] at this ⊢
   rw [List.getLast?_cons_cons];exact this
theorem MpR.to {es : List (Nat × AV × AV)} : ∀ {l : List MapEntry},MpR ι S w es l → ∀ e ∈ l,∃ p ∈ es,e.born = p.1 ∧ Rep ι S w p.2.1 e.key ∧ Rep ι S w p.2.2 e.val:=by
 induction es with
 | nil=>intro l h e he;rw [MpR] at h;subst h;cases he
 | cons p es ih =>
   intro l h e he
   obtain ⟨n,k,c⟩:=p
   obtain ⟨e0,l',rfl,h2,h3,h4,h5⟩:=h
   rcases List.mem_cons.1 he with rfl|he
   ·exact ⟨_,List.mem_cons_self ..,h2,h3,h4⟩
   ·obtain ⟨p,hp,q⟩:=ih h5 e he
    exact ⟨p,List.mem_cons_of_mem _ hp,q⟩
theorem MpR.from {es : List (Nat × AV × AV)} : ∀ {l : List MapEntry},MpR ι S w es l → ∀ p ∈ es,∃ e ∈ l,e.born = p.1:=by
 induction es with
 | nil=>intro l h p hp;cases hp
 | cons p es ih =>
   intro l h q hq
   obtain ⟨n,k,c⟩:=p
   obtain ⟨e0,l',rfl,h2,h3,h4,h5⟩:=h
   rcases List.mem_cons.1 hq with rfl|hq
   ·exact ⟨e0,List.mem_cons_self ..,h2⟩
   ·obtain ⟨e,he,q⟩:=ih h5 q hq
    exact ⟨e,List.mem_cons_of_mem _ he,q⟩
theorem jT {sn : List Nat} : ∀ {es : List (Nat × AV × AV)} {p : Nat × AV × AV},p ∈ du sn es ↔ p ∈ es ∧ inE p.1 sn = false
 | [],p=>by simp [du]
 | (n,k,v) :: r,p=>by
  rw [du]
  split
  ·rename_i h
   rw [jT]
   constructor
   ·intro ⟨a,b⟩;exact ⟨List.mem_cons_of_mem _ a,b⟩
   ·rintro ⟨a,b⟩
    rcases List.mem_cons.1 a with rfl|a
    ·rw [h] at b;cases b
    ·exact ⟨a,b⟩
  ·rename_i h
   rw [List.mem_cons,jT]
   constructor
   ·rintro (rfl|⟨a,b⟩)
    ·exact ⟨List.mem_cons_self ..,h⟩
    ·exact ⟨List.mem_cons_of_mem _ a,b⟩
   ·rintro ⟨a,b⟩
    rcases List.mem_cons.1 a with rfl|a
    ·exact .inl rfl
    ·exact .inr ⟨a,b⟩
theorem yF {s : Nat} : ∀ {es : List (Nat × AV × AV)},jW s es = true → ∀ p ∈ es,p.1 < s
 | [],_,p,hp=>by cases hp
 | (n,k,v) :: r,h,p,hp=>by
  rw [jW] at h
  split at h
  ·rename_i hn
   rcases List.mem_cons.1 hp with rfl|hp
   ·have:=Nat.le_of_ble_eq_true hn;exact this
   ·exact yF h p hp
  ·cases h
theorem vP {b : Nat} : ∀ {es : List (Nat × AV × AV)} {l : List MapEntry} {k v : AV},MpR ι S w es l → gh b es = some (k,v) → ∃ e,l.find? (·.born == b) = some e ∧ Rep ι S w k e.key ∧ Rep ι S w v e.val
 | [],_,_,_,_,h=>by cases h
 | (n,k',v') :: r,_,k,v,hm,h=>by
  obtain ⟨e,l',rfl,h2,h3,h4,h5⟩:=hm
  rw [gh] at h
  split at h
  ·rename_i hn
   cases h
   exact ⟨e,by rw [List.find?_cons,h2,Nat.eq_of_beq_eq_true hn];simp,h3,h4⟩
  ·rename_i hn
   obtain ⟨e2,g,q⟩:=vP h5 h
   refine ⟨e2, ?_,q⟩
   have : (e.born == b) = false:=by
    rw [h2]
    cases z : n == b with
    | false=>rfl
    | true=>rw [beq_iff_eq] at z;subst z;simp at hn
   rw [List.find?_cons,this];exact g
end

/-! ### Memory -/
theorem HOK.xn {base : Nat} {ι : List Ix} {S : aJ} {w : World} {h : aa} (hh : HOK base ι S w h) {id b : Nat} {en en' : Ent} {ob ob' : Obj} (e : h[id]? = some en) (ha : alive (some en)) (hb : ι[id]? = some (.blk b)) (hS : ∀ o,¬ S b o) (hbase : base ≤ b)
 (hob : w.heap[b]? = some ob) (hnc : ∀ x,w.shape? b ≠ some x) (hk : (∃ c es,en' = .mp c es) ∨ ∃ m s sn l,en' = .it m s sn l)
 (ok : Evo ι.length base ι S w ι S { w with heap:=w.heap.setIfInBounds b ob' } → ({ w with heap:=w.heap.setIfInBounds b ob' } : World).heap[b]? = some ob' → jI ι S { w with heap:=w.heap.setIfInBounds b ob' } base (some (.blk b)) en') :
 Evo ι.length base ι S w ι S { w with heap:=w.heap.setIfInBounds b ob' } ∧ HOK base ι S { w with heap:=w.heap.setIfInBounds b ob' } (h.set id en'):=by
 obtain ⟨hs1,hs2⟩:=heap_set (o':=ob') hob
 have hlt : id < h.length:=(List.getElem?_eq_some_iff.1 e).1
 have hE : Evo ι.length base ι S w ι S { w with heap:=w.heap.setIfInBounds b ob' }:=by
  refine ⟨fun _ _=>dM.refl _,fun _ _ h=>h,fun _ _ h=>.inl h,fun b' o s=>?_,fun b' x hx=>?_,⟨rfl,rfl,rfl,by simp,fun k hk=>hs2 k (by omega)⟩⟩
  ·have hne : b' ≠ b:=fun q=>hS o (q ▸ s)
   exact World.cell?_of_block (w:=w) (hs2 b' hne)
  ·have hne : b' ≠ b:=fun q=>hnc x (q ▸ hx)
   unfold World.shape? at *
   rw [show ({ w with heap:=w.heap.setIfInBounds b ob' } : World).heap[b']? = w.heap[b']? from hs2 b' hne];exact hx
 refine ⟨hE,hh.nK hE (by simp [hh.len]) id (fun i hi hai=>?_) (fun x q=>?_) (fun t sz n q=>?_) (fun en2 q=>?_) (fun j c' hj _ aj hi hj' => ?_) (fun b' o' s=>by have:=hh.stb b' o' s;simpa using this) (by have:=hh.bas;simpa using this)⟩
 ·rw [List.getElem?_set_ne (Ne.symm hi)] at hai ⊢
  refine ⟨rfl,rfl,fun c' hc _=>⟨hs2 c' fun q=>?_,fun _ q=>q⟩⟩
  subst q
  exact hi (hh.inj i id c' hai (by rw [e];exact ha) hc (by rw [hb];rfl))
 ·rw [List.getElem?_set_self hlt] at q
  rcases hk with ⟨c,es,rfl⟩|⟨m,s,sn,l,rfl⟩ <;> cases q
 ·rw [List.getElem?_set_self hlt] at q
  rcases hk with ⟨c,es,rfl⟩|⟨m,s,sn,l,rfl⟩ <;> cases q
 ·rw [List.getElem?_set_self hlt] at q
  cases q
  rw [hb];exact ok hE hs1
 ·rw [List.getElem?_set_ne (Ne.symm hj)] at aj
  exact hj (hh.inj j id c' aj (by rw [e];exact ha) hj' hi)
theorem HOK.newObj {base : Nat} {ι : List Ix} {S : aJ} {w : World} {h : aa} (hh : HOK base ι S w h) (ob : Obj) (en : Ent) (hk : (∃ c es,en = .mp c es) ∨ ∃ m s sn l,en = .it m s sn l)
 (ok : Evo ι.length base ι S w (ι ++ [.blk w.heap.size]) S (w.alloc ob) → (w.alloc ob).heap[w.heap.size]? = some ob → jI (ι ++ [.blk w.heap.size]) S (w.alloc ob) base (some (.blk w.heap.size)) en) :
 Evo ι.length base ι S w (ι ++ [.blk w.heap.size]) S (w.alloc ob) ∧ HOK base (ι ++ [.blk w.heap.size]) S (w.alloc ob) (h ++ [en]):=by
 have hE : Evo ι.length base ι S w (ι ++ [.blk w.heap.size]) S (w.alloc ob):=Evo.alloc hh.bas (fun b o=>hh.stb b o) ob _
 refine ⟨hE,hh.push _ _ hE (fun b hb _=>⟨Below.heap_alloc w _ b hb,fun _ q=>q⟩) (fun x q=>?_) (fun _ _ _ q=>?_) (ok hE (heap_alloc w ob).1) (fun _ b hb=>?_) (fun b o s=>?_)⟩
 ·rcases hk with ⟨c,es,rfl⟩|⟨m,s,sn,l,rfl⟩ <;> cases q
 ·rcases hk with ⟨c,es,rfl⟩|⟨m,s,sn,l,rfl⟩ <;> cases q
 ·have : w.heap.size = b:=hb
  omega
 ·have:=hh.stb b o s
  show b < (w.heap.push _).size
  simp;omega

/-! ### Operations -/
section
variable {P : Program} {o : Oper} {base : Nat} {ι : List Ix} {S : aJ} {a : Act} {w : World} {st : St} {K : AV → aa → Prop}

theorem ud {t : TypeId} {r : Option Operand} (hr : ROK base ι S a w st) (ho : o.op = .makeMap t r) (hres : r = none ∨ ∃ x kt et k n,r = some x ∧ P.underlying t = some (.map kt et) ∧ ae st.fr x = .v (.int k n)) (h : K (.mp st.h.length) (st.h ++ [.mp 0 []])) : bk P o base ι S a w st K:=by
 have hh:=hr.hp
 obtain ⟨hE,hH⟩:=hh.newObj (.map #[] 0) (.mp 0 []) (.inl ⟨_,_,rfl⟩) fun hE hb=>⟨w.heap.size,#[],rfl,hh.bas,hb,fun o s=>by have:=hh.stb _ _ s;omega,rfl⟩
 refine cI hr (u:=.map (some w.heap.size)) ?_ hE ?_ hH (by simp) h
 ·simp only [execOp,ho]
  refine cV ?_
  rcases hres with rfl|⟨x,kt,et,k,n,rfl,ht,hx⟩
  ·exact run_makeMap t w
  ·have hv:=hr.eval x
   rw [hx,bL] at hv
   simp only [Option.map_some,hv]
   simp [Instr.makeMap,run_underlying ht,asInt,asIntOf,Result.andThen]
 ·rw [Rep];exact ⟨w.heap.size,by rw [← hh.len];exact fj,rfl⟩

theorem Fw {t kt et : TypeId} {d : TypeDesc} {m k x : Operand} {id c c' : Nat} {es es' : List (Nat × AV × AV)} (hr : ROK base ι S a w st) (ho : o.op = .mapUpdate t m k x ∨ o.op = .insert t m k x) (ht : P.underlying t = some (.map kt et)) (hd : P.underlying kt = some d)
 (hm : ae st.fr m = .mp id) (hk : dR d (ae st.fr k) = true) (he : st.h[id]? = some (.mp c es)) (hu : lG c (ae st.fr k) (ae st.fr x) es = some (c',es')) (h : K (.v undef) (st.h.set id (.mp c' es'))) : bk P o base ι S a w st K:=by
 have hh:=hr.hp
 have rm:=hr.eval m
 have rk:=hr.eval k
 have rx:=hr.eval x
 rw [hm,Rep] at rm
 obtain ⟨b,hb,em⟩:=rm
 obtain ⟨b',arr,h1,h2,h3,h4,h5⟩:=hh.oth id _ he
 rw [hb] at h1;cases h1
 have hik:=qn hk rk
 have hsh : ∀ x,w.shape? b ≠ some x:=fun x=>by unfold World.shape?;rw [h3];simp
 have go : ∀ {arr' : Array MapEntry},MpR ι S w es' arr'.toList → (Instr.mapUpdate t (.map (some b)) (a.eval k) (a.eval x)).run P w = .ok () { w with heap:=w.heap.setIfInBounds b (.map arr' c') } → bk P o base ι S a w st K:=by
  intro arr' hp hrun
  obtain ⟨hE,hH⟩:=hh.xn (ob':=.map arr' c') (en':=.mp c' es') he trivial hb h4 h2 h3 hsh (.inl ⟨_,_,rfl⟩) fun hE hb' => ⟨b,arr',rfl,h2,hb',h4,hp.evo hE (Nat.le_refl _)⟩
  refine sD hr ?_ hE hH (by simp) h
  rcases ho with ho|ho <;> (simp only [execOp,ho,em];exact LY hrun)
 rcases AQ hk rk rx es arr.toList 0 es' h5 hu with ⟨rfl,hf,hp⟩|⟨rfl,j,e,hf,hj,hkey,hp⟩
 ·refine go (arr':=arr.push { key:=a.eval k,val:=a.eval x,born:=c }) (by simpa using hp) ?_
  simp [Instr.mapUpdate,run_underlying ht,Go.MapKept.run_getObj_map h3,run_checkKey hd hik,run_findKey hd hf,run_setObj_map _ h3,Result.andThen]
 ·refine go (arr':=arr.modify j fun e=>{ e with key:=a.eval k,val:=a.eval x }) (by simpa using hp) ?_
  have hj' : arr[j]? = some e:=by simpa using hj
  rw [Nat.zero_add] at hf
  simp [Instr.mapUpdate,run_underlying ht,Go.MapKept.run_getObj_map h3,run_checkKey hd hik,run_findKey hd hf,hj',hkey,run_keyThatStays hik,run_setObj_map _ h3,Result.andThen]

omit [Laid] in
theorem Fq {t : TypeId} {z : AV} (hz : cU P t = some z) : ∃ u,(zeroValue t).run P w = .ok u w ∧ Rep ι S w z u:=by
 unfold cU at hz
 cases hi : P.info? t with
 | none=>rw [hi] at hz;cases hz
 | some i =>
   rw [hi] at hz
   simp only [Option.bind_some,Option.map_eq_some_iff] at hz
   obtain ⟨u,hu,rfl⟩:=hz
   exact ⟨u,by simp [zeroValue,gL hi,hu],jJ ι S w u⟩
def lkV (ok : Bool) (z : AV) (q : Option AV) : AV :=
 match ok,q with
 | true,some c=>.tup [c,bool true]
 | true,none=>.tup [z,bool false]
 | false,some c=>c
 | false,none=>z
theorem sN {t kt et : TypeId} {d : TypeDesc} {ok : Bool} {m k : Operand} {z : AV} {q : Option AV} (hr : ROK base ι S a w st) (ho : o.op = .lookup t m k ok) (ht : P.underlying t = some (.map kt et)) (hd : P.underlying kt = some d) (hz : cU P et = some z)
 (hk : dR d (ae st.fr k) = true) (hq : (ae st.fr m = .v (.map none) ∧ q = none) ∨ ∃ id c es,ae st.fr m = .mp id ∧ st.h[id]? = some (.mp c es) ∧ hU (ae st.fr k) es = some q) (h : K (lkV ok z q) st.h) : bk P o base ι S a w st K:=by
 have hh:=hr.hp
 have rm:=hr.eval m
 have rk:=hr.eval k
 have hik:=qn hk rk
 obtain ⟨u,hzr,rz⟩:=Fq (P:=P) (ι:=ι) (S:=S) (w:=w) hz
 have fin : ∀ {v : Value} {b : Bool},(Instr.lookup t (a.eval m) (a.eval k) ok).run P w = .ok (if ok then .tuple #[v,.bool b] else v) w → (∃ c,Rep ι S w c v ∧ lkV ok z q = match ok with|true=>.tup [c,bool b]|false=>c) → bk P o base ι S a w st K:=by
  intro v b hrun hc
  obtain ⟨c,rc,e⟩:=hc
  refine aM hr (u:=if ok then .tuple #[v,.bool b] else v) ?_ ?_ h
  ·simp only [execOp,ho];exact cV hrun
  ·rw [e]
   cases ok with
   | true=>simp only [if_true];rw [Rep];exact ⟨[v,.bool b],rfl,by simp [rc]⟩
   | false=>exact rc
 rcases hq with ⟨hm,rfl⟩|⟨id,c,es,hm,he,hl⟩
 ·rw [hm,bL] at rm
  refine fin (v:=u) (b:=false) ?_ ⟨z,rz,by cases ok <;> rfl⟩
  simp [Instr.lookup,run_underlying ht,rm,run_checkKey hd hik,Instr.findKey,run_underlying hd,Instr.findNow,hzr,Result.andThen]
 ·rw [hm,Rep] at rm
  obtain ⟨b,hb,em⟩:=rm
  obtain ⟨b',arr,h1,h2,h3,h4,h5⟩:=hh.oth id _ he
  rw [hb] at h1;cases h1
  rcases xc hk rk es arr.toList 0 q h5 hl with ⟨rfl,hf⟩|⟨c,j,v,rfl,hf,rv⟩
  ·refine fin (v:=u) (b:=false) ?_ ⟨z,rz,by cases ok <;> rfl⟩
   simp [Instr.lookup,run_underlying ht,em,Go.MapKept.run_getObj_map h3,run_checkKey hd hik,run_findKey hd hf,hzr,Result.andThen]
  ·refine fin (v:=v) (b:=true) ?_ ⟨c,rv,by cases ok <;> rfl⟩
   simp [Instr.lookup,run_underlying ht,em,Go.MapKept.run_getObj_map h3,run_checkKey hd hik,run_findKey hd hf,Result.andThen]

theorem Fv {c : Call} {t t2 kt et : TypeId} {d : TypeDesc} {m k : Operand} {id cl : Nat} {es es' : List (Nat × AV × AV)} (hr : ROK base ι S a w st) (ho : o.op = .call c) (hc : c.callee = .builtin .delete) (hat : c.argTypes.toList = [t,t2]) (hax : c.args.toList = [m,k])
 (ht : P.underlying t = some (.map kt et)) (hd : P.underlying kt = some d) (hm : ae st.fr m = .mp id) (hk : dR d (ae st.fr k) = true) (he : st.h[id]? = some (.mp cl es)) (hu : mb (ae st.fr k) es = some es') (h : K (.tup []) (st.h.set id (.mp cl es'))) : bk P o base ι S a w st K:=by
 have hh:=hr.hp
 have rm:=hr.eval m
 have rk:=hr.eval k
 rw [hm,Rep] at rm
 obtain ⟨b,hb,em⟩:=rm
 obtain ⟨b',arr,h1,h2,h3,h4,h5⟩:=hh.oth id _ he
 rw [hb] at h1;cases h1
 have hik:=qn hk rk
 have hsh : ∀ x,w.shape? b ≠ some x:=fun x=>by unfold World.shape?;rw [h3];simp
 have hargs : c.args.map a.eval = #[.map (some b),a.eval k]:=by apply Array.ext';simp [hax,em]
 have htys : c.argTypes = #[t,t2]:=by apply Array.ext';simp [hat]
 have go : ∀ {arr' : Array MapEntry},MpR ι S w es' arr'.toList → (Builtin.delete_ #[t,t2] o.type #[.map (some b),a.eval k]).run P w = .ok (.tuple #[]) { w with heap:=w.heap.setIfInBounds b (.map arr' cl) } → bk P o base ι S a w st K:=by
  intro arr' hp hrun
  obtain ⟨hE,hH⟩:=hh.xn (ob':=.map arr' cl) (en':=.mp cl es') he trivial hb h4 h2 h3 hsh (.inl ⟨_,_,rfl⟩) fun hE hb' => ⟨b,arr',rfl,h2,hb',h4,hp.evo hE (Nat.le_refl _)⟩
  refine cI hr (u:=.tuple #[]) (gW ho hc (fun _=>rfl) (by rw [hargs,htys];exact hrun)) hE (by rw [Rep];exact ⟨[],rfl,by simp⟩) hH (by simp) h
 rcases yK hk rk es arr.toList 0 es' h5 hu with ⟨hf,hp⟩|⟨j,v,hf,hp⟩
 ·refine go (arr':=arr) hp ?_
  simp [Builtin.delete_,run_underlying ht,Go.MapKept.run_getObj_map h3,run_checkKey hd hik,run_findKey hd hf,run_setObj_map _ h3,Result.andThen]
 ·have herase : (arr.eraseIdxIfInBounds j).toList = arr.toList.eraseIdx j:=by
   unfold Array.eraseIdxIfInBounds
   split
   ·simp
   ·rename_i hge;rw [List.eraseIdx_of_length_le (by simpa using hge)]
  refine go (arr':=arr.eraseIdxIfInBounds j) (by rw [herase];exact hp) ?_
  rw [Nat.zero_add] at hf
  simp [Builtin.delete_,run_underlying ht,Go.MapKept.run_getObj_map h3,run_checkKey hd hik,run_findKey hd hf,run_setObj_map _ h3,Result.andThen]

theorem Ih {t kt et : TypeId} {x : Operand} {id c : Nat} {es : List (Nat × AV × AV)} (hr : ROK base ι S a w st) (ho : o.op = .range t x) (ht : P.underlying t = some (.map kt et)) (hm : ae st.fr x = .mp id) (he : st.h[id]? = some (.mp c es)) (h : K (.op st.h.length 0) (st.h ++ [.it id c [] c])) : bk P o base ι S a w st K:=by
 have hh:=hr.hp
 have rm:=hr.eval x
 rw [hm,Rep] at rm
 obtain ⟨b,hb,em⟩:=rm
 obtain ⟨b',arr,h1,h2,h3,h4,h5⟩:=hh.oth id _ he
 rw [hb] at h1;cases h1
 obtain ⟨hE,hH⟩:=hh.newObj (.mapIter (some b) c #[] c) (.it id c [] c) (.inr ⟨_,_,_,_,rfl⟩) fun hE hb' => ⟨w.heap.size,b,rfl,hh.bas,hb',fun o s=>by have:=hh.stb _ _ s;omega,by rw [List.getElem?_append_left (List.getElem?_eq_some_iff.1 hb).1];exact hb⟩
 refine cI hr (u:=.pointer (some ⟨w.heap.size,0,none⟩)) ?_ hE ?_ hH (by simp) h
 ·simp only [execOp,ho,em]
  exact cV (run_range_map w t kt et b arr c ht h3)
 ·rw [Rep];exact ⟨w.heap.size,by rw [← hh.len];exact fj,rfl⟩

theorem AK {x : Operand} {id m s l c n : Nat} {sn : List Nat} {es : List (Nat × AV × AV)} {k v : AV} (hr : ROK base ι S a w st) (ho : o.op = .entry x) (hx : ae st.fr x = .op id 0) (hi : st.h[id]? = some (.it m s sn l)) (he : st.h[m]? = some (.mp c es)) (hcl : c = l)
 (hl : kp sn = some n) (hb : gh n es = some (k,v)) (h : K (.tup [k,v]) st.h) : bk P o base ι S a w st K:=by
 have hh:=hr.hp
 have rx:=hr.eval x
 rw [hx,Rep] at rx
 obtain ⟨b,hb1,ex⟩:=rx
 obtain ⟨b',bm,i1,i2,i3,i4,i5⟩:=hh.oth id _ hi
 rw [hb1] at i1;cases i1
 obtain ⟨b',arr,h1,h2,h3,h4,h5⟩:=hh.oth m _ he
 rw [i5] at h1;cases h1
 obtain ⟨e,hf,rk,rv⟩:=vP h5 hb
 have hf' : arr.find? (·.born == n) = some e:=by rw [← Array.find?_toList];exact hf
 refine aM hr (u:=.tuple #[e.key,e.val]) ?_ (by rw [Rep];exact ⟨[e.key,e.val],rfl,by simp [rk,rv]⟩) h
 subst hcl
 simp only [execOp,ho,ex]
 refine cV ?_
 simp only [Instr.entry,getObj,Sem.run_bind,Sem.run,i3,h3,Result.andThen,w4 hl,bne_self_eq_false,Bool.false_eq_true,if_false,hf']
 rfl

theorem Fy {x : Operand} {id m s l c : Nat} {sn : List Nat} {es : List (Nat × AV × AV)} (hr : ROK base ι S a w st) (ho : o.op = .next x false) (hx : ae st.fr x = .op id 0) (hi : st.h[id]? = some (.it m s sn l)) (he : st.h[m]? = some (.mp c es)) (hbel : jW s es = true) (hsl : s ≤ l)
 (h0 : du sn es = [] → K (.tup [bool false]) (st.h.set id .dead)) (h1 : ∀ p ∈ du sn es,K (.tup [bool true,p.2.1,p.2.2]) (st.h.set id (.it m s (fU p.1 sn) c))) : bk P o base ι S a w st K:=by
 have hh:=hr.hp
 have rx:=hr.eval x
 rw [hx,Rep] at rx
 obtain ⟨b,hb1,ex⟩:=rx
 obtain ⟨b',bm,i1,i2,i3,i4,i5⟩:=hh.oth id _ hi
 rw [hb1] at i1;cases i1
 obtain ⟨b',arr,k1,k2,k3,k4,k5⟩:=hh.oth m _ he
 rw [i5] at k1;cases k1
 have hold : ∀ y ∈ arr.toList,y.born < s:=fun y hy=>by
  obtain ⟨p,hp,e,_⟩:=k5.to y hy
  rw [e];exact yF hbel p hp
 have hsh : ∀ x,w.shape? b ≠ some x:=fun x=>by unfold World.shape?;rw [i3];simp
 rcases run_next_at (P:=P) w o.type b bm s l sn.toArray arr c i3 k3 hold hsl with ⟨hz,hrun⟩|⟨e,hem,w1,hw1,hrun⟩
 ·have hl : du sn es = []:=by
   refine List.eq_nil_iff_forall_not_mem.2 fun p hp=>?_
   obtain ⟨p1,p2⟩:=jT.1 hp
   obtain ⟨e,he,hb⟩:=k5.from p p1
   have : e ∈ leftOf arr sn.toArray:=by
    unfold leftOf
    rw [Array.mem_filter]
    refine ⟨Array.mem_toList_iff.1 he, ?_⟩
    rw [hb,← wH,p2];rfl
   have h2 : leftOf arr sn.toArray = #[]:=Array.eq_empty_of_size_eq_zero hz
   rw [h2] at this;simp at this
  refine cI hr (u:=.tuple #[.bool false]) ?_ (Evo.refl _ _ _ _ _) (by rw [Rep];exact ⟨[.bool false],rfl,by simp⟩) (hh.kill id) (by simp) (h0 hl)
  simp only [execOp,ho,ex];exact cV hrun
 ·obtain ⟨m1,m2⟩:=mem_left hem
  obtain ⟨p,hp,eb,rk,rv⟩:=k5.to e m1
  have hpl : p ∈ du sn es:=jT.2 ⟨hp,by rw [wH,← eb];exact m2⟩
  obtain ⟨hE1,hH1⟩ : Evo ι.length base ι S w ι S w1 ∧ HOK base ι S w1 st.h:=by
   rcases hw1 with rfl|rfl
   ·exact ⟨Evo.refl _ _ _ _ _,hh⟩
   ·exact hh.drew
  have i3' : w1.heap[b]? = some (.mapIter (some bm) s sn.toArray l):=by rcases hw1 with rfl|rfl <;> exact i3
  have hsh' : ∀ x,w1.shape? b ≠ some x:=fun x=>by unfold World.shape?;rw [i3'];simp
  obtain ⟨hE,hH⟩:=hH1.xn (ob':=.mapIter (some bm) s (sn.toArray.push e.born) c) (en':=.it m s (fU p.1 sn) c) hi trivial hb1 i4 i2 i3' hsh' (.inr ⟨_,_,_,_,rfl⟩) fun hE hb' => ⟨b,bm,rfl,i2,by rw [xz,← eb];simpa using hb',i4,i5⟩
  refine cI hr (u:=.tuple #[.bool true,e.key,e.val]) ?_ (hE1.trans hE) ?_ hH (by simp) (h1 p hpl)
  ·simp only [execOp,ho,ex];exact cV hrun
  ·rw [Rep]
   exact ⟨[.bool true,e.key,e.val],rfl,(bD _ _ _ _).2 ⟨by rw [bL],(bD _ _ _ _).2 ⟨Rep.evo (hE1.trans hE) (Nat.le_refl _) _ _ rk,(bD _ _ _ _).2 ⟨Rep.evo (hE1.trans hE) (Nat.le_refl _) _ _ rv,(fL _).2 rfl⟩⟩⟩⟩

theorem mG {neg : Bool} {t yt kt et : TypeId} {x : Operand} {b : Bool} (hr : ROK base ι S a w st) (ho : o.op = .binOp (if neg then .neq else .eql) t x (.const (.map none)) yt) (ht : P.underlying t = some (.map kt et))
 (hx : (ae st.fr x = .v (.map none) ∧ b = true) ∨ ∃ id,ae st.fr x = .mp id ∧ b = false) (h : K (bool (fo neg b)) st.h) : bk P o base ι S a w st K:=by
 have rx:=hr.eval x
 have hy : a.eval (.const (.map none)) = .map none:=rfl
 obtain ⟨p,hp,hb⟩ : ∃ p,a.eval x = .map p ∧ p.isNone = b:=by
  rcases hx with ⟨e,rfl⟩|⟨id,e,rfl⟩
  ·rw [e,bL] at rx;exact ⟨none,rx,rfl⟩
  ·rw [e,Rep] at rx;obtain ⟨b,_,rx⟩:=rx;exact ⟨some b,rx,rfl⟩
 have he : (Op.equal t (.map p) (.map none)).run P w = .ok b w:=by
  have : ∀ d,(Op.equalIn (d + 1) t (.map p) (.map none)).run P w = .ok b w:=fun d=>by
   subst hb
   cases p <;> simp [Op.equalIn,run_underlying ht]
  exact this 9999
 refine mF (b:=b) hr ho ?_ ?_ h
 ·rw [hp,hy];exact eT rfl (by intro q;cases q)
 ·rw [hp,hy]
  cases neg <;> simp [binOp,he,fo]
end

/-! ### As the kernel computes them -/
noncomputable def wg (r : Option AV) (h : aa) : Option (AV × Option aa) :=
 match r with
 | none=>some (.mp (dh h),some (gz h [.mp 0 []]))
 | some x=>(match x with|.v (.int _ _)=>some (.mp (dh h),some (gz h [.mp 0 []]))|_=>none)
noncomputable def BN (d : TypeDesc) (m k x : AV) (h : aa) : Option (AV × Option aa) :=
 match m with
 | .mp id=>(match fg h id with
   | some (.mp c es)=>(match dR d k with
     | true=>(match lG c k x es with|some (c',es')=>some (.v undef,some (lC h id (.mp c' es')))|none=>none)
     | false=>none)
   | _=>none)
 | _=>none
noncomputable def BM (d : TypeDesc) (ok : Bool) (z m k : AV) (h : aa) : Option (AV × Option aa) :=
 match dR d k with
 | false=>none
 | true=>(match m with
   | .v (.map none)=>some (lkV ok z none,none)
   | .mp id=>(match fg h id with
     | some (.mp _ es)=>(match hU k es with|some q=>some (lkV ok z q,none)|none=>none)
     | _=>none)
   | _=>none)
noncomputable def BL (d : TypeDesc) (m k : AV) (h : aa) : Option (AV × Option aa) :=
 match m with
 | .mp id=>(match fg h id with
   | some (.mp c es)=>(match dR d k with
     | true=>(match mb k es with|some es' => some (.tup [],some (lC h id (.mp c es')))|none=>none)
     | false=>none)
   | _=>none)
 | _=>none
noncomputable def BT (m : AV) (h : aa) : Option (AV × Option aa) :=
 match m with
 | .mp id=>(match fg h id with
   | some (.mp c _)=>some (.op (dh h) 0,some (gz h [.it id c [] c]))
   | _=>none)
 | _=>none
noncomputable def BD (x : AV) (h : aa) : Option (AV × Option aa) :=
 match x with
 | .op id 0=>(match fg h id with
   | some (.it m _ sn l)=>(match fg h m with
     | some (.mp c es)=>(match Nat.beq c l,kp sn with
       | true,some n=>(match gh n es with|some (k,v)=>some (.tup [k,v],none)|none=>none)
       | _,_=>none)
     | _=>none)
   | _=>none)
 | _=>none
noncomputable def wi (neg : Bool) (x : AV) : Option (AV × Option aa) :=
 match x with
 | .v (.map none)=>some (bool (fo neg true),none)
 | .mp _=>some (bool (fo neg false),none)
 | _=>none
noncomputable def BR (x : AV) (h : aa) : Option (List (AV × aa)) :=
 match x with
 | .op id 0=>(match fg h id with
   | some (.it m s sn l)=>(match fg h m with
     | some (.mp c es)=>(match jW s es,Nat.ble s l with
       | true,true=>(match du sn es with
         | []=>some [(.tup [bool false],lC h id .dead)]
         | p :: r=>some ((p :: r).map fun p=>(.tup [bool true,p.2.1,p.2.2],lC h id (.it m s (fU p.1 sn) c))))
       | _,_=>none)
     | _=>none)
   | _=>none)
 | _=>none
end Go.Aw
end

section
namespace Go.Aw
open Go Go.RowKit
variable [Laid]

section
variable {P : Program} {o : Oper} {base : Nat} {ι : List Ix} {S : aJ} {a : Act} {w : World} {st : St} {K : AV → aa → Prop}

theorem pZ {len cap : Nat} {lo : Option Operand} {yh ym : Operand} {p q m : Int} {kh km : IntKind} {fr : Fr} (hE : ∀ x,Rep ι S w (ae fr x) (a.eval x)) (h1 : cM (lo.map (ae fr)) 0 = some p) (eh : a.eval yh = .int kh q) (em : a.eval ym = .int km m)
 (hp : 0 ≤ p) (hpq : p ≤ q) (hqm : q ≤ m) (hm : m ≤ cap) : (Instr.sliceBounds true len cap (lo.map a.eval) (some (a.eval yh)) (some (a.eval ym))).run P w = .ok (p.toNat,q.toNat,m.toNat) w:=by
 have bound : ∀ (k : IntKind) (n : Int) (y : Nat) (c : BoundsCode),0 ≤ n → n ≤ y → (Instr.sliceBound (.int k n) y c).run P w = .ok n.toNat w:=fun k n y c g1 g2=>run_sliceBound w k n y c g1 g2
 unfold Instr.sliceBounds
 rcases oV hE h1 with ⟨rfl,rfl⟩|⟨yl,kl,rfl,el⟩
 ·simp only [Option.map_none,Sem.run_bind,em,eh]
  rw [bound km m cap _ (by omega) hm]
  simp only [Result.andThen_ok]
  rw [bound kh q m.toNat _ (by omega) (by omega)]
  rfl
 ·simp only [Option.map_some,Sem.run_bind,em,eh,el]
  rw [bound km m cap _ (by omega) hm]
  simp only [Result.andThen_ok]
  rw [bound kh q m.toNat _ (by omega) (by omega)]
  simp only [Result.andThen_ok]
  rw [bound kl p q.toNat _ hp (by omega)]
  rfl

theorem NA {t e : TypeId} {x yh ym : Operand} {lo : Option Operand} {sz : Nat} {rows : List (List AV)} {p q m : Int} {kh km : IntKind} (hr : ROK base ι S a w st) (ho : o.op = .slice t x lo (some yh) (some ym)) (ht : P.underlying t = some (.slice e)) (hk : tOk P e = true)
 (hx : eA (ae st.fr x) = .sl sz rows) (hl : cM (lo.map (ae st.fr)) 0 = some p) (hh : ae st.fr yh = .v (.int kh q)) (hm : ae st.fr ym = .v (.int km m)) (hsz : sz = P.cellsOf e) (g0 : 0 ≤ p) (g1 : p ≤ q) (g2 : q ≤ m) (g3 : m ≤ rows.length)
 (k : K (.sl sz ((rows.take q.toNat).drop p.toNat)) st.h) : bk P o base ι S a w st K:=by
 subst hsz
 have rx:=(hr.eval x).eA
 have rh:=hr.eval yh
 have rm:=hr.eval ym
 rw [hx,Rep] at rx
 rw [hh,bL] at rh
 rw [hm,bL] at rm
 obtain ⟨b,cap,ev,c1,c2,c3⟩:=rx
 have hb:=pZ (P:=P) (len:=rows.length) (cap:=cap) hr.eval hl rh rm g0 g1 g2 (by omega)
 refine aM hr (u:=.slice (if m.toNat = p.toNat then b else b.map (·.add (p.toNat * P.cellsOf e))) (q.toNat - p.toNat) (m.toNat - p.toNat)) ?_ ?_ k
 ·simp only [execOp,ho,ev,Option.map_some]
  exact cV (by simp only [Instr.sliceAt,Sem.run_bind,run_underlying ht,Result.andThen_ok,Instr.slice,hb,cn hk,Sem.run_pure])
 ·rw [Rep]
  have hl : ((rows.take q.toNat).drop p.toNat).length = q.toNat - p.toNat:=by simp;omega
  refine ⟨_,_,by rw [hl],by omega,by omega, ?_⟩
  by_cases hem : (rows.take q.toNat).drop p.toNat = []
  ·exact .inl hem
  ·right
   have hlen : 0 < q.toNat - p.toNat:=by rw [← hl];exact List.length_pos_iff.2 hem
   rcases c3 with c3|⟨bb,off,eb,rr⟩
   ·subst c3;simp at hem
   ·subst eb
    rw [if_neg (by omega)]
    refine ⟨bb,off + p.toNat * P.cellsOf e,by simp [dm],bA.mk fun i r er=>?_⟩
    have er' : rows[p.toNat + i]? = some r:=by
     rw [List.getElem?_drop] at er
     rw [List.getElem?_take] at er
     split at er <;> first|exact er|cases er
    have:=rr.get _ _ er'
    refine ⟨this.1, ?_⟩
    rw [Nat.add_assoc,← Nat.add_mul];exact this.2
theorem FC {t e : TypeId} {x yh ym : Operand} {lo : Option Operand} {kh km : IntKind} (hr : ROK base ι S a w st) (ho : o.op = .slice t x lo (some yh) (some ym)) (ht : P.underlying t = some (.slice e)) (hk : tOk P e = true)
 (hx : eA (ae st.fr x) = .emp ∨ ∃ sz rows,eA (ae st.fr x) = .sl sz rows) (hl : cM (lo.map (ae st.fr)) 0 = some 0) (hh : ae st.fr yh = .v (.int kh 0)) (hm : ae st.fr ym = .v (.int km 0)) (k : K .emp st.h) : bk P o base ι S a w st K:=by
 have rx:=(hr.eval x).eA
 have rh:=hr.eval yh
 have rm:=hr.eval ym
 rw [hh,bL] at rh
 rw [hm,bL] at rm
 obtain ⟨b,len,cap,ev⟩ : ∃ b len cap,a.eval x = .slice b len cap:=by
  rcases hx with hx|⟨sz,rows,hx⟩
  ·rw [hx,Rep] at rx;obtain ⟨b,e⟩:=rx;exact ⟨b,0,0,e⟩
  ·rw [hx,Rep] at rx;obtain ⟨b,cap,e,_⟩:=rx;exact ⟨b,_,cap,e⟩
 have hb:=pZ (P:=P) (len:=len) (cap:=cap) hr.eval hl rh rm (Int.le_refl _) (Int.le_refl _) (Int.le_refl _) (by omega)
 refine aM hr (u:=.slice b 0 0) ?_ (by rw [Rep];exact ⟨b,rfl⟩) k
 simp only [execOp,ho,ev,Option.map_some]
 exact cV (by simp only [Instr.sliceAt,Sem.run_bind,run_underlying ht,Result.andThen_ok,Instr.slice,hb,cn hk,Sem.run_pure];rfl)

theorem L5 {c : Call} {t e : TypeId} {x : Operand} {l k : Nat} (hr : ROK base ι S a w st) (ho : o.op = .call c) (hc : c.callee = .builtin .cap) (hat : c.argTypes[0]? = some t) (hax : c.args[0]? = some x) (ht : P.underlying t = some (.slice e)) (hx : ae st.fr x = .v (.slice none l k)) (h : K (int k) st.h) : bk P o base ι S a w st K:=by
 have rx:=hr.eval x
 rw [hx,bL] at rx
 have hax' : (c.args.map a.eval)[0]? = some (a.eval x):=by simp [hax]
 refine aM hr (u:=.int .i64 k) (gW (s:=Builtin.cap_ c.argTypes o.type (c.args.map a.eval)) ho hc (fun _=>rfl) ?_) (by simp) h
 simp only [Builtin.cap_,hat,hax',Sem.run_bind,run_underlying ht,Result.andThen_ok,rx,Sem.run_pure,goInt]

omit [Laid] in
theorem qy {t tx ty e : TypeId} {i : TypeInfo} {z : Value} {q k : IntKind} (w : World) (ht : P.underlying t = some (.slice e)) (hk : P.underlying tx = some (.int q)) (hi : P.info? e = some i) (hz : i.zero = some z) (hzs : z.cells.size = i.size) (hs0 : 0 < i.size) (b : Option Addr) (n : Nat) (hn : 0 < n)
 (h63 : n ≤ maxLen) (hfit : n * i.bytes ≤ 281474976710656) :
 (Builtin.append_ #[t,tx] ty #[.slice b 0 0,.int k n]).run P w =
  .ok (.slice (some ⟨w.heap.size,0,none⟩) n (grownCap w n 0 e)) (w.drew.alloc (.cells (Builtin.zeroCells z.cells n ++ Builtin.zeroCells z.cells (grownCap w n 0 e - n)) e)):=by
 have h63' : n ≤ 9223372036854775807:=h63
 have hw : IntKind.i64.wrap (n : Int) = n:=IntWalk.i64_in _ ⟨by omega,by omega⟩
 have e0 : ¬ n ≤ 0:=by omega
 have h1 : ¬ ((n : Int) < 0):=by omega
 have h2 : ¬ ((n : Int) * (i.bytes : Int) > 281474976710656):=by
  have : ((n * i.bytes : Nat) : Int) ≤ 281474976710656:=by omega
  rw [Int.natCast_mul] at this;omega
 have h3 : ¬ (9223372036854775807 < (n : Int)):=by omega
 have hcap : Builtin.nextslicecap n 0 = n:=by simp [Builtin.nextslicecap,hn]
 have h4 : ¬ (281474976710656 < n * i.bytes):=by omega
 have h5 : ¬ (n * i.size = 0):=by
  have:=Nat.mul_pos hn hs0;omega
 have hfc : ∀ w : World,(Builtin.firstCells i.size 0 (.slice b 0 0)).run P w = .ok #[] w:=fun w=>by
  cases b with
  | none=>exact run_firstCells_none w _ 0 0 0
  | some b=>exact run_firstCells_some w _ 0 b 0 0 [] (by simp) (by simp)
 simp [Builtin.append_,run_underlying ht,run_underlying hk,sizeOf,typeInfo,zeroValue,hi,hz,asInt,asIntOf,hw,h1,h2,e0,hn,h3,hcap,h4,h5,Question.forced,hfc,newRow,grownCap]
 intro h0;omega
theorem L2 {c : Call} {t tx e : TypeId} {x y : Operand} {z : AV} {q k : IntKind} {n : Nat} (hr : ROK base ι S a w st) (ho : o.op = .call c) (hc : c.callee = .builtin .append) (hat : c.argTypes.toList = [t,tx]) (hax : c.args.toList = [x,y]) (ht : P.underlying t = some (.slice e)) (htx : P.underlying tx = some (.int q))
 (hz : cU P e = some z) (hk : zok P e = true) (hs0 : 0 < P.cellsOf e) (hx : nle (ae st.fr x) = .emp) (hy : ae st.fr y = .v (.int k n)) (hn : 0 < n) (hm : n ≤ maxLen) (hfit : n * dA P e ≤ 140737488355328)
 (h : K (.own st.h.length 0 n (P.cellsOf e)) (st.h ++ [.blk ⟨e,fp n (bc z),true⟩])) : bk P o base ι S a w st K:=by
 have hty : c.argTypes = #[t,tx]:=by apply Array.ext';simpa using hat
 have hag : c.args.map a.eval = #[a.eval x,a.eval y]:=by apply Array.ext';simp [hax]
 obtain ⟨i,u,vs,hi,hu,rfl,euc,hvl,hce,hbe,rz⟩:=kF hk hz
 have rx:=(hr.eval x).nle
 rw [hx,Rep] at rx
 obtain ⟨b,ex⟩:=rx
 have ry:=hr.eval y
 rw [hy,bL] at ry
 have hzs : u.cells.size = i.size:=by rw [euc];simpa using hvl
 have hrun:=qy (P:=P) (ty:=o.type) (k:=k) w ht htx hi hu hzs (by rw [← hce];exact hs0) b n hn hm (by rw [← hbe];omega)
 have hge:=grownCap_ge w n 0 e
 have hcm:=grownCap_le_maxLen w n 0 e hm
 have r0:=nw (rz ι S w) n (n * P.cellsOf e) (by rw [(rz ι S w).length,hvl,hce])
 have hzc : Builtin.zeroCells u.cells n = madeCells vs.toArray (n * P.cellsOf e):=by
  rw [euc];unfold Builtin.zeroCells madeCells;simp only [List.size_toArray,hvl,hce]
 have hsz : (madeCells vs.toArray (n * P.cellsOf e)).size = n * P.cellsOf e:=by simp [madeCells]
 have hsz2 : (Builtin.zeroCells u.cells (grownCap w n 0 e - n)).size = (grownCap w n 0 e - n) * P.cellsOf e:=by rw [size_zeroCells,hzs,hce]
 refine l4 (w1:=w.drew) (cells:=Builtin.zeroCells u.cells n ++ Builtin.zeroCells u.cells (grownCap w n 0 e - n)) (vs:=(madeCells vs.toArray (n * P.cellsOf e)).toList) (more:=(Builtin.zeroCells u.cells (grownCap w n 0 e - n)).toList) (fz:=(0,0)) (c:=grownCap w n 0 e) hr (.inr rfl) ?_ (by rw [hzc];apply Array.ext';simp) r0 (fun o _=>by simp) hge hcm ?_ h
 ·exact gW (s:=Builtin.append_ c.argTypes o.type (c.args.map a.eval)) ho hc (fun cs=>rfl) (by rw [hty,hag,ex,ry];exact hrun)
 ·rw [Array.length_toList,Array.length_toList,hsz,hsz2,← Nat.add_mul]
  exact Nat.le_of_eq (by congr 1;omega)
theorem L0 {c : Call} {t tx e e' : TypeId} {x y : Operand} {sz' : Nat} (hr : ROK base ι S a w st) (ho : o.op = .call c) (hc : c.callee = .builtin .append) (hat : c.argTypes.toList = [t,tx]) (hax : c.args.toList = [x,y]) (ht : P.underlying t = some (.slice e)) (htx : P.underlying tx = some (.slice e')) (hk : zok P e = true)
 (hx : (∃ id off len sz,ae st.fr x = .own id off len sz) ∨ nle (ae st.fr x) = .emp) (hs : ej st.h sz' (ae st.fr y) = some []) (h : K (ae st.fr x) st.h) : bk P o base ι S a w st K:=by
 have hty : c.argTypes = #[t,tx]:=by apply Array.ext';simpa using hat
 have hag : c.args.map a.eval = #[a.eval x,a.eval y]:=by apply Array.ext';simp [hax]
 have rx:=hr.eval x
 have rx':=rx
 obtain ⟨ad,cap,vs,ey,_,rl,hfl,_⟩:=l8 hr.hp (hr.eval y) hs
 obtain ⟨a',len,cap',evx,c2⟩ : ∃ a' len cap',a.eval x = .slice a' len cap' ∧ len ≤ cap':=by
  rcases hx with ⟨id,off,len,sz,hx⟩|hx
  ·rw [hx,Rep] at rx
   obtain ⟨b,a',cap',nn,ty,c1,evx,c2,_⟩:=rx
   exact ⟨a',len,cap',evx,c2⟩
  ·have rn:=(hr.eval x).nle
   rw [hx,Rep] at rn
   obtain ⟨a',e⟩:=rn
   exact ⟨a',0,0,e,Nat.le_refl _⟩
 obtain ⟨i,u,hi,hu,hzs,hce,hbe⟩:=iT hk
 refine aM hr (u:=a.eval x) ?_ rx' h
 refine gW (s:=Builtin.append_ c.argTypes o.type (c.args.map a.eval)) ho hc (fun cs=>rfl) ?_
 rw [hty,hag,evx,ey]
 have hfc : (Builtin.firstCells i.size 0 (.slice ad 0 cap)).run P w = .ok #[] w:=by
  cases ad with
  | none=>exact run_firstCells_none w _ 0 0 cap
  | some b=>exact run_firstCells_some w _ 0 b 0 cap [] (by simp) (by simp)
 cases a' with
 | none=>simp [Builtin.append_,run_underlying ht,run_underlying htx,sizeOf,typeInfo,hi,Builtin.lenOf,c2,hfc]
 | some b' => simp [Builtin.append_,run_underlying ht,run_underlying htx,sizeOf,typeInfo,hi,Builtin.lenOf,c2,hfc,storeCells]

theorem Fu {c : Call} {t tx e : TypeId} {x y : Operand} {id off len n : Nat} {blk : Blk} {rows : List (List AV)} (hr : ROK base ι S a w st) (ho : o.op = .call c) (hc : c.callee = .builtin .copy) (hat : c.argTypes.toList = [t,tx]) (hax : c.args.toList = [x,y]) (ht : P.underlying t = some (.slice e)) (hk : tOk P e = true)
 (hx : ae st.fr x = .own id off len (P.cellsOf e)) (hl : 0 < len) (hb : st.h[id]? = some (.blk blk)) (hw : blk.wr = true) (hfit : off + len * P.cellsOf e ≤ blk.cells.length) (hs : ej st.h (P.cellsOf e) (ae st.fr y) = some rows) (hro : rows.all (dJ (P.cellsOf e)) = true) (hn : n = Nat.min rows.length len)
 (h : K (int n) (st.h.set id (.blk { blk with cells:=cx blk.cells off (rows.take n).flatten }))) : bk P o base ι S a w st K:=by
 have hty : c.argTypes = #[t,tx]:=by apply Array.ext';simpa using hat
 have hag : c.args.map a.eval = #[a.eval x,a.eval y]:=by apply Array.ext';simp [hax]
 have hh:=hr.hp
 obtain ⟨ad,cap,vs,ey,hml,rl,hfl,hcell⟩:=l8 hh (hr.eval y) hs
 obtain ⟨hrl,hsc⟩:=Fm hro
 have rx:=hr.eval x
 rw [hx,Rep] at rx
 obtain ⟨b,a',cap',nn,ty,c1,evx,c2,c3,c4,c5,c6⟩:=rx
 have ha' : a' = some ⟨b,off,none⟩:=by
  rcases c4 with c4|c4
  ·omega
  ·exact c4
 subst ha'
 have hn1 : n ≤ rows.length:=by rw [hn];exact Nat.min_le_left _ _
 have hn2 : n ≤ len:=by rw [hn];exact Nat.min_le_right _ _
 have hrl' : ∀ r ∈ rows.take n,r.length = P.cellsOf e:=fun r q=>hrl r (List.mem_of_mem_take q)
 have htl : (rows.take n).flatten.length = n * P.cellsOf e:=by rw [gI hrl',List.length_take,Nat.min_eq_left hn1]
 have hpre : (rows.take n).flatten = rows.flatten.take (n * P.cellsOf e):=by
  have e1:=congrArg List.flatten (List.take_append_drop n rows)
  rw [List.flatten_append] at e1
  rw [← e1,← htl]
  simp
 have r1 : au ι S w (rows.take n).flatten (vs.take (n * P.cellsOf e)):=by rw [hpre];exact rl.take _
 have one : ∀ u ∈ vs.take (n * P.cellsOf e),u.oneCell' = true:=fun u hu=>oo rl hsc u (List.mem_of_mem_take hu)
 have hmul : n * P.cellsOf e ≤ len * P.cellsOf e:=Nat.mul_le_mul_right _ hn2
 obtain ⟨w',k1,k2,k3⟩:=jA (P:=P) (vs.take (n * P.cellsOf e)) (rows.take n).flatten w st.h hh hb hw c1 off 0 (by omega) r1 one
 rw [Nat.add_zero] at k3
 have hvl : (vs.take (n * P.cellsOf e)).length = n * P.cellsOf e:=by rw [← r1.length,htl]
 have hfc : (Builtin.firstCells (P.cellsOf e) n (.slice ad rows.length cap)).run P w = .ok (vs.take (n * P.cellsOf e)).toArray w:=by
  rcases hcell with ⟨rfl,rfl,rfl⟩|⟨bb,rfl,hcell⟩
  ·have : n = 0:=by simpa using hn1
   subst this
   simpa using run_firstCells_none (P:=P) w (P.cellsOf e) 0 0 cap
  ·refine run_firstCells_some w _ n bb _ cap _ hvl fun j v q=>hcell j v ?_
   rw [List.getElem?_take] at q
   split at q
   ·exact q
   ·cases q
 refine cI hr (u:=.int .i64 n) ?_ k2 (by simp) k3 (by simp) h
 refine gW (s:=Builtin.copy_ c.argTypes o.type (c.args.map a.eval)) ho hc (fun cs=>rfl) ?_
 rw [hty,hag,evx,ey]
 have hlen : (Builtin.lenOf (.slice ad rows.length cap)).run P w = .ok rows.length w:=rfl
 simp only [Builtin.copy_,List.getElem?_toArray,List.getElem?_cons_zero,List.getElem?_cons_succ,Sem.run_bind,run_underlying ht,Result.andThen_ok,hlen,cn hk,← hn,hfc,k1,Sem.run_pure,goInt]
end

/-! ### As the kernel computes them -/
noncomputable def tr (n : Nat) (x : AV) (lo : Option AV) (hi mx : AV) : Option (AV × Option aa) :=
 match eLo lo,hi,mx with
 | some a,.v (.int _ (.ofNat b)),.v (.int _ (.ofNat m))=>(match Nat.ble a b,Nat.ble b m with
   | true,true=>(match eA x with
     | .sl sz rows=>(match m with
       | 0=>some (.emp,none)
       | m + 1=>(match Nat.beq sz n,Nat.ble (m + 1) (dh rows) with|true,true=>some (.sl sz (gS a (iG b rows)),none)|_,_=>none))
     | .emp=>(match m with|0=>some (.emp,none)|_=>none)
     | _=>none)
   | _,_=>none)
 | _,_,_=>none
noncomputable def rF (x : AV) : Option (AV × Option aa):=match x with|.v (.slice none _ k)=>some (int (Int.ofNat k),none)|_=>none
noncomputable def uX (e sz bytes : Nat) (z x y : AV) (h : aa) : Option (AV × Option aa) :=
 match nle x,y with
 | .emp,.v (.int _ (.ofNat n))=>(match Nat.ble 1 n,nB bytes n with
   | true,true=>some (.own (dh h) 0 n sz,some (gz h [.blk ⟨e,fp n (bc z),true⟩]))
   | _,_=>none)
 | _,_=>none
noncomputable def u3 (sz : Nat) (x y : AV) (h : aa) : Option (AV × Option aa) :=
 match x,lF h sz y with
 | .own id off len sz',some rows=>(match fg h id with
   | some (.blk b)=>(match Nat.beq sz' sz,Nat.ble 1 len,b.wr,ie (off + len * sz) b.cells,js (xu sz) rows with
     | true,true,true,true,true=>(match Nat.ble (dh rows) len with
       | true=>some (int (Int.ofNat (dh rows)),some (lC h id (.blk { b with cells:=mr off (ng rows) b.cells })))
       | false=>some (int (Int.ofNat len),some (lC h id (.blk { b with cells:=mr off (ng (iG len rows)) b.cells }))))
     | _,_,_,_,_=>none)
   | _=>none)
 | _,_=>none
end Go.Aw
end

section
namespace Go.Aw
open Go Go.RowKit
variable [Laid]

/-! ### Slots: three steps of eight;what lies behind is a list -/
structure N8 (α : Type) where
 (a b c d e f g h : α)
structure jq (α β : Type) where
 g : α → β
 s : (β → β) → α → α
section
variable {α : Type}
noncomputable def at0 (T : N8 α) : α:=N8.rec (motive:=fun _=>α) (fun a b c d e f g h=>a) T
noncomputable def at1 (T : N8 α) : α:=N8.rec (motive:=fun _=>α) (fun a b c d e f g h=>b) T
noncomputable def at2 (T : N8 α) : α:=N8.rec (motive:=fun _=>α) (fun a b c d e f g h=>c) T
noncomputable def at3 (T : N8 α) : α:=N8.rec (motive:=fun _=>α) (fun a b c d e f g h=>d) T
noncomputable def at4 (T : N8 α) : α:=N8.rec (motive:=fun _=>α) (fun a b c d e f g h=>e) T
noncomputable def at5 (T : N8 α) : α:=N8.rec (motive:=fun _=>α) (fun a b c d e f g h=>f) T
noncomputable def at6 (T : N8 α) : α:=N8.rec (motive:=fun _=>α) (fun a b c d e f g h=>g) T
noncomputable def at7 (T : N8 α) : α:=N8.rec (motive:=fun _=>α) (fun a b c d e f g h=>h) T
noncomputable def up0 (k : α → α) (T : N8 α) : N8 α:=N8.rec (motive:=fun _=>N8 α) (fun a b c d e f g h=>.mk (k a) b c d e f g h) T
noncomputable def up1 (k : α → α) (T : N8 α) : N8 α:=N8.rec (motive:=fun _=>N8 α) (fun a b c d e f g h=>.mk a (k b) c d e f g h) T
noncomputable def up2 (k : α → α) (T : N8 α) : N8 α:=N8.rec (motive:=fun _=>N8 α) (fun a b c d e f g h=>.mk a b (k c) d e f g h) T
noncomputable def up3 (k : α → α) (T : N8 α) : N8 α:=N8.rec (motive:=fun _=>N8 α) (fun a b c d e f g h=>.mk a b c (k d) e f g h) T
noncomputable def up4 (k : α → α) (T : N8 α) : N8 α:=N8.rec (motive:=fun _=>N8 α) (fun a b c d e f g h=>.mk a b c d (k e) f g h) T
noncomputable def up5 (k : α → α) (T : N8 α) : N8 α:=N8.rec (motive:=fun _=>N8 α) (fun a b c d e f g h=>.mk a b c d e (k f) g h) T
noncomputable def up6 (k : α → α) (T : N8 α) : N8 α:=N8.rec (motive:=fun _=>N8 α) (fun a b c d e f g h=>.mk a b c d e f (k g) h) T
noncomputable def up7 (k : α → α) (T : N8 α) : N8 α:=N8.rec (motive:=fun _=>N8 α) (fun a b c d e f g h=>.mk a b c d e f g (k h)) T
noncomputable def jC (n : Nat) : jq (N8 α) α :=
 match n with
 | 0=>.mk at0 up0
 | 1=>.mk at1 up1
 | 2=>.mk at2 up2
 | 3=>.mk at3 up3
 | 4=>.mk at4 up4
 | 5=>.mk at5 up5
 | 6=>.mk at6 up6
 | _=>.mk at7 up7
omit [Laid]
theorem qY (n : Nat) (k : α → α) (T : N8 α) : (jC n).g ((jC n).s k T) = k ((jC n).g T):=by
 cases T
 match n with
 | 0=>rfl
 | 1=>rfl
 | 2=>rfl
 | 3=>rfl
 | 4=>rfl
 | 5=>rfl
 | 6=>rfl
 | n + 7=>rfl
theorem qd (n m : Nat) (hn : n < 8) (hm : m < 8) (h : n ≠ m) (k : α → α) (T : N8 α) : (jC n).g ((jC m).s k T) = (jC n).g T:=by
 cases T
 obtain rfl|rfl|rfl|rfl|rfl|rfl|rfl|rfl : n = 0 ∨ n = 1 ∨ n = 2 ∨ n = 3 ∨ n = 4 ∨ n = 5 ∨ n = 6 ∨ n = 7:=by omega
 all_goals obtain rfl|rfl|rfl|rfl|rfl|rfl|rfl|rfl : m = 0 ∨ m = 1 ∨ m = 2 ∨ m = 3 ∨ m = 4 ∨ m = 5 ∨ m = 6 ∨ m = 7:=by omega
 all_goals first|rfl|exact absurd rfl h
end
structure Tr where
 t : N8 (N8 (N8 AV))
 r : Fr
def N8.all {α : Type} (x : α) : N8 α:=⟨x,x,x,x,x,x,x,x⟩
def Tr.lf : Tr:=⟨N8.all (N8.all (N8.all .any)),[]⟩
structure Pa where
 g : Tr → AV
 s : AV → Tr → Tr
noncomputable def dZ (p : Pa) (T : Tr) : AV:=p.g T
noncomputable def gn (p : Pa) (x : AV) (T : Tr) : Tr:=p.s x T
noncomputable def upT (k : N8 (N8 (N8 AV)) → N8 (N8 (N8 AV))) (T : Tr) : Tr:=Tr.rec (motive:=fun _=>Tr) (fun t r=>.mk (k t) r) T
noncomputable def paL (l3 : jq (N8 (N8 (N8 AV))) (N8 (N8 AV))) (l2 : jq (N8 (N8 AV)) (N8 AV)) (l1 : jq (N8 AV) AV) : Pa :=
 match l3,l2,l1 with
 | ⟨g3,s3⟩,⟨g2,s2⟩,⟨g1,s1⟩=>⟨fun T=>g1 (g2 (g3 T.t)),fun x=>upT (s3 (s2 (s1 fun _=>x)))⟩
noncomputable def paN (n : Nat) : Pa :=
 match Nat.ble n 511 with
 | true=>paL (jC (Nat.div n 64)) (jC (Nat.mod (Nat.div n 8) 8)) (jC (Nat.mod n 8))
 | false=>⟨fun T=>aL T.r n,fun x T=>⟨T.t,bK T.r n x⟩⟩
section
omit [Laid]
theorem sI (l3 : jq (N8 (N8 (N8 AV))) (N8 (N8 AV))) (l2 : jq (N8 (N8 AV)) (N8 AV)) (l1 : jq (N8 AV) AV) (T : Tr) : (paL l3 l2 l1).g T = l1.g (l2.g (l3.g T.t)):=rfl
theorem Ib (l3 : jq (N8 (N8 (N8 AV))) (N8 (N8 AV))) (l2 : jq (N8 (N8 AV)) (N8 AV)) (l1 : jq (N8 AV) AV) (x : AV) (T : Tr) : ((paL l3 l2 l1).s x T).t = l3.s (l2.s (l1.s fun _=>x)) T.t:=by cases T;rfl
theorem Ng (l3 : jq (N8 (N8 (N8 AV))) (N8 (N8 AV))) (l2 : jq (N8 (N8 AV)) (N8 AV)) (l1 : jq (N8 AV) AV) (x : AV) (T : Tr) : ((paL l3 l2 l1).s x T).r = T.r:=by cases T;rfl
theorem kV (n : Nat) (x : AV) (T : Tr) : dZ (paN n) (gn (paN n) x T) = x:=by
 unfold dZ gn paN
 split
 ·rw [sI,Ib,qY,qY,qY]
 ·show aL (bK T.r n x) n = x
  rw [bZ,if_pos rfl]
theorem gY (n m : Nat) (x : AV) (T : Tr) (h : n ≠ m) : dZ (paN n) (gn (paN m) x T) = dZ (paN n) T:=by
 unfold dZ gn paN
 split
 ·rename_i e1
  split
  ·rename_i e2
   rw [Nat.ble_eq] at e1 e2
   rw [sI,sI,Ib]
   have c1 : Nat.div n 64 = n / 64:=rfl
   have c2 : Nat.div m 64 = m / 64:=rfl
   have c3 : Nat.mod (Nat.div n 8) 8 = n / 8 % 8:=rfl
   have c4 : Nat.mod (Nat.div m 8) 8 = m / 8 % 8:=rfl
   have c5 : Nat.mod n 8 = n % 8:=rfl
   have c6 : Nat.mod m 8 = m % 8:=rfl
   rw [c1,c2,c3,c4,c5,c6]
   by_cases h3 : n / 64 = m / 64
   ·rw [h3,qY]
    by_cases h2 : n / 8 % 8 = m / 8 % 8
    ·rw [h2,qY,qd _ _ (by omega) (by omega) (by omega)]
    ·rw [qd _ _ (by omega) (by omega) h2]
   ·rw [qd _ _ (by omega) (by omega) h3]
  ·show (paL _ _ _).g _ = (paL _ _ _).g _
   rw [sI,sI]
 ·split
  ·show aL ((paL _ _ _).s x T).r n = aL T.r n
   rw [Ng]
  ·show aL (bK T.r m x) n = aL T.r n
   rw [bZ,if_neg (Ne.symm h)]
theorem tv (n : Nat) : dZ (paN n) .lf = .any:=by
 have key : ∀ {α : Type} (i : Nat) (x : α),(jC i).g (N8.all x) = x:=by
  intro α i x
  match i with
  | 0=>rfl
  | 1=>rfl
  | 2=>rfl
  | 3=>rfl
  | 4=>rfl
  | 5=>rfl
  | 6=>rfl
  | n + 7=>rfl
 unfold dZ paN
 split
 ·show (jC _).g ((jC _).g ((jC _).g (N8.all (N8.all (N8.all AV.any))))) = AV.any
  rw [key,key,key]
 ·rfl
end
def Fits (fr : Fr) (T : Tr) : Prop:=∀ t,aL fr t = dZ (paN t) T
section
omit [Laid]
theorem Fits.put {fr : Fr} {T : Tr} (h : Fits fr T) (t : Nat) (x : AV) : Fits (bK fr t x) (gn (paN t) x T):=by
 intro u
 rw [bZ]
 by_cases e : t = u
 ·subst e;rw [if_pos rfl,kV]
 ·rw [if_neg e,gY _ _ _ _ (fun q=>e q.symm)];exact h u
theorem Fits.eq {fr fr' : Fr} {T : Tr} (h : Fits fr T) (e : ja fr' fr) : Fits fr' T:=fun t=>(e t).trans (h t)
noncomputable def qX : List AV → Nat → Tr
 | [],_=>.lf
 | a :: r,i=>gn (paN i) a (qX r (i + 1))
theorem uB : ∀ (l : List AV) (i : Nat),Fits (gP l i) (qX l i)
 | [],i=>fun t=>(tv _).symm
 | a :: r,i=>by
   intro t
   rw [gP,qX]
   simp only [aL]
   by_cases e : i = t
   ·subst e;rw [if_pos rfl,kV]
   ·rw [if_neg e,gY _ _ _ _ (fun q=>e q.symm)];exact uB r (i + 1) t
end
noncomputable def dU (d : Option Pa) (x : AV) (T : Tr) : Tr:=Option.rec (motive:=fun _=>Tr) T (fun p=>gn p x T) d

/-! ### Operations -/
inductive RO where
 | t (p : Pa)
 | c (v : AV)
noncomputable def evR (T : Tr) (x : RO) : AV:=RO.rec (motive:=fun _=>AV) (fun p=>dZ p T) (fun v=>v) x
noncomputable def cO (x : Operand) : RO :=
 match x with
 | .tmp t=>.t (paN t)
 | .const v=>.c (fi v)
 | .global g=>.c (match Laid.tab g with|some cs=>.ip cs|none=>.any)
 | .func f=>.c (.fn (.func f) [] [])
theorem wq {fr : Fr} {T : Tr} (h : Fits fr T) (x : Operand) : evR T (cO x) = ae fr x:=by
 cases x with
 | tmp t=>exact (h t).symm
 | const v=>rfl
 | global g=>rfl
 | func f=>rfl

inductive ROp where
 | move (x : RO)
 | pick (c a b : RO)
 | bin (op : BinOp) (x y : RO)
 | FY (op : BinOp) (x y : RO)
 | eqA (neg : Bool) (ks : List Nat) (x y : RO)
 | not (x : RO)
 | neg (x : RO)
 | conv (k : IntKind) (x : RO)
 | HF (x : RO)
 | toBytes (e : Nat) (x : RO)
 | ofBytes (x : RO)
 | GU (x : RO) (i : Nat)
 | fld (g : Bool) (off n : Nat) (x : RO)
 | Hb (x i : RO)
 | G8 (g : Bool) (sz len : Nat) (x i : RO)
 | slS (x : RO) (lo hi : Option RO)
 | sl (n : Nat) (x : RO) (lo hi : Option RO)
 | slA (n sz : Nat) (x : RO) (lo hi : Option RO)
 | G9 (m : Nat) (x i : RO)
 | Ha (len sz : Nat) (x i : RO)
 | fad (off : Nat) (x : RO)
 | nil (row : String → TypeId → Bool) (x : RO)
 | mkI (t : TypeId) (x : RO)
 | asI (has : TypeId → Bool) (x : RO)
 | inv (lo : Bool) (row : TypeId → Option FuncId) (x : RO) (args : List RO)
 | load (g : Bool) (sz : Nat) (x : RO)
 | store (sz : Nat) (x v : RO)
 | new (t : Nat) (z : AV)
 | box (t : Nat) (x : RO)
 | build (z : AV) (ps : List (Nat × Nat × RO))
 | xg (t len sz : Nat) (z : AV) (ps : List (Nat × Nat × RO))
 | Dt (len sz : Nat) (z : AV) (ps : List (Nat × Nat × RO))
 | make (e sz bytes : Nat) (z : AV) (l c : RO)
 | func (f : Fn) (xs ys : List RO)
 | Hg (x : RO)
 | len (x : RO)
 | min (x y : RO)
 | max (x y : RO)
 | Hn (x y z : RO)
 | app (own : Bool) (e sz bytes : Nat) (x y : RO)
 | vH (own : Bool) (e bytes : Nat) (x y : RO)
 | wJ (neg : Bool) (x : RO)
 | wK (neg : Bool) (x : RO)
 | wL (neg : Bool) (x : RO)
 | call (lo : Bool) (x : RO) (args : List RO)
 | mkMap (r : Option RO)
 | tS (d : TypeDesc) (m k x : RO)
 | look (d : TypeDesc) (ok : Bool) (z : AV) (m k : RO)
 | xf (d : TypeDesc) (m k : RO)
 | rng (m : RO)
 | entry (x : RO)
 | rT (neg : Bool) (x : RO)
 | sl3 (n : Nat) (x : RO) (lo : Option RO) (hi mx : RO)
 | F0 (x : RO)
 | vI (e sz bytes : Nat) (z : AV) (x y : RO)
 | vG (own : Bool) (e sz bytes : Nat) (x y : RO)
 | copy (sz : Nat) (x y : RO)
 | bad

noncomputable def Dw (neg : Bool) (d : TypeDesc) (y : Operand) (x : RO) : ROp :=
 match d,y with
 | .interface _,.const .nilIface=>.wJ neg x
 | .pointer _,.const (.pointer none)=>.wK neg x
 | .slice _,.const (.slice none _ _)=>.wL neg x
 | _,_=>.bad
noncomputable def cOp (P : Program) (own : Bool) (op : Op) : ROp :=
 match op with
 | .move x|.assign x=>.move (cO x)
 | .pick c a b=>.pick (cO c) (cO a) (cO b)
 | .binOp op t x y _ =>
   (match cW P t with
   | true=>(match op,P.eqGuardType P.depth t,gD P 8 t with
     | .eql,false,some ks=>.eqA false ks (cO x) (cO y)
     | .neq,false,some ks=>.eqA true ks (cO x) (cO y)
     | _,_,_=>.bad)
   | false=>match P.underlying t with
     | some .bool=>.FY op (cO x) (cO y)
     | some (.int _)|some .string=>.bin op (cO x) (cO y)
     | some d=>(match op with
       | .eql=>Dw false d y (cO x)
       | .neq=>Dw true d y (cO x)
       | _=>.bad)
     | none=>.bad)
 | .unOp .not _ x=>.not (cO x)
 | .unOp .neg _ x=>.neg (cO x)
 | .unOp .xor t x=>(match P.underlying t with|some (.int k)=>.bin .xor (.c (.v (.int k (sH k)))) (cO x)|_=>.bad)
 | .convert s d x =>
   (match P.underlying s,P.underlying d with
   | some (.int _),some (.int k)=>.conv k (cO x)
   | some .string,some .string=>.HF (cO x)
   | some .string,some (.slice e)=>(match oQ P e with|true=>.toBytes e (cO x)|false=>.bad)
   | some (.slice e),some .string=>(match oQ P e with|true=>.ofBytes (cO x)|false=>.bad)
   | _,_=>.bad)
 | .extract x i=>.GU (cO x) i
 | .field t x i =>
   (match P.underlying t with
   | some (.struct fs)=>(match fs[i]? with
     | some f=>(match tOk P f.type with|true=>.fld (cW P f.type) f.offset (P.cellsOf f.type) (cO x)|false=>.bad)
     | none=>.bad)
   | _=>.bad)
 | .index t x i =>
   (match P.underlying t with
   | some .string=>.Hb (cO x) (cO i)
   | some (.array n e)=>(match tOk P e with|true=>.G8 (cW P e) (P.cellsOf e) n (cO x) (cO i)|false=>.bad)
   | _=>.bad)
 | .slice t x lo hi none =>
   (match P.underlying t with
   | some .string=>.slS (cO x) (lo.map cO) (hi.map cO)
   | some (.slice e)=>(match tOk P e with|true=>.sl (P.cellsOf e) (cO x) (lo.map cO) (hi.map cO)|false=>.bad)
   | some (.array n e)=>(match tOk P e with|true=>.slA n (P.cellsOf e) (cO x) (lo.map cO) (hi.map cO)|false=>.bad)
   | _=>.bad)
 | .indexAddr t x i =>
   (match P.underlying t with
   | some (.slice e)=>(match tOk P e with|true=>.G9 (P.cellsOf e) (cO x) (cO i)|false=>.bad)
   | some (.array n e)=>(match tOk P e with|true=>.Ha n (P.cellsOf e) (cO x) (cO i)|false=>.bad)
   | _=>.bad)
 | .fieldAddr t x i =>
   (match P.underlying t with
   | some (.struct fs)=>(match fs[i]? with
     | some f=>(match P.cellsOf f.type != 0 && tOk P f.type with|true=>.fad f.offset (cO x)|false=>.bad)
     | none=>.bad)
   | _=>.bad)
 | .nilCheck x=>.nil (fun n t=>(ml P n t).isSome) (cO x)
 | .makeInterface t x=>(match P.concrete t with|true=>.mkI t (cO x)|false=>.bad)
 | .typeAssert x _ asserted true=>.asI (B9 P asserted) (cO x)
 | .load t x=>(match tOk P t with|true=>.load (cW P t) (P.cellsOf t) (cO x)|false=>.bad)
 | .store t x v=>(match tOk P t with|true=>.store (P.cellsOf t) (cO x) (cO v)|false=>.bad)
 | .alloc t=>(match cU P t with|some z=>.new t z|none=>.bad)
 | .box t x=>.box t (cO x)
 | .build t parts =>
   (match P.underlying t,cU P t with
   | some (.struct fs),some z=>(match fs.toList.all (fun f=>tOk P f.type) && parts.toList.all (fun p=>(fs[p.1]?).isSome) with
     | true=>.build z (parts.toList.map fun p=>(((fs[p.1]?).map (·.offset)).getD 0,((fs[p.1]?).map (fun f=>P.cellsOf f.type)).getD 0,cO p.2))
     | false=>.bad)
   | some (.array _ e),some z=>(match tOk P e with|true=>.build z (parts.toList.map fun p=>(p.1 * P.cellsOf e,P.cellsOf e,cO p.2))|false=>.bad)
   | _,_=>.bad)
 | .buildSlice t len parts =>
   (match P.underlying t with
   | some (.slice e)=>(match cU P e,zok P e && tOk P e && decide (len * P.cellsOf e ≤ 16777216) && decide (len ≤ 16777216) with
     | some z,true=>(match own with
       | true=>.Dt len (P.cellsOf e) z (parts.toList.map fun p=>(p.1 * P.cellsOf e,P.cellsOf e,cO p.2))
       | false=>.xg e len (P.cellsOf e) z (parts.toList.map fun p=>(p.1 * P.cellsOf e,P.cellsOf e,cO p.2)))
     | _,_=>.bad)
   | _=>.bad)
 | .makeSlice t l c =>
   (match P.underlying t with
   | some (.slice e)=>(match cU P e,zok P e && decide (0 < P.cellsOf e) with
     | some z,true=>.make e (P.cellsOf e) (dA P e) z (cO l) (cO c)
     | _,_=>.bad)
   | _=>.bad)
 | .makeFunc f xs ys=>.func f (xs.toList.map cO) (ys.toList.map cO)
 | .call c =>
   (match c.callee with
   | .builtin .len=>(match c.argTypes[0]?,c.args[0]? with
     | some t,some x=>(match P.underlying t with
       | some .string=>.Hg (cO x)
       | some (.slice _)=>.len (cO x)
       | _=>.bad)
     | _,_=>.bad)
   | .builtin .min=>(match c.args.toList with|[x,y]=>.min (cO x) (cO y)|_=>.bad)
   | .builtin .max=>(match c.args.toList with|[x,y]=>.max (cO x) (cO y)|[x,y,z]=>.Hn (cO x) (cO y) (cO z)|_=>.bad)
   | .builtin .append=>(match c.argTypes.toList,c.args.toList with
     | [t,tx],[x,y]=>(match P.underlying t,P.underlying tx with
       | some (.slice e),some (.slice _)=>(match zok P e with|true=>.app own e (P.cellsOf e) (dA P e) (cO x) (cO y)|false=>.bad)
       | some (.slice e),some .string=>(match zok P e && P.cellsOf e == 1 with|true=>.vH own e (dA P e) (cO x) (cO y)|false=>.bad)
       | _,_=>.bad)
     | _,_=>.bad)
   | .value x=>.call own (cO x) (c.args.toList.map cO)
   | .invoke x name=>.inv own (ml P name) (cO x) (c.args.toList.map cO)
   | _=>.bad)
 | _=>.bad

def same (v : Option AV) : Option (AV × Option aa):=match v with|some v=>some (v,none)|none=>none
def eo (v : Option (AV × aa)) : Option (AV × Option aa):=match v with|some p=>some (p.1,some p.2)|none=>none
abbrev aw:=FuncId → List AV → aa → Option (AV × Option aa)
noncomputable def oC (T : Tr) (ps : List (Nat × Nat × RO)) : List (Nat × Nat × AV):=ps.map fun p=>(p.1,p.2.1,evR T p.2.2)
noncomputable def BA (own : Bool) (e sz bytes : Nat) (x : AV) (src : Option (List (List AV))) (h : aa) : Option (AV × Option aa) :=
 match src with
 | some []=>(match x with
   | .own a b c d=>some (.own a b c d,none)
   | x=>(match own,nle x with
     | true,.emp=>some (x,none)
     | _,_=>eo (il own e sz bytes x (some []) h)))
 | src=>eo (il own e sz bytes x src h)
noncomputable def eR (call : aw) (o : ROp) (T : Tr) (h : aa) : Option (AV × Option aa) :=
 match o with
 | .move x=>some (evR T x,none)
 | .pick c a b=>same (vf (evR T c) (evR T a) (evR T b))
 | .bin op x y=>same (wc op (evR T x) (evR T y))
 | .FY op x y=>same (uY op (evR T x) (evR T y))
 | .eqA neg ks x y=>same (BE neg ks (evR T x) (evR T y))
 | .not x=>same (BQ (evR T x))
 | .neg x=>same (BP (evR T x))
 | .conv k x=>same (uZ k (evR T x))
 | .HF x=>same (vg (evR T x))
 | .toBytes e x=>eo (m8 e (evR T x) h)
 | .ofBytes x=>same (m7 (evR T x) h)
 | .GU x i=>same (u5 i (evR T x))
 | .fld g off n x=>same (BG g off n (evR T x))
 | .Hb x i=>same (va (evR T x) (evR T i))
 | .G8 g sz len x i=>same (u6 g sz len (evR T x) (evR T i))
 | .slS x lo hi=>same (BV (evR T x) (lo.map (evR T)) (hi.map (evR T)))
 | .sl n x lo hi=>same (eSl n (evR T x) (lo.map (evR T)) (hi.map (evR T)))
 | .slA n sz x lo hi=>same (BU n sz (evR T x) (lo.map (evR T)) (hi.map (evR T)) h)
 | .G9 m x i=>same (u7 m (evR T x) (evR T i))
 | .Ha len sz x i=>same (u9 len sz (evR T x) (evR T i))
 | .fad off x=>same (BF off (evR T x))
 | .nil row x=>same (ve row (evR T x))
 | .mkI t x=>some (.ifc t (evR T x),none)
 | .asI has x=>same (BB has (evR T x))
 | .inv _ row x args=>(match evR T x with
   | .ifc t v=>(match row t with|some f=>call f (v :: args.map (evR T)) h|none=>none)
   | _=>none)
 | .load g sz x=>same (rG g sz (evR T x) h)
 | .store sz x v=>(match rI sz (evR T x) (evR T v) h with|some h' => some (.v undef,some h')|none=>none)
 | .new t z=>eo (eNew t z h)
 | .box t x=>eo (eNew t (evR T x) h)
 | .build z ps=>same (rE z (oC T ps))
 | .xg t len sz z ps=>eo (vd t len sz z (oC T ps) h)
 | .Dt len sz z ps=>same (rH len sz z (oC T ps))
 | .make e sz bytes z l c=>eo (vc e sz bytes z (evR T l) (evR T c) h)
 | .func f xs ys=>some (.fn f (xs.map (evR T)) (ys.map (evR T)),none)
 | .Hg x=>same (vb (evR T x))
 | .len x=>same (BK (evR T x))
 | .min x y=>same (BO (evR T x) (evR T y))
 | .max x y=>same (ox (evR T x) (evR T y))
 | .Hn x y z=>same (match ox (evR T x) (evR T y) with|some u=>ox u (evR T z)|none=>none)
 | .app own e sz bytes x y=>eo (il own e sz bytes (evR T x) (lF h sz (evR T y)) h)
 | .vH own e bytes x y=>eo (il own e 1 bytes (evR T x) (qC (evR T y)) h)
 | .wJ neg x=>(match pF (evR T x) with|some b=>some (bool (fo neg b),none)|none=>none)
 | .wK neg x=>(match nz (evR T x) with|some b=>some (bool (fo neg b),none)|none=>none)
 | .wL neg x=>(match pG (evR T x) with|some b=>some (bool (fo neg b),none)|none=>none)
 | .call _ x args=>(match evR T x with
   | .fn (.func f) a b=>call f (a ++ args.map (evR T) ++ b) h
   | _=>none)
 | .mkMap r=>wg (r.map (evR T)) h
 | .tS d m k x=>BN d (evR T m) (evR T k) (evR T x) h
 | .look d ok z m k=>BM d ok z (evR T m) (evR T k) h
 | .xf d m k=>BL d (evR T m) (evR T k) h
 | .rng m=>BT (evR T m) h
 | .entry x=>BD (evR T x) h
 | .rT neg x=>wi neg (evR T x)
 | .sl3 n x lo hi mx=>tr n (evR T x) (lo.map (evR T)) (evR T hi) (evR T mx)
 | .F0 x=>rF (evR T x)
 | .vI e sz bytes z x y=>uX e sz bytes z (evR T x) (evR T y) h
 | .vG own e sz bytes x y=>BA own e sz bytes (evR T x) (lF h sz (evR T y)) h
 | .copy sz x y=>u3 sz (evR T x) (evR T y) h
 | .bad=>none
noncomputable def Nc (o : ROp) : Bool :=
 match o with
 | .call lo _ _=>lo
 | .inv lo _ _ _=>lo
 | .toBytes .. | .store .. | .new .. | .box .. | .xg .. | .make .. | .app .. | .vH .. | .mkMap .. | .tS .. | .xf .. | .rng .. | .vI .. | .vG .. | .copy .. => true
 | _=>false

def DQ (P : Program) (f : FuncId) (args : List AV) (h : aa) (K : AV → aa → Prop) : Prop :=
 cq P f = false ∧ ∀ base ι S w vs,au ι S w args vs → HOK base ι S w h → ∃ v r w' ι' S' h',(callFunc f vs.toArray).run P w = .ok (.value v) w' ∧ Evo ι.length base ι S w ι' S' w' ∧ Rep ι' S' w' r v ∧ HOK base ι' S' w' h' ∧ h.length ≤ h'.length ∧ K r h'
def Io (P : Program) (f : FuncId) (args : List AV) (h : aa) (K : AV → aa → Prop) : Prop:=(cq P f = true ∧ ct P f args h K) ∨ DQ P f args h K
def aW (P : Program) (call : aw) : Prop :=
 ∀ f args h v oh,call f args h = some (v,oh) → Io P f args h fun r hh=>r = v ∧ hh = oh.getD h
theorem Nq {P : Program} {o : Oper} {base : Nat} {ι : List Ix} {S : aJ} {a : Act} {w : World} {st : St} {K : AV → aa → Prop} {c : Call} {x : Operand} {f : FuncId} {first cap : List AV} (hr : ROK base ι S a w st) (ho : o.op = .call c) (hc : c.callee = .value x) (hx : ae st.fr x = .fn (.func f) first cap)
 (h : DQ P f (first ++ c.args.toList.map (ae st.fr) ++ cap) st.h K) : bk P o base ι S a w st K:=by
 have hv:=hr.eval x
 rw [hx,Rep] at hv
 obtain ⟨vs,us,ev,r1,r2⟩:=hv
 have hargs : au ι S w (first ++ c.args.toList.map (ae st.fr) ++ cap) (vs ++ c.args.toList.map a.eval ++ us):=(r1.append (au.vh hr _)).append r2
 obtain ⟨v,r,w',ι',S',h',e1,hE,rv,hH,hl,k⟩:=h.2 base ι S w _ hargs hr.hp
 have hrun : (execOp a.eval o).run P w = .ok (.value v) w':=by
  have e2 : (vs.toArray ++ c.args.map a.eval) ++ us.toArray = (vs ++ c.args.toList.map a.eval ++ us).toArray:=by apply Array.ext';simp
  simp only [execOp,ho,resolve,hc,Sem.run_bind,ev,Deferred.ofValue,Sem.run_pure,Result.andThen_ok,invoke,e2]
  exact e1
 exact cI hr hrun hE rv hH hl k

omit [Laid] in
theorem E6 {P : Program} {name : String} {t : TypeId} {f : FuncId} (h : ml P name t = some f) : cq P f = true:=(qz (w:=default) (.bool true) h).1

section
variable {P : Program} {call : aw} {own : Bool} {op : Op} {T : Tr} {h : aa} {v : AV} {oh : Option aa} {fr : Fr} {K : AV → aa → Prop}
omit [Laid] in
theorem bJ {x : Option AV} (e : same x = some (v,oh)) : x = some v ∧ oh = none:=by
 unfold same at e
 split at e
 ·cases e;exact ⟨rfl,rfl⟩
 ·cases e
omit [Laid] in
theorem fP {x : Option (AV × aa)} (e : eo x = some (v,oh)) : ∃ h',x = some (v,h') ∧ oh = some h':=by
 unfold eo at e
 split at e
 ·rename_i p;cases e;exact ⟨p.2,rfl,rfl⟩
 ·cases e

set_option maxHeartbeats 1000000 in
theorem MD (hc : aW P call) (hf : ∀ x,evR T (cO x) = ae fr x) (e : eR call (cOp P own op) T h = some (v,oh)) (hk : K v (oh.getD h)) :
 bg P own (ae fr) h op K ∨ ∀ (n : Nat) (o : Oper),o.op = op → fv P n h o fr K:=by
 have hl : ∀ l : List Operand,(l.map cO).map (evR T) = l.map (ae fr):=fun l=>by rw [List.map_map];exact List.map_congr_left fun x _=>hf x
 have ho : ∀ o : Option Operand,(o.map cO).map (evR T) = o.map (ae fr):=fun o=>by cases o <;> simp [hf]
 have hp : ∀ (l : List (Nat × Operand)) (f g : Nat → Nat),oC T (l.map fun p=>(f p.1,g p.1,cO p.2)) = l.map fun p=>(f p.1,g p.1,ae fr p.2):=fun l f g=>by
  unfold oC;rw [List.map_map];exact List.map_congr_left fun p _=>by simp [hf]
 by_cases hcall : ∃ c x,op = .call c ∧ c.callee = .value x
 ·obtain ⟨c,x,rfl,hcal⟩:=hcall
  simp only [cOp,hcal,eR,hf,hl] at e
  split at e
  ·rename_i f first cap hx
   rcases hc _ _ _ _ _ e with ⟨hb,hA⟩|hA
   ·left
    simp only [bg,hcal]
    unfold aH
    simp only [hx]
    exact ⟨hb,hA.mono fun r hh ⟨e1,e2⟩=>by subst e1;subst e2;exact hk⟩
   ·right
    intro n o ho2 fr' base ι S a w he hr
    have hmem : ∀ y ∈ c.args,ae fr' y = ae fr y:=fun y hy=>he y (by rw [ho2];simp only [Op.operands,Call.operands];exact Array.mem_append_right _ hy)
    have hx' : ae fr' x = ae fr x:=he x (by rw [ho2];simp [Op.operands,Call.operands,hcal])
    refine Nq (st:=⟨n,fr',h⟩) hr ho2 hcal (by rw [hx'];exact hx) ?_
    have : c.args.toList.map (ae fr') = c.args.toList.map (ae fr):=List.map_congr_left fun y hy=>hmem y (by simpa using hy)
    simp only [this]
    refine ⟨hA.1,fun base ι S w vs h1 h2=>?_⟩
    obtain ⟨v',r',w',ι',S',h',q1,q2,q3,q4,q5,q6,q7⟩:=hA.2 base ι S w vs h1 h2
    subst q6;subst q7
    exact ⟨v',_,w',ι',S',_,q1,q2,q3,q4,q5,hk⟩
  ·cases e
 by_cases hinv : ∃ c x name,op = .call c ∧ c.callee = .invoke x name
 ·obtain ⟨c,x,name,rfl,hcal⟩:=hinv
  simp only [cOp,hcal,eR,hf,hl] at e
  split at e
  ·rename_i t y hx
   split at e
   ·rename_i f hrow
    left
    simp only [bg,hcal]
    unfold wD
    simp only [hx,hrow]
    rcases hc _ _ _ _ _ e with ⟨hb,hA⟩|hA
    ·exact hA.mono fun r hh ⟨e1,e2⟩=>by subst e1;subst e2;exact hk
    ·exact absurd (E6 hrow) (by rw [hA.1];exact Bool.false_ne_true)
   ·cases e
  ·cases e
 left
 unfold cOp at e
 unfold bg
 split at e
 ·simp only [eR,hf] at e;cases e;exact hk
 ·simp only [eR,hf] at e;cases e;exact hk
 ·simp only [eR,hf] at e;obtain ⟨e',rfl⟩:=bJ e;exact GN e' hk
 ·rename_i bop t x y yt
  split at e
  ·rename_i hagg
   simp only [hagg,if_true]
   split at e
   ·rename_i hg hks
    simp only [eR,hf] at e;obtain ⟨e',rfl⟩:=bJ e
    simp only [hg,hks,Bool.not_false];exact yT e' hk
   ·rename_i hg hks
    simp only [eR,hf] at e;obtain ⟨e',rfl⟩:=bJ e
    simp only [hg,hks,Bool.not_false];exact yT e' hk
   ·simp [eR] at e
  ·rename_i hagg
   simp only [hagg,Bool.false_eq_true,if_false]
   split at e
   ·rename_i ht;simp only [ht];simp only [eR,hf] at e;obtain ⟨e',rfl⟩:=bJ e;exact Gx e' hk
   ·rename_i ht;simp only [ht];simp only [eR,hf] at e;obtain ⟨e',rfl⟩:=bJ e;exact tm e' hk
   ·rename_i ht;simp only [ht];simp only [eR,hf] at e;obtain ⟨e',rfl⟩:=bJ e;exact tm e' hk
   ·rename_i d q1 q2 q3 ht
    have key : ∀ neg : Bool,eR call (Dw neg d y (cO x)) T h = some (v,oh) → lX neg d y (ae fr x) fun v=>K v h:=by
     intro neg e
     unfold Dw at e
     unfold lX
     split at e
     ·simp only [eR,hf] at e
      split at e
      ·rename_i b hb;cases e;simp only [j0,hb];exact hk
      ·cases e
     ·simp only [eR,hf] at e
      split at e
      ·rename_i b hb;cases e;simp only [j0,hb];exact hk
      ·cases e
     ·simp only [eR,hf] at e
      split at e
      ·rename_i b hb;cases e;simp only [j0,hb];exact hk
      ·cases e
     ·simp [eR] at e
    rw [ht]
    cases bop <;> simp only [] at e ⊢ <;> first|exact key _ e|(simp [eR] at e;done)|skip
   ·simp [eR] at e
 ·simp only [eR,hf] at e;obtain ⟨e',rfl⟩:=bJ e;exact Je e' hk
 ·simp only [eR,hf] at e;obtain ⟨e',rfl⟩:=bJ e;exact Jc e' hk
 ·split at e
  ·rename_i hu
   simp only [hu]
   simp only [eR,hf] at e
   obtain ⟨e',rfl⟩:=bJ e
   exact tm e' hk
  ·simp [eR] at e
 ·split at e
  ·rename_i hs hd;simp only [hs,hd];simp only [eR,hf] at e;obtain ⟨e',rfl⟩:=bJ e;exact GA e' hk
  ·rename_i hs hd;simp only [hs,hd];simp only [eR,hf] at e;obtain ⟨e',rfl⟩:=bJ e;exact GP e' hk
  ·rename_i hs hd
   simp only [hs,hd]
   split at e
   ·rename_i hu;simp only [hu];simp only [eR,hf] at e;obtain ⟨h',e',rfl⟩:=fP e;exact x4 e' hk
   ·simp [eR] at e
  ·rename_i hs hd
   simp only [hs,hd]
   split at e
   ·rename_i hu;simp only [hu];simp only [eR,hf] at e;obtain ⟨e',rfl⟩:=bJ e;exact xZ e' hk
   ·simp [eR] at e
  ·simp [eR] at e
 ·simp only [eR,hf] at e;obtain ⟨e',rfl⟩:=bJ e;exact GC e' hk
 ·split at e
  ·rename_i ht
   simp only [ht]
   split at e
   ·rename_i hfi
    simp only [hfi]
    split at e
    ·rename_i hok;simp only [hok];simp only [eR,hf] at e;obtain ⟨e',rfl⟩:=bJ e;exact I5 e' hk
    ·simp [eR] at e
   ·simp [eR] at e
  ·simp [eR] at e
 ·split at e
  ·rename_i ht;simp only [ht];simp only [eR,hf] at e;obtain ⟨e',rfl⟩:=bJ e;exact GH e' hk
  ·rename_i ht
   simp only [ht]
   split at e
   ·rename_i hok;simp only [hok];simp only [eR,hf] at e;obtain ⟨e',rfl⟩:=bJ e;exact GD e' hk
   ·simp [eR] at e
  ·simp [eR] at e
 ·split at e
  ·rename_i ht;simp only [ht];simp only [eR,hf,ho] at e;obtain ⟨e',rfl⟩:=bJ e;exact Jk e' hk
  ·rename_i ht
   simp only [ht]
   split at e
   ·rename_i hok;simp only [hok];simp only [eR,hf,ho] at e;obtain ⟨e',rfl⟩:=bJ e;exact K9 e' hk
   ·simp [eR] at e
  ·rename_i ht
   simp only [ht]
   split at e
   ·rename_i hok;simp only [hok];simp only [eR,hf,ho] at e;obtain ⟨e',rfl⟩:=bJ e;exact Jj e' hk
   ·simp [eR] at e
  ·simp [eR] at e
 ·split at e
  ·rename_i ht
   simp only [ht]
   split at e
   ·rename_i hok;simp only [hok];simp only [eR,hf] at e;obtain ⟨e',rfl⟩:=bJ e;exact GF e' hk
   ·simp [eR] at e
  ·rename_i ht
   simp only [ht]
   split at e
   ·rename_i hok;simp only [hok];simp only [eR,hf] at e;obtain ⟨e',rfl⟩:=bJ e;exact GG e' hk
   ·simp [eR] at e
  ·simp [eR] at e
 ·split at e
  ·rename_i ht
   simp only [ht]
   split at e
   ·rename_i hfi
    simp only [hfi]
    split at e
    ·rename_i hok;simp only [hok];simp only [eR,hf] at e;obtain ⟨e',rfl⟩:=bJ e;exact I4 e' hk
    ·simp [eR] at e
   ·simp [eR] at e
  ·simp [eR] at e
 ·simp only [eR,hf] at e;obtain ⟨e',rfl⟩:=bJ e;exact GM e' hk
 ·split at e
  ·rename_i hok;simp only [hok];simp only [eR,hf] at e;cases e;exact hk
  ·simp [eR] at e
 ·simp only [eR,hf] at e;obtain ⟨e',rfl⟩:=bJ e;exact I2 e' hk
 ·split at e
  ·rename_i hok;simp only [hok];simp only [eR,hf] at e;obtain ⟨e',rfl⟩:=bJ e;exact we e' hk
  ·simp [eR] at e
 ·split at e
  ·rename_i hok
   simp only [hok]
   simp only [eR,hf] at e
   split at e
   ·rename_i es;cases e;exact En es hk
   ·cases e
  ·simp [eR] at e
 ·split at e
  ·rename_i hz;simp only [hz];simp only [eR,hf] at e;obtain ⟨h',e',rfl⟩:=fP e;exact yW e' hk
  ·simp [eR] at e
 ·simp only [eR,hf] at e;obtain ⟨h',e',rfl⟩:=fP e;exact yW e' hk
 ·rename_i t parts
  split at e
  ·rename_i fs z ht hz
   simp only [ht,hz]
   split at e
   ·rename_i hok;simp only [hok];have hp2:=hp parts.toList (fun i=>((fs[i]?).map (·.offset)).getD 0) (fun i=>((fs[i]?).map (fun f=>P.cellsOf f.type)).getD 0);simp only [eR] at e;rw [hp2] at e;obtain ⟨e',rfl⟩:=bJ e;exact uz e' hk
   ·simp [eR] at e
  ·rename_i n el z ht hz
   simp only [ht,hz]
   split at e
   ·rename_i hok
    simp only [hok]
    have hp2:=hp parts.toList (fun i=>i * P.cellsOf el) (fun _=>P.cellsOf el)
    simp only [eR] at e
    rw [hp2] at e
    obtain ⟨e',rfl⟩:=bJ e;exact uz e' hk
   ·simp [eR] at e
  ·simp [eR] at e
 ·rename_i t len parts
  split at e
  ·rename_i el ht
   simp only [ht]
   split at e
   ·rename_i hz hok
    simp only [hz,hok]
    have hp2:=hp parts.toList (fun i=>i * P.cellsOf el) (fun _=>P.cellsOf el)
    cases own with
    | true =>
      simp only [eR] at e
      rw [hp2] at e
      obtain ⟨e',rfl⟩:=bJ e;exact Ej e' hk
    | false =>
      simp only [eR] at e
      rw [hp2] at e
      obtain ⟨h',e',rfl⟩:=fP e;exact GK e' hk
   ·simp [eR] at e
  ·simp [eR] at e
 ·split at e
  ·rename_i ht
   simp only [ht]
   split at e
   ·rename_i hz hok
    simp only [hz,hok]
    simp only [eR,hf] at e
    obtain ⟨h',e',rfl⟩:=fP e;exact GJ e' hk
   ·simp [eR] at e
  ·simp [eR] at e
 ·simp only [eR,hl] at e;cases e;exact hk
 ·rename_i c
  split at e
  ·rename_i hcal
   simp only [hcal]
   split at e
   ·rename_i hat hax
    simp only [hat,hax]
    split at e
    ·rename_i ht;simp only [ht];simp only [eR,hf] at e;obtain ⟨e',rfl⟩:=bJ e;exact GI e' hk
    ·rename_i ht;simp only [ht];simp only [eR,hf] at e;obtain ⟨e',rfl⟩:=bJ e;exact I8 e' hk
    ·simp [eR] at e
   ·simp [eR] at e
  ·rename_i hcal
   simp only [hcal]
   split at e
   ·rename_i hax;simp only [hax];simp only [eR,hf] at e;obtain ⟨e',rfl⟩:=bJ e;exact Jb e' hk
   ·simp [eR] at e
  ·rename_i hcal
   simp only [hcal]
   split at e
   ·rename_i hax;simp only [hax];simp only [eR,hf] at e;obtain ⟨e',rfl⟩:=bJ e;exact tn e' hk
   ·rename_i hax
    simp only [hax]
    simp only [eR,hf] at e
    obtain ⟨e',rfl⟩:=bJ e
    split at e'
    ·rename_i u hu;exact tn hu (tn e' hk)
    ·cases e'
   ·simp [eR] at e
  ·rename_i hcal
   simp only [hcal]
   split at e
   ·rename_i t tx x y hat hax
    simp only [hat,hax]
    split at e
    ·rename_i el el2 ht htx
     simp only [ht,htx]
     split at e
     ·rename_i hz
      simp only [hz]
      simp only [eR,hf] at e
      obtain ⟨h',e',rfl⟩:=fP e
      unfold ee
      cases hs : lF h (P.cellsOf el) (ae fr y) with
      | none=>rw [hs] at e';simp [il] at e'
      | some rows=>rw [hs] at e';rw [pN hs];exact uy e' hk
     ·simp [eR] at e
    ·rename_i ht htx
     simp only [ht,htx]
     split at e
     ·rename_i hz
      simp only [hz]
      simp only [eR,hf] at e
      obtain ⟨h',e',rfl⟩:=fP e
      unfold vn
      exact uy e' hk
     ·simp [eR] at e
    ·simp [eR] at e
   ·simp [eR] at e
  ·rename_i hcal
   exact absurd ⟨_,_,rfl,hcal⟩ hcall
  ·rename_i hcal
   exact absurd ⟨_,_,_,rfl,hcal⟩ hinv
  ·simp [eR] at e
 ·simp [eR] at e
theorem K8 {n : Nat} {o : Oper} (hc : aW P call) (hf : ∀ x,evR T (cO x) = ae fr x) (e : eR call (cOp P own o.op) T h = some (v,oh)) (hk : K v (oh.getD h)) : fv P n h o fr K:=by
 rcases MD hc hf e hk with q|q
 ·exact fv.of q
 ·exact q n o rfl

noncomputable def oe (P : Program) (own : Bool) (op : Op) : ROp :=
 match op with
 | .makeMap t r=>(match r with
   | none=>.mkMap none
   | some x=>(match P.underlying t with|some (.map _ _)=>.mkMap (some (cO x))|_=>.bad))
 | .mapUpdate t m k x=>(match P.underlying t with
   | some (.map kt _)=>(match P.underlying kt with|some d=>.tS d (cO m) (cO k) (cO x)|none=>.bad)
   | _=>.bad)
 | .insert t m k x=>(match P.underlying t with
   | some (.map kt _)=>(match P.underlying kt with|some d=>.tS d (cO m) (cO k) (cO x)|none=>.bad)
   | _=>.bad)
 | .lookup t m k ok=>(match P.underlying t with
   | some (.map kt et)=>(match P.underlying kt,cU P et with|some d,some z=>.look d ok z (cO m) (cO k)|_,_=>.bad)
   | _=>.bad)
 | .range t x=>(match P.underlying t with|some (.map _ _)=>.rng (cO x)|_=>.bad)
 | .entry x=>.entry (cO x)
 | .call c=>(match c.callee with
   | .builtin .delete=>(match c.argTypes.toList,c.args.toList with
     | [t,_],[m,k]=>(match P.underlying t with
       | some (.map kt _)=>(match P.underlying kt with|some d=>.xf d (cO m) (cO k)|none=>.bad)
       | _=>.bad)
     | _,_=>.bad)
   | .builtin .cap=>(match c.argTypes[0]?,c.args[0]? with
     | some t,some x=>(match P.underlying t with|some (.slice _)=>.F0 (cO x)|_=>.bad)
     | _,_=>.bad)
   | .builtin .copy=>(match c.argTypes.toList,c.args.toList with
     | [t,_],[x,y]=>(match P.underlying t with
       | some (.slice e)=>(match tOk P e with|true=>.copy (P.cellsOf e) (cO x) (cO y)|false=>.bad)
       | _=>.bad)
     | _,_=>.bad)
   | .builtin .append=>(match c.argTypes.toList,c.args.toList with
     | [t,tx],[x,y]=>(match P.underlying t,P.underlying tx with
       | some (.slice e),some (.int _)=>(match cU P e,zok P e && decide (0 < P.cellsOf e) with|some z,true=>.vI e (P.cellsOf e) (dA P e) z (cO x) (cO y)|_,_=>.bad)
       | some (.slice e),some (.slice _)=>(match zok P e with|true=>.vG own e (P.cellsOf e) (dA P e) (cO x) (cO y)|false=>.bad)
       | _,_=>cOp P own (.call c))
     | _,_=>cOp P own (.call c))
   | _=>cOp P own (.call c))
 | .slice t x lo (some hi) (some mx)=>(match P.underlying t with
   | some (.slice e)=>(match tOk P e with|true=>.sl3 (P.cellsOf e) (cO x) (lo.map cO) (cO hi) (cO mx)|false=>.bad)
   | _=>.bad)
 | .binOp op t x y yt=>(match P.underlying t,y with
   | some (.map _ _),.const (.map none)=>(match op with|.eql=>.rT false (cO x)|.neq=>.rT true (cO x)|_=>.bad)
   | _,_=>cOp P own (.binOp op t x y yt))
 | op=>cOp P own op
theorem yV {n : Nat} {o : Oper} {t : TypeId} {r : Option Operand} (ho : o.op = .makeMap t r) (ht : r = none ∨ ∃ kt et,P.underlying t = some (.map kt et)) (e : wg (r.map (ae fr)) h = some (v,oh)) (hk : K v (oh.getD h)) : fv P n h o fr K:=by
 intro fr' base ι S a w hs hr
 cases r with
 | none =>
   simp only [Option.map_none,wg,b7,eI,Option.some.injEq,Prod.mk.injEq] at e
   obtain ⟨rfl,rfl⟩:=e
   exact ud hr ho (.inl rfl) hk
 | some x =>
   obtain ⟨kt,et,ht⟩:=ht.resolve_left (by simp)
   simp only [Option.map_some,wg] at e
   split at e
   ·rename_i k i hx
    simp only [b7,eI,Option.some.injEq,Prod.mk.injEq] at e
    obtain ⟨rfl,rfl⟩:=e
    refine ud hr ho (.inr ⟨x,kt,et,k,i,rfl,ht, ?_⟩) hk
    rw [← hx];exact hs x (by rw [ho];simp [Op.operands])
   ·cases e
theorem yU {n : Nat} {o : Oper} {t kt et : TypeId} {d : TypeDesc} {m k x : Operand} (ho : o.op = .mapUpdate t m k x ∨ o.op = .insert t m k x) (ht : P.underlying t = some (.map kt et)) (hd : P.underlying kt = some d)
 (e : BN d (ae fr m) (ae fr k) (ae fr x) h = some (v,oh)) (hk : K v (oh.getD h)) : fv P n h o fr K:=by
 intro fr' base ι S a w hs hr
 have hm' : ae fr' m = ae fr m:=hs m (by rcases ho with ho|ho <;> (rw [ho];simp [Op.operands]))
 have hk' : ae fr' k = ae fr k:=hs k (by rcases ho with ho|ho <;> (rw [ho];simp [Op.operands]))
 have hx' : ae fr' x = ae fr x:=hs x (by rcases ho with ho|ho <;> (rw [ho];simp [Op.operands]))
 unfold BN at e
 split at e
 ·rename_i id hm
  rw [dy] at e
  split at e
  ·rename_i c es he
   split at e
   ·rename_i hka
    split at e
    ·rename_i c' es' hu
     rw [ia] at e
     simp only [Option.some.injEq,Prod.mk.injEq] at e
     obtain ⟨rfl,rfl⟩:=e
     exact Fw (st:=⟨n,fr',h⟩) hr ho ht hd (by rw [hm',hm]) (by show dR d (ae fr' k) = true;rw [hk'];exact hka) he (by show lG c (ae fr' k) (ae fr' x) es = _;rw [hk',hx'];exact hu) hk
    ·cases e
   ·cases e
  ·cases e
 ·cases e
theorem Ja {n : Nat} {o : Oper} {t kt et : TypeId} {d : TypeDesc} {ok : Bool} {z : AV} {m k : Operand} (ho : o.op = .lookup t m k ok) (ht : P.underlying t = some (.map kt et)) (hd : P.underlying kt = some d) (hz : cU P et = some z)
 (e : BM d ok z (ae fr m) (ae fr k) h = some (v,oh)) (hk : K v (oh.getD h)) : fv P n h o fr K:=by
 intro fr' base ι S a w hs hr
 have hm' : ae fr' m = ae fr m:=hs m (by rw [ho];simp [Op.operands])
 have hk' : ae fr' k = ae fr k:=hs k (by rw [ho];simp [Op.operands])
 unfold BM at e
 split at e
 ·cases e
 ·rename_i hka
  have hka' : dR d (ae (⟨n,fr',h⟩ : St).fr k) = true:=by show dR d (ae fr' k) = true;rw [hk'];exact hka
  split at e
  ·rename_i hm
   simp only [Option.some.injEq,Prod.mk.injEq] at e
   obtain ⟨rfl,rfl⟩:=e
   exact sN (st:=⟨n,fr',h⟩) hr ho ht hd hz hka' (.inl ⟨by rw [hm',hm],rfl⟩) hk
  ·rename_i id hm
   rw [dy] at e
   split at e
   ·rename_i c es he
    split at e
    ·rename_i q hq
     simp only [Option.some.injEq,Prod.mk.injEq] at e
     obtain ⟨rfl,rfl⟩:=e
     exact sN (st:=⟨n,fr',h⟩) hr ho ht hd hz hka' (.inr ⟨id,_,es,by rw [hm',hm],he,by show hU (ae fr' k) es = _;rw [hk'];exact hq⟩) hk
    ·cases e
   ·cases e
  ·cases e
theorem I9 {n : Nat} {o : Oper} {c : Call} {t t2 kt et : TypeId} {d : TypeDesc} {m k : Operand} (ho : o.op = .call c) (hc : c.callee = .builtin .delete) (hat : c.argTypes.toList = [t,t2]) (hax : c.args.toList = [m,k]) (ht : P.underlying t = some (.map kt et)) (hd : P.underlying kt = some d)
 (e : BL d (ae fr m) (ae fr k) h = some (v,oh)) (hk : K v (oh.getD h)) : fv P n h o fr K:=by
 intro fr' base ι S a w hs hr
 have mem : ∀ y ∈ [m,k],ae fr' y = ae fr y:=fun y hy=>hs y (by rw [ho];simp only [Op.operands,Call.operands];exact Array.mem_append_right _ (by rw [← hax] at hy;simpa using hy))
 have hm' : ae fr' m = ae fr m:=mem m (by simp)
 have hk' : ae fr' k = ae fr k:=mem k (by simp)
 unfold BL at e
 split at e
 ·rename_i id hm
  rw [dy] at e
  split at e
  ·rename_i cl es he
   split at e
   ·rename_i hka
    split at e
    ·rename_i es' hu
     rw [ia] at e
     simp only [Option.some.injEq,Prod.mk.injEq] at e
     obtain ⟨rfl,rfl⟩:=e
     exact Fv (st:=⟨n,fr',h⟩) hr ho hc hat hax ht hd (by rw [hm',hm]) (by show dR d (ae fr' k) = true;rw [hk'];exact hka) he (by show mb (ae fr' k) es = _;rw [hk'];exact hu) hk
    ·cases e
   ·cases e
  ·cases e
 ·cases e
theorem Jh {n : Nat} {o : Oper} {t kt et : TypeId} {x : Operand} (ho : o.op = .range t x) (ht : P.underlying t = some (.map kt et)) (e : BT (ae fr x) h = some (v,oh)) (hk : K v (oh.getD h)) : fv P n h o fr K:=by
 intro fr' base ι S a w hs hr
 have hx' : ae fr' x = ae fr x:=hs x (by rw [ho];simp [Op.operands])
 unfold BT at e
 split at e
 ·rename_i id hm
  rw [dy] at e
  split at e
  ·rename_i c es he
   simp only [b7,eI,Option.some.injEq,Prod.mk.injEq] at e
   obtain ⟨rfl,rfl⟩:=e
   exact Ih (st:=⟨n,fr',h⟩) hr ho ht (by rw [hx',hm]) he hk
  ·cases e
 ·cases e
theorem I3 {n : Nat} {o : Oper} {x : Operand} (ho : o.op = .entry x) (e : BD (ae fr x) h = some (v,oh)) (hk : K v (oh.getD h)) : fv P n h o fr K:=by
 intro fr' base ι S a w hs hr
 have hx' : ae fr' x = ae fr x:=hs x (by rw [ho];simp [Op.operands])
 unfold BD at e
 split at e
 ·rename_i id hm
  rw [dy] at e
  split at e
  ·rename_i m s sn l hi
   rw [dy] at e
   split at e
   ·rename_i c es he
    split at e
    ·rename_i b hcl hl
     split at e
     ·rename_i k v' hb
      simp only [Option.some.injEq,Prod.mk.injEq] at e
      obtain ⟨rfl,rfl⟩:=e
      exact AK (st:=⟨n,fr',h⟩) hr ho (by rw [hx',hm]) hi he (Nat.eq_of_beq_eq_true hcl) hl hb hk
     ·cases e
    ·cases e
   ·cases e
  ·cases e
 ·cases e
theorem yX {n : Nat} {o : Oper} {neg : Bool} {t yt kt et : TypeId} {x : Operand} (ho : o.op = .binOp (if neg then .neq else .eql) t x (.const (.map none)) yt) (ht : P.underlying t = some (.map kt et)) (e : wi neg (ae fr x) = some (v,oh)) (hk : K v (oh.getD h)) : fv P n h o fr K:=by
 intro fr' base ι S a w hs hr
 have hx' : ae fr' x = ae fr x:=hs x (by rw [ho];simp [Op.operands])
 unfold wi at e
 split at e
 ·rename_i hm
  simp only [Option.some.injEq,Prod.mk.injEq] at e
  obtain ⟨rfl,rfl⟩:=e
  exact mG (st:=⟨n,fr',h⟩) (b:=true) hr ho ht (.inl ⟨by rw [hx',hm],rfl⟩) hk
 ·rename_i id hm
  simp only [Option.some.injEq,Prod.mk.injEq] at e
  obtain ⟨rfl,rfl⟩:=e
  exact mG (st:=⟨n,fr',h⟩) (b:=false) hr ho ht (.inr ⟨id,by rw [hx',hm],rfl⟩) hk
 ·cases e
theorem Ji {m : Nat} {o : Oper} {t e : TypeId} {x hi mx : Operand} {lo : Option Operand} (ho : o.op = .slice t x lo (some hi) (some mx)) (ht : P.underlying t = some (.slice e)) (hk2 : tOk P e = true)
 (e1 : tr (P.cellsOf e) (ae fr x) (lo.map (ae fr)) (ae fr hi) (ae fr mx) = some (v,oh)) (hk : K v (oh.getD h)) : fv P m h o fr K:=by
 intro fr' base ι S a w hs hr
 have hx' : ae fr' x = ae fr x:=hs x (by rw [ho];simp [Op.operands])
 have hh' : ae fr' hi = ae fr hi:=hs hi (by rw [ho];simp [Op.operands])
 have hm' : ae fr' mx = ae fr mx:=hs mx (by rw [ho];simp [Op.operands])
 have hl' : lo.map (ae fr') = lo.map (ae fr):=by
  cases lo with
  | none=>rfl
  | some y=>simp only [Option.map_some];rw [hs y (by rw [ho];simp [Op.operands])]
 unfold tr at e1
 split at e1
 ·rename_i p kh q km mm h1 h2 h3
  have h1:=kQ h1
  split at e1
  ·rename_i g1 g2
   have g1:=Nat.le_of_ble_eq_true g1
   have g2:=Nat.le_of_ble_eq_true g2
   split at e1
   ·rename_i sz rows hu
    split at e1
    ·simp only [Option.some.injEq,Prod.mk.injEq] at e1
     obtain ⟨rfl,rfl⟩:=e1
     have q0 : q = 0:=by omega
     have p0 : p = 0:=by omega
     subst q0;subst p0
     exact FC (st:=⟨m,fr',h⟩) hr ho ht hk2 (.inr ⟨sz,rows,by rw [hx',hu]⟩) (by rw [hl'];exact h1) (by rw [hh',h2];rfl) (by rw [hm',h3];rfl) hk
    ·rename_i m' _
     split at e1
     ·rename_i g3 g4
      simp only [Option.some.injEq,Prod.mk.injEq] at e1
      obtain ⟨rfl,rfl⟩:=e1
      have g4:=Nat.le_of_ble_eq_true g4
      rw [b7] at g4
      rw [eZ,iO] at hk
      exact NA (st:=⟨m,fr',h⟩) (p:=(p : Int)) (q:=(q : Int)) (m:=((m' + 1 : Nat) : Int)) hr ho ht hk2 (by rw [hx',hu]) (by rw [hl'];exact h1) (by rw [hh',h2];rfl) (by rw [hm',h3];rfl) (Nat.eq_of_beq_eq_true g3) (by omega) (by omega) (by omega) (by omega) (by simpa using hk)
     ·cases e1
   ·rename_i hu
    split at e1
    ·simp only [Option.some.injEq,Prod.mk.injEq] at e1
     obtain ⟨rfl,rfl⟩:=e1
     have q0 : q = 0:=by omega
     have p0 : p = 0:=by omega
     subst q0;subst p0
     exact FC (st:=⟨m,fr',h⟩) hr ho ht hk2 (.inl (by rw [hx',hu])) (by rw [hl'];exact h1) (by rw [hh',h2];rfl) (by rw [hm',h3];rfl) hk
    ·cases e1
   ·cases e1
  ·cases e1
 ·cases e1
omit [Laid] in
theorem Em {n : Nat} {x hi mx : AV} {lo : Option AV} {v : AV} {oh : Option aa} (e : tr n x lo hi mx = some (v,oh)) : oh = none:=by
 unfold tr at e
 split at e
 ·split at e
  ·split at e
   ·split at e
    ·cases e;rfl
    ·split at e
     ·cases e;rfl
     ·cases e
   ·split at e
    ·cases e;rfl
    ·cases e
   ·cases e
  ·cases e
 ·cases e
theorem Gz {n : Nat} {o : Oper} {c : Call} {t e : TypeId} {x : Operand} (ho : o.op = .call c) (hc : c.callee = .builtin .cap) (hat : c.argTypes[0]? = some t) (hax : c.args[0]? = some x) (ht : P.underlying t = some (.slice e)) (e1 : rF (ae fr x) = some (v,oh)) (hk : K v (oh.getD h)) : fv P n h o fr K:=by
 intro fr' base ι S a w hs hr
 have hx' : ae fr' x = ae fr x:=hs x (by rw [ho];simp only [Op.operands,Call.operands];exact Array.mem_append_right _ (Array.mem_of_getElem? hax))
 unfold rF at e1
 split at e1
 ·rename_i l k hx
  simp only [Option.some.injEq,Prod.mk.injEq] at e1
  obtain ⟨rfl,rfl⟩:=e1
  exact L5 (st:=⟨n,fr',h⟩) hr ho hc hat hax ht (by rw [hx',hx]) hk
 ·cases e1
theorem Gw {n : Nat} {o : Oper} {c : Call} {t tx e : TypeId} {x y : Operand} {z : AV} {q : IntKind} (ho : o.op = .call c) (hc : c.callee = .builtin .append) (hat : c.argTypes.toList = [t,tx]) (hax : c.args.toList = [x,y]) (ht : P.underlying t = some (.slice e)) (htx : P.underlying tx = some (.int q))
 (hz : cU P e = some z) (hok : (zok P e && decide (0 < P.cellsOf e)) = true) (e1 : uX e (P.cellsOf e) (dA P e) z (ae fr x) (ae fr y) h = some (v,oh)) (hk : K v (oh.getD h)) : fv P n h o fr K:=by
 intro fr' base ι S a w hs hr
 simp only [Bool.and_eq_true,decide_eq_true_eq] at hok
 have mem : ∀ y' ∈ [x,y],ae fr' y' = ae fr y':=fun y' hy=>hs y' (by rw [ho];simp only [Op.operands,Call.operands];exact Array.mem_append_right _ (by rw [← hax] at hy;simpa using hy))
 have hx' : ae fr' x = ae fr x:=mem x (by simp)
 have hy' : ae fr' y = ae fr y:=mem y (by simp)
 unfold uX at e1
 split at e1
 ·rename_i k i hx hy
  split at e1
  ·rename_i g1 g2
   simp only [b7,eI,Option.some.injEq,Prod.mk.injEq] at e1
   obtain ⟨rfl,rfl⟩:=e1
   unfold nB at g2
   split at g2
   ·rename_i g3 g4
    exact L2 (st:=⟨n,fr',h⟩) hr ho hc hat hax ht htx hz hok.1 hok.2 (by rw [hx',hx]) (by rw [hy',hy];rfl) (Nat.le_of_ble_eq_true g1) (Nat.le_of_ble_eq_true g3) (Nat.le_of_ble_eq_true g4) hk
   ·cases g2
  ·cases e1
 ·cases e1
theorem GB {n : Nat} {o : Oper} {c : Call} {t tx e : TypeId} {x y : Operand} (ho : o.op = .call c) (hc : c.callee = .builtin .copy) (hat : c.argTypes.toList = [t,tx]) (hax : c.args.toList = [x,y]) (ht : P.underlying t = some (.slice e)) (hk2 : tOk P e = true)
 (e1 : u3 (P.cellsOf e) (ae fr x) (ae fr y) h = some (v,oh)) (hk : K v (oh.getD h)) : fv P n h o fr K:=by
 intro fr' base ι S a w hs hr
 have mem : ∀ y' ∈ [x,y],ae fr' y' = ae fr y':=fun y' hy=>hs y' (by rw [ho];simp only [Op.operands,Call.operands];exact Array.mem_append_right _ (by rw [← hax] at hy;simpa using hy))
 have hx' : ae fr' x = ae fr x:=mem x (by simp)
 have hy' : ae fr' y = ae fr y:=mem y (by simp)
 unfold u3 at e1
 split at e1
 ·rename_i id off len sz' rows hx hsrc
  have hsrc:=pN hsrc
  rw [dy] at e1
  split at e1
  ·rename_i b hb
   split at e1
   ·rename_i g1 g2 g3 g4 g5
    have g1:=Nat.eq_of_beq_eq_true g1
    subst g1
    have g4:=(e9 _ _).1 g4
    have g5' : rows.all (dJ (P.cellsOf e)) = true:=by
     rw [eH] at g5
     rw [← g5];congr 1;funext r;exact (AF _ _).symm
    split at e1
    ·rename_i g6
     have g6:=Nat.le_of_ble_eq_true g6
     rw [b7] at g6
     simp only [ia,pM,kU,b7,Option.some.injEq,Prod.mk.injEq] at e1
     obtain ⟨rfl,rfl⟩:=e1
     exact Fu (st:=⟨n,fr',h⟩) (n:=rows.length) hr ho hc hat hax ht hk2 (by rw [hx',hx]) (Nat.le_of_ble_eq_true g2) hb g3 g4 (by show ej h _ (ae fr' y) = _;rw [hy'];exact hsrc) g5' (Nat.min_eq_left g6).symm (by rw [List.take_of_length_le (Nat.le_refl _)];exact hk)
    ·rename_i g6
     have g6 : len ≤ rows.length:=by
      have : ¬ rows.length ≤ len:=fun q=>by rw [b7,← Nat.ble_eq] at *;rw [q] at g6;cases g6
      omega
     simp only [ia,pM,kU,iO,Option.some.injEq,Prod.mk.injEq] at e1
     obtain ⟨rfl,rfl⟩:=e1
     exact Fu (st:=⟨n,fr',h⟩) (n:=len) hr ho hc hat hax ht hk2 (by rw [hx',hx]) (Nat.le_of_ble_eq_true g2) hb g3 g4 (by show ej h _ (ae fr' y) = _;rw [hy'];exact hsrc) g5' (Nat.min_eq_right g6).symm hk
   ·cases e1
  ·cases e1
 ·cases e1
omit [Laid] in
theorem dG {v : AV} {oh : Option aa} (e : eR call .bad T h = some (v,oh)) : False:=by simp [eR] at e
theorem Jg {n : Nat} {o : Oper} (hc : aW P call) (hf : ∀ x,evR T (cO x) = ae fr x) (e : eR call (oe P own o.op) T h = some (v,oh)) (hk : K v (oh.getD h)) : fv P n h o fr K:=by
 have ho' : ∀ r : Option Operand,(r.map cO).map (evR T) = r.map (ae fr):=fun r=>by cases r <;> simp [hf]
 generalize hop : o.op = op at e
 have dflt : eR call (cOp P own op) T h = some (v,oh) → fv P n h o fr K:=fun e=>K8 (own:=own) hc hf (by rw [hop];exact e) hk
 unfold oe at e
 split at e
 ·rename_i t r
  split at e
  ·simp only [eR,Option.map_none] at e
   exact yV hop (.inl rfl) e hk
  ·rename_i x
   split at e
   ·rename_i kt et ht
    simp only [eR,Option.map_some,hf] at e
    exact yV hop (.inr ⟨_,_,ht⟩) e hk
   ·exact (dG e).elim
 ·split at e
  ·rename_i ht
   split at e
   ·rename_i hd
    simp only [eR,hf] at e
    exact yU (.inl hop) ht hd e hk
   ·exact (dG e).elim
  ·exact (dG e).elim
 ·split at e
  ·rename_i ht
   split at e
   ·rename_i hd
    simp only [eR,hf] at e
    exact yU (.inr hop) ht hd e hk
   ·exact (dG e).elim
  ·exact (dG e).elim
 ·split at e
  ·rename_i ht
   split at e
   ·rename_i hd hz
    simp only [eR,hf] at e
    exact Ja hop ht hd hz e hk
   ·exact (dG e).elim
  ·exact (dG e).elim
 ·split at e
  ·rename_i ht
   simp only [eR,hf] at e
   exact Jh hop ht e hk
  ·exact (dG e).elim
 ·simp only [eR,hf] at e
  exact I3 hop e hk
 ·rename_i c
  split at e
  ·rename_i hcal
   split at e
   ·rename_i hat hax
    split at e
    ·rename_i ht
     split at e
     ·rename_i hd
      simp only [eR,hf] at e
      exact I9 hop hcal hat hax ht hd e hk
     ·exact (dG e).elim
    ·exact (dG e).elim
   ·exact (dG e).elim
  ·rename_i hcal
   split at e
   ·rename_i hat hax
    split at e
    ·rename_i ht
     simp only [eR,hf] at e
     exact Gz hop hcal hat hax ht e hk
    ·exact (dG e).elim
   ·exact (dG e).elim
  ·rename_i hcal
   split at e
   ·rename_i hat hax
    split at e
    ·rename_i ht
     split at e
     ·rename_i hok
      simp only [eR,hf] at e
      exact GB hop hcal hat hax ht hok e hk
     ·exact (dG e).elim
    ·exact (dG e).elim
   ·exact (dG e).elim
  ·rename_i hcal
   split at e
   ·rename_i t tx x y hat hax
    split at e
    ·rename_i ht htx
     split at e
     ·rename_i hz hok
      simp only [eR,hf] at e
      exact Gw hop hcal hat hax ht htx hz hok e hk
     ·exact (dG e).elim
    ·rename_i el el2 ht htx
     split at e
     ·rename_i hz
      simp only [eR,hf] at e
      have nothing : ∀ {sz' : Nat},lF h sz' (ae fr y) = some [] → ((∃ i j k l,ae fr x = .own i j k l) ∨ nle (ae fr x) = .emp) → K (ae fr x) h → fv P n h o fr K:=by
       intro sz' hsrc hx hk
       intro fr' base ι S a w hs hr
       have mem : ∀ y' ∈ [x,y],ae fr' y' = ae fr y':=fun y' hy=>hs y' (by rw [hop];simp only [Op.operands,Call.operands];exact Array.mem_append_right _ (by rw [← hax] at hy;simpa using hy))
       have hx' : ae fr' x = ae fr x:=mem x (by simp)
       have hy' : ae fr' y = ae fr y:=mem y (by simp)
       exact L0 (st:=⟨n,fr',h⟩) (sz':=sz') hr hop hcal hat hax ht htx hz (by rw [hx'];exact hx) (by show ej h _ (ae fr' y) = _;rw [hy'];exact pN hsrc) (by show K (ae fr' x) h;rw [hx'];exact hk)
      have other : ∀ src,src = lF h (P.cellsOf el) (ae fr y) → eo (il own el (P.cellsOf el) (dA P el) (ae fr x) src h) = some (v,oh) → fv P n h o fr K:=by
       rintro src rfl e
       refine dflt ?_
       simp only [cOp,hcal,hat,hax,ht,htx,hz,eR,hf]
       exact e
      unfold BA at e
      split at e
      ·rename_i hsrc
       split at e
       ·rename_i i j k l hx
        simp only [Option.some.injEq,Prod.mk.injEq] at e
        obtain ⟨rfl,rfl⟩:=e
        exact nothing hsrc (.inl ⟨_,_,_,_,hx⟩) (by rw [hx];exact hk)
       ·split at e
        ·rename_i hx
         simp only [Option.some.injEq,Prod.mk.injEq] at e
         obtain ⟨rfl,rfl⟩:=e
         exact nothing hsrc (.inr hx) hk
        ·exact other _ hsrc.symm e
      ·exact other _ rfl e
     ·exact (dG e).elim
    ·exact dflt e
   ·exact dflt e
  ·exact dflt e
 ·split at e
  ·rename_i ht
   split at e
   ·rename_i hok
    simp only [eR,hf,ho'] at e
    exact Ji hop ht hok e hk
   ·exact (dG e).elim
  ·exact (dG e).elim
 ·rename_i bop t x y yt
  split at e
  ·rename_i ht
   split at e
   ·simp only [eR,hf] at e
    exact yX (neg:=false) hop ht e hk
   ·simp only [eR,hf] at e
    exact yX (neg:=true) hop ht e hk
   ·exact (dG e).elim
  ·exact dflt e
 ·exact dflt e
end
end Go.Aw
end
