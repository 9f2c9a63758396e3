/-
  Code at known values,in a form that the kernel runs;and that the model does what it says. Statements in an open order,and code,at known values,in a form that the kernel runs;and that the model does what it says. A statement of few operations,in each order that it may take;a bool of which nothing is known;scopes that nothing jumps in. Code and calls at known values,in a form that the kernel runs;and that the model does what it says.
  No conditions.
-/
import Derived.Test.YtfageokhpklkbaaGreatDoorL3
import Derived.Scope
set_option linter.unusedVariables false
set_option linter.unusedSimpArgs false
section
namespace Go.Aw
open Go Go.RowKit
variable [Laid]

abbrev Out:=AV × aa
inductive RGd where
 | all
 | when (p : Pa) (w : Bool)
 | bad
inductive RG where
 | mk (d : Option Pa) (g : RGd) (o : ROp)
def RG.d (g : RG) : Option Pa:=match g with|.mk d _ _=>d
def lQ (n : Nat) (d : Option Tmp) : Bool:=match d with|some t=>Nat.ble (t + 1) n|none=>true
noncomputable def cG (P : Program) (own : Bool) (n : Nat) (ops : Array Oper) (o : Oper) : RG :=
 .mk (o.dst.map paN)
  (match lQ n o.dst,o.guard with
  | false,_=>.bad
  | true,none=>.all
  | true,some (j,w)=>(match cf ops j with|some d=>.when (paN d) w|none=>.bad))
  (oe P own o.op)
inductive FB where
 | mk (f : aw → Tr → aa → Option (AV × Option aa))
noncomputable def FB.go (b : FB) : aw → Tr → aa → Option (AV × Option aa):=FB.casesOn (motive:=fun _=>aw → Tr → aa → Option (AV × Option aa)) b (fun f=>f)
def OV (k : IntKind) (a b : Int) : Option AV:=eWr k (a + b)
def O1 (k : IntKind) (a b : Int) : Option AV:=eWr k (a - b)
def OW (k : IntKind) (a b : Int) : Option AV:=eWr k (a * b)
def OZ (k : IntKind) (a b : Int) : Option AV:=match wM b with|false=>some (.v (.int k (nL k (a.tdiv b))))|true=>none
def O0 (k : IntKind) (a b : Int) : Option AV:=match wM b with|false=>some (.v (.int k (a.tmod b)))|true=>none
def M3 (k : IntKind) (a b : Int) : Option AV:=some (.v (.int k (eK .and k a b)))
def OY (k : IntKind) (a b : Int) : Option AV:=some (.v (.int k (eK .or k a b)))
def Nb (k : IntKind) (a b : Int) : Option AV:=some (.v (.int k (eK .xor k a b)))
def G4 (k : IntKind) (a b : Int) : Option AV:=some (.v (.int k (eK .andNot k a b)))
def M4 (_ : IntKind) (a b : Int) : Option AV:=some (bool (eqI a b))
def M9 (_ : IntKind) (a b : Int) : Option AV:=some (bool (!eqI a b))
def M8 (_ : IntKind) (a b : Int) : Option AV:=some (bool (ltI a b))
def M7 (_ : IntKind) (a b : Int) : Option AV:=some (bool (!ltI b a))
def M6 (_ : IntKind) (a b : Int) : Option AV:=some (bool (ltI b a))
def M5 (_ : IntKind) (a b : Int) : Option AV:=some (bool (!ltI a b))
def OX (_ : IntKind) (_ _ : Int) : Option AV:=none
inductive IB where
 | mk (f : IntKind → Int → Int → Option AV)
def IB.go (b : IB) : IntKind → Int → Int → Option AV:=IB.casesOn (motive:=fun _=>IntKind → Int → Int → Option AV) b (fun f=>f)
def LL (op : BinOp) : IB :=
 match fy op with
 | true=>.mk (oy op)
 | false=>match op with
   | .add=>.mk OV|.sub=>.mk O1|.mul=>.mk OW|.quo=>.mk OZ|.rem=>.mk O0
   | .and=>.mk M3|.or=>.mk OY|.xor=>.mk Nb|.andNot=>.mk G4
   | .eql=>.mk M4|.neq=>.mk M9|.lss=>.mk M8|.leq=>.mk M7|.gtr=>.mk M6|.geq=>.mk M5
   | _=>.mk OX
def LM (op : BinOp) (k k' : IntKind) (a b : Int) : Option AV:=match fy op with
 | true=>(LL op).go k a b
 | false=>(match kEq k k' with|true=>(LL op).go k a b|false=>none)
omit [Laid] in
theorem JC (op : BinOp) (k k' : IntKind) (a b : Int) : LM op k k' a b = (match fy op with|true=>oy op k a b|false=>(match kEq k k' with|true=>BJ op k a b|false=>none)):=by
 cases op <;> rfl
noncomputable def BC (op : BinOp) (x y : AV) : Option AV :=
 match x with
 | .v (.int k a)=>(match y with
   | .v (.int k' b)=>LM op k k' a b
   | _=>none)
 | .str a=>(match y with|.str b=>BW op a b|_=>none)
 | _=>none
omit [Laid] in
theorem Gy (op : BinOp) (x y : AV) : BC op x y = wc op x y:=by
 have h : ∀ k a,BC op (.v (.int k a)) y = wc op (.v (.int k a)) y:=by
  intro k a
  cases y with
  | v b=>cases b with
    | int k' b=>exact JC _ _ _ _ _
    | _=>rfl
  | _=>rfl
 cases x with
 | v a=>cases a with
   | int k a=>exact h k a
   | _=>rfl
 | str a=>cases y <;> rfl
 | _=>rfl
noncomputable def LD (x : RO) (_ : aw) (T : Tr) (_ : aa) : Option (AV × Option aa):=some (evR T x,none)
noncomputable def LF (c : RO) (a : RO) (b : RO) (_ : aw) (T : Tr) (_ : aa) : Option (AV × Option aa):=same (vf (evR T c) (evR T a) (evR T b))
noncomputable def MH (op : BinOp) (x : RO) (y : RO) (_ : aw) (T : Tr) (_ : aa) : Option (AV × Option aa):=same (BC op (evR T x) (evR T y))
noncomputable def Lh (op : BinOp) (x : RO) (y : RO) (_ : aw) (T : Tr) (_ : aa) : Option (AV × Option aa):=same (uY op (evR T x) (evR T y))
noncomputable def MJ (neg : Bool) (ks : List Nat) (x : RO) (y : RO) (_ : aw) (T : Tr) (_ : aa) : Option (AV × Option aa):=same (BE neg ks (evR T x) (evR T y))
noncomputable def MV (x : RO) (_ : aw) (T : Tr) (_ : aa) : Option (AV × Option aa):=same (BQ (evR T x))
noncomputable def MS (x : RO) (_ : aw) (T : Tr) (_ : aa) : Option (AV × Option aa):=same (BP (evR T x))
noncomputable def Lk (k : IntKind) (x : RO) (_ : aw) (T : Tr) (_ : aa) : Option (AV × Option aa):=same (uZ k (evR T x))
noncomputable def LG (x : RO) (_ : aw) (T : Tr) (_ : aa) : Option (AV × Option aa):=same (vg (evR T x))
noncomputable def Et (e : Nat) (x : RO) (_ : aw) (T : Tr) (h : aa) : Option (AV × Option aa):=eo (m8 e (evR T x) h)
noncomputable def Es (x : RO) (_ : aw) (T : Tr) (h : aa) : Option (AV × Option aa):=same (m7 (evR T x) h)
noncomputable def Lm (x : RO) (i : Nat) (_ : aw) (T : Tr) (_ : aa) : Option (AV × Option aa):=same (u5 i (evR T x))
noncomputable def MM (g : Bool) (off : Nat) (n : Nat) (x : RO) (_ : aw) (T : Tr) (_ : aa) : Option (AV × Option aa):=same (BG g off n (evR T x))
noncomputable def Lu (x : RO) (i : RO) (_ : aw) (T : Tr) (_ : aa) : Option (AV × Option aa):=same (va (evR T x) (evR T i))
noncomputable def Lq (g : Bool) (sz : Nat) (len : Nat) (x : RO) (i : RO) (_ : aw) (T : Tr) (_ : aa) : Option (AV × Option aa):=same (u6 g sz len (evR T x) (evR T i))
noncomputable def MZ (x : RO) (lo : Option RO) (hi : Option RO) (_ : aw) (T : Tr) (_ : aa) : Option (AV × Option aa):=same (BV (evR T x) (lo.map (evR T)) (hi.map (evR T)))
noncomputable def OU (n : Nat) (x : RO) (lo : Option RO) (hi : Option RO) (_ : aw) (T : Tr) (_ : aa) : Option (AV × Option aa):=same (eSl n (evR T x) (lo.map (evR T)) (hi.map (evR T)))
noncomputable def MY (n : Nat) (sz : Nat) (x : RO) (lo : Option RO) (hi : Option RO) (_ : aw) (T : Tr) (h : aa) : Option (AV × Option aa):=same (BU n sz (evR T x) (lo.map (evR T)) (hi.map (evR T)) h)
noncomputable def Lr (m : Nat) (x : RO) (i : RO) (_ : aw) (T : Tr) (_ : aa) : Option (AV × Option aa):=same (u7 m (evR T x) (evR T i))
noncomputable def Ls (len : Nat) (sz : Nat) (x : RO) (i : RO) (_ : aw) (T : Tr) (_ : aa) : Option (AV × Option aa):=same (u9 len sz (evR T x) (evR T i))
noncomputable def ML (off : Nat) (x : RO) (_ : aw) (T : Tr) (_ : aa) : Option (AV × Option aa):=same (BF off (evR T x))
noncomputable def MU (row : String → TypeId → Bool) (x : RO) (_ : aw) (T : Tr) (_ : aa) : Option (AV × Option aa):=same (ve row (evR T x))
noncomputable def MR (t : TypeId) (x : RO) (_ : aw) (T : Tr) (_ : aa) : Option (AV × Option aa):=some (.ifc t (evR T x),none)
noncomputable def MF (has : TypeId → Bool) (x : RO) (_ : aw) (T : Tr) (_ : aa) : Option (AV × Option aa):=same (BB has (evR T x))
noncomputable def MN (_x0 : Bool) (row : TypeId → Option FuncId) (x : RO) (args : List RO) (call : aw) (T : Tr) (h : aa) : Option (AV × Option aa):=(match evR T x with
 | .ifc t v=>(match row t with|some f=>call f (v :: args.map (evR T)) h|none=>none)
 | _=>none)
noncomputable def Lw (g : Bool) (sz : Nat) (x : RO) (_ : aw) (T : Tr) (h : aa) : Option (AV × Option aa):=same (rG g sz (evR T x) h)
noncomputable def Jv (sz : Nat) (x : RO) (v : RO) (_ : aw) (T : Tr) (h : aa) : Option (AV × Option aa):=(match rI sz (evR T x) (evR T v) h with|some h' => some (.v undef,some h')|none=>none)
noncomputable def MT (t : Nat) (z : AV) (_ : aw) (_ : Tr) (h : aa) : Option (AV × Option aa):=eo (eNew t z h)
noncomputable def MI (t : Nat) (x : RO) (_ : aw) (T : Tr) (h : aa) : Option (AV × Option aa):=eo (eNew t (evR T x) h)
noncomputable def Jr (z : AV) (ps : List (Nat × Nat × RO)) (_ : aw) (T : Tr) (_ : aa) : Option (AV × Option aa):=same (rE z (oC T ps))
noncomputable def LC (t : Nat) (len : Nat) (sz : Nat) (z : AV) (ps : List (Nat × Nat × RO)) (_ : aw) (T : Tr) (h : aa) : Option (AV × Option aa):=eo (vd t len sz z (oC T ps) h)
noncomputable def Ju (len : Nat) (sz : Nat) (z : AV) (ps : List (Nat × Nat × RO)) (_ : aw) (T : Tr) (_ : aa) : Option (AV × Option aa):=same (rH len sz z (oC T ps))
noncomputable def LA (e : Nat) (sz : Nat) (bytes : Nat) (z : AV) (l : RO) (c : RO) (_ : aw) (T : Tr) (h : aa) : Option (AV × Option aa):=eo (vc e sz bytes z (evR T l) (evR T c) h)
noncomputable def Ln (f : Fn) (xs : List RO) (ys : List RO) (_ : aw) (T : Tr) (_ : aa) : Option (AV × Option aa):=some (.fn f (xs.map (evR T)) (ys.map (evR T)),none)
noncomputable def Lv (x : RO) (_ : aw) (T : Tr) (_ : aa) : Option (AV × Option aa):=same (vb (evR T x))
noncomputable def MO (x : RO) (_ : aw) (T : Tr) (_ : aa) : Option (AV × Option aa):=same (BK (evR T x))
noncomputable def MQ (x : RO) (y : RO) (_ : aw) (T : Tr) (_ : aa) : Option (AV × Option aa):=same (BO (evR T x) (evR T y))
noncomputable def LB (x : RO) (y : RO) (z : RO) (_ : aw) (T : Tr) (_ : aa) : Option (AV × Option aa):=same (match ox (evR T x) (evR T y) with|some u=>ox u (evR T z)|none=>none)
noncomputable def MP (x : RO) (y : RO) (_ : aw) (T : Tr) (_ : aa) : Option (AV × Option aa):=same (ox (evR T x) (evR T y))
noncomputable def ME (own : Bool) (e : Nat) (sz : Nat) (bytes : Nat) (x : RO) (y : RO) (_ : aw) (T : Tr) (h : aa) : Option (AV × Option aa):=eo (il own e sz bytes (evR T x) (lF h sz (evR T y)) h)
noncomputable def Lf (own : Bool) (e : Nat) (bytes : Nat) (x : RO) (y : RO) (_ : aw) (T : Tr) (h : aa) : Option (AV × Option aa):=eo (il own e 1 bytes (evR T x) (qC (evR T y)) h)
noncomputable def GV (neg : Bool) (x : RO) (_ : aw) (T : Tr) (_ : aa) : Option (AV × Option aa):=(match pF (evR T x) with|some b=>some (bool (fo neg b),none)|none=>none)
noncomputable def GX (neg : Bool) (x : RO) (_ : aw) (T : Tr) (_ : aa) : Option (AV × Option aa):=(match nz (evR T x) with|some b=>some (bool (fo neg b),none)|none=>none)
noncomputable def GY (neg : Bool) (x : RO) (_ : aw) (T : Tr) (_ : aa) : Option (AV × Option aa):=(match pG (evR T x) with|some b=>some (bool (fo neg b),none)|none=>none)
noncomputable def Li (_x0 : Bool) (x : RO) (args : List RO) (call : aw) (T : Tr) (h : aa) : Option (AV × Option aa):=(match evR T x with
 | .fn (.func f) a b=>call f (a ++ args.map (evR T) ++ b) h
 | _=>none)
noncomputable def Jt (r : Option RO) (_ : aw) (T : Tr) (h : aa) : Option (AV × Option aa):=wg (r.map (evR T)) h
noncomputable def Lz (d : TypeDesc) (m k x : RO) (_ : aw) (T : Tr) (h : aa) : Option (AV × Option aa):=BN d (evR T m) (evR T k) (evR T x) h
noncomputable def Lx (d : TypeDesc) (ok : Bool) (z : AV) (m k : RO) (_ : aw) (T : Tr) (h : aa) : Option (AV × Option aa):=BM d ok z (evR T m) (evR T k) h
noncomputable def Ly (d : TypeDesc) (m k : RO) (_ : aw) (T : Tr) (h : aa) : Option (AV × Option aa):=BL d (evR T m) (evR T k) h
noncomputable def MW (m : RO) (_ : aw) (T : Tr) (h : aa) : Option (AV × Option aa):=BT (evR T m) h
noncomputable def Js (x : RO) (_ : aw) (T : Tr) (h : aa) : Option (AV × Option aa):=BD (evR T x) h
noncomputable def GW (neg : Bool) (x : RO) (_ : aw) (T : Tr) (_ : aa) : Option (AV × Option aa):=wi neg (evR T x)
noncomputable def MX (n : Nat) (x : RO) (lo : Option RO) (hi mx : RO) (_ : aw) (T : Tr) (_ : aa) : Option (AV × Option aa):=tr n (evR T x) (lo.map (evR T)) (evR T hi) (evR T mx)
noncomputable def Lj (x : RO) (_ : aw) (T : Tr) (_ : aa) : Option (AV × Option aa):=rF (evR T x)
noncomputable def Lg (e sz bytes : Nat) (z : AV) (x y : RO) (_ : aw) (T : Tr) (h : aa) : Option (AV × Option aa):=uX e sz bytes z (evR T x) (evR T y) h
noncomputable def Ld (own : Bool) (e sz bytes : Nat) (x y : RO) (_ : aw) (T : Tr) (h : aa) : Option (AV × Option aa):=BA own e sz bytes (evR T x) (lF h sz (evR T y)) h
noncomputable def Ll (sz : Nat) (x y : RO) (_ : aw) (T : Tr) (h : aa) : Option (AV × Option aa):=u3 sz (evR T x) (evR T y) h
noncomputable def MG  (_ : aw) (_ : Tr) (_ : aa) : Option (AV × Option aa):=none
noncomputable def toFB (o : ROp) : FB :=
 match o with
 | .move x=>.mk (LD x)
 | .pick c a b=>.mk (LF c a b)
 | .bin op x y=>.mk (MH op x y)
 | .FY op x y=>.mk (Lh op x y)
 | .eqA neg ks x y=>.mk (MJ neg ks x y)
 | .not x=>.mk (MV x)
 | .neg x=>.mk (MS x)
 | .conv k x=>.mk (Lk k x)
 | .HF x=>.mk (LG x)
 | .toBytes e x=>.mk (Et e x)
 | .ofBytes x=>.mk (Es x)
 | .GU x i=>.mk (Lm x i)
 | .fld g off n x=>.mk (MM g off n x)
 | .Hb x i=>.mk (Lu x i)
 | .G8 g sz len x i=>.mk (Lq g sz len x i)
 | .slS x lo hi=>.mk (MZ x lo hi)
 | .sl n x lo hi=>.mk (OU n x lo hi)
 | .slA n sz x lo hi=>.mk (MY n sz x lo hi)
 | .G9 m x i=>.mk (Lr m x i)
 | .Ha len sz x i=>.mk (Ls len sz x i)
 | .fad off x=>.mk (ML off x)
 | .nil row x=>.mk (MU row x)
 | .mkI t x=>.mk (MR t x)
 | .asI has x=>.mk (MF has x)
 | .inv x0 row x args=>.mk (MN x0 row x args)
 | .load g sz x=>.mk (Lw g sz x)
 | .store sz x v=>.mk (Jv sz x v)
 | .new t z=>.mk (MT t z)
 | .box t x=>.mk (MI t x)
 | .build z ps=>.mk (Jr z ps)
 | .xg t len sz z ps=>.mk (LC t len sz z ps)
 | .Dt len sz z ps=>.mk (Ju len sz z ps)
 | .make e sz bytes z l c=>.mk (LA e sz bytes z l c)
 | .func f xs ys=>.mk (Ln f xs ys)
 | .Hg x=>.mk (Lv x)
 | .len x=>.mk (MO x)
 | .min x y=>.mk (MQ x y)
 | .max x y=>.mk (MP x y)
 | .Hn x y z=>.mk (LB x y z)
 | .app own e sz bytes x y=>.mk (ME own e sz bytes x y)
 | .vH own e bytes x y=>.mk (Lf own e bytes x y)
 | .wJ neg x=>.mk (GV neg x)
 | .wK neg x=>.mk (GX neg x)
 | .wL neg x=>.mk (GY neg x)
 | .call x0 x args=>.mk (Li x0 x args)
 | .mkMap r=>.mk (Jt r)
 | .tS d m k x=>.mk (Lz d m k x)
 | .look d ok z m k=>.mk (Lx d ok z m k)
 | .xf d m k=>.mk (Ly d m k)
 | .rng m=>.mk (MW m)
 | .entry x=>.mk (Js x)
 | .rT neg x=>.mk (GW neg x)
 | .sl3 n x lo hi mx=>.mk (MX n x lo hi mx)
 | .F0 x=>.mk (Lj x)
 | .vI e sz bytes z x y=>.mk (Lg e sz bytes z x y)
 | .vG own e sz bytes x y=>.mk (Ld own e sz bytes x y)
 | .copy sz x y=>.mk (Ll sz x y)
 | .bad=>.mk (MG)
omit [Laid] in
theorem toFB_go (call : aw) (o : ROp) (T : Tr) (h : aa) : (toFB o).go call T h = eR call o T h:=by
 cases o with
 | bin op x y=>exact congrArg same (Gy op _ _)
 | _=>rfl
noncomputable def wu (p : Pa) (w : Bool) (b : FB) (call : aw) (T : Tr) (h : aa) : Option (AV × Option aa):=match dZ p T with
 | .v (.bool b')=>(match b',w with
   | true,true=>b.go call T h
   | false,false=>b.go call T h
   | _,_=>some (.v undef,none))
 | .v (.tuple x)=>(match x.toList with|[]=>some (.v undef,none)|_=>none)
 | _=>none
noncomputable def OT (_ : aw) (_ : Tr) (_ : aa) : Option (AV × Option aa):=none
noncomputable def gFB (g : RG) : FB :=
 match g with
 | .mk _ gd o=>match gd with
   | .all=>toFB o
   | .when p w=>.mk (wu p w (toFB o))
   | .bad=>.mk OT
noncomputable def eG (call : aw) (g : RG) (T : Tr) (h : aa) : Option (AV × Option aa):=(gFB g).go call T h
noncomputable def eG0 (call : aw) (g : RG) (T : Tr) (h : aa) : Option (AV × Option aa) :=
 match g with
 | .mk _ gd o=>match gd with
   | .all=>eR call o T h
   | .when p w=>(match dZ p T with
     | .v (.bool b)=>(match b,w with
       | true,true=>eR call o T h
       | false,false=>eR call o T h
       | _,_=>some (.v undef,none))
     | .v (.tuple x)=>(match x.toList with|[]=>some (.v undef,none)|_=>none)
     | _=>none)
   | .bad=>none

omit [Laid] in
theorem BH (call : aw) (g : RG) (T : Tr) (h : aa) : eG call g T h = eG0 call g T h:=by
 unfold eG eG0 gFB
 split
 split
 ·exact toFB_go call _ T h
 ·show wu _ _ _ call T h = _
  unfold wu
  simp only [toFB_go]
 ·rfl

section
variable {P : Program} {call : aw} {own : Bool} {n : Nat} {ops : Array Oper} {o : Oper} {T : Tr} {h : aa} {v : AV} {oh : Option aa} {fr : Fr}
theorem BI (hc : aW P call) (hf : Fits fr T) (e : eG call (cG P own n ops o) T h = some (v,oh)) : YO P ops n h (oh.getD h) o v fr ∧ ∀ d : Nat,o.dst = some d → d < n:=by
 unfold cG at e
 simp only [BH,eG0] at e
 have run : eR call (oe P own o.op) T h = some (v,oh) → fv P n h o fr fun v' h' => v' = v ∧ h' = oh.getD h:=fun e=>Jg (own:=own) hc (wq hf) e ⟨rfl,rfl⟩
 have fd : lQ n o.dst = true → ∀ d : Nat,o.dst = some d → d < n:=fun q d hd=>by
  rw [hd] at q;simp only [lQ,Nat.ble_eq] at q;omega
 cases hfd : lQ n o.dst with
 | false=>rw [hfd] at e;simp at e
 | true =>
   rw [hfd] at e
   refine ⟨?_,fd hfd⟩
   cases hg : o.guard with
   | none=>rw [hg] at e;simp only at e;exact .inl ⟨by simp [di,hg],run e⟩
   | some jw =>
     obtain ⟨j,w⟩:=jw
     rw [hg] at e
     simp only at e
     cases hd : cf ops j with
     | none=>rw [hd] at e;simp at e
     | some d =>
       rw [hd] at e
       simp only at e
       have hgd:=hf d
       split at e
       ·rename_i b hb
        rw [hb] at hgd
        cases b <;> cases w <;> simp only at e
        ·exact .inl ⟨by simp [di,hg,hd,hgd],run e⟩
        ·cases e;exact .inr ⟨by simp [di,hg,hd,hgd],rfl,rfl⟩
        ·cases e;exact .inr ⟨by simp [di,hg,hd,hgd],rfl,rfl⟩
        ·exact .inl ⟨by simp [di,hg,hd,hgd],run e⟩
       ·rename_i x hb
        rw [hb] at hgd
        split at e
        ·rename_i hx
         cases e
         have hx : x = #[]:=by cases x;simp at hx;rw [hx]
         exact .inr ⟨by simp [di,hg,hd,hgd,hx],rfl,rfl⟩
        ·cases e
       ·cases e
omit [Laid] in
theorem Fits.set {d : Option Tmp} {x : AV} (hf : Fits fr T) (hd : ∀ t : Nat,d = some t → t < n) : Fits (bj n fr d x) (dU (d.map paN) x T):=by
 cases d with
 | none=>exact hf
 | some t =>
   simp only [bj,hd t rfl,if_true,Option.map_some,dU]
   exact hf.put t x
end

/-! ### Operations in a row -/
noncomputable def gu (call : aw) (l : List RG) : Tr → aa → (Tr → aa → Option Out) → Option Out :=
 List.rec (motive:=fun _=>Tr → aa → (Tr → aa → Option Out) → Option Out) (fun T h k=>k T h)
  (fun g _ ih T h k=>match eG call g T h with
   | some (v,none)=>ih (dU g.d v T) h k
   | some (v,some h')=>ih (dU g.d v T) h' k
   | none=>none) l
noncomputable def cGs (P : Program) (own : Nat → Bool) (n : Nat) (ops : Array Oper) : Nat → List Oper → List RG
 | _,[]=>[]
 | i,o :: r=>cG P (own i) n ops o :: cGs P own n ops (i + 1) r

def mM (n : Nat) (q : Exit → Tr → aa → Option Out) (r : Out) : Exit → St → Prop:=fun e st' => st'.n = n ∧ ∃ T',Fits st'.fr T' ∧ q e T' st'.h = some r

section
variable {P : Program} {call : aw} {own : Nat → Bool} {n : Nat} {ops : Array Oper} {m : Nat} {r : Out}
theorem oX (hc : aW P call) {k : Tr → aa → Option Out} {Q : Exit → St → Prop} (hQ : ∀ st' T',st'.n = n → Fits st'.fr T' → k T' st'.h = some r → Q .normal st') : ∀ (l : List Oper) (i : Nat) (base : Nat) (ι : List Ix) (S : aJ) (a : Act) (w : World) (fr : Fr) (h : aa) (T : Tr),
 (∀ j,j < l.length → ops[i + j]? = l[j]?) → m ≤ h.length → ROK base ι S a w ⟨n,fr,h⟩ → Fits fr T → gu call (cGs P own n ops i l) T h k = some r → wpOps P ops (bQ m base ι S w Q) (List.range' i l.length) a w
 | [],i,base,ι,S,a,w,fr,h,T,_,hm,hr,hf,e=>⟨ι,S,⟨n,fr,h⟩,Evo.refl _ _ _ _ _,hm,hr,hQ _ T rfl hf e⟩
 | o :: l,i,base,ι,S,a,w,fr,h,T,hl,hm,hr,hf,e=>by
   have h0 : ops[i]? = some o:=by simpa using hl 0 (by simp)
   rw [List.length_cons,List.range'_succ,wpOps_cons]
   simp only [cGs,gu] at e
   cases eg : eG call (cG P (own i) n ops o) T h with
   | none=>rw [eg] at e;simp at e
   | some p =>
     obtain ⟨v,oh⟩:=p
     obtain ⟨hy,hd⟩:=BI hc hf eg
     rw [eg] at e
     refine hy.sound h0 hr fun ι' S' a' w' hE hlen hr' => ?_
     have hf' : Fits (bj n fr o.dst v) (dU (RG.d (cG P (own i) n ops o)) v T):=hf.set hd
     have key : ∀ h2,oh.getD h = h2 → gu call (cGs P own n ops (i + 1) l) (dU (RG.d (cG P (own i) n ops o)) v T) h2 k = some r → wpOps P ops (bQ m base ι S w Q) (List.range' (i + 1) l.length) a' w':=by
      rintro h2 rfl e2
      have:=oX hc hQ l (i + 1) base ι' S' a' w' _ _ _ (fun j hj=>by have:=hl (j + 1) (by simp;omega);simpa [Nat.add_assoc,Nat.add_comm 1 j] using this) (by omega) hr' hf' e2
      exact gq (fun e a w z=>bQ.trans (hE.mono (by rw [hr.hp.len];exact hm) (Nat.le_refl _)) z) _ _ _ this
     cases oh with
     | none=>exact key _ rfl e
     | some h' => exact key _ rfl e
end

/-! ### Operations in an open order -/
noncomputable def vN (x y : Value) : Bool :=
 match x,y with
 | .bool a,.bool b=>a == b
 | .int k a,.int k' b=>(match kEq k k' with|true=>eqI a b|false=>false)
 | .pointer none,.pointer none=>true
 | .nilFunc,.nilFunc=>true
 | .nilIface,.nilIface=>true
 | .slice none 0 0,.slice none 0 0=>true
 | .tuple a,.tuple b=>(match a.toList,b.toList with|[],[]=>true|_,_=>false)
 | _,_=>false
noncomputable def eY (a : AV) : AV → Bool :=
 AV.rec (motive_1:=fun _=>AV → Bool) (motive_2:=fun _=>List AV → Bool) (motive_3:=fun _=>List (List AV) → Bool)
  (fun x b=>match b with|.v y=>vN x y|_=>false)
  (fun l b=>match b with|.str m=>eqL l m|_=>false)
  (fun b=>match b with|.any=>true|_=>false)
  (fun _ ih b=>match b with|.agg ds=>ih ds|_=>false)
  (fun _ ih b=>match b with|.tup ds=>ih ds|_=>false)
  (fun b=>match b with|.emp=>true|_=>false)
  (fun sz _ ih b=>match b with|.sl sz' rows=>(match Nat.beq sz sz' with|true=>ih rows|false=>false)|_=>false)
  (fun id sz _ ih b=>match b with|.sb id' sz' rows=>(match Nat.beq id id',Nat.beq sz sz' with|true,true=>ih rows|_,_=>false)|_=>false)
  (fun _ ih b=>match b with|.ip ds=>ih ds|_=>false)
  (fun id off len sz b=>match b with|.own id' off' len' sz' => (match Nat.beq id id',Nat.beq off off',Nat.beq len len',Nat.beq sz sz' with|true,true,true,true=>true|_,_,_,_=>false)|_=>false)
  (fun id off b=>match b with|.op id' off' => (match Nat.beq id id',Nat.beq off off' with|true,true=>true|_,_=>false)|_=>false)
  (fun f _ _ ih1 ih2 b=>match b with|.fn g xs ys=>(match f,g with|.func i,.func j=>(match Nat.beq i j,ih1 xs,ih2 ys with|true,true,true=>true|_,_,_=>false)|_,_=>false)|_=>false)
  (fun t _ ih b=>match b with|.ifc t' y=>(match Nat.beq t t' with|true=>ih y|false=>false)|_=>false)
  (fun id b=>match b with|.mp id' => Nat.beq id id' | _=>false)
  (fun b=>match b with|[]=>true|_=>false)
  (fun _ _ ih1 ih2 b=>match b with|[]=>false|y :: ys=>(match ih1 y with|true=>ih2 ys|false=>false))
  (fun b=>match b with|[]=>true|_=>false)
  (fun _ _ ih1 ih2 b=>match b with|[]=>false|y :: ys=>(match ih1 y with|true=>ih2 ys|false=>false)) a
omit [Laid] in
theorem Iz {x y : Value} (h : vN x y = true) : x = y:=by
 unfold vN at h
 split at h
 ·simpa using h
 ·split at h
  ·rename_i e;rw [wj] at h;rw [mE e,of_decide_eq_true h]
  ·cases h
 ·rfl
 ·rfl
 ·rfl
 ·rfl
 ·rename_i a b
  cases a;cases b
  split at h
  ·rename_i e1 e2;simp only at e1 e2;rw [e1,e2]
  ·cases h
 ·cases h
omit [Laid] in
theorem iV (a : AV) : ∀ b,eY a b = true → a = b:=by
 refine AV.rec (motive_1:=fun a=>∀ b,eY a b = true → a = b)
  (motive_2:=fun l=>∀ m : List AV,(AV.rec_1 (motive_1:=fun _=>AV → Bool) (motive_2:=fun _=>List AV → Bool) (motive_3:=fun _=>List (List AV) → Bool) (fun x b=>match b with|.v y=>vN x y|_=>false)
  (fun l b=>match b with|.str m=>eqL l m|_=>false)
  (fun b=>match b with|.any=>true|_=>false)
  (fun _ ih b=>match b with|.agg ds=>ih ds|_=>false)
  (fun _ ih b=>match b with|.tup ds=>ih ds|_=>false)
  (fun b=>match b with|.emp=>true|_=>false)
  (fun sz _ ih b=>match b with|.sl sz' rows=>(match Nat.beq sz sz' with|true=>ih rows|false=>false)|_=>false)
  (fun id sz _ ih b=>match b with|.sb id' sz' rows=>(match Nat.beq id id',Nat.beq sz sz' with|true,true=>ih rows|_,_=>false)|_=>false)
  (fun _ ih b=>match b with|.ip ds=>ih ds|_=>false)
  (fun id off len sz b=>match b with|.own id' off' len' sz' => (match Nat.beq id id',Nat.beq off off',Nat.beq len len',Nat.beq sz sz' with|true,true,true,true=>true|_,_,_,_=>false)|_=>false)
  (fun id off b=>match b with|.op id' off' => (match Nat.beq id id',Nat.beq off off' with|true,true=>true|_,_=>false)|_=>false)
  (fun f _ _ ih1 ih2 b=>match b with|.fn g xs ys=>(match f,g with|.func i,.func j=>(match Nat.beq i j,ih1 xs,ih2 ys with|true,true,true=>true|_,_,_=>false)|_,_=>false)|_=>false)
  (fun t _ ih b=>match b with|.ifc t' y=>(match Nat.beq t t' with|true=>ih y|false=>false)|_=>false)
  (fun id b=>match b with|.mp id' => Nat.beq id id' | _=>false)
  (fun b=>match b with|[]=>true|_=>false)
  (fun _ _ ih1 ih2 b=>match b with|[]=>false|y :: ys=>(match ih1 y with|true=>ih2 ys|false=>false))
  (fun b=>match b with|[]=>true|_=>false)
  (fun _ _ ih1 ih2 b=>match b with|[]=>false|y :: ys=>(match ih1 y with|true=>ih2 ys|false=>false)) l m) = true → l = m)
  (motive_3:=fun l=>∀ m : List (List AV),(AV.rec_2 (motive_1:=fun _=>AV → Bool) (motive_2:=fun _=>List AV → Bool) (motive_3:=fun _=>List (List AV) → Bool) (fun x b=>match b with|.v y=>vN x y|_=>false)
  (fun l b=>match b with|.str m=>eqL l m|_=>false)
  (fun b=>match b with|.any=>true|_=>false)
  (fun _ ih b=>match b with|.agg ds=>ih ds|_=>false)
  (fun _ ih b=>match b with|.tup ds=>ih ds|_=>false)
  (fun b=>match b with|.emp=>true|_=>false)
  (fun sz _ ih b=>match b with|.sl sz' rows=>(match Nat.beq sz sz' with|true=>ih rows|false=>false)|_=>false)
  (fun id sz _ ih b=>match b with|.sb id' sz' rows=>(match Nat.beq id id',Nat.beq sz sz' with|true,true=>ih rows|_,_=>false)|_=>false)
  (fun _ ih b=>match b with|.ip ds=>ih ds|_=>false)
  (fun id off len sz b=>match b with|.own id' off' len' sz' => (match Nat.beq id id',Nat.beq off off',Nat.beq len len',Nat.beq sz sz' with|true,true,true,true=>true|_,_,_,_=>false)|_=>false)
  (fun id off b=>match b with|.op id' off' => (match Nat.beq id id',Nat.beq off off' with|true,true=>true|_,_=>false)|_=>false)
  (fun f _ _ ih1 ih2 b=>match b with|.fn g xs ys=>(match f,g with|.func i,.func j=>(match Nat.beq i j,ih1 xs,ih2 ys with|true,true,true=>true|_,_,_=>false)|_,_=>false)|_=>false)
  (fun t _ ih b=>match b with|.ifc t' y=>(match Nat.beq t t' with|true=>ih y|false=>false)|_=>false)
  (fun id b=>match b with|.mp id' => Nat.beq id id' | _=>false)
  (fun b=>match b with|[]=>true|_=>false)
  (fun _ _ ih1 ih2 b=>match b with|[]=>false|y :: ys=>(match ih1 y with|true=>ih2 ys|false=>false))
  (fun b=>match b with|[]=>true|_=>false)
  (fun _ _ ih1 ih2 b=>match b with|[]=>false|y :: ys=>(match ih1 y with|true=>ih2 ys|false=>false)) l m) = true → l = m) ?_ ?_ ?_ ?_ ?_ ?_ ?_ ?_ ?_ ?_ ?_ ?_ ?_ ?_ ?_ ?_ ?_ ?_ a
 ·intro x b h;unfold eY at h;simp only at h;split at h
  ·rw [Iz h]
  ·cases h
 ·intro l b h;unfold eY at h;simp only at h;split at h
  ·rw [kS] at h;rw [of_decide_eq_true h]
  ·cases h
 ·intro b h;unfold eY at h;simp only at h;split at h
  ·rfl
  ·cases h
 ·intro cs ih b h;unfold eY at h;simp only at h;split at h
  ·rw [ih _ h]
  ·cases h
 ·intro cs ih b h;unfold eY at h;simp only at h;split at h
  ·rw [ih _ h]
  ·cases h
 ·intro b h;unfold eY at h;simp only at h;split at h
  ·rfl
  ·cases h
 ·intro sz rows ih b h;unfold eY at h;simp only at h;split at h
  ·split at h
   ·rename_i e;rw [ih _ h,Nat.eq_of_beq_eq_true e]
   ·cases h
  ·cases h
 ·intro id sz rows ih b h;unfold eY at h;simp only at h;split at h
  ·split at h
   ·rename_i e1 e2;rw [ih _ h,Nat.eq_of_beq_eq_true e1,Nat.eq_of_beq_eq_true e2]
   ·cases h
  ·cases h
 ·intro cs ih b h;unfold eY at h;simp only at h;split at h
  ·rw [ih _ h]
  ·cases h
 ·intro id off len sz b h;unfold eY at h;simp only at h;split at h
  ·split at h
   ·rename_i e1 e2 e3 e4;rw [Nat.eq_of_beq_eq_true e1,Nat.eq_of_beq_eq_true e2,Nat.eq_of_beq_eq_true e3,Nat.eq_of_beq_eq_true e4]
   ·cases h
  ·cases h
 ·intro id off b h;unfold eY at h;simp only at h;split at h
  ·split at h
   ·rename_i e1 e2;rw [Nat.eq_of_beq_eq_true e1,Nat.eq_of_beq_eq_true e2]
   ·cases h
  ·cases h
 ·intro f xs ys ih1 ih2 b h;unfold eY at h;simp only at h;split at h
  ·split at h
   ·split at h
    ·rename_i e1 e2 e3;rw [Nat.eq_of_beq_eq_true e1,ih1 _ e2,ih2 _ e3]
    ·cases h
   ·cases h
  ·cases h
 ·intro t x ih b h;unfold eY at h;simp only at h;split at h
  ·split at h
   ·rename_i e;rw [ih _ h,Nat.eq_of_beq_eq_true e]
   ·cases h
  ·cases h
 ·intro id b h;unfold eY at h;simp only at h;split at h
  ·rw [Nat.eq_of_beq_eq_true h]
  ·cases h
 ·intro m h;simp only at h;split at h
  ·rfl
  ·cases h
 ·intro x l ih1 ih2 m h;simp only at h;split at h
  ·cases h
  ·split at h
   ·rename_i e;rw [ih1 _ e,ih2 _ h]
   ·cases h
 ·intro m h;simp only at h;split at h
  ·rfl
  ·cases h
 ·intro x l ih1 ih2 m h;simp only at h;split at h
  ·cases h
  ·split at h
   ·rename_i e;rw [ih1 _ e,ih2 _ h]
   ·cases h
noncomputable def A4 (a : List (Nat × AV × AV)) : List (Nat × AV × AV) → Bool :=
 List.rec (motive:=fun _=>List (Nat × AV × AV) → Bool) (fun b=>match b with|[]=>true|_=>false)
  (fun p _ ih b=>match b with|[]=>false|q :: b=>(match Nat.beq p.1 q.1,eY p.2.1 q.2.1,eY p.2.2 q.2.2 with|true,true,true=>ih b|_,_,_=>false)) a
omit [Laid] in
theorem vK : ∀ (a b : List (Nat × AV × AV)),A4 a b = true → a = b
 | [],[],_=>rfl
 | [],_ :: _,h=>by cases h
 | _ :: _,[],h=>by cases h
 | (n,k,c) :: a,(n',k',c') :: b,h=>by
  have h : (match Nat.beq n n',eY k k',eY c c' with|true,true,true=>A4 a b|_,_,_=>false) = true:=h
  split at h
  ·rename_i e1 e2 e3
   rw [Nat.eq_of_beq_eq_true e1,iV _ _ e2,iV _ _ e3,vK a b h]
  ·cases h
def uV : List Nat → List Nat → Bool
 | [],[]=>true
 | a :: l,b :: m=>(match Nat.beq a b with|true=>uV l m|false=>false)
 | _,_=>false
omit [Laid] in
theorem vM : ∀ (a b : List Nat),uV a b = true → a = b
 | [],[],_=>rfl
 | [],_ :: _,h=>by cases h
 | _ :: _,[],h=>by cases h
 | a :: l,b :: m,h=>by
   rw [uV] at h
   split at h
   ·rename_i e;rw [Nat.eq_of_beq_eq_true e,vM l m h]
   ·cases h
noncomputable def rb (x y : Ent) : Bool :=
 match x,y with
 | .blk a,.blk b=>(match Nat.beq a.ty b.ty,a.wr,b.wr,eY (.agg a.cells) (.agg b.cells) with|true,true,true,true=>true|_,_,_,_=>false)
 | .tok e s n,.tok e' s' n' => (match Nat.beq e e',Nat.beq s s',Nat.beq n n' with|true,true,true=>true|_,_,_=>false)
 | .dead,.dead=>true
 | .mp c es,.mp c' es' => (match Nat.beq c c' with|true=>A4 es es' | false=>false)
 | .it m s sn l,.it m' s' sn' l' => (match Nat.beq m m',Nat.beq s s',uV sn sn',Nat.beq l l' with|true,true,true,true=>true|_,_,_,_=>false)
 | _,_=>false
noncomputable def vJ (h : aa) : aa → Bool:=List.rec (motive:=fun _=>aa → Bool) (fun g=>match g with|[]=>true|_=>false) (fun x _ ih g=>match g with|[]=>false|y :: g=>(match rb x y with|true=>ih g|false=>false)) h
omit [Laid] in
theorem DY {x y : Ent} (h : rb x y = true) : x = y:=by
 unfold rb at h
 split at h
 ·rename_i a b
  split at h
  ·rename_i e1 e2 e3 e4
   have e4:=iV _ _ e4
   cases a;cases b
   simp only at e1 e2 e3 e4
   cases e4
   rw [Nat.eq_of_beq_eq_true e1,e2,e3]
  ·cases h
 ·split at h
  ·rename_i e1 e2 e3;rw [Nat.eq_of_beq_eq_true e1,Nat.eq_of_beq_eq_true e2,Nat.eq_of_beq_eq_true e3]
  ·cases h
 ·rfl
 ·split at h
  ·rename_i e1;rw [Nat.eq_of_beq_eq_true e1,vK _ _ h]
  ·cases h
 ·split at h
  ·rename_i e1 e2 e3 e4;rw [Nat.eq_of_beq_eq_true e1,Nat.eq_of_beq_eq_true e2,vM _ _ e3,Nat.eq_of_beq_eq_true e4]
  ·cases h
 ·cases h
omit [Laid] in
theorem pc : ∀ (h g : aa),vJ h g = true → h = g
 | [],[],_=>rfl
 | [],_ :: _,h=>by cases h
 | _ :: _,[],h=>by cases h
 | x :: h,y :: g,e=>by
   have e : (match rb x y with|true=>vJ h g|false=>false) = true:=e
   split at e
   ·rename_i q;rw [DY q,pc h g e]
   ·cases e
noncomputable def eQ (call : aw) (g : RG) (T : Tr) (h : aa) : Option (AV × Option aa) :=
 match eG call g T h with
 | some (v,none)=>some (v,none)
 | some (v,some h')=>(match vJ h' h with|true=>some (v,none)|false=>some (v,some h'))
 | none=>none
theorem BS {P : Program} {call : aw} {own : Bool} {n : Nat} {ops : Array Oper} {o : Oper} {T : Tr} {h : aa} {v : AV} {oh : Option aa} {fr : Fr} (hc : aW P call) (hf : Fits fr T) (e : eQ call (cG P own n ops o) T h = some (v,oh)) : YO P ops n h (oh.getD h) o v fr ∧ ∀ d : Nat,o.dst = some d → d < n:=by
 unfold eQ at e
 split at e
 ·rename_i v0 hp
  cases e
  exact BI hc hf hp
 ·rename_i v0 h' hp
  have q:=BI hc hf hp
  split at e
  ·rename_i hb
   cases e
   have:=pc _ _ hb
   subst this
   exact q
  ·cases e;exact q
 ·cases e
end Go.Aw
end

section
namespace Go.Aw
open Go Go.RowKit
variable [Laid]

inductive OG where
 | mk (g : RG) (lo : Bool) (ck : List Nat)
def OG.g (o : OG) : RG:=match o with|.mk g _ _=>g
def OG.lo (o : OG) : Bool:=match o with|.mk _ l _=>l
def OG.ck (o : OG) : List Nat:=match o with|.mk _ _ c=>c
noncomputable def rQ (o : ROp) : Bool :=
 match o with
 | .load .. | .slA .. | .ofBytes .. | .inv .. | .call .. | .toBytes .. | .store .. | .new .. | .box .. | .xg .. | .make .. | .app .. | .vH .. | .mkMap .. | .tS .. | .look .. | .xf .. | .rng .. | .entry .. | .vI .. | .vG .. | .copy .. => false
 | _=>true
noncomputable def mh (P : Program) (own : Nat → Bool) (ops : Array Oper) (i : Nat) : Bool:=match ops[i]? with|some o=>Nc (oe P (own i) o.op)|none=>false
def K3 (lo : Nat → Bool) (ms : List Nat) (N i : Nat) : List Nat :=
 (List.range (bw lo (fun _=>true) N + 1)).filter fun c=>!Nat.beq c (bw lo (fun _=>true) i) && (List.range N).all fun l=>!lo l || ((!anB ms i l || Nat.ble (bw lo (fun _=>true) l + 1) c) && (!anB ms l i || Nat.ble c (bw lo (fun _=>true) l)))
noncomputable def cOG (P : Program) (own : Nat → Bool) (n : Nat) (ops : Array Oper) (lo : Nat → Bool) (ms : List Nat) (i : Nat) (o : Oper) : OG :=
 .mk (cG P (own i) n ops o) (lo i) (match lo i,rQ (oe P (own i) o.op) with|false,false=>K3 lo ms ops.size i|_,_=>[])
noncomputable def jt (P : Program) (own : Nat → Bool) (n : Nat) (ops : Array Oper) (lo : Nat → Bool) (ms : List Nat) : Nat → List Oper → List OG
 | _,[]=>[]
 | i,o :: r=>cOG P own n ops lo ms i o :: jt P own n ops lo ms (i + 1) r

noncomputable def canon (call : aw) (l : List OG) : Tr → aa → Option (List (Tr × AV) × List aa × Tr) :=
 List.rec (motive:=fun _=>Tr → aa → Option (List (Tr × AV) × List aa × Tr)) (fun T h=>some ([],[h],T))
  (fun og _ ih T h=>match eQ call og.g T h with
   | some (v,none)=>(match og.lo with
     | false=>(match ih (dU og.g.d v T) h with|some (a,b,c)=>some ((T,v) :: a,b,c)|none=>none)
     | true=>(match ih (dU og.g.d v T) h with|some (a,b,c)=>some ((T,v) :: a,h :: b,c)|none=>none))
   | some (v,some h')=>(match og.lo with
     | true=>(match ih (dU og.g.d v T) h' with|some (a,b,c)=>some ((T,v) :: a,h :: b,c)|none=>none)
     | false=>none)
   | none=>none) l
noncomputable def A7 (call : aw) (hs : List aa) (l : List OG) : List (Tr × AV) → Bool :=
 List.rec (motive:=fun _=>List (Tr × AV) → Bool) (fun _=>true)
  (fun og _ ih es=>match es with
   | []=>false
   | (T,v) :: es=>(match js (fun c=>match fg hs c with
    | some hc=>(match eQ call og.g T hc with|some (v',none)=>eY v' v|_=>false)
    | none=>false) og.ck with|true=>ih es|false=>false)) l
noncomputable def H6 (l : List aa) : Option aa:=List.rec (motive:=fun _=>Option aa → Option aa) (fun a=>a) (fun x _ ih _=>ih (some x)) l none
noncomputable def kG (call : aw) (l : List OG) (T : Tr) (h : aa) (k : Tr → aa → Option Out) : Option Out :=
 match canon call l T h with
 | some (es,hs,T')=>(match A7 call hs l es,H6 hs with|true,some h' => k T' h' | _,_=>none)
 | none=>none

section
variable {P : Program} {call : aw} {own : Nat → Bool} {n : Nat} {ops : Array Oper}
omit [Laid] in
theorem Hf (l : List aa) : H6 l = l.getLast?:=by
 have key : ∀ (l : List aa) (a : Option aa),(List.rec (motive:=fun _=>Option aa → Option aa) (fun a=>a) (fun x _ ih _=>ih (some x)) l : Option aa → Option aa) a = (match l with|[]=>a|_=>l.getLast?):=by
  intro l
  induction l with
  | nil=>intro a;rfl
  | cons x l ih =>
    intro a
    have:=ih (some x)
    cases l with
    | nil=>rfl
    | cons y l=>simpa [List.getLast?_cons_cons] using this
 have:=key l none
 cases l with
 | nil=>rfl
 | cons x l=>exact this
theorem I6 {o : Oper} {ow : Bool} {T : Tr} {h h2 : aa} {v : AV} (hfree : rQ (oe P ow o.op) = true) (e : eQ call (cG P ow n ops o) T h = some (v,none)) : eQ call (cG P ow n ops o) T h2 = some (v,none):=by
 have none2 : ∀ rop : ROp,rQ rop = true → ∀ T v h',¬ eR call rop T h = some (v,some h'):=by
  intro rop hr T v h' q
  cases rop <;> first|(cases hr;done)|skip
  all_goals (simp only [eR] at q)
  all_goals first|(have:=(bJ q).2;cases this;done)|(cases q;done)|(split at q <;> cases q;done)|(unfold wi at q;split at q <;> cases q;done)|(have:=Em q;cases this;done)|(unfold rF at q;split at q <;> cases q;done)
 have key : ∀ rop : ROp,rQ rop = true → eR call rop T h2 = eR call rop T h:=by
  intro rop hr
  cases rop <;> first|rfl|(cases hr;done)
 have key2 : eG call (cG P ow n ops o) T h2 = eG call (cG P ow n ops o) T h:=by
  unfold cG
  simp only [BH,eG0]
  rw [key _ hfree]
 have nh : ∀ v h',¬ eG call (cG P ow n ops o) T h = some (v,some h'):=by
  intro v h' q
  unfold cG at q
  simp only [BH,eG0] at q
  split at q
  ·exact none2 _ hfree _ _ _ q
  ·split at q
   ·split at q
    ·exact none2 _ hfree _ _ _ q
    ·exact none2 _ hfree _ _ _ q
    ·cases q
   ·split at q <;> cases q
   ·cases q
  ·cases q
 unfold eQ at *
 rw [key2]
 cases eg : eG call (cG P ow n ops o) T h with
 | none=>rw [eg] at e;cases e
 | some p =>
   obtain ⟨v0,oh0⟩:=p
   cases oh0 with
   | none=>rw [eg] at e;exact e
   | some h' => exact absurd eg (nh v0 h')

theorem A6 {V : Nat → AV} {Hs : Nat → aa} {fr0 : Fr} {lo : Nat → Bool} {ms : List Nat} (hc : aW P call) : ∀ (l : List Oper) (i : Nat) (T : Tr) (h : aa) (es : List (Tr × AV)) (hs : List aa) (T' : Tr),
 canon call (jt P own n ops lo ms i l) T h = some (es,hs,T') → Fits (frL ops n V fr0 (fun _=>true) i) T → (∀ j,j < l.length → ops[i + j]? = l[j]?) → (∀ q e,es[q]? = some e → V (i + q) = e.2) → (∀ q x,hs[q]? = some x → Hs (bw lo (fun _=>true) i + q) = x) →
 Fits (frL ops n V fr0 (fun _=>true) (i + l.length)) T' ∧ hs[0]? = some h ∧ hs.getLast? = some (Hs (bw lo (fun _=>true) (i + l.length))) ∧ hs.length = bw lo (fun _=>true) (i + l.length) - bw lo (fun _=>true) i + 1 ∧
  ∀ q,q < l.length → ∃ o Tq oh,ops[i + q]? = some o ∧ (jt P own n ops lo ms i l)[q]? = some (cOG P own n ops lo ms (i + q) o) ∧ es[q]? = some (Tq,V (i + q)) ∧ Fits (frL ops n V fr0 (fun _=>true) (i + q)) Tq ∧
   eQ call (cG P (own (i + q)) n ops o) Tq (Hs (bw lo (fun _=>true) (i + q))) = some (V (i + q),oh) ∧ (lo (i + q) = false → oh = none) ∧ (lo (i + q) = true → oh.getD (Hs (bw lo (fun _=>true) (i + q))) = Hs (bw lo (fun _=>true) (i + q) + 1)):=by
 intro l
 induction l with
 | nil =>
   intro i T h es hs T' e hf hl hV hH
   simp only [jt,canon,Option.some.injEq,Prod.mk.injEq] at e
   obtain ⟨rfl,rfl,rfl⟩:=e
   have h0:=hH 0 h rfl
   refine ⟨hf,rfl,by simp only [List.length_nil,Nat.add_zero] at h0 ⊢;rw [h0];rfl,by simp,fun q hq=>by simp at hq⟩
 | cons o l ih =>
   intro i T h es hs T' e hf hl hV hH
   have h0 : ops[i]? = some o:=by simpa using hl 0 (by simp)
   have hl' : ∀ j,j < l.length → ops[i + 1 + j]? = l[j]?:=fun j hj=>by have:=hl (j + 1) (by simp;omega);simpa [Nat.add_assoc,Nat.add_comm 1 j] using this
   simp only [jt,canon] at e
   cases eg : eQ call (OG.g (cOG P own n ops lo ms i o)) T h with
   | none=>rw [eg] at e;simp at e
   | some p =>
     obtain ⟨v,oh⟩:=p
     rw [eg] at e
     have eg' : eQ call (cG P (own i) n ops o) T h = some (v,oh):=eg
     obtain ⟨hy,hd⟩:=BS hc hf eg'
     have hdst : cf ops i = o.dst:=by unfold cf;rw [h0];rfl
     have fin : ∀ (q : List (Tr × AV) × List aa × Tr) (h2 : aa),canon call (jt P own n ops lo ms (i + 1) l) (dU (OG.g (cOG P own n ops lo ms i o)).d v T) h2 = some q → es = (T,v) :: q.1 → T' = q.2.2 → (lo i = false → oh = none ∧ h2 = h ∧ hs = q.2.1) → (lo i = true → h2 = oh.getD h ∧ hs = h :: q.2.1) →
      Fits (frL ops n V fr0 (fun _=>true) (i + (o :: l).length)) T' ∧ hs[0]? = some h ∧ hs.getLast? = some (Hs (bw lo (fun _=>true) (i + (o :: l).length))) ∧ hs.length = bw lo (fun _=>true) (i + (o :: l).length) - bw lo (fun _=>true) i + 1 ∧
     ∀ q,q < (o :: l).length → ∃ o' Tq oh,ops[i + q]? = some o' ∧ (jt P own n ops lo ms i (o :: l))[q]? = some (cOG P own n ops lo ms (i + q) o') ∧ es[q]? = some (Tq,V (i + q)) ∧ Fits (frL ops n V fr0 (fun _=>true) (i + q)) Tq ∧
      eQ call (cG P (own (i + q)) n ops o') Tq (Hs (bw lo (fun _=>true) (i + q))) = some (V (i + q),oh) ∧ (lo (i + q) = false → oh = none) ∧ (lo (i + q) = true → oh.getD (Hs (bw lo (fun _=>true) (i + q))) = Hs (bw lo (fun _=>true) (i + q) + 1)):=by
      rintro ⟨es',hs',T''⟩ h2 e2 rfl rfl q0 q1
      have hVi : V i = v:=hV 0 (T,v) rfl
      have hf' : Fits (frL ops n V fr0 (fun _=>true) (i + 1)) (dU (OG.g (cOG P own n ops lo ms i o)).d v T):=by
       rw [frL];simp only;rw [hdst,hVi];exact hf.set hd
      have hlen : i + (o :: l).length = i + 1 + l.length:=by simp;omega
      have hmono : bw lo (fun _=>true) (i + 1) ≤ bw lo (fun _=>true) (i + 1 + l.length):=lK (by omega)
      have hV' : ∀ q e,es'[q]? = some e → V (i + 1 + q) = e.2:=fun q e he=>by rw [show i + 1 + q = i + (q + 1) by omega];exact hV (q + 1) e (by simpa using he)
      cases hlo : lo i with
      | false =>
        obtain ⟨z1,z2,z3⟩:=q0 hlo
        simp only at z3
        subst z1 z2 z3
        have hcnt : bw lo (fun _=>true) (i + 1) = bw lo (fun _=>true) i:=by rw [bw,hlo];rfl
        obtain ⟨r1,r2,r3,r4,r5⟩:=ih (i + 1) _ _ es' hs _ e2 hf' hl' hV' (fun q x hx=>by rw [hcnt];exact hH q x hx)
        have hHi : Hs (bw lo (fun _=>true) i) = h2:=hH 0 h2 r2
        refine ⟨by rw [hlen];exact r1,r2,by rw [hlen];exact r3,by rw [hlen,← hcnt];exact r4,fun q hq=>?_⟩
        cases q with
        | zero=>exact ⟨o,T,none,h0,rfl,by rw [Nat.add_zero,hVi];rfl,hf,by rw [Nat.add_zero,hHi,hVi];exact eg',fun _=>rfl,fun z=>by rw [Nat.add_zero,hlo] at z;cases z⟩
        | succ q =>
          obtain ⟨o',Tq,oh',s1,s2,s3⟩:=r5 q (by simp at hq;omega)
          rw [show i + (q + 1) = i + 1 + q by omega]
          exact ⟨o',Tq,oh',s1,by simpa [jt] using s2,by simpa using s3⟩
      | true =>
        obtain ⟨z2,z3⟩:=q1 hlo
        simp only at z3
        subst z2 z3
        have hcnt : bw lo (fun _=>true) (i + 1) = bw lo (fun _=>true) i + 1:=by rw [bw,hlo];rfl
        have hH' : ∀ q x,hs'[q]? = some x → Hs (bw lo (fun _=>true) (i + 1) + q) = x:=fun q x hx=>by
         rw [hcnt,show bw lo (fun _=>true) i + 1 + q = bw lo (fun _=>true) i + (q + 1) by omega]
         exact hH (q + 1) x (by simpa using hx)
        obtain ⟨r1,r2,r3,r4,r5⟩:=ih (i + 1) _ _ es' hs' _ e2 hf' hl' hV' hH'
        have hHi : Hs (bw lo (fun _=>true) i) = h:=hH 0 h rfl
        have hHi1 : Hs (bw lo (fun _=>true) i + 1) = oh.getD h:=hH 1 _ (by simpa using r2)
        refine ⟨by rw [hlen];exact r1,rfl, ?_, ?_,fun q hq=>?_⟩
        ·rw [hlen,← r3]
         cases hs' with
         | nil=>simp at r2
         | cons x hs' => rw [List.getLast?_cons_cons]
        ·rw [hlen,List.length_cons,r4];omega
        ·cases q with
         | zero =>
           refine ⟨o,T,oh,h0,rfl,by rw [Nat.add_zero,hVi];rfl,hf,by rw [Nat.add_zero,hHi,hVi];exact eg',fun z=>(by rw [Nat.add_zero,hlo] at z;cases z),fun _=>?_⟩
           rw [Nat.add_zero,hHi,hHi1]
         | succ q =>
           obtain ⟨o',Tq,oh',s1,s2,s3⟩:=r5 q (by simp at hq;omega)
           rw [show i + (q + 1) = i + 1 + q by omega]
           exact ⟨o',Tq,oh',s1,by simpa [jt] using s2,by simpa using s3⟩
     have hlo' : OG.lo (cOG P own n ops lo ms i o) = lo i:=rfl
     cases oh with
     | none =>
       simp only [hlo'] at e
       cases hlo : lo i with
       | false =>
         rw [hlo] at e
         simp only at e
         split at e
         ·rename_i hq;cases e;exact fin (_,_,_) h hq rfl rfl (fun _=>⟨rfl,rfl,rfl⟩) (fun z=>by rw [hlo] at z;cases z)
         ·cases e
       | true =>
         rw [hlo] at e
         simp only at e
         split at e
         ·rename_i hq;cases e;exact fin (_,_,_) h hq rfl rfl (fun z=>by rw [hlo] at z;cases z) (fun _=>⟨rfl,rfl⟩)
         ·cases e
     | some h' =>
       simp only [hlo'] at e
       cases hlo : lo i with
       | false=>rw [hlo] at e;simp at e
       | true =>
         rw [hlo] at e
         simp only at e
         split at e
         ·rename_i hq;cases e;exact fin (_,_,_) h' hq rfl rfl (fun z=>by rw [hlo] at z;cases z) (fun _=>⟨rfl,rfl⟩)
         ·cases e
omit [Laid] in
theorem rj {hs : List aa} : ∀ (l : List OG) (es : List (Tr × AV)),A7 call hs l es = true → ∀ (q : Nat) (og : OG) (e : Tr × AV),l[q]? = some og → es[q]? = some e → ∀ c ∈ og.ck,∃ hc,hs[c]? = some hc ∧ eQ call og.g e.1 hc = some (e.2,none)
 | [],es,_,q,og,e,hl,_,_,_=>by simp at hl
 | x :: l,[],h,q,og,e,_,he,_,_=>by simp at he
 | x :: l,(T,v) :: es,h,q,og,e,hl,he,c,hcm=>by
   simp only [A7] at h
   split at h
   ·rename_i h1
    cases q with
    | zero =>
      simp only [List.getElem?_cons_zero,Option.some.injEq] at hl he
      subst hl he
      rw [eH] at h1
      have:=List.all_eq_true.1 h1 c hcm
      split at this
      ·rename_i hc hg
       rw [dy] at hg
       split at this
       ·rename_i p hp
        exact ⟨hc,hg,by rw [hp,iV _ _ this]⟩
       ·cases this
      ·cases this
    | succ q=>exact rj l es h q og e (by simpa using hl) (by simpa using he) c hcm
   ·cases h

theorem Dy {m id : Nat} {k : Tr → aa → Option Out} {r : Out} {Q : Exit → St → Prop} {st : St} {ms : List Nat} {T : Tr} (hc : aW P call) (hfo : P.follows .mixedOrders = true) (hed : oz ops (mh P own ops) ms ops.size = true) (hn : st.n = n) (hf : Fits st.fr T)
 (e : kG call (jt P own n ops (mh P own ops) ms 0 ops.toList) T st.h k = some r) (hQ : ∀ st' T',st'.n = n → Fits st'.fr T' → k T' st'.h = some r → Q .normal st') : AW P m (.region id ops true) Q st:=by
 unfold kG at e
 cases ec : canon call (jt P own n ops (mh P own ops) ms 0 ops.toList) T st.h with
 | none=>rw [ec] at e;simp at e
 | some q =>
   obtain ⟨es,hs,T'⟩:=q
   rw [ec] at e
   simp only at e
   split at e
   ·rename_i h' hck hlast
    rw [Hf] at hlast
    obtain ⟨r1,r2,r3,r4,r5⟩:=A6 (V:=fun i=>(es.getD i (.lf,.any)).2) (Hs:=fun c=>hs.getD c []) (fr0:=st.fr) hc ops.toList 0 T st.h es hs T' ec hf (fun j hj=>by simp)
     (fun q e he=>by simp [List.getD_eq_getElem?_getD,he]) (fun q x hx=>by simp [List.getD_eq_getElem?_getD,bw,hx])
    subst hn
    have hsz : ops.toList.length = ops.size:=by simp
    simp only [Nat.zero_add,hsz,bw,Nat.sub_zero] at r1 r2 r3 r4 r5
    have hE:=qj hed
    refine DG (V:=fun i=>(es.getD i (.lf,.any)).2) (Hs:=fun c=>hs.getD c []) (an:=anB ms) (lo:=mh P own ops) hfo hE ⟨fun i o ho hlo=>?_,fun i o ho hlo c hcl hall=>?_⟩ (by simp [List.getD_eq_getElem?_getD,r2]) fun fr hfr=>?_
    ·obtain ⟨o',Tq,oh,s1,s2,s3,s4,s5,s6,s7⟩:=r5 i (Array.getElem?_eq_some_iff.1 ho).1
     rw [ho] at s1;cases s1
     have:=(BS hc s4 s5).1
     rw [s7 hlo] at this
     exact this
    ·obtain ⟨o',Tq,oh,s1,s2,s3,s4,s5,s6,s7⟩:=r5 i (Array.getElem?_eq_some_iff.1 ho).1
     rw [ho] at s1;cases s1
     rw [s6 hlo] at s5
     have goal : eQ call (cG P (own i) st.n ops o) Tq (hs.getD c []) = some ((es.getD i (.lf,.any)).2,none) → YO P ops st.n (hs.getD c []) (hs.getD c []) o ((es.getD i (.lf,.any)).2) (frL ops st.n (fun i=>(es.getD i (.lf,.any)).2) st.fr (fun _=>true) i):=fun z=>(BS hc s4 z).1
     by_cases hcc : c = bw (mh P own ops) (fun _=>true) i
     ·subst hcc;exact goal s5
     ·cases hfr : rQ (oe P (own i) o.op) with
      | true=>exact goal (I6 hfr s5)
      | false =>
        have hmem : c ∈ (cOG P own st.n ops (mh P own ops) ms i o).ck:=by
         unfold cOG OG.ck
         simp only [hlo,hfr]
         unfold K3
         rw [List.mem_filter,List.mem_range]
         refine ⟨by omega, ?_⟩
         simp only [Bool.and_eq_true,Bool.not_eq_true',List.all_eq_true,List.mem_range,Bool.or_eq_true]
         refine ⟨by cases z : Nat.beq c (bw (mh P own ops) (fun _=>true) i) with
          | false=>rfl
          | true=>exact absurd (Nat.eq_of_beq_eq_true z) hcc,fun l hl=>?_⟩
         cases hll : mh P own ops l with
         | false=>exact .inl rfl
         | true =>
           obtain ⟨a1,a2⟩:=hall l hl hll
           refine .inr ⟨?_, ?_⟩
           ·cases z : anB ms i l with
            | false=>exact .inl rfl
            | true=>exact .inr (by rw [Nat.ble_eq];exact a1 z)
           ·cases z : anB ms l i with
            | false=>exact .inl rfl
            | true=>exact .inr (by rw [Nat.ble_eq];exact a2 z)
        obtain ⟨hc',g1,g2⟩:=rj _ _ hck i _ _ s2 s3 c hmem
        refine goal ?_
        rw [List.getD_eq_getElem?_getD,g1]
        exact g2
    ·rw [r3] at hlast
     cases hlast
     exact hQ ⟨st.n,fr,_⟩ T' rfl (r1.eq hfr) e
   ·cases e
end
end Go.Aw
end

section
namespace Go.Aw
open Go Go.RowKit
variable [Laid]

theorem AW.post {P : Program} {m : Nat} {c : Code} {Q Q' : Exit → St → Prop} {st : St} (h : AW P m c Q' st) (hq : ∀ e st',Q' e st' → ∃ st'',nW m st' st'' ∧ Q e st'') : AW P m c Q st :=
 fun base ι S a w hm hr=>wp_mono (h base ι S a w hm hr) fun _ _ _ ⟨ι',S',st',h1,h2,h3,h4⟩=>by
  obtain ⟨st'',hw,q⟩:=hq _ _ h4
  obtain ⟨ι'',S'',e,m2,r2⟩:=hw base ι' S' _ _ h2 h3
  exact ⟨ι'',S'',st'',h1.trans e,m2,r2,q⟩

def jN (P : Program) (ops : Array Oper) (Q : St → Prop) : Nat → Array Bool → St → Prop
 | 0,L,st=>Region.ready .any ops L = [] ∧ Q st
 | k + 1,L,st=>Region.ready .any ops L ≠ [] ∧ ∀ i ∈ Region.ready .any ops L,∃ o,ops[i]? = some o ∧ o.guard = none ∧ bg P false (ae st.fr) st.h o.op fun v h=>jN P ops Q k (L.setIfInBounds i true) (fh st o.dst v h)
theorem pQ {P : Program} {ops : Array Oper} {m : Nat} {Q : Exit → St → Prop} : ∀ (k : Nat) (L : Array Bool) (base : Nat) (ι : List Ix) (S : aJ) (a : Act) (w : World) (st : St),m ≤ st.h.length → ROK base ι S a w st → jN P ops (Q .normal) k L st → wpAny P .any ops (bQ m base ι S w Q) k L a w
 | 0,L,base,ι,S,a,w,st,hm,hr,q=>⟨q.1,ι,S,st,Evo.refl _ _ _ _ _,hm,hr,q.2⟩
 | k + 1,L,base,ι,S,a,w,st,hm,hr,q=>by
   refine ⟨fun e=>absurd e q.1,fun i hi=>?_⟩
   obtain ⟨o,ho,hg,hs⟩:=q.2 i hi
   unfold wpOp
   rw [ho]
   simp only
   have hw : Region.wanted o (yielded ops a.tmps) = true:=by unfold Region.wanted;rw [hg]
   rw [if_pos hw]
   left
   refine ft (fun a' w' k' => ?_) (fun _ _ _ k' => k') (fJ hr hs _)
   obtain ⟨ι',S',v,h',hE,hR,hl,q'⟩:=k'
   have:=pQ k (L.setIfInBounds i true) base ι' S' a' w' _ (by show m ≤ h'.length;omega) hR q'
   exact cE (fun e a w z=>bQ.trans (hE.mono (by rw [hr.hp.len];exact hm) (Nat.le_refl _)) z) _ _ _ _ this

def mY (P : Program) (n : Nat) (ops : Array Oper) : Option (Tmp × Tmp) :=
 match ops.toList with
 | [o0,o1,o2,o3] =>
   (match o0.op,o0.dst,o0.guard with
   | .alloc tb,some d,none=>(match o1.op,o1.dst,o1.guard with
     | .store t1 (.tmp x1) (.const (.bool true)),none,none=>(match o2.op,o2.dst,o2.guard with
       | .store t2 (.tmp x2) (.const (.bool false)),none,none=>(match o3.op,o3.dst,o3.guard with
         | .load t3 (.tmp x3),some t,none =>
           (match Nat.beq t1 tb && Nat.beq t2 tb && Nat.beq t3 tb && Nat.beq x1 d && Nat.beq x2 d && Nat.beq x3 d && Nat.ble (d + 1) n && Nat.ble (t + 1) n && !Nat.beq d t && P.follows .mixedOrders && tOk P tb && !cW P tb && Nat.beq (P.cellsOf tb) 1 &&
            (match cU P tb with|some (.v (.bool false))=>true|_=>false) &&
            (Region.ready .any ops #[false,false,false,false] == [0]) && (Region.ready .any ops #[true,false,false,false] == [1,2]) && (Region.ready .any ops #[true,true,false,false] == [2]) && (Region.ready .any ops #[true,false,true,false] == [1]) && (Region.ready .any ops #[true,true,true,false] == [3]) && (Region.ready .any ops #[true,true,true,true] == []) with
           | true=>some (d,t)
           | false=>none)
         | _,_,_=>none)
       | _,_,_=>none)
     | _,_,_=>none)
   | _,_,_=>none)
 | _=>none
theorem Ba {P : Program} {m id : Nat} {ops : Array Oper} {d t : Tmp} {Q : Exit → St → Prop} {st : St} (hm : m ≤ st.h.length) (hc : mY P st.n ops = some (d,t)) (hq : ∀ b : Bool,Q .normal ⟨st.n,bK (bK st.fr d .any) t (bool b),st.h ++ [.dead]⟩) : AW P m (.region id ops true) Q st:=by
 unfold mY at hc
 split at hc
 ·rename_i o0 o1 o2 o3 hops
  split at hc
  ·rename_i tb d' e0 f0 g0
   split at hc
   ·rename_i t1 x1 e1 f1 g1
    split at hc
    ·rename_i t2 x2 e2 f2 g2
     split at hc
     ·rename_i t3 x3 t' e3 f3 g3
      split at hc
      ·rename_i hok
       simp only [Option.some.injEq,Prod.mk.injEq] at hc
       obtain ⟨rfl,rfl⟩:=hc
       simp only [Bool.and_eq_true,Bool.not_eq_true',beq_iff_eq] at hok
       obtain ⟨⟨⟨⟨⟨⟨⟨⟨⟨⟨⟨⟨⟨⟨⟨⟨⟨⟨⟨k1,k2⟩,k3⟩,k4⟩,k5⟩,k6⟩,k7⟩,k8⟩,k9⟩,k10⟩,k11⟩,k12⟩,k13⟩,k14⟩,r0⟩,r1⟩,r2⟩,r3⟩,r4⟩,r5⟩:=hok
       obtain rfl:=Nat.eq_of_beq_eq_true k1
       obtain rfl:=Nat.eq_of_beq_eq_true k2
       obtain rfl:=Nat.eq_of_beq_eq_true k3
       obtain rfl:=Nat.eq_of_beq_eq_true k4
       obtain rfl:=Nat.eq_of_beq_eq_true k5
       obtain rfl:=Nat.eq_of_beq_eq_true k6
       have k7:=Nat.le_of_ble_eq_true k7
       have k8:=Nat.le_of_ble_eq_true k8
       have k9 : x3 ≠ t':=fun q=>by rw [q] at k9;simp at k9
       have k13:=Nat.eq_of_beq_eq_true k13
       have hz : cU P t3 = some (.v (.bool false)):=by
        split at k14
        ·assumption
        ·cases k14
       have at' : ∀ i o,[o0,o1,o2,o3][i]? = some o → ops[i]? = some o:=fun i o e=>by rw [← hops,Array.getElem?_toList] at e;exact e
       have hsz : ops.size = 4:=by have:=congrArg List.length hops;simpa using this
       intro base ι S a w _ hr
       obtain ⟨hE,hr'⟩:=hr.drew
       refine wp_region_any k10 (cE (fun e a w z=>bQ.trans (hE.mono (by rw [hr.hp.len];exact hm) (Nat.le_refl _)) z) _ _ _ _ ?_)
       rw [hsz]
       let Q2 : Exit → St → Prop:=fun e st' => ∃ b : Bool,st' = ⟨st.n,bK (bK st.fr x3 (.op st.h.length 0)) t' (bool b),st.h ++ [.blk ⟨t3,[bool b],true⟩]⟩
       have key : jN P ops (Q2 .normal) 4 #[false,false,false,false] st:=by
        refine ⟨by rw [r0];simp,fun i hi=>?_⟩
        rw [r0] at hi
        simp only [List.mem_singleton] at hi
        subst hi
        refine ⟨o0,at' 0 o0 rfl,g0, ?_⟩
        rw [e0]
        simp only [bg,hz]
        unfold bz
        refine ⟨by simp [bc,cv,Value.oneCell'], ?_⟩
        have s0 : fh st o0.dst (.op st.h.length 0) (st.h ++ [.blk ⟨t3,bc (.v (.bool false)),true⟩]) = ⟨st.n,bK st.fr x3 (.op st.h.length 0),st.h ++ [.blk ⟨t3,[bool false],true⟩]⟩:=by
         unfold fh bj;rw [f0];have : x3 < st.n:=k7;simp [this,bc,cv]
        show jN P ops (Q2 .normal) 3 _ (fh st o0.dst _ _)
        rw [s0]
        -- a store
        have sto : ∀ (fr : Fr) (b c : Bool) (K : AV → aa → Prop),aL fr x3 = .op st.h.length 0 → K (.v undef) (st.h ++ [.blk ⟨t3,[bool c],true⟩]) → bg P false (ae fr) (st.h ++ [.blk ⟨t3,[bool b],true⟩]) (.store t3 (.tmp x3) (.const (.bool c))) K:=by
         intro fr b c K hfr hk
         simp only [bg,k11,req]
         simp only [ae,hfr,fi,jc,aN]
         rw [List.getElem?_append_right (Nat.le_refl _)]
         simp [bc,cv,Value.oneCell',k13,cx]
         exact hk
        show jN P ops (Q2 .normal) 3 #[true,false,false,false] _
        refine ⟨by rw [r1];simp,fun i hi=>?_⟩
        rw [r1] at hi
        have g3' : aL (bK st.fr x3 (.op st.h.length 0)) x3 = .op st.h.length 0:=by rw [bZ,if_pos rfl]
        have fin : ∀ b : Bool,jN P ops (Q2 .normal) 1 #[true,true,true,false] ⟨st.n,bK st.fr x3 (.op st.h.length 0),st.h ++ [.blk ⟨t3,[bool b],true⟩]⟩:=by
         intro b
         refine ⟨by rw [r4];simp,fun i hi=>?_⟩
         rw [r4] at hi
         simp only [List.mem_singleton] at hi
         subst hi
         refine ⟨o3,at' 3 o3 rfl,g3, ?_⟩
         rw [e3]
         simp only [bg,k11,req,k12,k13]
         simp only [ae,g3',ab]
         rw [List.getElem?_append_right (Nat.le_refl _)]
         simp [ldP]
         refine ⟨r5,b, ?_⟩
         unfold fh bj
         rw [f3]
         have : t' < st.n:=k8
         simp [this]
        simp only [List.mem_cons,List.not_mem_nil,or_false] at hi
        rcases hi with rfl|rfl
        ·refine ⟨o1,at' 1 o1 rfl,g1, ?_⟩
         rw [e1]
         refine sto _ false true _ g3' ?_
         have s1 : fh (⟨st.n,bK st.fr x3 (.op st.h.length 0),st.h ++ [.blk ⟨t3,[bool false],true⟩]⟩ : St) o1.dst (.v undef) (st.h ++ [.blk ⟨t3,[bool true],true⟩]) = ⟨st.n,bK st.fr x3 (.op st.h.length 0),st.h ++ [.blk ⟨t3,[bool true],true⟩]⟩:=by unfold fh bj;rw [f1]
         rw [s1]
         show jN P ops (Q2 .normal) 2 #[true,true,false,false] _
         refine ⟨by rw [r2];simp,fun i hi=>?_⟩
         rw [r2] at hi
         simp only [List.mem_singleton] at hi
         subst hi
         refine ⟨o2,at' 2 o2 rfl,g2, ?_⟩
         rw [e2]
         refine sto _ true false _ g3' ?_
         have s2 : fh (⟨st.n,bK st.fr x3 (.op st.h.length 0),st.h ++ [.blk ⟨t3,[bool true],true⟩]⟩ : St) o2.dst (.v undef) (st.h ++ [.blk ⟨t3,[bool false],true⟩]) = ⟨st.n,bK st.fr x3 (.op st.h.length 0),st.h ++ [.blk ⟨t3,[bool false],true⟩]⟩:=by unfold fh bj;rw [f2]
         rw [s2]
         exact fin false
        ·refine ⟨o2,at' 2 o2 rfl,g2, ?_⟩
         rw [e2]
         refine sto _ false false _ g3' ?_
         have s1 : fh (⟨st.n,bK st.fr x3 (.op st.h.length 0),st.h ++ [.blk ⟨t3,[bool false],true⟩]⟩ : St) o2.dst (.v undef) (st.h ++ [.blk ⟨t3,[bool false],true⟩]) = ⟨st.n,bK st.fr x3 (.op st.h.length 0),st.h ++ [.blk ⟨t3,[bool false],true⟩]⟩:=by unfold fh bj;rw [f2]
         rw [s1]
         show jN P ops (Q2 .normal) 2 #[true,false,true,false] _
         refine ⟨by rw [r3];simp,fun i hi=>?_⟩
         rw [r3] at hi
         simp only [List.mem_singleton] at hi
         subst hi
         refine ⟨o1,at' 1 o1 rfl,g1, ?_⟩
         rw [e1]
         refine sto _ false true _ g3' ?_
         have s2 : fh (⟨st.n,bK st.fr x3 (.op st.h.length 0),st.h ++ [.blk ⟨t3,[bool false],true⟩]⟩ : St) o1.dst (.v undef) (st.h ++ [.blk ⟨t3,[bool true],true⟩]) = ⟨st.n,bK st.fr x3 (.op st.h.length 0),st.h ++ [.blk ⟨t3,[bool true],true⟩]⟩:=by unfold fh bj;rw [f1]
         rw [s2]
         exact fin true
       have res:=pQ (m:=m) (Q:=fun e st' => e = .normal ∧ Q2 e st') 4 #[false,false,false,false] base ι S a _ st hm hr' (by
        have mono : ∀ (k : Nat) (L : Array Bool) (s : St),jN P ops (Q2 .normal) k L s → jN P ops (fun st' => Exit.normal = .normal ∧ Q2 .normal st') k L s:=by
         intro k L s h
         simpa using h
        exact mono _ _ _ key)
       refine cE (fun e a w z=>?_) _ _ _ _ res
       obtain ⟨ι',S',st',z1,z2,z3,rfl,b,rfl⟩:=z
       have hk:=z3.hp.kill st.h.length
       rw [List.set_append_right _ _ (Nat.le_refl _)] at hk
       simp only [Nat.sub_self,List.set_cons_zero] at hk
       refine ⟨ι',S',⟨st.n,bK (bK st.fr x3 .any) t' (bool b),st.h ++ [.dead]⟩,z1,by simp;omega,⟨z3.df,z3.sz,fun u=>?_,hk⟩,hq b⟩
       have r:=z3.fr u
       show Rep ι' S' w (aL (bK (bK st.fr x3 .any) t' (bool b)) u) _
       have r : Rep ι' S' w (aL (bK (bK st.fr x3 (.op st.h.length 0)) t' (bool b)) u) _:=r
       rw [bZ] at r ⊢
       split
       ·rename_i q;rw [if_pos q] at r;exact r
       ·rename_i q
        rw [if_neg q,bZ] at r
        rw [bZ]
        split
        ·simp
        ·rename_i q2;rw [if_neg q2] at r;exact r
      ·cases hc
     ·cases hc
    ·cases hc
   ·cases hc
  ·cases hc
 ·cases hc
end Go.Aw
end

section
namespace Go.Aw
open Go Go.RowKit
variable [Laid]

inductive RC where
 | skip
 | ret
 | exit (i : Nat)
 | seq (a b : RC)
 | block (i : Nat) (a : RC)
 | cond (x : RO) (a b : RC)
 | loop (a : RC)
 | reg (l : List RG)
 | opn (l : List OG)
 | OR (d t : Pa) (K : List Pa) (a : RC)
 | scp (a : RC)
 | nxt (d : Option Pa) (x : RO) (l : List RG)
 | bad
def dF : Code → List Nat
 | .region _ ops _=>ops.toList.filterMap (·.dst)
 | .seq a b=>dF a ++ dF b
 | .cond x a b=>(match x with|.tmp t=>[t]|_=>[]) ++ dF a ++ dF b
 | .block _ a=>dF a
 | .loop a=>dF a
 | .scope a=>dF a
 | _=>[]
def iB (n d t : Nat) (b : Code) : List Nat:=let l:=d :: t :: dF b;(List.range n).filter fun s=>!(l.any fun u=>Nat.beq u s)
def rp (P : Program) (n : Nat) : Code → Option (Tmp × Tmp)
 | .region _ ops true=>mY P n ops
 | _=>none
noncomputable def A5 (P : Program) (own : Nat → Bool) (n : Nat) (ops : Array Oper) : RC :=
 match ops.toList with
 | []=>.reg []
 | o0 :: rest=>(match o0.op,o0.guard,lQ n o0.dst with
   | .next x false,none,true=>.nxt (o0.dst.map paN) (cO x) (cGs P own n ops 1 rest)
   | _,_,_=>.reg (cGs P own n ops 0 (o0 :: rest)))
noncomputable def cC (P : Program) (own : Nat → Nat → Bool) (n : Nat) (c : Code) : RC :=
 match c with
 | .skip=>.skip
 | .ret=>.ret
 | .exit i=>.exit i
 | .label _=>.skip
 | .seq a b =>
   (match rp P n a with
   | some (d,t)=>.OR (paN d) (paN t) ((iB n d t b).map paN) (cC P own n b)
   | none=>.seq (cC P own n a) (cC P own n b))
 | .scope a=>.scp (cC P own n a)
 | .block i a=>.block i (cC P own n a)
 | .cond x a b=>.cond (cO x) (cC P own n a) (cC P own n b)
 | .loop a=>.loop (cC P own n a)
 | .region id ops draw =>
   (match draw with
   | false=>A5 P (own id) n ops
   | true=>(match P.follows .mixedOrders,oz ops (mh P (own id) ops) (sC ops ops.size) ops.size with
     | true,true=>.opn (jt P (own id) n ops (mh P (own id) ops) (sC ops ops.size) 0 ops.toList)
     | _,_=>.bad))
 | _=>.bad

noncomputable def endK (K : List Pa) : Exit → Tr → aa → Option Out:=fun e T h=>match e with|.normal=>some (.tup (K.map fun p=>dZ p T),h)|_=>none
noncomputable def BZ (K : List Pa) (T : Tr) : Exit → Tr → aa → Option Out:=fun e _ h=>match e with|.normal=>some (.tup (K.map fun p=>dZ p T),h)|_=>none
noncomputable def nZ : List Pa → List AV → Tr
 | p :: K,v :: vs=>gn p v (nZ K vs)
 | _,_=>.lf
def frK : List Nat → List AV → Fr
 | k :: K,v :: vs=>bK (frK K vs) k v
 | _,_=>[]
omit [Laid] in
theorem wx : ∀ (K : List Nat) (vs : List AV),Fits (frK K vs) (nZ (K.map paN) vs)
 | [],_=>fun t=>by simp [frK,nZ,aL,tv]
 | _ :: _,[]=>fun t=>by simp [frK,nZ,aL,tv]
 | k :: K,v :: vs=>by
   simp only [List.map_cons,frK,nZ]
   exact (wx K vs).put k v
omit [Laid] in
theorem yY (fr : Fr) : ∀ (K : List Nat) (u : Nat),aL (frK K (K.map fun k=>aL fr k)) u = aL fr u ∨ aL (frK K (K.map fun k=>aL fr k)) u = .any
 | [],u=>.inr (by simp [frK,aL])
 | k :: K,u=>by
   simp only [List.map_cons,frK]
   rw [bZ]
   split
   ·rename_i h;exact .inl (by rw [h])
   ·exact yY fr K u
theorem HN {m : Nat} (st : St) (K : List Nat) : nW m st ⟨st.n,frK K (K.map fun k=>aL st.fr k),st.h⟩:=by
 intro base ι S a w hm hr
 refine ⟨ι,S,Evo.refl _ _ _ _ _,hm,⟨hr.df,hr.sz,fun u=>?_,hr.hp⟩⟩
 show Rep ι S w (aL (frK K (K.map fun k=>aL st.fr k)) u) _
 rcases yY st.fr K u with h|h
 ·rw [h];exact hr.fr u
 ·rw [h];simp
noncomputable def nt (F : Nat) (body : Tr → aa → (Exit → Tr → aa → Option Out) → Option Out) (q : Exit → Tr → aa → Option Out) : Tr → aa → Option Out :=
 Nat.rec (motive:=fun _=>Tr → aa → Option Out) (fun _ _=>none) (fun _ nx T h=>body T h (fun e T h=>match e with|.normal=>nx T h|e=>q e T h)) F
noncomputable def FX (a b : Out) : Bool:=match a,b with|(x,g),(y,g')=>(match eY x y,vJ g g' with|true,true=>true|_,_=>false)
noncomputable def sameAs (r : Out) : List (Option Out) → Bool
 | []=>true
 | some r' :: l=>(match FX r' r with|true=>sameAs r l|false=>false)
 | none :: _=>false
noncomputable def mA : List (Option Out) → Option Out
 | []=>none
 | some r :: l=>(match sameAs r l with|true=>some r|false=>none)
 | none :: _=>none
omit [Laid] in
theorem Iy {a b : Out} (h : FX a b = true) : a = b:=by
 obtain ⟨x,g⟩:=a
 obtain ⟨y,g'⟩:=b
 unfold FX at h
 simp only at h
 split at h
 ·rename_i e1 e2;rw [iV _ _ e1,pc _ _ e2]
 ·cases h
omit [Laid] in
theorem uN {r : Out} : ∀ {l : List (Option Out)},sameAs r l = true → ∀ x ∈ l,x = some r
 | [],_,x,hx=>by cases hx
 | some r' :: l,h,x,hx=>by
   rw [sameAs] at h
   split at h
   ·rename_i e
    rcases List.mem_cons.1 hx with rfl|hx
    ·rw [Iy e]
    ·exact uN h x hx
   ·cases h
 | none :: l,h,_,_=>by simp [sameAs] at h
omit [Laid] in
theorem A0 {r : Out} {l : List (Option Out)} (h : mA l = some r) : ∀ x ∈ l,x = some r:=by
 intro x hx
 cases l with
 | nil=>cases hx
 | cons y l =>
   cases y with
   | none=>simp [mA] at h
   | some r' =>
     rw [mA] at h
     split at h
     ·rename_i e
      cases h
      rcases List.mem_cons.1 hx with rfl|hx
      ·rfl
      ·exact uN e x hx
     ·cases h
noncomputable def run (call : aw) (F : Nat) (c : RC) : Tr → aa → (Exit → Tr → aa → Option Out) → Option Out :=
 RC.rec (motive:=fun _=>Tr → aa → (Exit → Tr → aa → Option Out) → Option Out)
  (fun T h q=>q .normal T h)
  (fun T h q=>q .ret T h)
  (fun i T h q=>q (.exit i) T h)
  (fun _ _ iha ihb T h q=>iha T h (fun e T h=>match e with|.normal=>ihb T h q|e=>q e T h))
  (fun i _ ih T h q=>ih T h (fun e T h=>match e with|.exit j=>(match Nat.beq j i with|true=>q .normal T h|false=>q (.exit j) T h)|e=>q e T h))
  (fun x _ _ iha ihb T h q=>match evR T x with|.v (.bool true)=>iha T h q|.v (.bool false)=>ihb T h q|_=>none)
  (fun _ ih T h q=>nt F ih q T h)
  (fun l T h q=>gu call l T h (fun T h=>q .normal T h))
  (fun l T h q=>kG call l T h (fun T h=>q .normal T h))
  (fun d t K _ ih T h q=>match ih (gn t (bool true) (gn d .any T)) (h ++ [.dead]) (BZ K T),ih (gn t (bool false) (gn d .any T)) (h ++ [.dead]) (BZ K T) with
   | some r1,some r2=>(match vJ r1.2 r2.2 with
     | true=>q .normal (nZ K (K.map fun p=>dZ p T)) r1.2
     | false=>none)
   | _,_=>none)
  (fun _ ih T h q=>ih T h (fun e T h=>match e with|.goto _=>none|e=>q e T h))
  (fun d x l T h q=>match BR (evR T x) h with|some l2=>mA (l2.map fun p=>gu call l (dU d p.1 T) p.2 (fun T h=>q .normal T h))|none=>none)
  (fun _ _ _=>none) c

/-! ### Slots that a piece of code does not write -/
def Sm (S : List Nat) (T T' : Tr) : Prop:=∀ u ∈ S,dZ (paN u) T' = dZ (paN u) T
section
omit [Laid]
theorem Sm.refl (S : List Nat) (T : Tr) : Sm S T T:=fun _ _=>rfl
theorem Sm.trans {S : List Nat} {T T' T'' : Tr} (h : Sm S T T') (k : Sm S T' T'') : Sm S T T'':=fun u hu=>(k u hu).trans (h u hu)
theorem Sm.put {S : List Nat} {t : Nat} (h : t ∉ S) (x : AV) (T : Tr) : Sm S T (gn (paN t) x T):=fun u hu=>gY u t x T fun e=>h (e ▸ hu)
theorem Sm.dU {S : List Nat} {d : Option Tmp} (h : ∀ t : Nat,d = some t → t ∉ S) (x : AV) (T : Tr) : Sm S T (Go.Aw.dU (d.map paN) x T):=by
 cases d with
 | none=>exact Sm.refl S T
 | some t=>exact Sm.put (h t rfl) x T
theorem vD (T : Tr) {u : Nat} : ∀ {K : List Nat},u ∈ K → dZ (paN u) (nZ (K.map paN) ((K.map paN).map fun p=>dZ p T)) = dZ (paN u) T
 | k :: K,h=>by
   simp only [List.map_cons,nZ]
   by_cases e : u = k
   ·subst e;exact kV _ _ _
   ·rw [gY _ _ _ _ e]
    exact vD T ((List.mem_cons.1 h).resolve_left e)
theorem D3 {P : Program} {n : Nat} {ops : Array Oper} {d t : Tmp} (h : mY P n ops = some (d,t)) : d ∈ ops.toList.filterMap (·.dst) ∧ t ∈ ops.toList.filterMap (·.dst):=by
 unfold mY at h
 split at h
 ·rename_i o0 o1 o2 o3 hl
  split at h
  ·rename_i tb d' e0 e1 e2
   split at h
   ·split at h
    ·split at h
     ·rename_i t3 x3 t' f0 f1 f2
      split at h
      ·cases h
       rw [hl]
       simp only [List.mem_filterMap]
       exact ⟨⟨o0,by simp,e1⟩,⟨o3,by simp,f1⟩⟩
      ·cases h
     ·cases h
    ·cases h
   ·cases h
  ·cases h
 ·cases h
end
def WrG (S : List Nat) (g : RG) : Prop:=∀ x T,Sm S T (dU g.d x T)
omit [Laid] in
theorem kx {call : aw} {S : List Nat} : ∀ (l : List RG),(∀ g ∈ l,WrG S g) → ∀ (T : Tr) (h : aa) (k k' : Tr → aa → Option Out),(∀ T' h',Sm S T T' → k T' h' = k' T' h') → gu call l T h k = gu call l T h k'
 | [],_,T,h,k,k',hk=>hk T h (Sm.refl S T)
 | g :: l,hw,T,h,k,k',hk=>by
   show (match eG call g T h with|some (v,none)=>gu call l (dU g.d v T) h k|some (v,some h')=>gu call l (dU g.d v T) h' k|none=>none) = (match eG call g T h with|some (v,none)=>gu call l (dU g.d v T) h k' | some (v,some h')=>gu call l (dU g.d v T) h' k' | none=>none)
   have ih:=fun v h' => kx (call:=call) l (fun g hg=>hw g (List.mem_cons_of_mem _ hg)) (dU g.d v T) h' k k' (fun T' h'' e=>hk T' h'' ((hw g (List.mem_cons_self ..) v T).trans e))
   split
   ·exact ih _ _
   ·exact ih _ _
   ·rfl
omit [Laid] in
theorem vT {call : aw} {S : List Nat} : ∀ (l : List OG),(∀ o ∈ l,WrG S o.g) → ∀ (T : Tr) (h : aa) (x : List (Tr × AV) × List aa × Tr),canon call l T h = some x → Sm S T x.2.2
 | [],_,T,h,x,e=>by cases e;exact Sm.refl S T
 | o :: l,hw,T,h,x,e=>by
   have ih:=fun v h' y (q : canon call l (dU o.g.d v T) h' = some y)=>(hw o (List.mem_cons_self ..) v T).trans (vT l (fun g hg=>hw g (List.mem_cons_of_mem _ hg)) (dU o.g.d v T) h' y q)
   have e : (match eQ call o.g T h with
    | some (v,none)=>(match o.lo with
      | false=>(match canon call l (dU o.g.d v T) h with|some (a,b,c)=>some ((T,v) :: a,b,c)|none=>none)
      | true=>(match canon call l (dU o.g.d v T) h with|some (a,b,c)=>some ((T,v) :: a,h :: b,c)|none=>none))
    | some (v,some h')=>(match o.lo with
      | true=>(match canon call l (dU o.g.d v T) h' with|some (a,b,c)=>some ((T,v) :: a,h :: b,c)|none=>none)
      | false=>none)
    | none=>none) = some x:=e
   split at e
   ·split at e
    all_goals
     split at e
     ·rename_i q;cases e;have w:=ih _ _ _ q;exact w
     ·cases e
   ·split at e
    ·split at e
     ·rename_i q;cases e;have w:=ih _ _ _ q;exact w
     ·cases e
    ·cases e
   ·cases e
omit [Laid] in
theorem yo {call : aw} {S : List Nat} {l : List OG} (hw : ∀ o ∈ l,WrG S o.g) {T : Tr} {h : aa} {k k' : Tr → aa → Option Out} (hk : ∀ T' h',Sm S T T' → k T' h' = k' T' h') : kG call l T h k = kG call l T h k':=by
 unfold kG
 split
 ·rename_i es hs T' e
  split
  ·exact hk _ _ (vT l hw T h _ e)
  ·rfl
 ·rfl
section
variable {P : Program} {call : aw} {own : Nat → Nat → Bool} {n F : Nat}
theorem HW {S : List Nat} {P : Program} {own : Bool} {n : Nat} {ops : Array Oper} {o : Oper} (h : ∀ t : Nat,o.dst = some t → t ∉ S) : WrG S (cG P own n ops o):=fun x T=>Sm.dU h x T
theorem vS {S : List Nat} {P : Program} {own : Nat → Bool} {n : Nat} {ops : Array Oper} : ∀ (i : Nat) (l : List Oper),(∀ u ∈ S,u ∉ l.filterMap (·.dst)) → ∀ g ∈ cGs P own n ops i l,WrG S g
 | _,[],_,g,hg=>by cases hg
 | i,o :: l,h,g,hg=>by
   rcases List.mem_cons.1 hg with rfl|hg
   ·exact HW fun t ht hs=>h t hs (List.mem_filterMap.2 ⟨o,List.mem_cons_self ..,ht⟩)
   ·refine vS (i + 1) l (fun u hu hm=>h u hu ?_) g hg
    obtain ⟨o',ho',e⟩:=List.mem_filterMap.1 hm
    exact List.mem_filterMap.2 ⟨o',List.mem_cons_of_mem _ ho',e⟩
theorem yG {S : List Nat} {P : Program} {own : Nat → Bool} {n : Nat} {ops : Array Oper} {lo : Nat → Bool} {ms : List Nat} : ∀ (i : Nat) (l : List Oper),(∀ u ∈ S,u ∉ l.filterMap (·.dst)) → ∀ g ∈ jt P own n ops lo ms i l,WrG S g.g
 | _,[],_,g,hg=>by cases hg
 | i,o :: l,h,g,hg=>by
   rcases List.mem_cons.1 hg with rfl|hg
   ·exact HW fun t ht hs=>h t hs (List.mem_filterMap.2 ⟨o,List.mem_cons_self ..,ht⟩)
   ·refine yG (i + 1) l (fun u hu hm=>h u hu ?_) g hg
    obtain ⟨o',ho',e⟩:=List.mem_filterMap.1 hm
    exact List.mem_filterMap.2 ⟨o',List.mem_cons_of_mem _ ho',e⟩
omit [Laid] in
theorem uK {S : List Nat} {body : Tr → aa → (Exit → Tr → aa → Option Out) → Option Out} (hb : ∀ (T : Tr) (h : aa) (q q' : Exit → Tr → aa → Option Out),(∀ e T' h',Sm S T T' → q e T' h' = q' e T' h') → body T h q = body T h q')
 {q q' : Exit → Tr → aa → Option Out} : ∀ (F : Nat) (T : Tr) (h : aa),(∀ e T' h',Sm S T T' → q e T' h' = q' e T' h') → nt F body q T h = nt F body q' T h
 | 0,_,_,_=>rfl
 | F + 1,T,h,hq=>by
   show body T h (fun e T h=>match e with|.normal=>nt F body q T h|e=>q e T h) = body T h (fun e T h=>match e with|.normal=>nt F body q' T h|e=>q' e T h)
   refine hb T h _ _ fun e T' h' hs=>?_
   cases e with
   | normal=>exact uK hb F T' h' fun e T'' h'' hs' => hq e T'' h'' (hs.trans hs')
   | _=>exact hq _ T' h' hs
theorem iY {S : List Nat} (hn : ∀ u ∈ S,u < n) : ∀ (c : Code),(∀ u ∈ S,u ∉ dF c) → ∀ (T : Tr) (h : aa) (q q' : Exit → Tr → aa → Option Out),(∀ e T' h',Sm S T T' → q e T' h' = q' e T' h') → run call F (cC P own n c) T h q = run call F (cC P own n c) T h q'
 | .skip,_,T,h,q,q',hq=>hq _ _ _ (Sm.refl S T)
 | .ret,_,T,h,q,q',hq=>hq _ _ _ (Sm.refl S T)
 | .exit i,_,T,h,q,q',hq=>hq _ _ _ (Sm.refl S T)
 | .label l,_,T,h,q,q',hq=>hq _ _ _ (Sm.refl S T)
 | .goto l,_,T,h,q,q',hq=>rfl
 | .scope a,hw,T,h,q,q',hq=>by
   show run call F (cC P own n a) T h _ = run call F (cC P own n a) T h _
   refine iY hn a hw T h _ _ fun e T' h' hs=>?_
   cases e <;> first|rfl|exact hq _ T' h' hs
 | .seq a b,hw,T,h,q,q',hq=>by
   have ha : ∀ u ∈ S,u ∉ dF a:=fun u hu hm=>hw u hu (by simp only [dF,List.mem_append];exact .inl hm)
   have hb : ∀ u ∈ S,u ∉ dF b:=fun u hu hm=>hw u hu (by simp only [dF,List.mem_append];exact .inr hm)
   simp only [cC]
   split
   ·rename_i d t hco
    have hcode : ∃ id ops,a = .region id ops true ∧ mY P n ops = some (d,t):=by
     cases a with
     | region id ops draw =>
       cases draw with
       | true=>exact ⟨id,ops,rfl,hco⟩
       | false=>simp [rp] at hco
     | _=>simp [rp] at hco
    obtain ⟨id,ops,rfl,hcb⟩:=hcode
    obtain ⟨hd,ht⟩:=D3 hcb
    simp only [run]
    split
    ·rename_i r1 r2 e1 e2
     split
     ·refine hq _ _ _ fun u hu=>vD T ?_
      unfold iB
      rw [List.mem_filter]
      refine ⟨List.mem_range.2 (hn u hu), ?_⟩
      simp only [List.any_cons,Bool.not_eq_true',Bool.or_eq_false_iff]
      have ne : ∀ v : Nat,v ≠ u → Nat.beq v u = false:=fun v hv=>by
       cases z : Nat.beq v u with
       | false=>rfl
       | true=>exact absurd (Nat.eq_of_beq_eq_true z) hv
      refine ⟨ne d fun e=>ha u hu (e ▸ hd),ne t fun e=>ha u hu (e ▸ ht), ?_⟩
      rw [List.any_eq_false]
      intro v hv z
      exact hb u hu ((Nat.eq_of_beq_eq_true z) ▸ hv)
     ·rfl
    ·rfl
   ·show run call F (cC P own n a) T h _ = run call F (cC P own n a) T h _
    refine iY hn a ha T h _ _ fun e T' h' hs=>?_
    cases e with
    | normal=>exact iY hn b hb T' h' q q' fun e T'' h'' hs' => hq e T'' h'' (hs.trans hs')
    | _=>exact hq _ T' h' hs
 | .block i a,hw,T,h,q,q',hq=>by
   show run call F (cC P own n a) T h _ = run call F (cC P own n a) T h _
   refine iY hn a hw T h _ _ fun e T' h' hs=>?_
   cases e with
   | exit j =>
     simp only
     split
     ·exact hq _ T' h' hs
     ·exact hq _ T' h' hs
   | _=>exact hq _ T' h' hs
 | .cond x a b,hw,T,h,q,q',hq=>by
   have ha : ∀ u ∈ S,u ∉ dF a:=fun u hu hm=>hw u hu (by simp only [dF,List.mem_append];exact .inl (.inr hm))
   have hb : ∀ u ∈ S,u ∉ dF b:=fun u hu hm=>hw u hu (by simp only [dF,List.mem_append];exact .inr hm)
   simp only [cC,run]
   split
   ·exact iY hn a ha T h q q' hq
   ·exact iY hn b hb T h q q' hq
   ·rfl
 | .loop a,hw,T,h,q,q',hq=>uK (fun T h q q' => iY hn a hw T h q q') F T h hq
 | .region id ops draw,hw,T,h,q,q',hq=>by
   have hw' : ∀ u ∈ S,u ∉ ops.toList.filterMap (·.dst):=hw
   cases draw with
   | false =>
     simp only [cC]
     unfold A5
     split
     ·simp only [run]
      exact kx [] (fun _ h=>by cases h) T h _ _ fun T' h' hs=>hq _ T' h' hs
     ·rename_i o0 rest hops
      rw [hops] at hw'
      split
      ·rename_i x h1 h2 h3
       simp only [run]
       split
       ·rename_i l2 _
        congr 1
        refine List.map_congr_left fun p _=>?_
        have s0 : Sm S T (dU (o0.dst.map paN) p.1 T):=Sm.dU (fun t ht hs=>hw' t hs (List.mem_filterMap.2 ⟨o0,List.mem_cons_self ..,ht⟩)) _ _
        refine kx _ (vS 1 rest fun u hu hm=>hw' u hu ?_) _ _ _ _ fun T' h' hs=>hq _ T' h' (s0.trans hs)
        obtain ⟨o',ho',e⟩:=List.mem_filterMap.1 hm
        exact List.mem_filterMap.2 ⟨o',List.mem_cons_of_mem _ ho',e⟩
       ·rfl
      ·simp only [run]
       exact kx _ (vS 0 (o0 :: rest) hw') T h _ _ fun T' h' hs=>hq _ T' h' hs
   | true =>
     simp only [cC]
     split
     ·simp only [run]
      exact yo (yG 0 ops.toList hw') fun T' h' hs=>hq _ T' h' hs
     ·rfl
 | .rangeFunc _ _ _ _,_,T,h,q,q',hq=>rfl
 | .refuse _,_,T,h,q,q',hq=>rfl
end
theorem Jf {P : Program} {o : Oper} {base : Nat} {ι : List Ix} {S : aJ} {a : Act} {w : World} {st : St} {x : Operand} {l2 : List (AV × aa)} (hr : ROK base ι S a w st) (ho : o.op = .next x false) (e : BR (ae st.fr x) st.h = some l2) : bk P o base ι S a w st fun v h=>(v,h) ∈ l2:=by
 unfold BR at e
 split at e
 ·rename_i id hx
  rw [dy] at e
  split at e
  ·rename_i m s sn l hi
   rw [dy] at e
   split at e
   ·rename_i c es he
    split at e
    ·rename_i hb hs
     refine Fy hr ho hx hi he hb (Nat.le_of_ble_eq_true hs) (fun hl=>?_) (fun p hp=>?_)
     ·rw [hl] at e;simp only [ia,Option.some.injEq] at e;rw [← e];simp
     ·split at e
      ·rename_i hl;rw [hl] at hp;cases hp
      ·rename_i p0 r hl
       simp only [ia,Option.some.injEq] at e
       rw [← e,← hl]
       exact List.mem_map.2 ⟨p,hp,rfl⟩
    ·cases e
   ·cases e
  ·cases e
 ·cases e
section
variable {P : Program} {call : aw} {own : Nat → Nat → Bool} {n F : Nat}
theorem Dv (hc : aW P call) {id : Nat} {ops : Array Oper} {o0 : Oper} {rest : List Oper} {x : Operand} {T : Tr} {st : St} {q : Exit → Tr → aa → Option Out} {r : Out} {m : Nat} (hops : ops.toList = o0 :: rest) (h1 : o0.op = .next x false) (h2 : o0.guard = none) (h3 : lQ n o0.dst = true)
 (hn : st.n = n) (hf : Fits st.fr T) (e : (match BR (evR T (cO x)) st.h with|some l2=>mA (l2.map fun p=>gu call (cGs P (own id) n ops 1 rest) (dU (o0.dst.map paN) p.1 T) p.2 (fun T h=>q .normal T h))|none=>none) = some r) : AW P m (.region id ops false) (mM n q r) st:=by
 subst hn
 split at e
 ·rename_i l2 hl2
  rw [wq hf] at hl2
  intro base ι S a w hm hr
  refine wp_region ?_
  have hsz : ops.size = rest.length + 1:=by have:=congrArg List.length hops;simpa using this
  have h0 : ops[0]? = some o0:=by rw [← Array.getElem?_toList,hops];rfl
  rw [hsz,List.range_eq_range',List.range'_succ,wpOps_cons]
  unfold wpOp
  rw [h0]
  simp only
  have hw : Region.wanted o0 (yielded ops a.tmps) = true:=by unfold Region.wanted;rw [h2]
  rw [if_pos hw]
  left
  refine ft (fun a' w' k' => ?_) (fun _ _ _ k' => k') (Jf (P:=P) hr h1 hl2 _)
  obtain ⟨ι',S',v,h',hE,hR,hl,hmem⟩:=k'
  have hrun:=A0 e _ (List.mem_map.2 ⟨(v,h'),hmem,rfl⟩)
  have hd : ∀ t : Nat,o0.dst = some t → t < st.n:=fun t ht=>by
   rw [ht] at h3;simp only [lQ,Nat.ble_eq] at h3;omega
  have hQ : ∀ st' T',st'.n = st.n → Fits st'.fr T' → q .normal T' st'.h = some r → mM st.n q r .normal st':=fun st' T' h1 h2 h3=>⟨h1,T',h2,h3⟩
  have:=oX (m:=m) (Q:=mM st.n q r) hc hQ rest 1 base ι' S' a' w' (bj st.n st.fr o0.dst v) h' (dU (o0.dst.map paN) v T) (fun j hj=>by
   rw [← Array.getElem?_toList,hops,Nat.add_comm 1 j];rfl) (by omega) hR (hf.set hd) hrun
  exact gq (fun e a w z=>bQ.trans (hE.mono (by rw [hr.hp.len];exact hm) (Nat.le_refl _)) z) _ _ _ this
 ·cases e
theorem fI (hc : aW P call) : ∀ (c : Code) (T : Tr) (st : St) (q : Exit → Tr → aa → Option Out) (r : Out) (m : Nat),st.n = n → Fits st.fr T → run call F (cC P own n c) T st.h q = some r → AW P m c (mM n q r) st
 | .skip,T,st,q,r,m,hn,hf,e=>ta ⟨hn,T,hf,e⟩
 | .ret,T,st,q,r,m,hn,hf,e=>vt ⟨hn,T,hf,e⟩
 | .exit i,T,st,q,r,m,hn,hf,e=>sZ ⟨hn,T,hf,e⟩
 | .label l,T,st,q,r,m,hn,hf,e=>p7 ⟨hn,T,hf,e⟩
 | .goto l,T,st,q,r,m,hn,hf,e=>by simp [cC,run] at e
 | .scope a,T,st,q,r,m,hn,hf,e=>by
   intro base ι S ac w hm hr
   refine wp_scope_straight (wp_mono (fI hc a T st _ r m hn hf e base ι S ac w hm hr) fun ex a' w' k=>?_)
   obtain ⟨ι',S',st',h1,h2,h3,hn',T',hf',e'⟩:=k
   cases ex with
   | goto l=>simp at e'
   | normal=>exact ⟨ι',S',st',h1,h2,h3,hn',T',hf',e'⟩
   | exit i=>exact ⟨ι',S',st',h1,h2,h3,hn',T',hf',e'⟩
   | ret=>exact ⟨ι',S',st',h1,h2,h3,hn',T',hf',e'⟩
   | panic ch=>exact ⟨ι',S',st',h1,h2,h3,hn',T',hf',e'⟩
   | outgrown=>exact ⟨ι',S',st',h1,h2,h3,hn',T',hf',e'⟩
 | .seq a b,T,st,q,r,m,hn,hf,e=>by
   simp only [cC] at e
   split at e
   ·rename_i d t hco
    simp only [run] at e
    split at e
    ·rename_i r1 r2 e1 e2
     split at e
     ·rename_i b2
      have q2:=pc _ _ b2
      have hcode : ∃ id ops,a = .region id ops true ∧ mY P n ops = some (d,t):=by
       cases a with
       | region id ops draw =>
         cases draw with
         | true=>exact ⟨id,ops,rfl,hco⟩
         | false=>simp [rp] at hco
       | _=>simp [rp] at hco
      obtain ⟨id,ops,rfl,hcb⟩:=hcode
      have hK : ∀ u ∈ iB n d t b,u < n ∧ u ≠ d ∧ u ≠ t ∧ u ∉ dF b:=fun u hu=>by
       unfold iB at hu
       rw [List.mem_filter] at hu
       obtain ⟨h1,h2⟩:=hu
       simp only [List.any_cons,Bool.not_eq_true',Bool.or_eq_false_iff] at h2
       refine ⟨List.mem_range.1 h1,fun z=>?_,fun z=>?_,fun z=>?_⟩
       ·rw [z] at h2;simp at h2
       ·rw [z] at h2;simp at h2
       ·have:=List.any_eq_false.1 h2.2.2 u z
        simp at this
      have fin : ∀ (v : Bool) (rv : Out),rv.2 = r1.2 → run call F (cC P own n b) (gn (paN t) (bool v) (gn (paN d) .any T)) (st.h ++ [.dead]) (BZ ((iB n d t b).map paN) T) = some rv → AW P m b (mM n q r) ⟨st.n,bK (bK st.fr d .any) t (bool v),st.h ++ [.dead]⟩:=by
       intro v rv hrv ev
       have hT : ∀ u ∈ iB n d t b,dZ (paN u) (gn (paN t) (bool v) (gn (paN d) .any T)) = dZ (paN u) T:=fun u hu=>by
        obtain ⟨_,h2,h3,_⟩:=hK u hu
        rw [gY _ _ _ _ h3,gY _ _ _ _ h2]
       let q2 : Exit → Tr → aa → Option Out:=fun e T' h=>match e with|.normal=>(open Classical in if ∀ u ∈ iB n d t b,dZ (paN u) T' = dZ (paN u) T then some (.tup (((iB n d t b).map paN).map fun p=>dZ p T),h) else none)|_=>none
       have eq : run call F (cC P own n b) (gn (paN t) (bool v) (gn (paN d) .any T)) (st.h ++ [.dead]) q2 = some rv:=by
        rw [← ev]
        refine iY (S:=iB n d t b) (fun u hu=>(hK u hu).1) b (fun u hu=>(hK u hu).2.2.2) _ _ _ _ fun e T' h' hs=>?_
        cases e with
        | normal=>simp only [q2,BZ];rw [if_pos fun u hu=>(hs u hu).trans (hT u hu)]
        | _=>rfl
       refine AW.post (fI hc b _ ⟨st.n,bK (bK st.fr d .any) t (bool v),st.h ++ [.dead]⟩ _ rv m hn ((hf.put d .any).put t (bool v)) eq) ?_
       rintro ex st' ⟨hn',T',hf',e'⟩
       cases ex with
       | normal =>
         simp only [q2] at e'
         split at e'
         ·rename_i hs
          simp only [Option.some.injEq] at e'
          rw [← e'] at hrv
          simp only at hrv
          refine ⟨_,HN st' (iB n d t b),hn',_,wx _ _, ?_⟩
          have : (iB n d t b).map (fun k=>aL st'.fr k) = ((iB n d t b).map paN).map fun p=>dZ p T:=by
           rw [List.map_map]
           exact List.map_congr_left fun k hk=>(hf' k).trans (hs k hk)
          rw [this]
          simp only [hrv]
          exact e
         ·cases e'
       | _=>simp [q2] at e'
      intro base ι S ac w hm hr
      exact mz (Ba (st:=st) hm (by rw [hn];exact hcb) fun v=>by
       cases v with
       | true=>exact fin true r1 rfl e1
       | false=>exact fin false r2 q2.symm e2) base ι S ac w hm hr
     ·cases e
    ·cases e
   ·refine mz ((fI hc a T st _ r m hn hf e).mono fun ex st' k=>?_)
    obtain ⟨hn',T',hf',e'⟩:=k
    cases ex with
    | normal=>exact fI hc b T' st' q r m hn' hf' e'
    | exit i=>exact ⟨hn',T',hf',e'⟩
    | goto l=>exact ⟨hn',T',hf',e'⟩
    | ret=>exact ⟨hn',T',hf',e'⟩
    | panic ch=>exact ⟨hn',T',hf',e'⟩
    | outgrown=>exact ⟨hn',T',hf',e'⟩
 | .block i a,T,st,q,r,m,hn,hf,e=>by
   refine p6 ((fI hc a T st _ r m hn hf e).mono fun ex st' k=>?_)
   obtain ⟨hn',T',hf',e'⟩:=k
   cases ex with
   | exit j =>
     simp only [od]
     simp only at e'
     split
     ·rename_i h
      rw [show Nat.beq j i = true from Nat.beq_eq ▸ h] at e'
      exact ⟨hn',T',hf',e'⟩
     ·rename_i h
      have : Nat.beq j i = false:=by
       cases z : Nat.beq j i with
       | false=>rfl
       | true=>exact absurd (Nat.eq_of_beq_eq_true z) h
      rw [this] at e'
      exact ⟨hn',T',hf',e'⟩
   | normal=>exact ⟨hn',T',hf',e'⟩
   | goto l=>exact ⟨hn',T',hf',e'⟩
   | ret=>exact ⟨hn',T',hf',e'⟩
   | panic ch=>exact ⟨hn',T',hf',e'⟩
   | outgrown=>exact ⟨hn',T',hf',e'⟩
 | .cond x a b,T,st,q,r,m,hn,hf,e=>by
   simp only [cC,run] at e
   intro base ι S ac w hm hr
   have rv:=hr.eval x
   rw [← wq hf x] at rv
   split at e
   ·rename_i hx
    rw [hx,bL] at rv
    exact wp_cond_true rv (fI hc a T st q r m hn hf e base ι S ac w hm hr)
   ·rename_i hx
    rw [hx,bL] at rv
    exact wp_cond_false rv (fI hc b T st q r m hn hf e base ι S ac w hm hr)
   ·cases e
 | .loop a,T,st,q,r,m,hn,hf,e=>by
   refine Im (α:=St × Tr × Nat) (fun x=>x.1.n = n ∧ Fits x.1.fr x.2.1 ∧ nt x.2.2 (run call F (cC P own n a)) q x.2.1 x.1.h = some r) (fun x=>x.1) (fun x=>x.2.2) (st,T,F) ⟨hn,hf,e⟩ (nW.refl _ _) ?_
   rintro ⟨s,T,k⟩ ⟨hn,hf,e⟩
   cases k with
   | zero=>simp [nt] at e
   | succ k =>
     refine (fI hc a T s _ r m hn hf e).mono fun ex st' hk=>?_
     obtain ⟨hn',T',hf',e'⟩:=hk
     cases ex with
     | normal=>exact ⟨(st',T',k),⟨hn',hf',e'⟩,nW.refl _ _,Nat.lt_succ_self k⟩
     | exit i=>exact ⟨hn',T',hf',e'⟩
     | goto l=>exact ⟨hn',T',hf',e'⟩
     | ret=>exact ⟨hn',T',hf',e'⟩
     | panic ch=>exact ⟨hn',T',hf',e'⟩
     | outgrown=>exact ⟨hn',T',hf',e'⟩
 | .region id ops draw,T,st,q,r,m,hn,hf,e=>by
   have hQ : ∀ st' T',st'.n = n → Fits st'.fr T' → q .normal T' st'.h = some r → mM n q r .normal st':=fun st' T' h1 h2 h3=>⟨h1,T',h2,h3⟩
   cases draw with
   | false =>
     simp only [cC] at e
     by_cases hx : ∃ o0 rest x,ops.toList = o0 :: rest ∧ o0.op = .next x false ∧ o0.guard = none ∧ lQ n o0.dst = true
     ·obtain ⟨o0,rest,x,hops,h1,h2,h3⟩:=hx
      refine Dv (own:=own) (x:=x) hc hops h1 h2 h3 hn hf ?_
      simpa only [A5,hops,h1,h2,h3,run] using e
     have e : run call F (.reg (cGs P (own id) n ops 0 ops.toList)) T st.h q = some r:=by
      unfold A5 at e
      split at e
      ·rename_i hl;rw [hl];exact e
      ·rename_i o0 rest hops
       split at e
       ·rename_i x h1 h2 h3;exact absurd ⟨o0,rest,x,hops,h1,h2,h3⟩ hx
       ·rw [hops];exact e
     simp only [run] at e
     intro base ι S a w hm hr
     subst hn
     have:=oX (m:=m) (Q:=mM st.n q r) hc hQ ops.toList 0 base ι S a w st.fr st.h T (fun j hj=>by simp) hm hr hf e
     rw [show List.range' 0 ops.toList.length = List.range ops.size by rw [List.range_eq_range'];simp] at this
     exact wp_region this
   | true =>
     simp only [cC] at e
     split at e
     ·rename_i h1 h2
      simp only [run] at e
      exact Dy hc h1 h2 hn hf e hQ
     ·simp [run] at e
 | .rangeFunc _ _ _ _,T,st,q,r,m,hn,hf,e=>by simp [cC,run] at e
 | .refuse _,T,st,q,r,m,hn,hf,e=>by simp [cC,run] at e
end

/-! ### Results -/
inductive RR where
 | t (p : Pa)
 | c (p : Pa) (g : Bool) (sz : Nat)
 | bad
noncomputable def cR (P : Program) (x : ResultVar) : RR :=
 match x with
 | .tmp t=>.t (paN t)
 | .cell a t=>(match tOk P t with|true=>.c (paN a) (cW P t) (P.cellsOf t)|false=>.bad)
noncomputable def mn (T : Tr) (h : aa) : List RR → Option (List AV)
 | []=>some []
 | .t p :: r=>(match mn T h r with|some l=>some (dZ p T :: l)|none=>none)
 | .c p g sz :: r=>(match rG g sz (dZ p T) h,mn T h r with|some v,some l=>some (v :: l)|_,_=>none)
 | .bad :: _=>none
theorem ub {P : Program} {T : Tr} {st : St} (hf : Fits st.fr T) : ∀ (rs : List ResultVar) (l : List AV) (K : List AV → Prop),mn T st.h (rs.map (cR P)) = some l → K l → lB P st rs K
 | [],l,K,e,hk=>by simp only [List.map_nil,mn,Option.some.injEq] at e;subst e;exact hk
 | .tmp t :: rs,l,K,e,hk=>by
   simp only [List.map_cons,cR,mn] at e
   split at e
   ·rename_i l' hl
    cases e
    refine ub hf rs l' _ hl ?_
    have : ae st.fr (.tmp t) = dZ (paN t) T:=hf t
    rw [this];exact hk
   ·cases e
 | .cell a t :: rs,l,K,e,hk=>by
   simp only [List.map_cons,cR] at e
   cases ht : tOk P t with
   | false=>rw [ht] at e;simp [mn] at e
   | true =>
     rw [ht] at e
     simp only [mn] at e
     split at e
     ·rename_i v l' hv hl
      cases e
      simp only [lB,ht]
      have : ae st.fr (.tmp a) = dZ (paN a) T:=hf a
      rw [this]
      exact we hv (ub hf rs l' _ hl hk)
     ·cases e

/-! ### Functions -/
structure RFn where
 code : RC
 rs : List RR
 n : Nat
noncomputable def cF (P : Program) (own : Nat → Nat → Nat → Bool) (f : FuncId) : Option RFn :=
 match P.funcs[f]? with
 | some fn=>(match fn.body,cq P f with
   | some c,true=>some ⟨cC P (own f) fn.ntmps c,fn.results.toList.map (cR P),fn.ntmps⟩
   | _,_=>none)
 | none=>none
noncomputable def uW (call : aw) (F : Nat) (g : RFn) (args : List AV) (h : aa) : Option Out :=
 match Nat.ble (dh args) g.n with
 | true=>run call F g.code (qX args 0) h (fun e T h=>match e with
   | .normal=>(match mn T h g.rs with|some l=>some (fO l,h)|none=>none)
   | .ret=>(match mn T h g.rs with|some l=>some (fO l,h)|none=>none)
   | _=>none)
 | false=>none

theorem kJ.K1 {P : Program} {f : FuncId} {c : Code} {n : Nat} {rs : List ResultVar} (F : kJ P f c n rs) {args : List AV} {h : aa} {K : AV → aa → Prop} (hl : args.length ≤ n)
 (q : AW P h.length c (re P rs fun r h' => ∃ r' h'',Wk h.length [r] h' [r'] h'' ∧ K r' h'') ⟨n,gP args 0,h⟩) : ct P f args h K:=by
 obtain ⟨fn,hf,hb,hrs,hn,_⟩:=F
 subst hrs
 intro base ι S w vs h1 h2
 have hlen:=h1.length
 refine calls_of_wp hf hb (wp_mono (q base ι S _ w (Nat.le_refl _) ⟨rfl,by simp [hn];omega,tg h1 _,h2⟩) ?_)
 rintro e a' w' ⟨ι',S',st',hE,hm,hr,hq⟩
 have fin : lB P st' fn.results.toList (fun l=>∃ r' h'',Wk h.length [fO l] st'.h [r'] h'' ∧ K r' h'') → a'.defers = [] ∧ ∃ v,(results fn a'.tmps).run P w' = .ok v w' ∧
  ∃ u ι'' S'' r h',Ending.returned v = .returned u ∧ Evo h.length base ι S w ι'' S'' w' ∧ Rep ι'' S'' w' r u ∧ HOK base ι'' S'' w' h' ∧ h.length ≤ h'.length ∧ K r h':=by
  intro hq
  obtain ⟨l,us,e1,rl,r',h'',⟨wk1,wk2,wk3⟩,k⟩:=iu (P:=P) hr fn.results.toList _ hq
  have hv : Rep ι' S' w' (fO l) (if hh : us.length = 1 then us[0] else .tuple us.toArray):=by
   have hl:=rl.length
   match l,us,hl,rl with
   | [],[],_,_=>simp only [fO];rw [Rep];exact ⟨[],rfl,by simp⟩
   | [x],[u],_,rl=>simp at rl;simpa [fO] using rl
   | x :: y :: l,u :: v :: us,_,rl=>simp only [fO];rw [Rep];exact ⟨u :: v :: us,by simp,rl⟩
  obtain ⟨ι2,S2,hE2,hs2,hp2⟩:=wk3 base ι' S' w' [_] ((bD _ _ _ _).2 ⟨hv,by simp⟩) hr.hp
  refine ⟨hr.df,if hh : us.length = 1 then us[0] else .tuple us.toArray, ?_,_,ι2,S2,r',h'',rfl,hE.trans hE2,((bD _ _ _ _).1 hs2).1,hp2,wk1,k⟩
  rw [nA,← Array.toArray_toList (xs:=fn.results),List.mapM_toArray]
  simp only [Sem.run_bind,Sem.run_map,e1,Result.andThen_ok,Sem.run_pure]
  by_cases hh : us.length = 1 <;> simp [hh]
 cases e with
 | normal=>exact fin hq
 | ret=>exact fin hq
 | _=>exact hq.elim

theorem Mz {P : Program} {own : Nat → Nat → Nat → Bool} {f : FuncId} {g : RFn} (h : cF P own f = some g) : ∃ c rs,kJ P f c g.n rs ∧ g.code = cC P (own f) g.n c ∧ g.rs = rs.map (cR P):=by
 unfold cF at h
 split at h
 ·rename_i fn hf
  split at h
  ·rename_i c hb hh
   cases h
   exact ⟨c,fn.results.toList,⟨fn,hf,hb,rfl,rfl,hh⟩,rfl,rfl⟩
  ·cases h
 ·cases h

theorem vO {P : Program} {own : Nat → Nat → Nat → Bool} {call : aw} {F : Nat} {f : FuncId} {g : RFn} {args : List AV} {h h1 : aa} {v : AV} {K : AV → aa → Prop} (hc : aW P call) (hg : cF P own f = some g) (e : uW call F g args h = some (v,h1))
 (hk : h.length ≤ h1.length → ∃ r' h'',Wk h.length [v] h1 [r'] h'' ∧ K r' h'') : cq P f = true ∧ ct P f args h K:=by
 obtain ⟨c,rs,hF,ec,er⟩:=Mz hg
 unfold uW at e
 split at e
 ·rename_i hl
  rw [Nat.ble_eq,b7] at hl
  refine ⟨hF.hb,hF.K1 hl ?_⟩
  rw [ec] at e
  refine AW.sE (fI hc c _ ⟨g.n,gP args 0,h⟩ _ (v,h1) h.length rfl (uB args 0) e) fun ex st' hm k=>?_
  obtain ⟨hn',T',hf',e'⟩:=k
  have fin : (match mn T' st'.h g.rs with|some l=>some (fO l,st'.h)|none=>none) = some (v,h1) → lB P st' rs fun l=>∃ r' h'',Wk h.length [fO l] st'.h [r'] h'' ∧ K r' h'':=by
   intro e'
   split at e'
   ·rename_i l hl'
    simp only [Option.some.injEq,Prod.mk.injEq] at e'
    obtain ⟨rfl,rfl⟩:=e'
    rw [er] at hl'
    exact ub hf' rs l _ hl' (hk hm)
   ·cases e'
  cases ex with
  | normal=>exact fin e'
  | ret=>exact fin e'
  | exit i=>cases e'
  | goto l=>cases e'
  | panic ch=>cases e'
  | outgrown=>cases e'
 ·cases e

/-! ### What is told behind a call -/
noncomputable def mxE (a : AV) : Nat :=
 AV.rec (motive_1:=fun _=>Nat) (motive_2:=fun _=>Nat) (motive_3:=fun _=>Nat)
  (fun _=>0) (fun _=>0) 0 (fun _ ih=>ih) (fun _ ih=>ih) 0 (fun _ _ ih=>ih) (fun id _ _ ih=>match Nat.ble ih id with|true=>id + 1|false=>ih) (fun _ ih=>ih) (fun id _ _ _=>id + 1) (fun id _=>id + 1)
  (fun _ _ _ ih1 ih2=>match Nat.ble ih1 ih2 with|true=>ih2|false=>ih1) (fun _ _ ih=>ih) (fun id=>id + 1)
  0 (fun _ _ ih1 ih2=>match Nat.ble ih1 ih2 with|true=>ih2|false=>ih1) 0 (fun _ _ ih1 ih2=>match Nat.ble ih1 ih2 with|true=>ih2|false=>ih1) a
omit [Laid] in
theorem mx2 {a b n : Nat} (h : (match Nat.ble a b with|true=>b|false=>a) ≤ n) : a ≤ n ∧ b ≤ n:=by
 split at h
 ·rename_i e;rw [Nat.ble_eq] at e;omega
 ·rename_i e
  have : ¬ a ≤ b:=fun q=>by rw [← Nat.ble_eq] at q;rw [q] at e;cases e
  omega
omit [Laid] in
theorem mx3 {a j n : Nat} (h : (match Nat.ble a j with|true=>j + 1|false=>a) ≤ n) : a ≤ n ∧ j < n:=by
 split at h
 ·rename_i e;rw [Nat.ble_eq] at e;have h : j < n:=h;exact ⟨by omega,h⟩
 ·rename_i e
  have : ¬ a ≤ j:=fun q=>by rw [← Nat.ble_eq] at q;rw [q] at e;cases e
  omega
omit [Laid] in
theorem jU (n : Nat) (a : AV) : mxE a ≤ n → Bd n a:=by
 refine AV.rec (motive_1:=fun a=>mxE a ≤ n → Bd n a) (motive_2:=fun l=>mxE (.agg l) ≤ n → BdL n l) (motive_3:=fun r=>mxE (.sl 0 r) ≤ n → BdR n r) ?_ ?_ ?_ ?_ ?_ ?_ ?_ ?_ ?_ ?_ ?_ ?_ ?_ ?_ ?_ ?_ ?_ ?_ a
 ·intro x _;simp [Bd]
 ·intro x _;simp [Bd]
 ·intro _;simp [Bd]
 ·intro cs ih h;rw [Bd];exact ih h
 ·intro cs ih h;rw [Bd];exact ih h
 ·intro _;simp [Bd]
 ·intro sz rows ih h;rw [Bd];exact ih h
 ·intro id sz rows ih h
  rw [Bd]
  have:=mx3 (a:=mxE (.sl 0 rows)) (j:=id) h
  exact ⟨this.2,ih this.1⟩
 ·intro cs ih h;rw [Bd];exact ih h
 ·intro id off len sz h;rw [Bd];have h : id + 1 ≤ n:=h;omega
 ·intro id off h;rw [Bd];have h : id + 1 ≤ n:=h;omega
 ·intro f xs ys ih1 ih2 h;rw [Bd];have:=mx2 (a:=mxE (.agg xs)) (b:=mxE (.agg ys)) h;exact ⟨ih1 this.1,ih2 this.2⟩
 ·intro t x ih h;rw [Bd];exact ih h
 ·intro id h;rw [Bd];have h : id + 1 ≤ n:=h;omega
 ·intro _;simp [BdL]
 ·intro x l ih1 ih2 h;rw [BdL];have:=mx2 (a:=mxE x) (b:=mxE (.agg l)) h;exact ⟨ih1 this.1,ih2 this.2⟩
 ·intro _;simp [BdR]
 ·intro x l ih1 ih2 h;rw [BdR];have:=mx2 (a:=mxE (.agg x)) (b:=mxE (.sl 0 l)) h;exact ⟨ih1 this.1,ih2 this.2⟩
omit [Laid] in
theorem kM (a : AV) : Bd 0 a → Pure a:=by
 refine AV.rec (motive_1:=fun a=>Bd 0 a → Pure a) (motive_2:=fun l=>BdL 0 l → bM l) (motive_3:=fun r=>BdR 0 r → cd r) ?_ ?_ ?_ ?_ ?_ ?_ ?_ ?_ ?_ ?_ ?_ ?_ ?_ ?_ ?_ ?_ ?_ ?_ a
 all_goals intros
 all_goals simp_all [Bd,BdL,BdR,Pure,bM,cd]
omit [Laid] in
theorem gQ (n : Nat) : ∀ l,BdL n l ↔ ∀ a ∈ l,Bd n a
 | []=>by simp [BdL]
 | a :: l=>by rw [BdL,gQ n l];simp

def mpC : List (Nat × AV × AV) → List AV
 | []=>[]
 | (_,k,c) :: r=>k :: c :: mpC r
omit [Laid] in
theorem tT : ∀ {es : List (Nat × AV × AV)} {p : Nat × AV × AV},p ∈ es → p.2.1 ∈ mpC es ∧ p.2.2 ∈ mpC es
 | (n,k,c) :: r,p,h=>by
  rcases List.mem_cons.1 h with rfl|h
  ·simp [mpC]
  ·have:=tT h
   simp [mpC,this.1,this.2]
def dg (M : Nat) (e : Ent) : Prop:=match e with|.blk b=>BdL M b.cells|.mp _ es=>BdL M (mpC es)|.it m _ _ _=>m < M|_=>True
noncomputable def kR (e : Ent) : Nat:=match e with|.blk b=>mxE (.agg b.cells)|.mp _ es=>mxE (.agg (mpC es))|.it m _ _ _=>m + 1|_=>0
omit [Laid] in
theorem Jn {M : Nat} {e : Ent} (h : kR e ≤ M) : dg M e:=by
 cases e with
 | blk b=>have:=jU M (.agg b.cells) h;rw [Bd] at this;exact this
 | tok=>trivial
 | dead=>trivial
 | mp c es=>have:=jU M (.agg (mpC es)) h;rw [Bd] at this;exact this
 | it m s sn l=>have h : m + 1 ≤ M:=h;show m < M;omega

theorem HOK.cut {base : Nat} {ι : List Ix} {S : aJ} {w : World} {h : aa} {M : Nat} (hh : HOK base ι S w h) (hM : M ≤ h.length) (hb : ∀ e ∈ h.take M,dg M e) :
 Evo M base ι S w (ι.take M) (eV M ι S h) w ∧ HOK base (ι.take M) (eV M ι S h) w (h.take M):=by
 obtain ⟨hE,hT⟩:=hh.told hM
 refine ⟨hE, ?_⟩
 have pre : ∀ {i : Nat},i < M → (ι.take M)[i]? = ι[i]?:=fun q=>by rw [List.getElem?_take,if_pos q]
 have ent : ∀ {i : Nat} {x : Ent},(h.take M)[i]? = some x → i < M ∧ h[i]? = some x ∧ (tlH M h)[i]? = some (tlE M h x):=by
  intro i x e
  rw [List.getElem?_take] at e
  split at e
  ·rename_i q;exact ⟨q,e,by simp only [tlH,List.getElem?_map,List.getElem?_take,if_pos q,e,Option.map_some]⟩
  ·cases e
 have alv : ∀ {i : Nat},alive (h.take M)[i]? → alive (tlH M h)[i]?:=by
  intro i ha
  cases e : (h.take M)[i]? with
  | none=>rw [e] at ha;exact ha.elim
  | some x =>
    rw [(ent e).2.2]
    rw [e] at ha
    cases x with
    | it m s sn l =>
      have : dg M (.it m s sn l):=hb _ (List.mem_of_getElem? e)
      have : m < M:=this
      simp only [tlE,if_pos this]
      trivial
    | dead=>exact ha
    | _=>exact trivial
 refine ⟨by simp [hh.len],fun id x e=>?_,fun id t sz n e=>?_,fun id en e=>?_,fun i j b ai aj hi hj=>hT.inj i j b (alv ai) (alv aj) hi hj,hT.stb,hh.bas,hh.gl.evo hE⟩
 rotate_left 2
 ·obtain ⟨q,e1,e2⟩:=ent e
  have hbd : dg M en:=hb _ (List.mem_of_getElem? e)
  have hTo:=hT.oth id _ e2
  have hho:=hh.oth id en e1
  cases en with
  | blk=>trivial
  | tok=>trivial
  | dead=>trivial
  | mp c es =>
    obtain ⟨b,arr,h1,h2,h3,h4,_⟩:=hTo
    obtain ⟨b',arr',k1,_,k3,_,k5⟩:=hho
    rw [pre q,k1] at h1;cases h1
    rw [k3] at h3;cases h3
    exact ⟨b,arr,(pre q).trans k1,h2,k3,h4,k5.bd fun p hp=>⟨fun y=>Rep.eD hE _ y ((gQ M _).1 hbd _ (tT hp).1),fun y=>Rep.eD hE _ y ((gQ M _).1 hbd _ (tT hp).2)⟩⟩
  | it m s sn l =>
    have hm : m < M:=hbd
    simp only [tlE,if_pos hm] at hTo
    exact hTo
 ·obtain ⟨q,e1,e2⟩:=ent e
  obtain ⟨b,arr,fz,h1,h2,h3,h4,h5,h6,h7,h8,h9⟩:=hT.live id _ e2
  refine ⟨b,arr,fz,h1,h2,h3,h4,by simpa using h5,fun i c ec=>?_,h7,fun o ho=>by simpa using h8 o ho,fun hw o ho=>h9 hw o (by simpa using ho)⟩
  obtain ⟨b',arr',fz',k1,k2,k3,k4,k5,k6,_⟩:=hh.live id x e1
  rw [pre q,k1] at h1;cases h1
  rw [k3] at h3;cases h3
  obtain ⟨v,e3,r⟩:=k6 i c ec
  have hbd : dg M (.blk x):=hb _ (List.mem_of_getElem? e)
  exact ⟨v,e3,Rep.eD hE c v ((gQ M x.cells).1 hbd c (List.mem_of_getElem? ec)) r⟩
 ·obtain ⟨q,e1,e2⟩:=ent e
  exact hT.tok id t sz n e2

noncomputable def nJ (M : Nat) (h : aa) (a : AV) : AV:=match Nat.ble (mxE a) M with|true=>a|false=>tl M h 6 a
theorem Wk.cut {L M : Nat} {h : aa} {v : AV} (hL : L ≤ M) (hM : M ≤ h.length) (hb : ∀ e ∈ h.take M,dg M e) : Wk L [v] h [nJ M h v] (h.take M) :=
 ⟨by simp;omega,rfl,fun base ι S w vs r k=>by
  obtain ⟨hE,hT⟩:=k.cut hM hb
  refine ⟨_,_,hE.mono hL (Nat.le_refl _), ?_,hT⟩
  obtain ⟨u,rfl⟩ : ∃ u,vs = [u]:=by
   cases vs with
   | nil=>simp at r
   | cons u us=>simp at r;exact ⟨u,by rw [r.2]⟩
  simp only [bD,fL,and_true] at r ⊢
  unfold nJ
  split
  ·rename_i e;rw [Nat.ble_eq] at e;exact Rep.eD hE v u (jU M v e) r
  ·exact Rep.tl k 6 v u r⟩

noncomputable def mxH (l : aa) : Nat:=List.rec (motive:=fun _=>Nat) 0 (fun e _ ih=>match Nat.ble (kR e) ih with|true=>ih|false=>kR e) l
omit [Laid] in
theorem LP (l : aa) : ∀ e ∈ l,kR e ≤ mxH l:=by
 induction l with
 | nil=>intro e h;cases h
 | cons x l ih =>
   intro e he
   have hx : kR x ≤ mxH (x :: l) ∧ mxH l ≤ mxH (x :: l):=by
    show kR x ≤ (match Nat.ble (kR x) (mxH l) with|true=>mxH l|false=>kR x) ∧ mxH l ≤ (match Nat.ble (kR x) (mxH l) with|true=>mxH l|false=>kR x)
    split
    ·rename_i e;rw [Nat.ble_eq] at e;exact ⟨e,Nat.le_refl _⟩
    ·rename_i e
     have : ¬ kR x ≤ mxH l:=fun q=>by rw [← Nat.ble_eq] at q;rw [q] at e;cases e
     omega
   rcases List.mem_cons.1 he with rfl|he
   ·exact hx.1
   ·exact Nat.le_trans (ih e he) hx.2
def O3 (a b : Nat) : Nat:=match Nat.ble a b with|true=>b|false=>a
noncomputable def H4 (h : aa) : Nat → Nat → Nat
 | 0,M=>M
 | k + 1,M=>match Nat.ble (mxH (iG M h)) M with|true=>M|false=>H4 h k (mxH (iG M h))
noncomputable def Gf (L : Nat) (keepRes : Bool) (v : AV) (h : aa) : AV × aa :=
 match Nat.beq (dh h) L with
 | true=>(v,h)
 | false=>match H4 h 4 (match keepRes with|true=>O3 L (mxE v)|false=>L) with
   | M=>match Nat.ble (mxH (iG M h)) M,Nat.ble L M,ie M h with
     | true,true,true=>(nJ M h v,iG M h)
     | _,_,_=>(v,h)
theorem IH {L : Nat} {kr : Bool} {v v' : AV} {h h' : aa} (hL : L ≤ h.length) (e : Gf L kr v h = (v',h')) : Wk L [v] h [v'] h':=by
 unfold Gf at e
 split at e
 ·cases e;exact Wk.refl _ _ _ hL
 ·simp only at e
  split at e
  ·rename_i e1 e2 e3
   cases e
   rw [iO] at e1 ⊢
   rw [Nat.ble_eq] at e1 e2
   exact Wk.cut e2 ((e9 _ _).1 e3) fun x hx=>Jn (Nat.le_trans (LP _ x hx) e1)
  ·cases e;exact Wk.refl _ _ _ hL

/-! ### Calls -/
structure Cfg where
 own : Nat → Nat → Nat → Bool
 fm : Nat → Bool
 fuel : Nat
noncomputable def fc (args : List AV) : Bool:=js (fun a=>match mxE a with|0=>true|_=>false) args
noncomputable def qG (P : Program) (C : Cfg) (call : aw) (f : FuncId) (args : List AV) (h : aa) : Option (AV × Option aa) :=
 match cF P C.own f with
 | none=>none
 | some g=>(match fc args,C.fm f with
   | true,false=>(match uW call C.fuel g args [] with
     | some (v,h1)=>(match mxE (nJ 0 h1 v) with|0=>some (nJ 0 h1 v,none)|_=>none)
     | none=>none)
   | _,kr=>(match uW call C.fuel g args h with
     | some (v,h1)=>(match Gf (dh h) kr v h1 with|(v',h')=>some (v',some h'))
     | none=>none))
noncomputable def iy (P : Program) (C : Cfg) (known : aw) (d : Nat) : aw :=
 Nat.rec (motive:=fun _=>aw) (fun _ _ _=>none) (fun _ ih f args h=>match known f args h with|some r=>some r|none=>qG P C ih f args h) d

theorem yw {P : Program} {C : Cfg} {call : aw} (hc : aW P call) : aW P (qG P C call):=by
 intro f args h v oh e
 unfold qG at e
 split at e
 ·cases e
 ·rename_i g hg
  split at e
  ·rename_i hp hk
   split at e
   ·rename_i v0 h0 hb
    split at e
    ·rename_i hm
     cases e
     have pure : bM args:=by
      unfold fc at hp
      rw [eH] at hp
      have : ∀ a ∈ args,Bd 0 a:=fun a ha=>by
       have:=List.all_eq_true.1 hp a ha
       split at this
       ·rename_i z;exact jU 0 a (by omega)
       ·cases this
      have h2 : Pure (.agg args):=kM _ (by rw [Bd];exact (gQ 0 args).2 this)
      rw [Pure] at h2;exact h2
     have hcon : cq P f = true ∧ ct P f args [] fun r' _=>r' = nJ 0 h0 v0:=vO hc hg hb fun _=>⟨_,_,Wk.cut (Nat.le_refl 0) (Nat.zero_le _) (by simp),rfl⟩
     have C' : Con P f args (nJ 0 h0 v0):=⟨pure,kM _ (jU 0 _ (by omega)),hcon.2⟩
     exact .inl ⟨hcon.1,C'.call ⟨rfl,rfl⟩⟩
    ·cases e
   ·cases e
  ·split at e
   ·rename_i v0 h0 hb
    split at e
    rename_i v' h' hq
    simp only [Option.some.injEq,Prod.mk.injEq] at e
    obtain ⟨rfl,rfl⟩:=e
    rw [b7] at hq
    exact .inl (vO hc hg hb fun hl=>⟨_,_,IH hl hq,rfl,rfl⟩)
   ·cases e
theorem qe {P : Program} {C : Cfg} {known : aw} (hk : aW P known) : ∀ d,aW P (iy P C known d)
 | 0=>fun f args h v oh e=>by simp [iy] at e
 | d + 1=>fun f args h v oh e=>by
   simp only [iy] at e
   split at e
   ·rename_i r hr;cases e;exact hk f args h v oh hr
   ·exact yw (qe hk d) f args h v oh e
theorem gF {P : Program} {C : Cfg} {known : aw} (hk : aW P known) {d : Nat} {f : FuncId} {args : List AV} {r : AV} (pa : fc args = true) (pr : fc [r] = true) (hb : cq P f = true) (e : iy P C known d f args [] = some (r,none)) : Con P f args r:=by
 have p : ∀ l : List AV,fc l = true → bM l:=fun l hp=>by
  unfold fc at hp
  rw [eH] at hp
  have : ∀ a ∈ l,Bd 0 a:=fun a ha=>by
   have:=List.all_eq_true.1 hp a ha
   split at this
   ·rename_i z;exact jU 0 a (by omega)
   ·cases this
  have h2 : Pure (.agg l):=kM _ (by rw [Bd];exact (gQ 0 l).2 this)
  rw [Pure] at h2;exact h2
 have pr':=p [r] pr
 rw [bM] at pr'
 rcases (qe hk d) f args [] r none e with ⟨_,hA⟩|hA
 ·exact ⟨p args pa,pr'.1,hA.mono fun r' hh q=>q.1⟩
 ·rw [hA.1] at hb;cases hb
end Go.Aw
end
