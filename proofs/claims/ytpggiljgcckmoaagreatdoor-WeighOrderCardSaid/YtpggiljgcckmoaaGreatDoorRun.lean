/-
  Each operation of the model as one that the kernel computes; and what it leaves.
  No conditions: definitions and lemmas over any program.
-/
import Derived.Test.YtpggiljgcckmoaaGreatDoorRop2
import Derived.Laws.Externs
import Derived.WideLaws
namespace Go.Aw
open Go Go.RowKit
variable [Laid]

/-! ### Slots as paths -/
inductive Pa where
  | o
  | l (p : Pa)
  | r (p : Pa)
inductive Tr where
  | lf
  | nd (v : AV) (l r : Tr)
noncomputable def Tr.v (t : Tr) : AV := Tr.casesOn (motive := fun _ => AV) t .any (fun v _ _ => v)
noncomputable def Tr.L (t : Tr) : Tr := Tr.casesOn (motive := fun _ => Tr) t .lf (fun _ l _ => l)
noncomputable def Tr.R (t : Tr) : Tr := Tr.casesOn (motive := fun _ => Tr) t .lf (fun _ _ r => r)
noncomputable def getP (p : Pa) : Tr → AV := Pa.rec (motive := fun _ => Tr → AV) (fun t => t.v) (fun _ ih t => ih t.L) (fun _ ih t => ih t.R) p
noncomputable def putP (p : Pa) (x : AV) : Tr → Tr := Pa.rec (motive := fun _ => Tr → Tr) (fun t => .nd x t.L t.R) (fun _ ih t => .nd t.v (ih t.L) t.R) (fun _ ih t => .nd t.v t.L (ih t.R)) p
def paF : Nat → Nat → Pa
  | 0, _ => .o
  | f + 1, n => match n with
    | 0 => .o
    | t + 1 => match Nat.beq (t % 2) 0 with | true => .l (paF f (t / 2)) | false => .r (paF f (t / 2))
def paN (n : Nat) : Pa := paF (n + 1) n
def Pa.num : Pa → Nat | .o => 0 | .l p => 2 * p.num + 1 | .r p => 2 * p.num + 2
section
omit [Laid]
theorem paF_num : ∀ f n, n < f → (paF f n).num = n := by
  intro f
  induction f with
  | zero => intro n h; omega
  | succ f ih =>
    intro n h
    cases n with
    | zero => rfl
    | succ t =>
      rw [paF]
      cases e : Nat.beq (t % 2) 0 with
      | true => have := Nat.eq_of_beq_eq_true e; simp only [Pa.num]; rw [ih _ (by omega)]; omega
      | false =>
        have : t % 2 ≠ 0 := fun q => by rw [q] at e; cases e
        simp only [Pa.num]; rw [ih _ (by omega)]; omega
theorem paN_inj {a b : Nat} (h : paN a = paN b) : a = b := by
  have := congrArg Pa.num h
  rwa [paN, paN, paF_num _ _ (by omega), paF_num _ _ (by omega)] at this
theorem get_put_self (p : Pa) (x : AV) : ∀ T, getP p (putP p x T) = x := by
  induction p with
  | o => intro T; rfl
  | l p ih => intro T; exact ih T.L
  | r p ih => intro T; exact ih T.R
theorem get_put_ne : ∀ (p q : Pa) (x : AV) (T : Tr), p ≠ q → getP p (putP q x T) = getP p T
  | .o, .o, x, T, h => absurd rfl h
  | .o, .l q, x, T, _ => by cases T <;> rfl
  | .o, .r q, x, T, _ => by cases T <;> rfl
  | .l p, .o, x, T, _ => by cases T <;> rfl
  | .r p, .o, x, T, _ => by cases T <;> rfl
  | .l p, .l q, x, T, h => get_put_ne p q x T.L fun e => h (by rw [e])
  | .r p, .r q, x, T, h => get_put_ne p q x T.R fun e => h (by rw [e])
  | .l p, .r q, x, T, _ => by cases T <;> rfl
  | .r p, .l q, x, T, _ => by cases T <;> rfl
theorem getP_lf (p : Pa) : getP p .lf = .any := by
  induction p with
  | o => rfl
  | l p ih => exact ih
  | r p ih => exact ih
end
/-- The tree holds what the frame tells. -/
def Fits (fr : Fr) (T : Tr) : Prop := ∀ t, getF fr t = getP (paN t) T
section
omit [Laid]
theorem Fits.put {fr : Fr} {T : Tr} (h : Fits fr T) (t : Nat) (x : AV) : Fits (putF fr t x) (putP (paN t) x T) := by
  intro u
  rw [getF_put]
  by_cases e : t = u
  · subst e; rw [if_pos rfl, get_put_self]
  · rw [if_neg e, get_put_ne _ _ _ _ (fun q => e (paN_inj q).symm)]; exact h u
theorem Fits.eq {fr fr' : Fr} {T : Tr} (h : Fits fr T) (e : FrEq fr' fr) : Fits fr' T := fun t => (e t).trans (h t)
noncomputable def args0T : List AV → Nat → Tr
  | [], _ => .lf
  | a :: r, i => putP (paN i) a (args0T r (i + 1))
theorem fits_args : ∀ (l : List AV) (i : Nat), Fits (args0 l i) (args0T l i)
  | [], i => fun t => (getP_lf _).symm
  | a :: r, i => by
    intro t
    rw [args0, args0T]
    simp only [getF]
    by_cases e : i = t
    · subst e; rw [if_pos rfl, get_put_self]
    · rw [if_neg e, get_put_ne _ _ _ _ (fun q => e (paN_inj q).symm)]; exact fits_args r (i + 1) t
end
noncomputable def putO (d : Option Pa) (x : AV) (T : Tr) : Tr := match d with | some p => putP p x T | none => T

/-! ### Operations -/
inductive RO where
  | t (p : Pa)
  | c (v : AV)
noncomputable def evR (T : Tr) (x : RO) : AV := RO.casesOn (motive := fun _ => AV) x (fun p => getP p T) (fun v => v)
def cO (x : Operand) : RO :=
  match x with
  | .tmp t => .t (paN t)
  | .const v => .c (constAV v)
  | .global g => .c (match Laid.tab g with | some cs => .ip cs | none => .any)
  | .func f => .c (.fn (.func f) [] [])
theorem evR_eq {fr : Fr} {T : Tr} (h : Fits fr T) (x : Operand) : evR T (cO x) = evalA fr x := by
  cases x with
  | tmp t => exact (h t).symm
  | const v => rfl
  | global g => rfl
  | func f => rfl

inductive ROp where
  | move (x : RO)
  | pick (c a b : RO)
  | bin (op : BinOp) (x y : RO)
  | binB (op : BinOp) (x y : RO)
  | eqA (neg : Bool) (ks : List Nat) (x y : RO)
  | not (x : RO)
  | neg (x : RO)
  | conv (k : IntKind) (x : RO)
  | strS (x : RO)
  | toBytes (e : Nat) (x : RO)
  | ofBytes (x : RO)
  | extr (x : RO) (i : Nat)
  | fld (g : Bool) (off n : Nat) (x : RO)
  | idxS (x i : RO)
  | idxA (g : Bool) (sz len : Nat) (x i : RO)
  | slS (x : RO) (lo hi : Option RO)
  | sl (n : Nat) (x : RO) (lo hi : Option RO)
  | slA (n sz : Nat) (x : RO) (lo hi : Option RO)
  | idxP (m : Nat) (x i : RO)
  | idxQ (len sz : Nat) (x i : RO)
  | fad (off : Nat) (x : RO)
  | nil (row : String → TypeId → Bool) (x : RO)
  | mkI (t : TypeId) (x : RO)
  | asI (has : TypeId → Bool) (x : RO)
  | inv (lo : Bool) (row : TypeId → Option FuncId) (x : RO) (args : List RO)
  | load (g : Bool) (sz : Nat) (x : RO)
  | store (sz : Nat) (x v : RO)
  | new (t : Nat) (z : AV)
  | box (t : Nat) (x : RO)
  | build (z : AV) (ps : List (Nat × Nat × RO))
  | mkSl (t len sz : Nat) (z : AV) (ps : List (Nat × Nat × RO))
  | mkSlP (len sz : Nat) (z : AV) (ps : List (Nat × Nat × RO))
  | make (e sz bytes : Nat) (z : AV) (l c : RO)
  | func (f : Fn) (xs ys : List RO)
  | lenS (x : RO)
  | len (x : RO)
  | min (x y : RO)
  | max (x y : RO)
  | app (own : Bool) (e sz bytes : Nat) (x y : RO)
  | appS (own : Bool) (e bytes : Nat) (x y : RO)
  | isNilI (neg : Bool) (x : RO)
  | isNilP (neg : Bool) (x : RO)
  | isNilS (neg : Bool) (x : RO)
  | call (lo : Bool) (x : RO) (args : List RO)
  | bad

/-- Against nil. -/
def nilR (neg : Bool) (d : TypeDesc) (y : Operand) (x : RO) : ROp :=
  match d, y with
  | .interface _, .const .nilIface => .isNilI neg x
  | .pointer _, .const (.pointer none) => .isNilP neg x
  | .slice _, .const (.slice none _ _) => .isNilS neg x
  | _, _ => .bad
def cOp (P : Program) (own : Bool) (op : Op) : ROp :=
  match op with
  | .move x | .assign x => .move (cO x)
  | .pick c a b => .pick (cO c) (cO a) (cO b)
  | .binOp op t x y _ =>
    (match tAgg P t with
    | true => (match op, P.eqGuardType P.depth t, flatK P 8 t with
      | .eql, false, some ks => .eqA false ks (cO x) (cO y)
      | .neq, false, some ks => .eqA true ks (cO x) (cO y)
      | _, _, _ => .bad)
    | false => match P.underlying t with
      | some .bool => .binB op (cO x) (cO y)
      | some (.int _) | some .string => .bin op (cO x) (cO y)
      | some d => (match op with
        | .eql => nilR false d y (cO x)
        | .neq => nilR true d y (cO x)
        | _ => .bad)
      | none => .bad)
  | .unOp .not _ x => .not (cO x)
  | .unOp .neg _ x => .neg (cO x)
  | .convert s d x =>
    (match P.underlying s, P.underlying d with
    | some (.int _), some (.int k) => .conv k (cO x)
    | some .string, some .string => .strS (cO x)
    | some .string, some (.slice e) => (match isU8 P e with | true => .toBytes e (cO x) | false => .bad)
    | some (.slice e), some .string => (match isU8 P e with | true => .ofBytes (cO x) | false => .bad)
    | _, _ => .bad)
  | .extract x i => .extr (cO x) i
  | .field t x i =>
    (match P.underlying t with
    | some (.struct fs) => (match fs[i]? with
      | some f => (match tOk P f.type with | true => .fld (tAgg P f.type) f.offset (P.cellsOf f.type) (cO x) | false => .bad)
      | none => .bad)
    | _ => .bad)
  | .index t x i =>
    (match P.underlying t with
    | some .string => .idxS (cO x) (cO i)
    | some (.array n e) => (match tOk P e with | true => .idxA (tAgg P e) (P.cellsOf e) n (cO x) (cO i) | false => .bad)
    | _ => .bad)
  | .slice t x lo hi none =>
    (match P.underlying t with
    | some .string => .slS (cO x) (lo.map cO) (hi.map cO)
    | some (.slice e) => (match tOk P e with | true => .sl (P.cellsOf e) (cO x) (lo.map cO) (hi.map cO) | false => .bad)
    | some (.array n e) => (match tOk P e with | true => .slA n (P.cellsOf e) (cO x) (lo.map cO) (hi.map cO) | false => .bad)
    | _ => .bad)
  | .indexAddr t x i =>
    (match P.underlying t with
    | some (.slice e) => (match tOk P e with | true => .idxP (P.cellsOf e) (cO x) (cO i) | false => .bad)
    | some (.array n e) => (match tOk P e with | true => .idxQ n (P.cellsOf e) (cO x) (cO i) | false => .bad)
    | _ => .bad)
  | .fieldAddr t x i =>
    (match P.underlying t with
    | some (.struct fs) => (match fs[i]? with
      | some f => (match P.cellsOf f.type != 0 && tOk P f.type with | true => .fad f.offset (cO x) | false => .bad)
      | none => .bad)
    | _ => .bad)
  | .nilCheck x => .nil (fun n t => (mrow P n t).isSome) (cO x)
  | .makeInterface t x => (match P.concrete t with | true => .mkI t (cO x) | false => .bad)
  | .typeAssert x _ asserted true => .asI (hasM P asserted) (cO x)
  | .load t x => (match tOk P t with | true => .load (tAgg P t) (P.cellsOf t) (cO x) | false => .bad)
  | .store t x v => (match tOk P t with | true => .store (P.cellsOf t) (cO x) (cO v) | false => .bad)
  | .alloc t => (match zeroA P t with | some z => .new t z | none => .bad)
  | .box t x => .box t (cO x)
  | .build t parts =>
    (match P.underlying t, zeroA P t with
    | some (.struct fs), some z => (match fs.toList.all (fun f => tOk P f.type) && parts.toList.all (fun p => (fs[p.1]?).isSome) with
      | true => .build z (parts.toList.map fun p => (((fs[p.1]?).map (·.offset)).getD 0, ((fs[p.1]?).map (fun f => P.cellsOf f.type)).getD 0, cO p.2))
      | false => .bad)
    | some (.array _ e), some z => (match tOk P e with | true => .build z (parts.toList.map fun p => (p.1 * P.cellsOf e, P.cellsOf e, cO p.2)) | false => .bad)
    | _, _ => .bad)
  | .buildSlice t len parts =>
    (match P.underlying t with
    | some (.slice e) => (match zeroA P e, zok P e && tOk P e && decide (len * P.cellsOf e ≤ 16777216) && decide (len ≤ 16777216) with
      | some z, true => (match own with
        | true => .mkSlP len (P.cellsOf e) z (parts.toList.map fun p => (p.1 * P.cellsOf e, P.cellsOf e, cO p.2))
        | false => .mkSl e len (P.cellsOf e) z (parts.toList.map fun p => (p.1 * P.cellsOf e, P.cellsOf e, cO p.2)))
      | _, _ => .bad)
    | _ => .bad)
  | .makeSlice t l c =>
    (match P.underlying t with
    | some (.slice e) => (match zeroA P e, zok P e && decide (0 < P.cellsOf e) with
      | some z, true => .make e (P.cellsOf e) (bytesA P e) z (cO l) (cO c)
      | _, _ => .bad)
    | _ => .bad)
  | .makeFunc f xs ys => .func f (xs.toList.map cO) (ys.toList.map cO)
  | .call c =>
    (match c.callee with
    | .builtin .len => (match c.argTypes[0]?, c.args[0]? with
      | some t, some x => (match P.underlying t with
        | some .string => .lenS (cO x)
        | some (.slice _) => .len (cO x)
        | _ => .bad)
      | _, _ => .bad)
    | .builtin .min => (match c.args.toList with | [x, y] => .min (cO x) (cO y) | _ => .bad)
    | .builtin .max => (match c.args.toList with | [x, y] => .max (cO x) (cO y) | _ => .bad)
    | .builtin .append => (match c.argTypes.toList, c.args.toList with
      | [t, tx], [x, y] => (match P.underlying t, P.underlying tx with
        | some (.slice e), some (.slice _) => (match zok P e with | true => .app own e (P.cellsOf e) (bytesA P e) (cO x) (cO y) | false => .bad)
        | some (.slice e), some .string => (match zok P e && P.cellsOf e == 1 with | true => .appS own e (bytesA P e) (cO x) (cO y) | false => .bad)
        | _, _ => .bad)
      | _, _ => .bad)
    | .value x => .call own (cO x) (c.args.toList.map cO)
    | .invoke x name => .inv own (mrow P name) (cO x) (c.args.toList.map cO)
    | _ => .bad)
  | _ => .bad

/-- A value; memory as it was. -/
def same (v : Option AV) : Option (AV × Option Heap) := match v with | some v => some (v, none) | none => none
def turned (v : Option (AV × Heap)) : Option (AV × Option Heap) := match v with | some p => some (p.1, some p.2) | none => none
abbrev CallF := FuncId → List AV → Heap → Option (AV × Option Heap)
noncomputable def evPs (T : Tr) (ps : List (Nat × Nat × RO)) : List (Nat × Nat × AV) := ps.map fun p => (p.1, p.2.1, evR T p.2.2)
noncomputable def eR (call : CallF) (o : ROp) (T : Tr) (h : Heap) : Option (AV × Option Heap) :=
  match o with
  | .move x => some (evR T x, none)
  | .pick c a b => same (ePick (evR T c) (evR T a) (evR T b))
  | .bin op x y => same (eBin op (evR T x) (evR T y))
  | .binB op x y => same (eBinB op (evR T x) (evR T y))
  | .eqA neg ks x y => same (eEqA neg ks (evR T x) (evR T y))
  | .not x => same (eNot (evR T x))
  | .neg x => same (eNeg (evR T x))
  | .conv k x => same (eConv k (evR T x))
  | .strS x => same (eStrS (evR T x))
  | .toBytes e x => turned (eToBytes e (evR T x) h)
  | .ofBytes x => same (eOfBytes (evR T x) h)
  | .extr x i => same (eExtr i (evR T x))
  | .fld g off n x => same (eFld g off n (evR T x))
  | .idxS x i => same (eIdxS (evR T x) (evR T i))
  | .idxA g sz len x i => same (eIdxA g sz len (evR T x) (evR T i))
  | .slS x lo hi => same (eSlS (evR T x) (lo.map (evR T)) (hi.map (evR T)))
  | .sl n x lo hi => same (eSl n (evR T x) (lo.map (evR T)) (hi.map (evR T)))
  | .slA n sz x lo hi => same (eSlA n sz (evR T x) (lo.map (evR T)) (hi.map (evR T)) h)
  | .idxP m x i => same (eIdxP m (evR T x) (evR T i))
  | .idxQ len sz x i => same (eIdxQ len sz (evR T x) (evR T i))
  | .fad off x => same (eFad off (evR T x))
  | .nil row x => same (eNilF row (evR T x))
  | .mkI t x => some (.ifc t (evR T x), none)
  | .asI has x => same (eAsI has (evR T x))
  | .inv _ row x args => (match evR T x with
    | .ifc t v => (match row t with | some f => call f (v :: args.map (evR T)) h | none => none)
    | _ => none)
  | .load g sz x => same (eLoad g sz (evR T x) h)
  | .store sz x v => (match eStore sz (evR T x) (evR T v) h with | some h' => some (.v undef, some h') | none => none)
  | .new t z => turned (eNew t z h)
  | .box t x => turned (eNew t (evR T x) h)
  | .build z ps => same (eBuild z (evPs T ps))
  | .mkSl t len sz z ps => turned (eMkSl t len sz z (evPs T ps) h)
  | .mkSlP len sz z ps => same (eMkSlP len sz z (evPs T ps))
  | .make e sz bytes z l c => turned (eMake e sz bytes z (evR T l) (evR T c) h)
  | .func f xs ys => some (.fn f (xs.map (evR T)) (ys.map (evR T)), none)
  | .lenS x => same (eLenS (evR T x))
  | .len x => same (eLen (evR T x))
  | .min x y => same (eMin (evR T x) (evR T y))
  | .max x y => same (eMax (evR T x) (evR T y))
  | .app own e sz bytes x y => turned (eAppTo own e sz bytes (evR T x) (srcE h sz (evR T y)) h)
  | .appS own e bytes x y => turned (eAppTo own e 1 bytes (evR T x) (srcS (evR T y)) h)
  | .isNilI neg x => (match nilIT (evR T x) with | some b => some (bool (negB neg b), none) | none => none)
  | .isNilP neg x => (match nilPT (evR T x) with | some b => some (bool (negB neg b), none) | none => none)
  | .isNilS neg x => (match nilST (evR T x) with | some b => some (bool (negB neg b), none) | none => none)
  | .call _ x args => (match evR T x with
    | .fn (.func f) a b => call f (a ++ args.map (evR T) ++ b) h
    | _ => none)
  | .bad => none
/-- It may turn memory. -/
def loudR (o : ROp) : Bool :=
  match o with
  | .call lo _ _ => lo
  | .inv lo _ _ _ => lo
  | .toBytes .. | .store .. | .new .. | .box .. | .mkSl .. | .make .. | .app .. | .appS .. => true
  | _ => false

/-- What a function without a body comes to. -/
def ExtSem (P : Program) (f : FuncId) (args : List AV) (h : Heap) (K : AV → Heap → Prop) : Prop :=
  hasBody P f = false ∧ ∀ base ι S w vs, RepL ι S w args vs → HOK base ι S w h → ∃ v r w' ι' S' h', (callFunc f vs.toArray).run P w = .ok (.value v) w' ∧ Evo ι.length base ι S w ι' S' w' ∧ Rep ι' S' w' r v ∧ HOK base ι' S' w' h' ∧ h.length ≤ h'.length ∧ K r h'
def CallSem (P : Program) (f : FuncId) (args : List AV) (h : Heap) (K : AV → Heap → Prop) : Prop := (hasBody P f = true ∧ ACall P f args h K) ∨ ExtSem P f args h K
/-- Calls, as they are told, are what calls come to. -/
def CallOK (P : Program) (call : CallF) : Prop :=
  ∀ f args h v oh, call f args h = some (v, oh) → CallSem P f args h fun r hh => r = v ∧ hh = oh.getD h
theorem s_ext {P : Program} {o : Oper} {base : Nat} {ι : List Ix} {S : Stab} {a : Act} {w : World} {st : St} {K : AV → Heap → Prop} {c : Call} {x : Operand} {f : FuncId} {first cap : List AV} (hr : ROK base ι S a w st) (ho : o.op = .call c) (hc : c.callee = .value x) (hx : evalA st.fr x = .fn (.func f) first cap)
    (h : ExtSem P f (first ++ c.args.toList.map (evalA st.fr) ++ cap) st.h K) : Meets P o base ι S a w st K := by
  have hv := hr.eval x
  rw [hx, Rep] at hv
  obtain ⟨vs, us, ev, r1, r2⟩ := hv
  have hargs : RepL ι S w (first ++ c.args.toList.map (evalA st.fr) ++ cap) (vs ++ c.args.toList.map a.eval ++ us) := (r1.append (RepL.evals hr _)).append r2
  obtain ⟨v, r, w', ι', S', h', e1, hE, rv, hH, hl, k⟩ := h.2 base ι S w _ hargs hr.hp
  have hrun : (execOp a.eval o).run P w = .ok (.value v) w' := by
    have e2 : (vs.toArray ++ c.args.map a.eval) ++ us.toArray = (vs ++ c.args.toList.map a.eval ++ us).toArray := by apply Array.ext'; simp
    simp only [execOp, ho, resolve, hc, Sem.run_bind, ev, Deferred.ofValue, Sem.run_pure, Result.andThen_ok, invoke, e2]
    exact e1
  exact meets_value hr hrun hE rv hH hl k

omit [Laid] in
theorem mrow_body {P : Program} {name : String} {t : TypeId} {f : FuncId} (h : mrow P name t = some f) : hasBody P f = true := (run_mrow (w := default) (.bool true) h).1

section
variable {P : Program} {call : CallF} {own : Bool} {op : Op} {T : Tr} {h : Heap} {v : AV} {oh : Option Heap} {fr : Fr} {K : AV → Heap → Prop}
omit [Laid] in
theorem same_some {x : Option AV} (e : same x = some (v, oh)) : x = some v ∧ oh = none := by
  unfold same at e
  split at e
  · cases e; exact ⟨rfl, rfl⟩
  · cases e
omit [Laid] in
theorem turned_some {x : Option (AV × Heap)} (e : turned x = some (v, oh)) : ∃ h', x = some (v, h') ∧ oh = some h' := by
  unfold turned at e
  split at e
  · rename_i p; cases e; exact ⟨p.2, rfl, rfl⟩
  · cases e

set_option maxHeartbeats 1000000 in
theorem eR_ok (hc : CallOK P call) (hf : ∀ x, evR T (cO x) = evalA fr x) (e : eR call (cOp P own op) T h = some (v, oh)) (hk : K v (oh.getD h)) :
    stepOp P own (evalA fr) h op K ∨ ∀ (n : Nat) (o : Oper), o.op = op → SemS P n h o fr K := by
  have hl : ∀ l : List Operand, (l.map cO).map (evR T) = l.map (evalA fr) := fun l => by rw [List.map_map]; exact List.map_congr_left fun x _ => hf x
  have ho : ∀ o : Option Operand, (o.map cO).map (evR T) = o.map (evalA fr) := fun o => by cases o <;> simp [hf]
  have hp : ∀ (l : List (Nat × Operand)) (f g : Nat → Nat), evPs T (l.map fun p => (f p.1, g p.1, cO p.2)) = l.map fun p => (f p.1, g p.1, evalA fr p.2) := fun l f g => by
    unfold evPs; rw [List.map_map]; exact List.map_congr_left fun p _ => by simp [hf]
  by_cases hcall : ∃ c x, op = .call c ∧ c.callee = .value x
  · obtain ⟨c, x, rfl, hcal⟩ := hcall
    simp only [cOp, hcal, eR, hf, hl] at e
    split at e
    · rename_i f first cap hx
      rcases hc _ _ _ _ _ e with ⟨hb, hA⟩ | hA
      · left
        simp only [stepOp, hcal]
        unfold iCall
        simp only [hx]
        exact ⟨hb, hA.mono fun r hh ⟨e1, e2⟩ => by subst e1; subst e2; exact hk⟩
      · right
        intro n o ho2 fr' base ι S a w he hr
        have hmem : ∀ y ∈ c.args, evalA fr' y = evalA fr y := fun y hy => he y (by rw [ho2]; simp only [Op.operands, Call.operands]; exact Array.mem_append_right _ hy)
        have hx' : evalA fr' x = evalA fr x := he x (by rw [ho2]; simp [Op.operands, Call.operands, hcal])
        refine s_ext (st := ⟨n, fr', h⟩) hr ho2 hcal (by rw [hx']; exact hx) ?_
        have : c.args.toList.map (evalA fr') = c.args.toList.map (evalA fr) := List.map_congr_left fun y hy => hmem y (by simpa using hy)
        simp only [this]
        refine ⟨hA.1, fun base ι S w vs h1 h2 => ?_⟩
        obtain ⟨v', r', w', ι', S', h', q1, q2, q3, q4, q5, q6, q7⟩ := hA.2 base ι S w vs h1 h2
        subst q6; subst q7
        exact ⟨v', _, w', ι', S', _, q1, q2, q3, q4, q5, hk⟩
    · cases e
  by_cases hinv : ∃ c x name, op = .call c ∧ c.callee = .invoke x name
  · obtain ⟨c, x, name, rfl, hcal⟩ := hinv
    simp only [cOp, hcal, eR, hf, hl] at e
    split at e
    · rename_i t y hx
      split at e
      · rename_i f hrow
        left
        simp only [stepOp, hcal]
        unfold iInv
        simp only [hx, hrow]
        rcases hc _ _ _ _ _ e with ⟨hb, hA⟩ | hA
        · exact hA.mono fun r hh ⟨e1, e2⟩ => by subst e1; subst e2; exact hk
        · exact absurd (mrow_body hrow) (by rw [hA.1]; exact Bool.false_ne_true)
      · cases e
    · cases e
  left
  unfold cOp at e
  unfold stepOp
  split at e
  · simp only [eR, hf] at e; cases e; exact hk
  · simp only [eR, hf] at e; cases e; exact hk
  · simp only [eR, hf] at e; obtain ⟨e', rfl⟩ := same_some e; exact ePick_ok e' hk
  · rename_i bop t x y yt
    split at e
    · rename_i hagg
      simp only [hagg, if_true]
      split at e
      · rename_i hg hks
        simp only [eR, hf] at e; obtain ⟨e', rfl⟩ := same_some e
        simp only [hg, hks, Bool.not_false]; exact eEqA_ok e' hk
      · rename_i hg hks
        simp only [eR, hf] at e; obtain ⟨e', rfl⟩ := same_some e
        simp only [hg, hks, Bool.not_false]; exact eEqA_ok e' hk
      · simp [eR] at e
    · rename_i hagg
      simp only [hagg, Bool.false_eq_true, if_false]
      split at e
      · rename_i ht; simp only [ht]; simp only [eR, hf] at e; obtain ⟨e', rfl⟩ := same_some e; exact eBinB_ok e' hk
      · rename_i ht; simp only [ht]; simp only [eR, hf] at e; obtain ⟨e', rfl⟩ := same_some e; exact eBin_ok e' hk
      · rename_i ht; simp only [ht]; simp only [eR, hf] at e; obtain ⟨e', rfl⟩ := same_some e; exact eBin_ok e' hk
      · rename_i d q1 q2 q3 ht
        have key : ∀ neg : Bool, eR call (nilR neg d y (cO x)) T h = some (v, oh) → iNilC neg d y (evalA fr x) fun v => K v h := by
          intro neg e
          unfold nilR at e
          unfold iNilC
          split at e
          · simp only [eR, hf] at e
            split at e
            · rename_i b hb; cases e; simp only [iIsN, hb]; exact hk
            · cases e
          · simp only [eR, hf] at e
            split at e
            · rename_i b hb; cases e; simp only [iIsN, hb]; exact hk
            · cases e
          · simp only [eR, hf] at e
            split at e
            · rename_i b hb; cases e; simp only [iIsN, hb]; exact hk
            · cases e
          · simp [eR] at e
        rw [ht]
        cases bop <;> simp only [] at e ⊢ <;> first | exact key _ e | (simp [eR] at e; done) | skip
      · simp [eR] at e
  · simp only [eR, hf] at e; obtain ⟨e', rfl⟩ := same_some e; exact eNot_ok e' hk
  · simp only [eR, hf] at e; obtain ⟨e', rfl⟩ := same_some e; exact eNeg_ok e' hk
  · split at e
    · rename_i hs hd; simp only [hs, hd]; simp only [eR, hf] at e; obtain ⟨e', rfl⟩ := same_some e; exact eConv_ok e' hk
    · rename_i hs hd; simp only [hs, hd]; simp only [eR, hf] at e; obtain ⟨e', rfl⟩ := same_some e; exact eStrS_ok e' hk
    · rename_i hs hd
      simp only [hs, hd]
      split at e
      · rename_i hu; simp only [hu]; simp only [eR, hf] at e; obtain ⟨h', e', rfl⟩ := turned_some e; exact eToBytes_ok e' hk
      · simp [eR] at e
    · rename_i hs hd
      simp only [hs, hd]
      split at e
      · rename_i hu; simp only [hu]; simp only [eR, hf] at e; obtain ⟨e', rfl⟩ := same_some e; exact eOfBytes_ok e' hk
      · simp [eR] at e
    · simp [eR] at e
  · simp only [eR, hf] at e; obtain ⟨e', rfl⟩ := same_some e; exact eExtr_ok e' hk
  · split at e
    · rename_i ht
      simp only [ht]
      split at e
      · rename_i hfi
        simp only [hfi]
        split at e
        · rename_i hok; simp only [hok]; simp only [eR, hf] at e; obtain ⟨e', rfl⟩ := same_some e; exact eFld_ok e' hk
        · simp [eR] at e
      · simp [eR] at e
    · simp [eR] at e
  · split at e
    · rename_i ht; simp only [ht]; simp only [eR, hf] at e; obtain ⟨e', rfl⟩ := same_some e; exact eIdxS_ok e' hk
    · rename_i ht
      simp only [ht]
      split at e
      · rename_i hok; simp only [hok]; simp only [eR, hf] at e; obtain ⟨e', rfl⟩ := same_some e; exact eIdxA_ok e' hk
      · simp [eR] at e
    · simp [eR] at e
  · split at e
    · rename_i ht; simp only [ht]; simp only [eR, hf, ho] at e; obtain ⟨e', rfl⟩ := same_some e; exact eSlS_ok e' hk
    · rename_i ht
      simp only [ht]
      split at e
      · rename_i hok; simp only [hok]; simp only [eR, hf, ho] at e; obtain ⟨e', rfl⟩ := same_some e; exact eSl_ok e' hk
      · simp [eR] at e
    · rename_i ht
      simp only [ht]
      split at e
      · rename_i hok; simp only [hok]; simp only [eR, hf, ho] at e; obtain ⟨e', rfl⟩ := same_some e; exact eSlA_ok e' hk
      · simp [eR] at e
    · simp [eR] at e
  · split at e
    · rename_i ht
      simp only [ht]
      split at e
      · rename_i hok; simp only [hok]; simp only [eR, hf] at e; obtain ⟨e', rfl⟩ := same_some e; exact eIdxP_ok e' hk
      · simp [eR] at e
    · rename_i ht
      simp only [ht]
      split at e
      · rename_i hok; simp only [hok]; simp only [eR, hf] at e; obtain ⟨e', rfl⟩ := same_some e; exact eIdxQ_ok e' hk
      · simp [eR] at e
    · simp [eR] at e
  · split at e
    · rename_i ht
      simp only [ht]
      split at e
      · rename_i hfi
        simp only [hfi]
        split at e
        · rename_i hok; simp only [hok]; simp only [eR, hf] at e; obtain ⟨e', rfl⟩ := same_some e; exact eFad_ok e' hk
        · simp [eR] at e
      · simp [eR] at e
    · simp [eR] at e
  · simp only [eR, hf] at e; obtain ⟨e', rfl⟩ := same_some e; exact eNilF_ok e' hk
  · split at e
    · rename_i hok; simp only [hok]; simp only [eR, hf] at e; cases e; exact hk
    · simp [eR] at e
  · simp only [eR, hf] at e; obtain ⟨e', rfl⟩ := same_some e; exact eAsI_ok e' hk
  · split at e
    · rename_i hok; simp only [hok]; simp only [eR, hf] at e; obtain ⟨e', rfl⟩ := same_some e; exact eLoad_ok e' hk
    · simp [eR] at e
  · split at e
    · rename_i hok
      simp only [hok]
      simp only [eR, hf] at e
      split at e
      · rename_i es; cases e; exact eStore_ok es hk
      · cases e
    · simp [eR] at e
  · split at e
    · rename_i hz; simp only [hz]; simp only [eR, hf] at e; obtain ⟨h', e', rfl⟩ := turned_some e; exact eNew_ok e' hk
    · simp [eR] at e
  · simp only [eR, hf] at e; obtain ⟨h', e', rfl⟩ := turned_some e; exact eNew_ok e' hk
  · rename_i t parts
    split at e
    · rename_i fs z ht hz
      simp only [ht, hz]
      split at e
      · rename_i hok; simp only [hok]; have hp2 := hp parts.toList (fun i => ((fs[i]?).map (·.offset)).getD 0) (fun i => ((fs[i]?).map (fun f => P.cellsOf f.type)).getD 0); simp only [eR] at e; rw [hp2] at e; obtain ⟨e', rfl⟩ := same_some e; exact eBuild_ok e' hk
      · simp [eR] at e
    · rename_i n el z ht hz
      simp only [ht, hz]
      split at e
      · rename_i hok
        simp only [hok]
        have hp2 := hp parts.toList (fun i => i * P.cellsOf el) (fun _ => P.cellsOf el)
        simp only [eR] at e
        rw [hp2] at e
        obtain ⟨e', rfl⟩ := same_some e; exact eBuild_ok e' hk
      · simp [eR] at e
    · simp [eR] at e
  · rename_i t len parts
    split at e
    · rename_i el ht
      simp only [ht]
      split at e
      · rename_i hz hok
        simp only [hz, hok]
        have hp2 := hp parts.toList (fun i => i * P.cellsOf el) (fun _ => P.cellsOf el)
        cases own with
        | true =>
          simp only [eR] at e
          rw [hp2] at e
          obtain ⟨e', rfl⟩ := same_some e; exact eMkSlP_ok e' hk
        | false =>
          simp only [eR] at e
          rw [hp2] at e
          obtain ⟨h', e', rfl⟩ := turned_some e; exact eMkSl_ok e' hk
      · simp [eR] at e
    · simp [eR] at e
  · split at e
    · rename_i ht
      simp only [ht]
      split at e
      · rename_i hz hok
        simp only [hz, hok]
        simp only [eR, hf] at e
        obtain ⟨h', e', rfl⟩ := turned_some e; exact eMake_ok e' hk
      · simp [eR] at e
    · simp [eR] at e
  · simp only [eR, hl] at e; cases e; exact hk
  · rename_i c
    split at e
    · rename_i hcal
      simp only [hcal]
      split at e
      · rename_i hat hax
        simp only [hat, hax]
        split at e
        · rename_i ht; simp only [ht]; simp only [eR, hf] at e; obtain ⟨e', rfl⟩ := same_some e; exact eLenS_ok e' hk
        · rename_i ht; simp only [ht]; simp only [eR, hf] at e; obtain ⟨e', rfl⟩ := same_some e; exact eLen_ok e' hk
        · simp [eR] at e
      · simp [eR] at e
    · rename_i hcal
      simp only [hcal]
      split at e
      · rename_i hax; simp only [hax]; simp only [eR, hf] at e; obtain ⟨e', rfl⟩ := same_some e; exact eMin_ok e' hk
      · simp [eR] at e
    · rename_i hcal
      simp only [hcal]
      split at e
      · rename_i hax; simp only [hax]; simp only [eR, hf] at e; obtain ⟨e', rfl⟩ := same_some e; exact eMax_ok e' hk
      · simp [eR] at e
    · rename_i hcal
      simp only [hcal]
      split at e
      · rename_i t tx x y hat hax
        simp only [hat, hax]
        split at e
        · rename_i el el2 ht htx
          simp only [ht, htx]
          split at e
          · rename_i hz
            simp only [hz]
            simp only [eR, hf] at e
            obtain ⟨h', e', rfl⟩ := turned_some e
            unfold iApp
            cases hs : srcE h (P.cellsOf el) (evalA fr y) with
            | none => rw [hs] at e'; simp [eAppTo] at e'
            | some rows => rw [hs] at e'; rw [srcE_eq hs]; exact eAppTo_ok e' hk
          · simp [eR] at e
        · rename_i ht htx
          simp only [ht, htx]
          split at e
          · rename_i hz
            simp only [hz]
            simp only [eR, hf] at e
            obtain ⟨h', e', rfl⟩ := turned_some e
            unfold iAppS
            exact eAppTo_ok e' hk
          · simp [eR] at e
        · simp [eR] at e
      · simp [eR] at e
    · rename_i hcal
      exact absurd ⟨_, _, rfl, hcal⟩ hcall
    · rename_i hcal
      exact absurd ⟨_, _, _, rfl, hcal⟩ hinv
    · simp [eR] at e
  · simp [eR] at e
theorem eR_sem {n : Nat} {o : Oper} (hc : CallOK P call) (hf : ∀ x, evR T (cO x) = evalA fr x) (e : eR call (cOp P own o.op) T h = some (v, oh)) (hk : K v (oh.getD h)) : SemS P n h o fr K := by
  rcases eR_ok hc hf e hk with q | q
  · exact SemS.of q
  · exact q n o rfl
end
end Go.Aw
