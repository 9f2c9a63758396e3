/-
  How the words of '..Ops' read at known values.
  No conditions: lemmas.
-/
import Derived.Test.YtedaaincibcbkaaBody
namespace Go.Aw
open Go Go.RowKit

@[simp] theorem iPick_b (t : Bool) (a b : AV) (K : AV → Prop) : iPick (.v (.bool t)) a b K ↔ (t = true → K a) ∧ (t = false → K b) := by simp [iPick]
@[simp] theorem iCond_b (t : Bool) (A B : Prop) : iCond (.v (.bool t)) A B ↔ (t = true → A) ∧ (t = false → B) := by simp [iCond]
@[simp] theorem iGuard_b (t w : Bool) (A B : Prop) : iGuard (.v (.bool t)) w A B ↔ (t = w → A) ∧ (t = (!w) → B) := by
  simp [iGuard, undef]
@[simp] theorem iGuard_u (w : Bool) (A B : Prop) : iGuard (.v undef) w A B ↔ B := by simp [iGuard, undef]
@[simp] theorem negA_b (w t : Bool) : negA w (.v (.bool t)) = .v (.bool (!w)) := rfl
@[simp] theorem negA_u (w : Bool) : negA w (.v undef) = .v undef := rfl
@[simp] theorem iNot_b (t : Bool) (K : AV → Prop) : iNot (.v (.bool t)) K ↔ K (.v (.bool (!t))) := by simp [iNot]
@[simp] theorem iNeg_i (k : IntKind) (n : Int) (K : AV → Prop) : iNeg (.v (.int k n)) K ↔ iWr k (0 - n) K := by
  constructor
  · rintro ⟨k', n', e, h⟩; cases e; exact h
  · intro h; exact ⟨k, n, rfl, h⟩
@[simp] theorem iConv_i (k k' : IntKind) (n : Int) (K : AV → Prop) : iConv k (.v (.int k' n)) K ↔ K (.v (.int k (k.wrap n))) := by
  constructor
  · rintro ⟨k'', n', e, h⟩; cases e; exact h
  · intro h; exact ⟨k', n, rfl, h⟩
@[simp] theorem iWr_64 (n : Int) (K : AV → Prop) : iWr .i64 n K ↔ inI n ∧ K (.v (.int .i64 n)) := Iff.rfl
@[simp] theorem iBin_ii (op : BinOp) (k : IntKind) (a b : Int) (K : AV → Prop) : iBin op (.v (.int k a)) (.v (.int k b)) K ↔ if isShift op then iShift op k a b K else iInt op k a b K := by
  unfold iBin
  simp
@[simp] theorem iBin_ss (op : BinOp) (a b : List UInt8) (K : AV → Prop) : iBin op (.str a) (.str b) K ↔ iStr op a b K := Iff.rfl

attribute [simp] iInt iStr isShift iBinB iEqA eqK eqS iExtr iFld ldP iIdxS iIdxA optI iSlS iSl iSlA iIdxP iIdxQ iFad iNil iLoad iStore iNew bfill iBuild rep0 iMkSl iLenS iLen iMin iMax vcells scal setAll retA iOne evalA constAV constS thenQ blockQ Pure PureL PureR Value.oneCell' iStrS

theorem Weak.forget {m : Nat} {fr fr' : List AV} {h : Heap} (hl : fr.length = fr'.length) (hf : ∀ (i : Nat) (a b : AV), fr[i]? = some a → fr'[i]? = some b → b = .any ∨ a = b) : Weak m ⟨fr, h⟩ ⟨fr', h⟩ := by
  intro base ι S a w hm hr
  refine ⟨ι, S, Evo.refl _ _ _ _ _, hm, hr.df, RepL.mk ?_ fun i b v e f => ?_, hr.hp⟩
  · rw [← hl]; exact hr.fr.length
  · have hlt : i < fr.length := by rw [hl]; exact (List.getElem?_eq_some_iff.1 e).1
    have e' : fr[i]? = some fr[i] := List.getElem?_eq_getElem hlt
    obtain ⟨u, hu, r⟩ := hr.fr.get i _ e'
    rw [f] at hu; cases hu
    rcases hf i _ b e' e with rfl | q
    · simp
    · rw [← q]; exact r

def weakL : List AV → List AV → Prop
  | [], [] => True
  | a :: as, b :: bs => (b = .any ∨ a = b) ∧ weakL as bs
  | _, _ => False
theorem weakL_spec : ∀ {fr fr' : List AV}, weakL fr fr' → fr.length = fr'.length ∧ ∀ (i : Nat) (a b : AV), fr[i]? = some a → fr'[i]? = some b → b = .any ∨ a = b
  | [], [], _ => ⟨rfl, by simp⟩
  | [], b :: bs, h => h.elim
  | a :: as, [], h => h.elim
  | a :: as, b :: bs, h => by
    obtain ⟨h1, h2⟩ := h
    obtain ⟨l, k⟩ := weakL_spec h2
    refine ⟨by simp [l], fun i x y e f => ?_⟩
    cases i with
    | zero => simp at e f; subst e; subst f; exact h1
    | succ i => exact k i x y (by simpa using e) (by simpa using f)
theorem Weak.fr {m : Nat} {fr fr' : List AV} {h : Heap} (hw : weakL fr fr') : Weak m ⟨fr, h⟩ ⟨fr', h⟩ := Weak.forget (weakL_spec hw).1 (weakL_spec hw).2

mutual
/-- It names blocks below 'n' alone. -/
def Lt (n : Nat) : AV → Prop
  | .v _ | .str _ | .any | .emp => True
  | .agg cs | .tup cs | .ip cs => LtL n cs
  | .sl _ rows => LtR n rows
  | .own id .. | .op id _ => id < n
  | .fn _ xs ys => LtL n xs ∧ LtL n ys
  | .ifc _ x => Lt n x
def LtL (n : Nat) : List AV → Prop
  | [] => True
  | a :: as => Lt n a ∧ LtL n as
def LtR (n : Nat) : List (List AV) → Prop
  | [] => True
  | r :: rs => LtL n r ∧ LtR n rs
end

mutual
theorem Rep.take {n : Nat} {ι : List Nat} {S : Stab} {w : World} : ∀ (a : AV) (y : Value), Lt n a → Rep ι S w a y → Rep (ι.take n) S w a y
  | .v x, y, _, k => by simpa using k
  | .str x, y, _, k => by simpa using k
  | .any, y, _, k => by simp
  | .agg cs, y, p, k => by rw [Rep] at *; rw [Lt] at p; obtain ⟨vs, e, k⟩ := k; exact ⟨vs, e, RepL.takeι cs vs p k⟩
  | .tup cs, y, p, k => by rw [Rep] at *; rw [Lt] at p; obtain ⟨vs, e, k⟩ := k; exact ⟨vs, e, RepL.takeι cs vs p k⟩
  | .emp, y, _, k => by rw [Rep] at *; exact k
  | .sl sz rows, y, p, k => by
    rw [Rep] at *; rw [Lt] at p
    obtain ⟨a, cap, e, h1, h2, h3⟩ := k
    exact ⟨a, cap, e, h1, h2, h3.imp id fun ⟨b, off, ea, hr⟩ => ⟨b, off, ea, RepR.takeι sz rows b off p hr⟩⟩
  | .ip cs, y, p, k => by rw [Rep] at *; rw [Lt] at p; obtain ⟨b, off, e, k⟩ := k; exact ⟨b, off, e, RepC.takeι cs b off p k⟩
  | .own id off len sz, y, p, k => by
    rw [Rep] at *; rw [Lt] at p
    obtain ⟨b, a, cap, m, ty, h1, h2⟩ := k
    exact ⟨b, a, cap, m, ty, by rw [List.getElem?_take_of_lt p]; exact h1, h2⟩
  | .op id off, y, p, k => by
    rw [Rep] at *; rw [Lt] at p
    obtain ⟨b, h1, h2⟩ := k
    exact ⟨b, by rw [List.getElem?_take_of_lt p]; exact h1, h2⟩
  | .fn f xs ys, y, p, k => by rw [Rep] at *; rw [Lt] at p; obtain ⟨vs, us, e, k1, k2⟩ := k; exact ⟨vs, us, e, RepL.takeι xs vs p.1 k1, RepL.takeι ys us p.2 k2⟩
  | .ifc t x, y, p, k => by rw [Rep] at *; rw [Lt] at p; obtain ⟨v, e, k⟩ := k; exact ⟨v, e, Rep.take x v p k⟩
theorem RepL.takeι {n : Nat} {ι : List Nat} {S : Stab} {w : World} : ∀ (as : List AV) (vs : List Value), LtL n as → RepL ι S w as vs → RepL (ι.take n) S w as vs
  | [], vs, _, k => by simpa using k
  | a :: as, [], _, k => by simp at k
  | a :: as, v :: vs, p, k => by rw [LtL] at p; simp at k; simpa using ⟨Rep.take a v p.1 k.1, RepL.takeι as vs p.2 k.2⟩
theorem RepC.takeι {n : Nat} {ι : List Nat} {S : Stab} {w : World} : ∀ (cs : List AV) (b off : Nat), LtL n cs → RepC ι S w cs b off → RepC (ι.take n) S w cs b off
  | [], b, off, _, k => by simp [RepC]
  | c :: cs, b, off, p, k => by
    rw [RepC] at *; rw [LtL] at p
    obtain ⟨⟨u, h1, h2, h3⟩, k2⟩ := k
    exact ⟨⟨u, h1, h2, Rep.take c u p.1 h3⟩, RepC.takeι cs b (off + 1) p.2 k2⟩
theorem RepR.takeι {n : Nat} {ι : List Nat} {S : Stab} {w : World} (sz : Nat) : ∀ (rows : List (List AV)) (b off : Nat), LtR n rows → RepR ι S w sz rows b off → RepR (ι.take n) S w sz rows b off
  | [], b, off, _, k => by simp [RepR]
  | r :: rs, b, off, p, k => by
    rw [RepR] at *; rw [LtR] at p
    exact ⟨k.1, RepC.takeι r b off p.1 k.2.1, RepR.takeι sz rs b (off + sz) p.2 k.2.2⟩
end

def LtB (n : Nat) : List (Option Blk) → Prop
  | [] => True
  | none :: h => LtB n h
  | some b :: h => LtL n b.cells ∧ LtB n h
theorem LtB.get {n : Nat} : ∀ {h : List (Option Blk)}, LtB n h → ∀ (i : Nat) (b : Blk), h[i]? = some (some b) → LtL n b.cells
  | [], _, i, b, e => by simp at e
  | none :: h, k, 0, b, e => by simp at e
  | none :: h, k, i + 1, b, e => LtB.get (h := h) k i b (by simpa using e)
  | some c :: h, k, 0, b, e => by simp at e; subst e; exact k.1
  | some c :: h, k, i + 1, b, e => LtB.get k.2 i b (by simpa using e)
theorem LtL.get {n : Nat} : ∀ {cs : List AV}, LtL n cs → ∀ (i : Nat) (c : AV), cs[i]? = some c → Lt n c
  | [], _, i, c, e => by simp at e
  | d :: cs, k, 0, c, e => by rw [LtL] at k; simp at e; subst e; exact k.1
  | d :: cs, k, i + 1, c, e => by rw [LtL] at k; exact LtL.get k.2 i c (by simpa using e)

/-- The last blocks forgotten, where nothing that stays names them. -/
theorem Weak.drop {m n : Nat} {fr : List AV} {h : Heap} (hm : m ≤ n) (hn : n ≤ h.length) (hf : LtL n fr) (hb : LtB n (h.take n)) : Weak m ⟨fr, h⟩ ⟨fr, h.take n⟩ := by
  intro base ι S a w _ hr
  have get : ∀ {i : Nat} {x : Blk}, (h.take n)[i]? = some (some x) → i < n ∧ h[i]? = some (some x) := fun {i x} e => by
    rw [List.getElem?_take] at e
    split at e
    · exact ⟨by assumption, e⟩
    · cases e
  refine ⟨ι.take n, S, ⟨fun i hi => List.getElem?_take_of_lt (by omega), fun _ _ h => h, fun _ _ h => .inl h, fun _ _ _ => rfl, fun _ _ h => h, Below.refl _ _⟩, by simp; omega, hr.df, RepL.takeι _ _ hf hr.fr, ?_⟩
  refine ⟨by simp [hr.hp.len], fun id x e => ?_, fun i j x y b ei ej hi hj => ?_, hr.hp.stb, hr.hp.bas⟩
  · obtain ⟨hid, e'⟩ := get e
    obtain ⟨b, arr, fz, h1, h2, h3, h4, h5, h6, h7, h8, h9⟩ := hr.hp.live id x e'
    refine ⟨b, arr, fz, by rw [List.getElem?_take_of_lt hid]; exact h1, h2, h3, h4, h5, fun i c ec => ?_, h7, h8, h9⟩
    obtain ⟨v, e1, e2⟩ := h6 i c ec
    exact ⟨v, e1, Rep.take c v ((hb.get id x e).get i c ec) e2⟩
  · obtain ⟨hi1, ei'⟩ := get ei
    obtain ⟨hj1, ej'⟩ := get ej
    rw [List.getElem?_take_of_lt hi1] at hi
    rw [List.getElem?_take_of_lt hj1] at hj
    exact hr.hp.inj i j x y b ei' ej' hi hj
end Go.Aw
