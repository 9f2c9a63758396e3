/-
  Abstract values for a Go walk: what a value of the model stands for, in a memory of which only the cells that are never written again are told; with the rules by which the model's own wp follows from a condition on abstract values alone.
  No conditions: definitions and lemmas over any program.
-/
import Derived.WalkKit
import Derived.Deep.Quiet
namespace Go.Aw
open Go Go.RowKit

/-- An abstract value. -/
inductive AV where
  | v (x : Value)
  | str (l : List UInt8)
  | any
  | agg (cs : List AV)
  | tup (cs : List AV)
  | emp
  | sl (sz : Nat) (rows : List (List AV))
  | sb (id sz : Nat) (rows : List (List AV))
  | ip (cs : List AV)
  | own (id off len sz : Nat)
  | op (id off : Nat)
  | fn (f : Fn) (first cap : List AV)
  | ifc (t : TypeId) (x : AV)
  deriving Inhabited

/-- A block of the call's own. -/
structure Blk where
  ty : TypeId
  cells : List AV
  wr : Bool

/-- What a place of the call's own memory is: a block; a slice that grows at its end alone (elements' type, cells of each, how many there are); or nothing any more. -/
inductive Ent where
  | blk (b : Blk)
  | tok (e sz n : Nat)
  | dead

abbrev Heap := List Ent

/-- Where it lies: a block's number; the newest slice and its length. -/
inductive Ix where
  | blk (b : Nat)
  | tok (n : Nat) (v : Value)

abbrev int (n : Int) : AV := .v (.int .i64 n)
abbrev bool (b : Bool) : AV := .v (.bool b)
abbrev Stab := Nat → Nat → Prop

section
variable (ι : List Ix) (S : Stab) (w : World)
mutual
/-- 'y' is what 'x' stands for. -/
def Rep : AV → Value → Prop
  | .v x, y => y = x
  | .str l, y => y = .string ⟨l.toArray⟩ ∧ l.length ≤ maxLen
  | .any, _ => True
  | .agg cs, y => ∃ vs : List Value, y = .agg vs.toArray ∧ RepL cs vs
  | .tup cs, y => ∃ vs : List Value, y = .tuple vs.toArray ∧ RepL cs vs
  | .emp, y => ∃ a, y = .slice a 0 0
  | .sl sz rows, y => ∃ a cap, y = .slice a rows.length cap ∧ rows.length ≤ cap ∧ cap ≤ maxLen ∧ (rows = [] ∨ ∃ b off, a = some ⟨b, off, none⟩ ∧ RepR sz rows b off)
  | .sb id sz rows, y => (∃ a cap, y = .slice a rows.length cap ∧ rows.length ≤ cap ∧ cap ≤ maxLen ∧ (rows = [] ∨ ∃ b off, a = some ⟨b, off, none⟩ ∧ RepR sz rows b off)) ∧ ∃ n v, ι[id]? = some (.tok n v) ∧ rows.length ≤ n ∧ (n = rows.length → y = v)
  | .ip cs, y => ∃ b off, y = .pointer (some ⟨b, off, none⟩) ∧ RepC cs b off
  | .own id off len sz, y => ∃ b a cap n ty, ι[id]? = some (.blk b) ∧ y = .slice a len cap ∧ len ≤ cap ∧ cap ≤ maxLen ∧ (cap = 0 ∨ a = some ⟨b, off, none⟩) ∧ w.shape? b = some (ty, n) ∧ off + cap * sz ≤ n
  | .op id off, y => ∃ b, ι[id]? = some (.blk b) ∧ y = .pointer (some ⟨b, off, none⟩)
  | .fn f xs ys, y => ∃ vs us : List Value, y = .func f vs.toArray us.toArray ∧ RepL xs vs ∧ RepL ys us
  | .ifc t x, y => ∃ v, y = .iface t v ∧ Rep x v
def RepL : List AV → List Value → Prop
  | [], vs => vs = []
  | a :: as, vs => ∃ u us, vs = u :: us ∧ Rep a u ∧ RepL as us
def RepC : List AV → Nat → Nat → Prop
  | [], _, _ => True
  | c :: cs, b, off => (∃ u, w.cell? ⟨b, off, none⟩ = some u ∧ S b off ∧ Rep c u) ∧ RepC cs b (off + 1)
def RepR (sz : Nat) : List (List AV) → Nat → Nat → Prop
  | [], _, _ => True
  | r :: rs, b, off => r.length = sz ∧ RepC r b off ∧ RepR sz rs b (off + sz)
end
end

section
variable {ι : List Ix} {S : Stab} {w : World}
@[simp] theorem Rep_v (x y : Value) : Rep ι S w (.v x) y ↔ y = x := by simp [Rep]
@[simp] theorem Rep_any (y : Value) : Rep ι S w .any y ↔ True := by simp [Rep]
@[simp] theorem Rep_str (l : List UInt8) (y : Value) : Rep ι S w (.str l) y ↔ y = .string ⟨l.toArray⟩ ∧ l.length ≤ maxLen := by simp [Rep]
@[simp] theorem RepL_nil (vs : List Value) : RepL ι S w [] vs ↔ vs = [] := by simp [RepL]
@[simp] theorem RepL_cons (a : AV) (as : List AV) (v : Value) (vs : List Value) : RepL ι S w (a :: as) (v :: vs) ↔ Rep ι S w a v ∧ RepL ι S w as vs := by
  rw [RepL]
  constructor
  · rintro ⟨u, us, e, h1, h2⟩; simp only [List.cons.injEq] at e; obtain ⟨rfl, rfl⟩ := e; exact ⟨h1, h2⟩
  · rintro ⟨h1, h2⟩; exact ⟨_, _, rfl, h1, h2⟩
@[simp] theorem RepL_cons_nil (a : AV) (as : List AV) : ¬ RepL ι S w (a :: as) [] := by
  rw [RepL]; rintro ⟨u, us, e, _⟩; cases e

theorem RepL.length : ∀ {as : List AV} {vs : List Value}, RepL ι S w as vs → as.length = vs.length
  | [], vs, h => by simp at h; simp [h]
  | a :: as, [], h => by simp at h
  | a :: as, v :: vs, h => by simp at h; simp [RepL.length h.2]

theorem RepL.get : ∀ {as : List AV} {vs : List Value}, RepL ι S w as vs → ∀ (i : Nat) (a : AV), as[i]? = some a → ∃ v, vs[i]? = some v ∧ Rep ι S w a v
  | [], vs, h, i, a, e => by simp at e
  | a :: as, [], h, _, _, _ => by simp at h
  | a :: as, v :: vs, h, 0, x, e => by simp at e h; subst e; exact ⟨v, by simp, h.1⟩
  | a :: as, v :: vs, h, i + 1, x, e => by simp at e h; simpa using h.2.get i x e

theorem RepL.get' : ∀ {as : List AV} {vs : List Value}, RepL ι S w as vs → ∀ (i : Nat) (v : Value), vs[i]? = some v → ∃ a, as[i]? = some a ∧ Rep ι S w a v := by
  intro as vs h i v e
  have hl := h.length
  obtain ⟨hi, _⟩ := List.getElem?_eq_some_iff.1 e
  have : as[i]? = some as[i] := List.getElem?_eq_getElem (by omega)
  obtain ⟨u, hu, hr⟩ := h.get i _ this
  rw [e] at hu; cases hu
  exact ⟨_, this, hr⟩

theorem RepL.set : ∀ {as : List AV} {vs : List Value}, RepL ι S w as vs → ∀ (i : Nat) (a : AV) (v : Value), Rep ι S w a v → RepL ι S w (as.set i a) (vs.set i v)
  | [], vs, h, i, a, v, _ => by simp at h; subst h; simp
  | a :: as, [], h, _, _, _, _ => by simp at h
  | a :: as, v :: vs, h, 0, x, u, e => by simp at h; simpa using ⟨e, h.2⟩
  | a :: as, v :: vs, h, i + 1, x, u, e => by simp at h; simpa using ⟨h.1, h.2.set i x u e⟩

theorem RepL.append : ∀ {as bs : List AV} {vs us : List Value}, RepL ι S w as vs → RepL ι S w bs us → RepL ι S w (as ++ bs) (vs ++ us)
  | [], bs, vs, us, h, k => by simp at h; subst h; simpa using k
  | a :: as, bs, [], us, h, _ => by simp at h
  | a :: as, bs, v :: vs, us, h, k => by simp at h; simpa using ⟨h.1, h.2.append k⟩

theorem RepL.mk : ∀ {as : List AV} {vs : List Value}, as.length = vs.length → (∀ (i : Nat) (a : AV) (v : Value), as[i]? = some a → vs[i]? = some v → Rep ι S w a v) → RepL ι S w as vs
  | [], vs, h, _ => by simpa using (List.length_eq_zero_iff.1 (by simpa using h.symm))
  | a :: as, [], h, _ => by simp at h
  | a :: as, v :: vs, h, k => by
    simp only [RepL_cons]
    exact ⟨k 0 a v rfl rfl, RepL.mk (by simpa using h) fun i x u e f => k (i + 1) x u (by simpa using e) (by simpa using f)⟩

theorem RepL.take : ∀ {as : List AV} {vs : List Value} (n : Nat), RepL ι S w as vs → RepL ι S w (as.take n) (vs.take n)
  | [], vs, n, h => by simp at h; subst h; simp
  | a :: as, [], n, h => by simp at h
  | a :: as, v :: vs, 0, h => by simp
  | a :: as, v :: vs, n + 1, h => by simp at h; simpa using ⟨h.1, h.2.take n⟩
theorem RepL.drop : ∀ {as : List AV} {vs : List Value} (n : Nat), RepL ι S w as vs → RepL ι S w (as.drop n) (vs.drop n)
  | [], vs, n, h => by simp at h; subst h; simp
  | a :: as, [], n, h => by simp at h
  | a :: as, v :: vs, 0, h => by simpa using h
  | a :: as, v :: vs, n + 1, h => by simp at h; simpa using h.2.drop n

/-- Cells that lie in a row, one by one. -/
theorem RepC.get : ∀ {cs : List AV} {b off : Nat}, RepC ι S w cs b off → ∀ (i : Nat) (c : AV), cs[i]? = some c → ∃ u, w.cell? ⟨b, off + i, none⟩ = some u ∧ S b (off + i) ∧ Rep ι S w c u
  | [], b, off, h, i, c, e => by simp at e
  | c :: cs, b, off, h, 0, x, e => by simp at e; subst e; rw [RepC] at h; simpa using h.1
  | c :: cs, b, off, h, i + 1, x, e => by
    simp at e; rw [RepC] at h
    have := h.2.get i x e
    rw [show off + (i + 1) = off + 1 + i by omega]; exact this

theorem RepC.mk : ∀ {cs : List AV} {b off : Nat}, (∀ (i : Nat) (c : AV), cs[i]? = some c → ∃ u, w.cell? ⟨b, off + i, none⟩ = some u ∧ S b (off + i) ∧ Rep ι S w c u) → RepC ι S w cs b off
  | [], b, off, h => by simp [RepC]
  | c :: cs, b, off, h => by
    rw [RepC]
    refine ⟨by simpa using h 0 c rfl, RepC.mk fun i x e => ?_⟩
    have := h (i + 1) x (by simpa using e)
    rw [show off + 1 + i = off + (i + 1) by omega]; exact this

theorem RepC.drop {cs : List AV} {b off : Nat} (h : RepC ι S w cs b off) (k : Nat) : RepC ι S w (cs.drop k) b (off + k) :=
  RepC.mk fun i c e => by
    have := h.get (k + i) c (by simpa using e)
    rw [show off + k + i = off + (k + i) by omega]; exact this

/-- The cells of a row, as values. -/
theorem RepC.vals : ∀ {cs : List AV} {b off : Nat}, RepC ι S w cs b off → ∃ vs : List Value, RepL ι S w cs vs ∧ ∀ (i : Nat) (v : Value), vs[i]? = some v → w.cell? ⟨b, off + i, none⟩ = some v
  | [], b, off, h => ⟨[], by simp, by simp⟩
  | c :: cs, b, off, h => by
    rw [RepC] at h
    obtain ⟨⟨u, hu, _, hr⟩, h2⟩ := h
    obtain ⟨vs, hv, hc⟩ := h2.vals
    refine ⟨u :: vs, by simpa using ⟨hr, hv⟩, fun i v e => ?_⟩
    cases i with
    | zero => simp at e; subst e; simpa using hu
    | succ i => simp at e; have := hc i v e; rw [show off + (i + 1) = off + 1 + i by omega]; exact this

theorem RepR.get {sz : Nat} : ∀ {rows : List (List AV)} {b off : Nat}, RepR ι S w sz rows b off → ∀ (i : Nat) (r : List AV), rows[i]? = some r → r.length = sz ∧ RepC ι S w r b (off + i * sz)
  | [], b, off, h, i, c, e => by simp at e
  | r :: rs, b, off, h, 0, x, e => by simp at e; subst e; rw [RepR] at h; simpa using ⟨h.1, h.2.1⟩
  | r :: rs, b, off, h, i + 1, x, e => by
    simp at e; rw [RepR] at h
    have := h.2.2.get i x e
    rw [show off + (i + 1) * sz = off + sz + i * sz by rw [Nat.add_mul]; omega]; exact this
theorem RepR.mk {sz : Nat} : ∀ {rows : List (List AV)} {b off : Nat}, (∀ (i : Nat) (r : List AV), rows[i]? = some r → r.length = sz ∧ RepC ι S w r b (off + i * sz)) → RepR ι S w sz rows b off
  | [], b, off, h => by simp [RepR]
  | r :: rs, b, off, h => by
    rw [RepR]
    have h0 := h 0 r rfl
    refine ⟨h0.1, by simpa using h0.2, RepR.mk fun i x e => ?_⟩
    have := h (i + 1) x (by simpa using e)
    rw [show off + sz + i * sz = off + (i + 1) * sz by rw [Nat.add_mul]; omega]; exact this
end

/-- A place that is still the same, or a slice that has grown. -/
def IxLe : Option Ix → Option Ix → Prop
  | some (.tok n v), y => ∃ n' v', y = some (.tok n' v') ∧ ((n' = n ∧ v' = v) ∨ n < n')
  | x, y => y = x
theorem IxLe.refl : ∀ x, IxLe x x
  | some (.tok n v) => ⟨n, v, rfl, .inl ⟨rfl, rfl⟩⟩
  | some (.blk _) => rfl
  | none => rfl
theorem IxLe.of_eq {x y : Option Ix} (h : y = x) : IxLe x y := h ▸ IxLe.refl x
theorem IxLe.trans : ∀ {x y z : Option Ix}, IxLe x y → IxLe y z → IxLe x z
  | some (.tok n v), y, z, h, k => by
    obtain ⟨n', v', rfl, h⟩ := h
    obtain ⟨n'', v'', rfl, k⟩ := k
    refine ⟨n'', v'', rfl, ?_⟩
    rcases h with ⟨rfl, rfl⟩ | h
    · exact k
    · rcases k with ⟨rfl, rfl⟩ | k
      · exact .inr h
      · exact .inr (Nat.lt_trans h k)
  | some (.blk _), y, z, h, k => by simp only [IxLe] at h; subst h; exact k
  | none, y, z, h, k => by simp only [IxLe] at h; subst h; exact k
theorem IxLe.blk {b : Nat} {y : Option Ix} (h : IxLe (some (.blk b)) y) : y = some (.blk b) := h

/-- From one memory to a later one: what is told stays told. -/
structure Evo (n base : Nat) (ι : List Ix) (S : Stab) (w : World) (ι' : List Ix) (S' : Stab) (w' : World) : Prop where
  pre : ∀ i, i < n → IxLe ι[i]? ι'[i]?
  sub : ∀ b o, S b o → S' b o
  new : ∀ b o, S' b o → S b o ∨ base ≤ b
  cell : ∀ b o, S b o → w'.cell? ⟨b, o, none⟩ = w.cell? ⟨b, o, none⟩
  shp : ∀ b x, w.shape? b = some x → w'.shape? b = some x
  bel : Below base w w'

theorem Evo.refl (n base : Nat) (ι : List Ix) (S : Stab) (w : World) : Evo n base ι S w ι S w :=
  ⟨fun _ _ => IxLe.refl _, fun _ _ h => h, fun _ _ h => .inl h, fun _ _ _ => rfl, fun _ _ h => h, Below.refl _ _⟩
theorem Evo.trans {n base : Nat} {ι ι' ι'' : List Ix} {S S' S'' : Stab} {w w' w'' : World} (h : Evo n base ι S w ι' S' w') (k : Evo n base ι' S' w' ι'' S'' w'') : Evo n base ι S w ι'' S'' w'' :=
  ⟨fun i hi => (h.pre i hi).trans (k.pre i hi), fun b o x => k.sub b o (h.sub b o x),
    fun b o x => (k.new b o x).elim (fun y => h.new b o y) .inr,
    fun b o x => (k.cell b o (h.sub b o x)).trans (h.cell b o x), fun b x hx => k.shp b x (h.shp b x hx), h.bel.trans k.bel⟩
theorem Evo.mono {n n' base base' : Nat} {ι ι' : List Ix} {S S' : Stab} {w w' : World} (h : Evo n base ι S w ι' S' w') (hn : n' ≤ n) (hb : base' ≤ base) : Evo n' base' ι S w ι' S' w' :=
  ⟨fun i hi => h.pre i (Nat.lt_of_lt_of_le hi hn), h.sub, fun b o x => (h.new b o x).imp id (fun y => Nat.le_trans hb y), h.cell, h.shp, h.bel.mono hb⟩

mutual
/-- All places that it names are below 'n'. -/
def Bd (n : Nat) : AV → Prop
  | .v _ | .str _ | .any | .emp => True
  | .agg cs | .tup cs | .ip cs => BdL n cs
  | .sl _ rows => BdR n rows
  | .sb id _ rows => id < n ∧ BdR n rows
  | .own id _ _ _ | .op id _ => id < n
  | .fn _ xs ys => BdL n xs ∧ BdL n ys
  | .ifc _ x => Bd n x
def BdL (n : Nat) : List AV → Prop
  | [] => True
  | a :: as => Bd n a ∧ BdL n as
def BdR (n : Nat) : List (List AV) → Prop
  | [] => True
  | r :: rs => BdL n r ∧ BdR n rs
end
mutual
theorem Rep.bd {ι : List Ix} {S : Stab} {w : World} {n : Nat} (hn : ι.length ≤ n) : ∀ (a : AV) (y : Value), Rep ι S w a y → Bd n a
  | .v _, _, _ => by simp [Bd]
  | .str _, _, _ => by simp [Bd]
  | .any, _, _ => by simp [Bd]
  | .emp, _, _ => by simp [Bd]
  | .agg cs, y, k => by rw [Rep] at k; rw [Bd]; obtain ⟨vs, e, k⟩ := k; exact RepL.bd hn cs vs k
  | .tup cs, y, k => by rw [Rep] at k; rw [Bd]; obtain ⟨vs, e, k⟩ := k; exact RepL.bd hn cs vs k
  | .sl sz rows, y, k => by
    rw [Rep] at k; rw [Bd]
    obtain ⟨a, cap, e, h1, h2, h3⟩ := k
    rcases h3 with rfl | ⟨b, off, ea, hr⟩
    · simp [BdR]
    · exact RepR.bd hn sz rows b off hr
  | .sb tid sz rows, y, k => by
    rw [Rep] at k; rw [Bd]
    obtain ⟨⟨a, cap, e, h1, h2, h3⟩, m, v, t1, _⟩ := k
    refine ⟨Nat.lt_of_lt_of_le (List.getElem?_eq_some_iff.1 t1).1 hn, ?_⟩
    rcases h3 with rfl | ⟨b, off, ea, hr⟩
    · simp [BdR]
    · exact RepR.bd hn sz rows b off hr
  | .ip cs, y, k => by rw [Rep] at k; rw [Bd]; obtain ⟨b, off, e, k⟩ := k; exact RepC.bd hn cs b off k
  | .own tid off len sz, y, k => by
    rw [Rep] at k; rw [Bd]
    obtain ⟨b, a, cap, m, ty, h1, _⟩ := k
    exact Nat.lt_of_lt_of_le (List.getElem?_eq_some_iff.1 h1).1 hn
  | .op tid off, y, k => by
    rw [Rep] at k; rw [Bd]
    obtain ⟨b, h1, _⟩ := k
    exact Nat.lt_of_lt_of_le (List.getElem?_eq_some_iff.1 h1).1 hn
  | .fn f xs ys, y, k => by rw [Rep] at k; rw [Bd]; obtain ⟨vs, us, e, k1, k2⟩ := k; exact ⟨RepL.bd hn xs vs k1, RepL.bd hn ys us k2⟩
  | .ifc t x, y, k => by rw [Rep] at k; rw [Bd]; obtain ⟨v, e, k⟩ := k; exact Rep.bd hn x v k
theorem RepL.bd {ι : List Ix} {S : Stab} {w : World} {n : Nat} (hn : ι.length ≤ n) : ∀ (as : List AV) (vs : List Value), RepL ι S w as vs → BdL n as
  | [], _, _ => by simp [BdL]
  | a :: as, [], k => by simp at k
  | a :: as, v :: vs, k => by simp at k; rw [BdL]; exact ⟨Rep.bd hn a v k.1, RepL.bd hn as vs k.2⟩
theorem RepC.bd {ι : List Ix} {S : Stab} {w : World} {n : Nat} (hn : ι.length ≤ n) : ∀ (cs : List AV) (b off : Nat), RepC ι S w cs b off → BdL n cs
  | [], _, _, _ => by simp [BdL]
  | c :: cs, b, off, k => by rw [RepC] at k; rw [BdL]; obtain ⟨⟨u, _, _, h⟩, k2⟩ := k; exact ⟨Rep.bd hn c u h, RepC.bd hn cs b (off + 1) k2⟩
theorem RepR.bd {ι : List Ix} {S : Stab} {w : World} {n : Nat} (hn : ι.length ≤ n) (sz : Nat) : ∀ (rows : List (List AV)) (b off : Nat), RepR ι S w sz rows b off → BdR n rows
  | [], _, _, _ => by simp [BdR]
  | r :: rs, b, off, k => by rw [RepR] at k; rw [BdR]; exact ⟨RepC.bd hn r b off k.2.1, RepR.bd hn sz rs b (off + sz) k.2.2⟩
end
mutual
theorem Rep.evoB {n base : Nat} {ι ι' : List Ix} {S S' : Stab} {w w' : World} (h : Evo n base ι S w ι' S' w') : ∀ (a : AV) (y : Value), Bd n a → Rep ι S w a y → Rep ι' S' w' a y
  | .v x, y, p, k => by simpa using k
  | .str x, y, p, k => by simpa using k
  | .any, y, p, k => by simp
  | .agg cs, y, p, k => by rw [Rep] at *; rw [Bd] at p; obtain ⟨vs, e, k⟩ := k; exact ⟨vs, e, RepL.evoB h cs vs p k⟩
  | .tup cs, y, p, k => by rw [Rep] at *; rw [Bd] at p; obtain ⟨vs, e, k⟩ := k; exact ⟨vs, e, RepL.evoB h cs vs p k⟩
  | .emp, y, p, k => by rw [Rep] at *; exact k
  | .sl sz rows, y, p, k => by
    rw [Rep] at *; rw [Bd] at p
    obtain ⟨a, cap, e, h1, h2, h3⟩ := k
    exact ⟨a, cap, e, h1, h2, h3.imp (fun q => q) fun ⟨b, off, ea, hr⟩ => ⟨b, off, ea, RepR.evoB h sz rows b off p hr⟩⟩
  | .sb tid sz rows, y, p, k => by
    rw [Rep] at *; rw [Bd] at p
    obtain ⟨⟨a, cap, e, h1, h2, h3⟩, m, v, t1, t2, t3⟩ := k
    refine ⟨⟨a, cap, e, h1, h2, h3.imp (fun q => q) fun ⟨b, off, ea, hr⟩ => ⟨b, off, ea, RepR.evoB h sz rows b off p.2 hr⟩⟩, ?_⟩
    have hp := h.pre tid p.1
    rw [t1] at hp
    obtain ⟨m', v', e', q⟩ := hp
    refine ⟨m', v', e', ?_⟩
    rcases q with ⟨rfl, rfl⟩ | q
    · exact ⟨t2, t3⟩
    · exact ⟨by omega, fun z => by omega⟩
  | .ip cs, y, p, k => by rw [Rep] at *; rw [Bd] at p; obtain ⟨b, off, e, k⟩ := k; exact ⟨b, off, e, RepC.evoB h cs b off p k⟩
  | .own tid off len sz, y, p, k => by
    rw [Rep] at *; rw [Bd] at p
    obtain ⟨b, a, cap, m, ty, h1, h2, h3, h4, h5, h6, h7⟩ := k
    exact ⟨b, a, cap, m, ty, (h1 ▸ h.pre tid p).blk, h2, h3, h4, h5, h.shp _ _ h6, h7⟩
  | .op tid off, y, p, k => by
    rw [Rep] at *; rw [Bd] at p
    obtain ⟨b, h1, h2⟩ := k
    exact ⟨b, (h1 ▸ h.pre tid p).blk, h2⟩
  | .fn f xs ys, y, p, k => by rw [Rep] at *; rw [Bd] at p; obtain ⟨vs, us, e, k1, k2⟩ := k; exact ⟨vs, us, e, RepL.evoB h xs vs p.1 k1, RepL.evoB h ys us p.2 k2⟩
  | .ifc t x, y, p, k => by rw [Rep] at *; rw [Bd] at p; obtain ⟨v, e, k⟩ := k; exact ⟨v, e, Rep.evoB h x v p k⟩
theorem RepL.evoB {n base : Nat} {ι ι' : List Ix} {S S' : Stab} {w w' : World} (h : Evo n base ι S w ι' S' w') : ∀ (as : List AV) (vs : List Value), BdL n as → RepL ι S w as vs → RepL ι' S' w' as vs
  | [], vs, p, k => by simpa using k
  | a :: as, [], p, k => by simp at k
  | a :: as, v :: vs, p, k => by simp at k; rw [BdL] at p; simpa using ⟨Rep.evoB h a v p.1 k.1, RepL.evoB h as vs p.2 k.2⟩
theorem RepC.evoB {n base : Nat} {ι ι' : List Ix} {S S' : Stab} {w w' : World} (h : Evo n base ι S w ι' S' w') : ∀ (cs : List AV) (b off : Nat), BdL n cs → RepC ι S w cs b off → RepC ι' S' w' cs b off
  | [], b, off, p, k => by simp [RepC]
  | c :: cs, b, off, p, k => by
    rw [RepC] at *; rw [BdL] at p
    obtain ⟨⟨u, h1, h2, h3⟩, k2⟩ := k
    exact ⟨⟨u, by rw [h.cell b off h2]; exact h1, h.sub _ _ h2, Rep.evoB h c u p.1 h3⟩, RepC.evoB h cs b (off + 1) p.2 k2⟩
theorem RepR.evoB {n base : Nat} {ι ι' : List Ix} {S S' : Stab} {w w' : World} (h : Evo n base ι S w ι' S' w') (sz : Nat) : ∀ (rows : List (List AV)) (b off : Nat), BdR n rows → RepR ι S w sz rows b off → RepR ι' S' w' sz rows b off
  | [], b, off, p, k => by simp [RepR]
  | r :: rs, b, off, p, k => by
    rw [RepR] at *; rw [BdR] at p
    exact ⟨k.1, RepC.evoB h r b off p.1 k.2.1, RepR.evoB h sz rs b (off + sz) p.2 k.2.2⟩
end
theorem Rep.evo {n base : Nat} {ι ι' : List Ix} {S S' : Stab} {w w' : World} (h : Evo n base ι S w ι' S' w') (hn : ι.length ≤ n) (a : AV) (y : Value) (k : Rep ι S w a y) : Rep ι' S' w' a y := Rep.evoB h a y (Rep.bd hn a y k) k
theorem RepL.evo {n base : Nat} {ι ι' : List Ix} {S S' : Stab} {w w' : World} (h : Evo n base ι S w ι' S' w') (hn : ι.length ≤ n) (as : List AV) (vs : List Value) (k : RepL ι S w as vs) : RepL ι' S' w' as vs := RepL.evoB h as vs (RepL.bd hn as vs k) k
theorem RepC.evo {n base : Nat} {ι ι' : List Ix} {S S' : Stab} {w w' : World} (h : Evo n base ι S w ι' S' w') (hn : ι.length ≤ n) (cs : List AV) (b off : Nat) (k : RepC ι S w cs b off) : RepC ι' S' w' cs b off := RepC.evoB h cs b off (RepC.bd hn cs b off k) k
theorem RepR.evo {n base : Nat} {ι ι' : List Ix} {S S' : Stab} {w w' : World} (h : Evo n base ι S w ι' S' w') (hn : ι.length ≤ n) (sz : Nat) (rows : List (List AV)) (b off : Nat) (k : RepR ι S w sz rows b off) : RepR ι' S' w' sz rows b off := RepR.evoB h sz rows b off (RepR.bd hn sz rows b off k) k
end Go.Aw
