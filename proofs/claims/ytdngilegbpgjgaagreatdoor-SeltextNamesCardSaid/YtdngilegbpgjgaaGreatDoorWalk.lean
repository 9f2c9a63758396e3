/-
  Steps through a printed text, one word at a time: each lemma takes the word at the head, and nothing behind it is looked at.
  No conditions: lemmas.
-/
import Derived.Test.YtdngilegbpgjgaaGreatDoorL2
set_option linter.unusedVariables false
set_option linter.unusedSimpArgs false
namespace Go.Aw
open Go Go.RowKit
variable {K : AV → Prop} {A B : Prop} {h : Heap}

theorem w_let {k : (List AV → Heap → Prop) → Prop} {f : List AV → Heap → Prop} (q : k f) : iLet k f := q
theorem w_guard_y {c : AV} {w : Bool} (e : c = .v (.bool w)) (q : A) : iGuard c w A B := by subst e; cases w <;> simpa using q
theorem w_guard_n {c : AV} {w : Bool} (e : c = .v (.bool (!w))) (q : B) : iGuard c w A B := by subst e; cases w <;> simpa using q
theorem w_guard_u {c : AV} {w : Bool} (e : c = .v undef) (q : B) : iGuard c w A B := by subst e; simpa using q
theorem w_pick_t {c a b : AV} (e : c = .v (.bool true)) (q : K a) : iPick c a b K := by subst e; simpa using q
theorem w_pick_f {c a b : AV} (e : c = .v (.bool false)) (q : K b) : iPick c a b K := by subst e; simpa using q
theorem w_cond_t {c : AV} (e : c = .v (.bool true)) (q : A) : iCond c A B := by subst e; simpa using q
theorem w_cond_f {c : AV} (e : c = .v (.bool false)) (q : B) : iCond c A B := by subst e; simpa using q
theorem w_not_t {c : AV} (e : c = .v (.bool true)) (q : K (.v (.bool false))) : iNot c K := by subst e; simpa using q
theorem w_not_f {c : AV} (e : c = .v (.bool false)) (q : K (.v (.bool true))) : iNot c K := by subst e; simpa using q
theorem w_and {X : Prop} {a : List AV} (q : X) : a = a ∧ X := ⟨rfl, q⟩
theorem w_lss {k : IntKind} {x y : AV} {a b : Int} (t : Bool) (ex : x = .v (.int k a)) (ey : y = .v (.int k b)) (c : decide (a < b) = t) (q : K (.v (.bool t))) : iBin .lss x y K := by subst ex; subst ey; subst c; simpa using q
theorem w_leq {k : IntKind} {x y : AV} {a b : Int} (t : Bool) (ex : x = .v (.int k a)) (ey : y = .v (.int k b)) (c : decide (a ≤ b) = t) (q : K (.v (.bool t))) : iBin .leq x y K := by subst ex; subst ey; subst c; simpa using q
theorem w_gtr {k : IntKind} {x y : AV} {a b : Int} (t : Bool) (ex : x = .v (.int k a)) (ey : y = .v (.int k b)) (c : decide (b < a) = t) (q : K (.v (.bool t))) : iBin .gtr x y K := by subst ex; subst ey; subst c; simpa using q
theorem w_geq {k : IntKind} {x y : AV} {a b : Int} (t : Bool) (ex : x = .v (.int k a)) (ey : y = .v (.int k b)) (c : decide (b ≤ a) = t) (q : K (.v (.bool t))) : iBin .geq x y K := by subst ex; subst ey; subst c; simpa using q
theorem w_eql {k : IntKind} {x y : AV} {a b : Int} (t : Bool) (ex : x = .v (.int k a)) (ey : y = .v (.int k b)) (c : decide (a = b) = t) (q : K (.v (.bool t))) : iBin .eql x y K := by subst ex; subst ey; subst c; simpa using q
theorem w_neq {k : IntKind} {x y : AV} {a b : Int} (t : Bool) (ex : x = .v (.int k a)) (ey : y = .v (.int k b)) (c : (!decide (a = b)) = t) (q : K (.v (.bool t))) : iBin .neq x y K := by subst ex; subst ey; subst c; simpa using q
theorem w_add {x y : AV} {a b : Int} (ex : x = int a) (ey : y = int b) (c : inI (a + b)) (q : K (int (a + b))) : iBin .add x y K := by subst ex; subst ey; simpa using ⟨c, q⟩
theorem w_sub {x y : AV} {a b : Int} (ex : x = int a) (ey : y = int b) (c : inI (a - b)) (q : K (int (a - b))) : iBin .sub x y K := by subst ex; subst ey; simpa using ⟨c, q⟩
theorem w_fad {off id o : Nat} {x : AV} (e : x = .op id o) (q : K (.op id (o + off))) : iFad off x K := by subst e; exact q
theorem w_nil {id o : Nat} {x : AV} (e : x = .op id o) (q : K (.op id o)) : iNil x K := by subst e; exact q
theorem w_load {id o : Nat} {x : AV} {b : Blk} {c : AV} (e : x = .op id o) (hb : h[id]? = some (.blk b)) (hc : b.cells[o]? = some c) (q : K c) : iLoad false 1 x h K := by
  subst e
  rw [iLoad_o, hb]
  have hl := (List.getElem?_eq_some_iff.1 hc).1
  simp only [ldP]
  rw [List.drop_eq_getElem_cons hl]
  rw [(List.getElem?_eq_some_iff.1 hc).2]; exact q
theorem w_loadA {id o n : Nat} {x : AV} {b : Blk} (e : x = .op id o) (hb : h[id]? = some (.blk b)) (hn : n ≤ (b.cells.drop o).length) (q : K (.agg ((b.cells.drop o).take n))) : iLoad true n x h K := by
  subst e
  rw [iLoad_o, hb]
  exact ⟨hn, q⟩
theorem w_new {t : TypeId} {v : AV} {KH : AV → Heap → Prop} (e : (vcells v).all scal = true) (q : KH (.op h.length 0) (h ++ [.blk ⟨t, vcells v, true⟩])) : iNew t v h KH := ⟨e, q⟩
theorem w_call [Laid] {P : Program} {f : FuncId} {args args' : List AV} {r : AV} {KH : AV → Heap → Prop} (e : args = args') (hb : hasBody P f = true) (c : Con P f args' r) (k : KH r h) : iCall P (.fn (.func f) [] []) args h KH := by
  subst e; exact iCall_con hb c k
theorem w_extr {i : Nat} {x : AV} {cs : List AV} {c : AV} (e : x = .tup cs) (hc : cs[i]? = some c) (q : K c) : iExtr i x K := by subst e; rw [iExtr_t, hc]; exact q
end Go.Aw
