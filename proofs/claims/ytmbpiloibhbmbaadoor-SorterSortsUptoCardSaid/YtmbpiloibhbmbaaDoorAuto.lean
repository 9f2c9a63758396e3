/-
  Steps through a printed text where what is compared is not known: conditions stay as they are until a way parts.
  No conditions: lemmas.
-/
import Derived.Test.YtmbpiloibhbmbaaDoorL5
set_option linter.unusedVariables false
set_option linter.unusedSimpArgs false
namespace Go.Aw
open Go Go.RowKit
section
variable {K : AV → Prop} {A B : Prop} {h : Heap}
theorem a_lss {k : IntKind} {x y : AV} {a b : Int} (ex : x = .v (.int k a)) (ey : y = .v (.int k b)) (q : K (.v (.bool (decide (a < b))))) : iBin .lss x y K := by subst ex; subst ey; simpa using q
theorem a_leq {k : IntKind} {x y : AV} {a b : Int} (ex : x = .v (.int k a)) (ey : y = .v (.int k b)) (q : K (.v (.bool (decide (a ≤ b))))) : iBin .leq x y K := by subst ex; subst ey; simpa using q
theorem a_gtr {k : IntKind} {x y : AV} {a b : Int} (ex : x = .v (.int k a)) (ey : y = .v (.int k b)) (q : K (.v (.bool (decide (b < a))))) : iBin .gtr x y K := by subst ex; subst ey; simpa using q
theorem a_geq {k : IntKind} {x y : AV} {a b : Int} (ex : x = .v (.int k a)) (ey : y = .v (.int k b)) (q : K (.v (.bool (decide (b ≤ a))))) : iBin .geq x y K := by subst ex; subst ey; simpa using q
theorem a_eql {k : IntKind} {x y : AV} {a b : Int} (ex : x = .v (.int k a)) (ey : y = .v (.int k b)) (q : K (.v (.bool (decide (a = b))))) : iBin .eql x y K := by subst ex; subst ey; simpa using q
theorem a_neq {k : IntKind} {x y : AV} {a b : Int} (ex : x = .v (.int k a)) (ey : y = .v (.int k b)) (q : K (.v (.bool (!decide (a = b))))) : iBin .neq x y K := by subst ex; subst ey; simpa using q
theorem a_eqlS {x y : AV} {a b : List UInt8} (ex : x = .str a) (ey : y = .str b) (q : K (.v (.bool (decide (a = b))))) : iBin .eql x y K := by subst ex; subst ey; simpa using q
theorem a_neqS {x y : AV} {a b : List UInt8} (ex : x = .str a) (ey : y = .str b) (q : K (.v (.bool (!decide (a = b))))) : iBin .neq x y K := by subst ex; subst ey; simpa using q
theorem a_eqlB {x y : AV} {a b : Bool} (ex : x = .v (.bool a)) (ey : y = .v (.bool b)) (q : K (.v (.bool (a == b)))) : iBinB .eql x y K := by subst ex; subst ey; simpa using q
theorem a_neqB {x y : AV} {a b : Bool} (ex : x = .v (.bool a)) (ey : y = .v (.bool b)) (q : K (.v (.bool (!(a == b))))) : iBinB .neq x y K := by subst ex; subst ey; simpa using q
theorem a_not {x : AV} {b : Bool} (e : x = .v (.bool b)) (q : K (.v (.bool (!b)))) : iNot x K := by subst e; simpa using q
theorem a_cond {c : AV} {b : Bool} (e : c = .v (.bool b)) (qt : b = true → A) (qf : b = false → B) : iCond c A B := by subst e; simpa using ⟨qt, qf⟩
theorem a_cond1 {c : AV} {b : Bool} (e : c = .v (.bool b)) (hb : b = true) (q : A) : iCond c A B := by subst e; subst hb; simpa using q
theorem a_cond0 {c : AV} {b : Bool} (e : c = .v (.bool b)) (hb : b = false) (q : B) : iCond c A B := by subst e; subst hb; simpa using q
theorem a_condN {c : AV} {b : Bool} (e : c = .v (.bool (!b))) (q : iCond (.v (.bool b)) B A) : iCond c A B := by subst e; cases b <;> simpa using q
theorem a_guard {c : AV} {w b : Bool} (e : c = .v (.bool b)) (qt : b = w → A) (qf : b = (!w) → B) : iGuard c w A B := by subst e; simpa using ⟨qt, qf⟩
theorem a_guard1 {c : AV} {w b : Bool} (e : c = .v (.bool b)) (hb : b = w) (q : A) : iGuard c w A B := by subst e; subst hb; cases b <;> simpa using q
theorem a_guard0 {c : AV} {w b : Bool} (e : c = .v (.bool b)) (hb : b = (!w)) (q : B) : iGuard c w A B := by subst e; subst hb; cases w <;> simpa using q
theorem a_guardN {c : AV} {w b : Bool} (e : c = .v (.bool (!b))) (q : iGuard (.v (.bool b)) (!w) A B) : iGuard c w A B := by subst e; cases b <;> cases w <;> simpa using q
theorem a_pick1 {c x y : AV} {b : Bool} (e : c = .v (.bool b)) (hb : b = true) (q : K x) : iPick c x y K := by subst e; subst hb; simpa using q
theorem a_pick0 {c x y : AV} {b : Bool} (e : c = .v (.bool b)) (hb : b = false) (q : K y) : iPick c x y K := by subst e; subst hb; simpa using q
theorem a_pickN {c x y : AV} {b : Bool} (e : c = .v (.bool (!b))) (q : iPick (.v (.bool b)) y x K) : iPick c x y K := by subst e; cases b <;> simpa using q
theorem a_fadI {off : Nat} {x : AV} {cs : List AV} (e : x = .ip cs) (q : K (.ip (cs.drop off))) : iFad off x K := by subst e; exact q
theorem a_loadAI {n : Nat} {x : AV} {cs : List AV} (e : x = .ip cs) (hn : cs.length = n) (q : K (.agg cs)) : iLoad true n x h K := by
  subst e
  rw [iLoad_i]
  exact ⟨by omega, by rw [← hn, List.take_length]; exact q⟩
theorem a_store {sz id o : Nat} {x v : AV} {b : Blk} {cs : List AV} {KS : Heap → Prop} (e : x = .op id o) (hb : h[id]? = some (.blk b)) (hw : b.wr = true) (hv : vcells v = cs) (hl : o + cs.length ≤ b.cells.length) (hz : cs.length = sz) (hs : cs.all scal = true)
    (q : KS (h.set id (.blk { b with cells := setAll b.cells o cs }))) : iStore sz x v h KS := by
  subst e; subst hv
  rw [iStore_o, hb]
  exact ⟨⟨hw, hl, hz, hs⟩, q⟩
theorem a_len {sz : Nat} {x : AV} {rows : List (List AV)} {n : Nat} (e : x = .sl sz rows) (hn : rows.length = n) (q : n ≤ maxLen → K (int n)) : iLen x K := by subst e; subst hn; rw [iLen_s]; exact q
theorem a_lenS {x : AV} {l : List UInt8} (e : x = .str l) (q : l.length ≤ maxLen → K (int l.length)) : iLenS x K := by subst e; rw [iLenS_s]; exact q
theorem a_build {z : AV} {ps : List (Nat × Nat × AV)} {cs : List AV} (e : bfill (vcells z) ps = some cs) (q : K (.agg cs)) : iBuild z ps K := by rw [iBuild_r, e]; exact q
theorem a_extr {i : Nat} {x : AV} {cs : List AV} {c : AV} (e : x = .tup cs) (hc : cs[i]? = some c) (q : K c) : iExtr i x K := w_extr e hc q
theorem a_eqA {neg : Bool} {ks : List Nat} {x y : AV} {xs ys : List AV} {b : Bool} (ex : x = .agg xs) (ey : y = .agg ys) (hb : eqK ks xs ys = some b) (q : K (.v (.bool (if neg then !b else b)))) : iEqA neg ks x y K := by
  subst ex; subst ey
  rw [iEqA_a, hb]; exact q
theorem a_idx {α : Type} {m : Nat} {x i : AV} {l : List α} {rows : List (List AV)} {f : α → List AV} {n : Nat} {a : α} (e : x = .sl m rows) (hr : rows = l.map f) (ei : i = int n) (ha : l[n]? = some a) (q : K (.ip (f a))) : iIdxP m x i K := by
  subst e; subst ei; subst hr
  rw [iIdxP_s]
  have hn := (List.getElem?_eq_some_iff.1 ha).1
  refine ⟨rfl, ⟨by omega, by rw [List.length_map]; omega⟩, ?_⟩
  have : (l.map f).getD (n : Int).toNat [] = f a := by rw [Int.toNat_natCast, List.getD_eq_getElem?_getD, List.getElem?_map, ha]; rfl
  rw [this]; exact q
theorem a_idxS {x i : AV} {l : List UInt8} {n : Nat} {b : UInt8} (e : x = .str l) (ei : i = int n) (hb : l[n]? = some b) (q : K (.v (.int .u8 b.toNat))) : iIdxS x i K := by
  subst e; subst ei
  have hn := (List.getElem?_eq_some_iff.1 hb).1
  refine ⟨⟨by omega, by omega⟩, ?_⟩
  have : l.getD (n : Int).toNat 0 = b := by rw [Int.toNat_natCast, List.getD_eq_getElem?_getD, hb]; rfl
  rw [this]; exact q
end
theorem tlR_pure (f : AV → AV) (L : Nat) (h : Heap) (r : List (List AV)) (p : PureR r) : tlR f L h r = r := by
  have := tlA_pure f L h (.sl 0 r) (by rw [Pure]; exact p)
  rw [tlA] at this
  simpa using this
theorem unB_bytes : ∀ l : List UInt8, unB (l.map byteA) = some l
  | [] => rfl
  | b :: l => by
    rw [List.map_cons, byteA, unB, unB_bytes l]
    simp
/-- A text out of bytes of the call's own. -/
theorem a_ofBytes {K : AV → Prop} {h : Heap} {id : Nat} {x : AV} {b : Blk} {l : List UInt8} (e : x = .own id 0 l.length 1) (hb : h[id]? = some (.blk b)) (hc : b.cells = l.map byteA) (q : K (.str l)) : iOfBytes x h K := by
  subst e
  have h1 : srcR h 1 (.own id 0 l.length 1) = some (chunks 1 l.length b.cells) := by
    rw [srcR_o, hb]
    simp only [List.drop_zero, true_and]
    rw [if_pos (by rw [hc]; simp)]
  have h2 : (chunks 1 l.length b.cells).flatten = l.map byteA := by
    rw [(chunks_flat 1 l.length b.cells (by rw [hc]; simp)).1, hc]
    rw [List.take_of_length_le (by simp)]
  unfold iOfBytes
  rw [h1]
  simp only [Option.bind_some, h2, unB_bytes]
  exact q
theorem set_same {α : Type} {l : List α} {k : Nat} {x : α} (h : l[k]? = some x) : l.set k x = l := by
  refine List.ext_getElem? fun j => ?_
  by_cases q : k = j
  · subst q; rw [List.getElem?_set_self (List.getElem?_eq_some_iff.1 h).1, h]
  · rw [List.getElem?_set_ne q]
/-- What is pure names no places. -/
theorem Bd_pure (n : Nat) (a : AV) : Pure a → Bd n a := by
  refine AV.rec (motive_1 := fun a => Pure a → Bd n a) (motive_2 := fun l => PureL l → BdL n l) (motive_3 := fun r => PureR r → BdR n r) ?_ ?_ ?_ ?_ ?_ ?_ ?_ ?_ ?_ ?_ ?_ ?_ ?_ ?_ ?_ ?_ ?_ ?_ a
  all_goals intros
  all_goals simp_all [Bd, BdL, BdR]
theorem BdL_pure (n : Nat) (l : List AV) (p : PureL l) : BdL n l := by
  have := Bd_pure n (.agg l) (by rw [Pure]; exact p)
  rwa [Bd] at this
variable [Laid]
/-- Behind a round: what was written behind the first places is let go. -/
theorem Wk.back {n M : Nat} {s s' : List AV} {h h' : Heap} (hn : n ≤ M) (hM : M ≤ h.length) (e : h.take M = h') (es : s = s') (hb : ∀ x ∈ h', entB M x) (hs : ∀ a ∈ s', Bd M a) : Wk n s h s' h' := by
  subst es; subst e
  exact Wk.cutL hn hM hb hs
end Go.Aw
