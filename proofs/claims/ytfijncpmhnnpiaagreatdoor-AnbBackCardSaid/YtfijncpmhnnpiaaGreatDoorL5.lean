/-
  Steps through a printed text, one word at a time: each lemma takes the word at the head, and nothing behind it is looked at. Loops whose rounds leave memory behind: what lies behind the first places is let go; nil slices that grow from now on. Less is said, at every memory; joins where one state is known; contracts that speak of calls. Steps through a printed text where what is compared is not known: conditions stay as they are until a way parts. Less is said of what lies deep in what is told: a nil slice is a slice with nothing in it. Steps for slices that grow.
  No conditions.
-/
import Derived.Test.YtfijncpmhnnpiaaGreatDoorL2
import Derived.Test.YtfijncpmhnnpiaaGreatDoorL4
set_option linter.unusedVariables false
set_option linter.unusedSimpArgs false
section
namespace Go.Aw
open Go Go.RowKit
variable {K : AV → Prop} {A B : Prop} {h : Heap}

theorem w_let {k : (List AV → Heap → Prop) → Prop} {f : List AV → Heap → Prop} (q : k f) : iLet k f := q
theorem w_guard_y {c : AV} {w : Bool} (e : c = .v (.bool w)) (q : A) : iGuard c w A B := by subst e; cases w <;> simpa using q
theorem w_guard_n {c : AV} {w : Bool} (e : c = .v (.bool (!w))) (q : B) : iGuard c w A B := by subst e; cases w <;> simpa using q
theorem w_guard_u {c : AV} {w : Bool} (e : c = .v undef) (q : B) : iGuard c w A B := by subst e; simpa using q
theorem w_pick_t {c a b : AV} (e : c = .v (.bool true)) (q : K a) : iPick c a b K := by subst e; simpa using q
theorem w_pick_f {c a b : AV} (e : c = .v (.bool false)) (q : K b) : iPick c a b K := by subst e; simpa using q
theorem w_cond_t {c : AV} (e : c = .v (.bool true)) (q : A) : iCond c A B := by subst e; simpa using q
theorem w_cond_f {c : AV} (e : c = .v (.bool false)) (q : B) : iCond c A B := by subst e; simpa using q
theorem w_not_t {c : AV} (e : c = .v (.bool true)) (q : K (.v (.bool false))) : iNot c K := by subst e; simpa using q
theorem w_not_f {c : AV} (e : c = .v (.bool false)) (q : K (.v (.bool true))) : iNot c K := by subst e; simpa using q
theorem w_and {X : Prop} {a : List AV} (q : X) : a = a ∧ X := ⟨rfl, q⟩
theorem w_lss {k : IntKind} {x y : AV} {a b : Int} (t : Bool) (ex : x = .v (.int k a)) (ey : y = .v (.int k b)) (c : decide (a < b) = t) (q : K (.v (.bool t))) : iBin .lss x y K := by subst ex; subst ey; subst c; simpa using q
theorem w_leq {k : IntKind} {x y : AV} {a b : Int} (t : Bool) (ex : x = .v (.int k a)) (ey : y = .v (.int k b)) (c : decide (a ≤ b) = t) (q : K (.v (.bool t))) : iBin .leq x y K := by subst ex; subst ey; subst c; simpa using q
theorem w_gtr {k : IntKind} {x y : AV} {a b : Int} (t : Bool) (ex : x = .v (.int k a)) (ey : y = .v (.int k b)) (c : decide (b < a) = t) (q : K (.v (.bool t))) : iBin .gtr x y K := by subst ex; subst ey; subst c; simpa using q
theorem w_geq {k : IntKind} {x y : AV} {a b : Int} (t : Bool) (ex : x = .v (.int k a)) (ey : y = .v (.int k b)) (c : decide (b ≤ a) = t) (q : K (.v (.bool t))) : iBin .geq x y K := by subst ex; subst ey; subst c; simpa using q
theorem w_eql {k : IntKind} {x y : AV} {a b : Int} (t : Bool) (ex : x = .v (.int k a)) (ey : y = .v (.int k b)) (c : decide (a = b) = t) (q : K (.v (.bool t))) : iBin .eql x y K := by subst ex; subst ey; subst c; simpa using q
theorem w_neq {k : IntKind} {x y : AV} {a b : Int} (t : Bool) (ex : x = .v (.int k a)) (ey : y = .v (.int k b)) (c : (!decide (a = b)) = t) (q : K (.v (.bool t))) : iBin .neq x y K := by subst ex; subst ey; subst c; simpa using q
theorem w_add {x y : AV} {a b : Int} (ex : x = int a) (ey : y = int b) (c : inI (a + b)) (q : K (int (a + b))) : iBin .add x y K := by subst ex; subst ey; simpa using ⟨c, q⟩
theorem w_sub {x y : AV} {a b : Int} (ex : x = int a) (ey : y = int b) (c : inI (a - b)) (q : K (int (a - b))) : iBin .sub x y K := by subst ex; subst ey; simpa using ⟨c, q⟩
theorem w_fad {off id o : Nat} {x : AV} (e : x = .op id o) (q : K (.op id (o + off))) : iFad off x K := by subst e; exact q
theorem w_nil {id o : Nat} {x : AV} (e : x = .op id o) (q : K (.op id o)) : iNil x K := by subst e; exact q
theorem w_load {id o : Nat} {x : AV} {b : Blk} {c : AV} (e : x = .op id o) (hb : h[id]? = some (.blk b)) (hc : b.cells[o]? = some c) (q : K c) : iLoad false 1 x h K := by
  subst e
  rw [iLoad_o, hb]
  have hl := (List.getElem?_eq_some_iff.1 hc).1
  simp only [ldP]
  rw [List.drop_eq_getElem_cons hl]
  rw [(List.getElem?_eq_some_iff.1 hc).2]; exact q
theorem w_loadA {id o n : Nat} {x : AV} {b : Blk} (e : x = .op id o) (hb : h[id]? = some (.blk b)) (hn : n ≤ (b.cells.drop o).length) (q : K (.agg ((b.cells.drop o).take n))) : iLoad true n x h K := by
  subst e
  rw [iLoad_o, hb]
  exact ⟨hn, q⟩
theorem w_new {t : TypeId} {v : AV} {KH : AV → Heap → Prop} (e : (vcells v).all scal = true) (q : KH (.op h.length 0) (h ++ [.blk ⟨t, vcells v, true⟩])) : iNew t v h KH := ⟨e, q⟩
theorem w_call [Laid] {P : Program} {f : FuncId} {args args' : List AV} {r : AV} {KH : AV → Heap → Prop} (e : args = args') (hb : hasBody P f = true) (c : Con P f args' r) (k : KH r h) : iCall P (.fn (.func f) [] []) args h KH := by
  subst e; exact iCall_con hb c k
theorem w_extr {i : Nat} {x : AV} {cs : List AV} {c : AV} (e : x = .tup cs) (hc : cs[i]? = some c) (q : K c) : iExtr i x K := by subst e; rw [iExtr_t, hc]; exact q
end Go.Aw
end

section
namespace Go.Aw
open Go Go.RowKit
variable [Laid]
/-- What lies behind the first 'M' places is let go, where nothing names it. -/
theorem Wk.cutL {L M : Nat} {h : Heap} {s : List AV} (hL : L ≤ M) (hM : M ≤ h.length) (hb : ∀ e ∈ h.take M, entB M e) (hs : ∀ a ∈ s, Bd M a) : Wk L s h s (h.take M) :=
  ⟨by simp; omega, rfl, fun base ι S w vs r k => by
    obtain ⟨hE, hT⟩ := k.cut hM hb
    exact ⟨_, _, hE.mono hL (Nat.le_refl _), RepL.mk r.length fun i a v e f => by
      obtain ⟨u, hu, ru⟩ := r.get i a e
      rw [f] at hu
      cases hu
      exact Rep.evoB hE a v (hs a (List.mem_of_getElem? e)) ru, hT⟩⟩
/-- The nil slice is one with nothing in it. -/
theorem Wk.nil {n : Nat} {s : List AV} {h : Heap} (hn : n ≤ h.length) (i : Nat) (hi : s[i]? = some (.v (.slice none 0 0))) : Wk n s h (s.set i .emp) h := by
  refine ⟨hn, by simp, fun base ι S w vs r k => ?_⟩
  obtain ⟨v, hv, rv⟩ := r.get i _ hi
  rw [Rep_v] at rv
  subst rv
  have r2 := r.set i .emp (.slice none 0 0) (by rw [Rep]; exact ⟨_, rfl⟩)
  have : vs.set i (.slice none 0 0) = vs := by
    refine List.ext_getElem? fun j => ?_
    by_cases q : j = i
    · subst q; rw [List.getElem?_set_self (List.getElem?_eq_some_iff.1 hv).1, hv]
    · rw [List.getElem?_set_ne (Ne.symm q)]
  rw [this] at r2
  exact ⟨ι, S, Evo.refl _ _ _ _ _, r2, k⟩
end Go.Aw
end

section
namespace Go.Aw
open Go Go.RowKit
variable [Laid]
/-- Whatever the first stands for, the second does. -/
def RLe (a b : AV) : Prop := ∀ ι S w v, Rep ι S w a v → Rep ι S w b v
omit [Laid] in
theorem RLe.refl (a : AV) : RLe a a := fun _ _ _ _ h => h
omit [Laid] in
theorem RLe.of_le {a b : AV} (h : Le a b) : RLe a b := fun _ _ _ _ r => Rep.le _ _ _ h r
omit [Laid] in
theorem RLe.nil (sz : Nat) : RLe (.v (.slice none 0 0)) (.sl sz []) := fun _ _ _ _ r => by
  rw [Rep_v] at r
  subst r
  rw [Rep]
  exact ⟨none, 0, rfl, Nat.le_refl _, Nat.zero_le _, .inl rfl⟩
omit [Laid] in
theorem RLe.tup2 {a b c d : AV} (h1 : RLe a b) (h2 : RLe c d) : RLe (.tup [a, c]) (.tup [b, d]) := fun ι S w v r => by
  rw [Rep] at *
  obtain ⟨vs, e, k⟩ := r
  match vs, k with
  | [], k => simp at k
  | [x], k => simp at k
  | x :: y :: z :: l, k => simp at k
  | [x, y], k =>
    simp only [RepL_cons, RepL_nil, and_true] at k
    exact ⟨[x, y], e, by simpa using ⟨h1 _ _ _ _ k.1, h2 _ _ _ _ k.2⟩⟩
theorem Gives.rle {r s r' : AV} {h' : Heap} (g : Gives s r' h') (q : RLe s r) : Gives r r' h' := by
  obtain ⟨r'', h'', ⟨a1, a2, a3⟩, rfl⟩ := g
  refine ⟨r, h'', ⟨a1, by simp, fun base ι S w vs r k => ?_⟩, rfl⟩
  obtain ⟨ι', S', hE, hs, hp⟩ := a3 base ι S w vs r k
  refine ⟨ι', S', hE, ?_, hp⟩
  match vs, hs with
  | [], hs => simp at hs
  | x :: y :: l, hs => simp at hs
  | [x], hs =>
    simp only [RepL_cons, RepL_nil, and_true] at hs ⊢
    exact q _ _ _ _ hs
omit [Laid] in
/-- A place to which ways lead that all come with the same. -/
theorem w_join {k : (List AV → Heap → Prop) → Prop} {f : List AV → Heap → Prop} (s : List AV) (h : Heap) (q : f s h) (hk : ∀ F : List AV → Heap → Prop, F s h → k F) : iLet k f := hk f q
/-- A call that is known to leave the memory that was there alone, and to hand back a flat value. -/
theorem con_below {P : Program} {f : FuncId} {args : List AV} {r : AV} {v : Value} (pa : PureL args) (fl : Flat r) (pr : Aw.Pure r) (hr : ∀ w, Rep [] (fun _ _ => False) w r v)
    (c : ∀ ι S w vs, RepL ι S w args vs → GOK S w → Calls P f vs.toArray w fun e w' => e = .returned v ∧ Below w.heap.size w w') : Con P f args r := by
  refine ⟨pa, pr, ?_⟩
  intro base ι S w vs h1 h2
  refine (c ι S w vs h1 h2.gl).mono ?_
  rintro e w' ⟨rfl, hB⟩
  have hE : Evo ι.length w.heap.size ι S w ι S w' := ⟨fun _ _ => IxLe.refl _, fun _ _ q => q, fun _ _ q => .inl q, fun b o q => hB.cell (h2.stb b o q), fun b x hx => by
    unfold World.shape? at hx ⊢
    have hb : b < w.heap.size := by
      rcases Nat.lt_or_ge b w.heap.size with k | k
      · exact k
      · rw [Array.getElem?_eq_none k] at hx; cases hx
    rw [hB.block b hb]; exact hx, hB⟩
  exact ⟨v, ι, S, r, [], rfl, hE.mono (by rw [h2.len]; exact Nat.le_refl _) h2.bas, Rep.flat r v fl (hr w'), h2.over hE (fun b o q => Nat.lt_of_lt_of_le (h2.stb b o q) hB.size), Nat.le_refl _, rfl⟩
theorem w_callQ {P : Program} {f : FuncId} {args args' : List AV} {r : AV} {h : Heap} {K : AV → Prop} (e : args = args') (hb : hasBody P f = true) (c : Con P f args' r) (k : K r) : iCallQ P (.fn (.func f) [] []) args h K := by
  subst e
  exact ⟨r, iCall_con hb c ⟨rfl, rfl⟩, k⟩
omit [Laid] in
theorem w_idxS {m : Nat} {x i : AV} {rows : List (List AV)} {n : Nat} {K : AV → Prop} (ex : x = .sl m rows) (ei : i = int n) (hn : n < rows.length) (q : K (.ip (rows.getD n []))) : iIdxP m x i K := by
  subst ex; subst ei
  rw [iIdxP_s]
  exact ⟨rfl, ⟨by omega, by omega⟩, by simpa using q⟩
omit [Laid] in
theorem w_loadI {x c : AV} {r : List AV} {h : Heap} {K : AV → Prop} (e : x = .ip (c :: r)) (q : K c) : iLoad false 1 x h K := by subst e; exact q
omit [Laid] in
theorem w_lenS {x : AV} {sz : Nat} {rows : List (List AV)} {K : AV → Prop} (e : x = .sl sz rows) (q : K (int rows.length)) : iLen x K := by subst e; rw [iLen_s]; exact fun _ => q
end Go.Aw
end

section
namespace Go.Aw
open Go Go.RowKit
section
variable {K : AV → Prop} {A B : Prop} {h : Heap}
theorem a_lss {k : IntKind} {x y : AV} {a b : Int} (ex : x = .v (.int k a)) (ey : y = .v (.int k b)) (q : K (.v (.bool (decide (a < b))))) : iBin .lss x y K := by subst ex; subst ey; simpa using q
theorem a_leq {k : IntKind} {x y : AV} {a b : Int} (ex : x = .v (.int k a)) (ey : y = .v (.int k b)) (q : K (.v (.bool (decide (a ≤ b))))) : iBin .leq x y K := by subst ex; subst ey; simpa using q
theorem a_gtr {k : IntKind} {x y : AV} {a b : Int} (ex : x = .v (.int k a)) (ey : y = .v (.int k b)) (q : K (.v (.bool (decide (b < a))))) : iBin .gtr x y K := by subst ex; subst ey; simpa using q
theorem a_geq {k : IntKind} {x y : AV} {a b : Int} (ex : x = .v (.int k a)) (ey : y = .v (.int k b)) (q : K (.v (.bool (decide (b ≤ a))))) : iBin .geq x y K := by subst ex; subst ey; simpa using q
theorem a_eql {k : IntKind} {x y : AV} {a b : Int} (ex : x = .v (.int k a)) (ey : y = .v (.int k b)) (q : K (.v (.bool (decide (a = b))))) : iBin .eql x y K := by subst ex; subst ey; simpa using q
theorem a_neq {k : IntKind} {x y : AV} {a b : Int} (ex : x = .v (.int k a)) (ey : y = .v (.int k b)) (q : K (.v (.bool (!decide (a = b))))) : iBin .neq x y K := by subst ex; subst ey; simpa using q
theorem a_eqlS {x y : AV} {a b : List UInt8} (ex : x = .str a) (ey : y = .str b) (q : K (.v (.bool (decide (a = b))))) : iBin .eql x y K := by subst ex; subst ey; simpa using q
theorem a_neqS {x y : AV} {a b : List UInt8} (ex : x = .str a) (ey : y = .str b) (q : K (.v (.bool (!decide (a = b))))) : iBin .neq x y K := by subst ex; subst ey; simpa using q
theorem a_eqlB {x y : AV} {a b : Bool} (ex : x = .v (.bool a)) (ey : y = .v (.bool b)) (q : K (.v (.bool (a == b)))) : iBinB .eql x y K := by subst ex; subst ey; simpa using q
theorem a_neqB {x y : AV} {a b : Bool} (ex : x = .v (.bool a)) (ey : y = .v (.bool b)) (q : K (.v (.bool (!(a == b))))) : iBinB .neq x y K := by subst ex; subst ey; simpa using q
theorem a_not {x : AV} {b : Bool} (e : x = .v (.bool b)) (q : K (.v (.bool (!b)))) : iNot x K := by subst e; simpa using q
theorem a_cond {c : AV} {b : Bool} (e : c = .v (.bool b)) (qt : b = true → A) (qf : b = false → B) : iCond c A B := by subst e; simpa using ⟨qt, qf⟩
theorem a_cond1 {c : AV} {b : Bool} (e : c = .v (.bool b)) (hb : b = true) (q : A) : iCond c A B := by subst e; subst hb; simpa using q
theorem a_cond0 {c : AV} {b : Bool} (e : c = .v (.bool b)) (hb : b = false) (q : B) : iCond c A B := by subst e; subst hb; simpa using q
theorem a_condN {c : AV} {b : Bool} (e : c = .v (.bool (!b))) (q : iCond (.v (.bool b)) B A) : iCond c A B := by subst e; cases b <;> simpa using q
theorem a_guard {c : AV} {w b : Bool} (e : c = .v (.bool b)) (qt : b = w → A) (qf : b = (!w) → B) : iGuard c w A B := by subst e; simpa using ⟨qt, qf⟩
theorem a_guard1 {c : AV} {w b : Bool} (e : c = .v (.bool b)) (hb : b = w) (q : A) : iGuard c w A B := by subst e; subst hb; cases b <;> simpa using q
theorem a_guard0 {c : AV} {w b : Bool} (e : c = .v (.bool b)) (hb : b = (!w)) (q : B) : iGuard c w A B := by subst e; subst hb; cases w <;> simpa using q
theorem a_guardN {c : AV} {w b : Bool} (e : c = .v (.bool (!b))) (q : iGuard (.v (.bool b)) (!w) A B) : iGuard c w A B := by subst e; cases b <;> cases w <;> simpa using q
theorem a_pick1 {c x y : AV} {b : Bool} (e : c = .v (.bool b)) (hb : b = true) (q : K x) : iPick c x y K := by subst e; subst hb; simpa using q
theorem a_pick0 {c x y : AV} {b : Bool} (e : c = .v (.bool b)) (hb : b = false) (q : K y) : iPick c x y K := by subst e; subst hb; simpa using q
theorem a_pickN {c x y : AV} {b : Bool} (e : c = .v (.bool (!b))) (q : iPick (.v (.bool b)) y x K) : iPick c x y K := by subst e; cases b <;> simpa using q
theorem a_fadI {off : Nat} {x : AV} {cs : List AV} (e : x = .ip cs) (q : K (.ip (cs.drop off))) : iFad off x K := by subst e; exact q
theorem a_loadAI {n : Nat} {x : AV} {cs : List AV} (e : x = .ip cs) (hn : cs.length = n) (q : K (.agg cs)) : iLoad true n x h K := by
  subst e
  rw [iLoad_i]
  exact ⟨by omega, by rw [← hn, List.take_length]; exact q⟩
theorem a_store {sz id o : Nat} {x v : AV} {b : Blk} {cs : List AV} {KS : Heap → Prop} (e : x = .op id o) (hb : h[id]? = some (.blk b)) (hw : b.wr = true) (hv : vcells v = cs) (hl : o + cs.length ≤ b.cells.length) (hz : cs.length = sz) (hs : cs.all scal = true)
    (q : KS (h.set id (.blk { b with cells := setAll b.cells o cs }))) : iStore sz x v h KS := by
  subst e; subst hv
  rw [iStore_o, hb]
  exact ⟨⟨hw, hl, hz, hs⟩, q⟩
theorem a_len {sz : Nat} {x : AV} {rows : List (List AV)} {n : Nat} (e : x = .sl sz rows) (hn : rows.length = n) (q : n ≤ maxLen → K (int n)) : iLen x K := by subst e; subst hn; rw [iLen_s]; exact q
theorem a_lenS {x : AV} {l : List UInt8} (e : x = .str l) (q : l.length ≤ maxLen → K (int l.length)) : iLenS x K := by subst e; rw [iLenS_s]; exact q
theorem a_build {z : AV} {ps : List (Nat × Nat × AV)} {cs : List AV} (e : bfill (vcells z) ps = some cs) (q : K (.agg cs)) : iBuild z ps K := by rw [iBuild_r, e]; exact q
theorem a_extr {i : Nat} {x : AV} {cs : List AV} {c : AV} (e : x = .tup cs) (hc : cs[i]? = some c) (q : K c) : iExtr i x K := w_extr e hc q
theorem a_eqA {neg : Bool} {ks : List Nat} {x y : AV} {xs ys : List AV} {b : Bool} (ex : x = .agg xs) (ey : y = .agg ys) (hb : eqK ks xs ys = some b) (q : K (.v (.bool (if neg then !b else b)))) : iEqA neg ks x y K := by
  subst ex; subst ey
  rw [iEqA_a, hb]; exact q
theorem a_idx {α : Type} {m : Nat} {x i : AV} {l : List α} {rows : List (List AV)} {f : α → List AV} {n : Nat} {a : α} (e : x = .sl m rows) (hr : rows = l.map f) (ei : i = int n) (ha : l[n]? = some a) (q : K (.ip (f a))) : iIdxP m x i K := by
  subst e; subst ei; subst hr
  rw [iIdxP_s]
  have hn := (List.getElem?_eq_some_iff.1 ha).1
  refine ⟨rfl, ⟨by omega, by rw [List.length_map]; omega⟩, ?_⟩
  have : (l.map f).getD (n : Int).toNat [] = f a := by rw [Int.toNat_natCast, List.getD_eq_getElem?_getD, List.getElem?_map, ha]; rfl
  rw [this]; exact q
theorem a_idxS {x i : AV} {l : List UInt8} {n : Nat} {b : UInt8} (e : x = .str l) (ei : i = int n) (hb : l[n]? = some b) (q : K (.v (.int .u8 b.toNat))) : iIdxS x i K := by
  subst e; subst ei
  have hn := (List.getElem?_eq_some_iff.1 hb).1
  refine ⟨⟨by omega, by omega⟩, ?_⟩
  have : l.getD (n : Int).toNat 0 = b := by rw [Int.toNat_natCast, List.getD_eq_getElem?_getD, hb]; rfl
  rw [this]; exact q
end
theorem tlR_pure (f : AV → AV) (L : Nat) (h : Heap) (r : List (List AV)) (p : PureR r) : tlR f L h r = r := by
  have := tlA_pure f L h (.sl 0 r) (by rw [Pure]; exact p)
  rw [tlA] at this
  simpa using this
theorem unB_bytes : ∀ l : List UInt8, unB (l.map byteA) = some l
  | [] => rfl
  | b :: l => by
    rw [List.map_cons, byteA, unB, unB_bytes l]
    simp
/-- A text out of bytes of the call's own. -/
theorem a_ofBytes {K : AV → Prop} {h : Heap} {id : Nat} {x : AV} {b : Blk} {l : List UInt8} (e : x = .own id 0 l.length 1) (hb : h[id]? = some (.blk b)) (hc : b.cells = l.map byteA) (q : K (.str l)) : iOfBytes x h K := by
  subst e
  have h1 : srcR h 1 (.own id 0 l.length 1) = some (chunks 1 l.length b.cells) := by
    rw [srcR_o, hb]
    simp only [List.drop_zero, true_and]
    rw [if_pos (by rw [hc]; simp)]
  have h2 : (chunks 1 l.length b.cells).flatten = l.map byteA := by
    rw [(chunks_flat 1 l.length b.cells (by rw [hc]; simp)).1, hc]
    rw [List.take_of_length_le (by simp)]
  unfold iOfBytes
  rw [h1]
  simp only [Option.bind_some, h2, unB_bytes]
  exact q
theorem set_same {α : Type} {l : List α} {k : Nat} {x : α} (h : l[k]? = some x) : l.set k x = l := by
  refine List.ext_getElem? fun j => ?_
  by_cases q : k = j
  · subst q; rw [List.getElem?_set_self (List.getElem?_eq_some_iff.1 h).1, h]
  · rw [List.getElem?_set_ne q]
/-- What is pure names no places. -/
theorem Bd_pure (n : Nat) (a : AV) : Pure a → Bd n a := by
  refine AV.rec (motive_1 := fun a => Pure a → Bd n a) (motive_2 := fun l => PureL l → BdL n l) (motive_3 := fun r => PureR r → BdR n r) ?_ ?_ ?_ ?_ ?_ ?_ ?_ ?_ ?_ ?_ ?_ ?_ ?_ ?_ ?_ ?_ ?_ ?_ a
  all_goals intros
  all_goals simp_all [Bd, BdL, BdR]
theorem BdL_pure (n : Nat) (l : List AV) (p : PureL l) : BdL n l := by
  have := Bd_pure n (.agg l) (by rw [Pure]; exact p)
  rwa [Bd] at this
variable [Laid]
/-- Behind a round: what was written behind the first places is let go. -/
theorem Wk.back {n M : Nat} {s s' : List AV} {h h' : Heap} (hn : n ≤ M) (hM : M ≤ h.length) (e : h.take M = h') (es : s = s') (hb : ∀ x ∈ h', entB M x) (hs : ∀ a ∈ s', Bd M a) : Wk n s h s' h' := by
  subst es; subst e
  exact Wk.cutL hn hM hb hs
end Go.Aw
end

section
namespace Go.Aw
open Go Go.RowKit
mutual
inductive DLe : AV → AV → Prop
  | refl (a : AV) : DLe a a
  | nil (s : Nat) : DLe (.v (.slice none 0 0)) (.sl s [])
  | sl {s : Nat} {r r' : List (List AV)} : DLeR r r' → DLe (.sl s r) (.sl s r')
  | tup {r r' : List AV} : DLeL r r' → DLe (.tup r) (.tup r')
inductive DLeL : List AV → List AV → Prop
  | nil : DLeL [] []
  | cons {a b : AV} {as bs : List AV} : DLe a b → DLeL as bs → DLeL (a :: as) (b :: bs)
inductive DLeR : List (List AV) → List (List AV) → Prop
  | nil : DLeR [] []
  | cons {a b : List AV} {as bs : List (List AV)} : DLeL a b → DLeR as bs → DLeR (a :: as) (b :: bs)
end
theorem DLeL.length : ∀ {as bs : List AV}, DLeL as bs → as.length = bs.length
  | _, _, .nil => rfl
  | _, _, .cons _ k => by simp [DLeL.length k]
theorem DLeR.length : ∀ {as bs : List (List AV)}, DLeR as bs → as.length = bs.length
  | _, _, .nil => rfl
  | _, _, .cons _ k => by simp [DLeR.length k]
theorem DLeL.refl : ∀ as : List AV, DLeL as as
  | [] => .nil
  | a :: as => .cons (.refl a) (DLeL.refl as)
variable {ι : List Ix} {S : Stab} {w : World}
mutual
theorem Rep.dle : ∀ {a b : AV}, DLe a b → ∀ v, Rep ι S w a v → Rep ι S w b v
  | _, _, .refl _, v, h => h
  | _, _, .nil s, v, h => by
    rw [Rep_v] at h; subst h
    rw [Rep]
    exact ⟨none, 0, rfl, by simp, by simp, .inl rfl⟩
  | _, _, .sl k, v, h => by
    rw [Rep] at h ⊢
    obtain ⟨a, cap, rfl, h1, h2, h3⟩ := h
    refine ⟨a, cap, by rw [k.length], by rw [← k.length]; exact h1, h2, ?_⟩
    rcases h3 with rfl | ⟨b, off, e, h3⟩
    · left
      cases k
      rfl
    · exact .inr ⟨b, off, e, RepR.dle k _ _ h3⟩
  | _, _, .tup k, v, h => by
    rw [Rep] at h ⊢
    obtain ⟨vs, e, h1⟩ := h
    exact ⟨vs, e, RepL.dle k _ h1⟩
theorem RepL.dle : ∀ {as bs : List AV}, DLeL as bs → ∀ vs, RepL ι S w as vs → RepL ι S w bs vs
  | _, _, .nil, vs, h => h
  | _, _, .cons k ks, vs, h => by
    rw [RepL] at h ⊢
    obtain ⟨u, us, e, h1, h2⟩ := h
    exact ⟨u, us, e, Rep.dle k _ h1, RepL.dle ks _ h2⟩
theorem RepC.dle : ∀ {as bs : List AV}, DLeL as bs → ∀ b off, RepC ι S w as b off → RepC ι S w bs b off
  | _, _, .nil, b, off, h => h
  | _, _, .cons k ks, b, off, h => by
    rw [RepC] at h ⊢
    obtain ⟨⟨u, h1, h2, h3⟩, h4⟩ := h
    exact ⟨⟨u, h1, h2, Rep.dle k _ h3⟩, RepC.dle ks _ _ h4⟩
theorem RepR.dle : ∀ {sz : Nat} {as bs : List (List AV)}, DLeR as bs → ∀ b off, RepR ι S w sz as b off → RepR ι S w sz bs b off
  | _, _, _, .nil, b, off, h => h
  | sz, _, _, .cons k ks, b, off, h => by
    rw [RepR] at h ⊢
    obtain ⟨h1, h2, h3⟩ := h
    exact ⟨by rw [← k.length]; exact h1, RepC.dle k _ _ h2, RepR.dle ks _ _ h3⟩
end
variable [Laid]
theorem Con.dle {P : Program} {f : FuncId} {args : List AV} {r r' : AV} (c : Con P f args r) (d : DLe r r') (p : Pure r') : Con P f args r' := by
  obtain ⟨pa, pr, c⟩ := c
  refine ⟨pa, p, ?_⟩
  intro base ι S w vs h1 h2
  refine (c base ι S w vs h1 h2).mono ?_
  rintro e w' ⟨v, ι', S', r2, h', e1, e2, e3, e4, e5, rfl⟩
  exact ⟨v, ι', S', r', h', e1, e2, Rep.dle d v e3, e4, e5, rfl⟩
/-- A call of a function that is known at what comes in, when that is told without own memory, and less is said of it. -/
theorem iCall_borrowD {P : Program} {f : FuncId} {args args' : List AV} {r : AV} {h : Heap} {K : AV → Heap → Prop} (hb : hasBody P f = true) (c : Con P f args' r) (hl : DLeL (args.map (tl 0 h 3)) args') (fl : Flat r) (k : K r h) : iCall P (.fn (.func f) [] []) args h K := by
  refine ⟨hb, ?_⟩
  simp only [List.nil_append, List.append_nil]
  obtain ⟨pa, pr, c⟩ := c
  intro base ι S w vs h1 h2
  obtain ⟨hE0, hh0⟩ := h2.told (L := 0) (Nat.zero_le _)
  have hr : RepL (ι.take 0) (stabT 0 ι S h) w args' vs := by
    refine RepL.dle hl vs ?_
    have := RepL.tlA (L := 0) (f := tl 0 h 2) h2 (Rep.tl h2 2) args vs h1
    rwa [tlL_map] at this
  simp only [List.take_zero] at hr hE0
  refine (c w.heap.size [] (stabT 0 ι S h) w vs hr (HOK.nil _ w hh0.stb hh0.gl)).mono ?_
  rintro e w' ⟨v, ι', S', r', h', e1, e2, e3, e4, _, rfl⟩
  have hE : Evo ι.length w.heap.size ι S w ι S w' := ⟨fun _ _ => IxLe.refl _, fun _ _ q => q, fun _ _ q => .inl q, fun b o q => e2.cell b o (.inl q), e2.shp, e2.bel⟩
  exact ⟨v, ι, S, r', h, e1, hE.mono (by rw [h2.len]; exact Nat.le_refl _) h2.bas, Rep.flat r' v fl e3, h2.over hE (fun b o q => Nat.lt_of_lt_of_le (h2.stb b o q) e2.bel.size), Nat.le_refl _, k⟩
end Go.Aw
end

section
namespace Go.Aw
open Go
section
variable {h : Heap} {K : AV → Heap → Prop}
theorem setAll_pre : ∀ (b p a : List AV), a.length = b.length → setAll (p ++ a) p.length b = p ++ b
  | [], p, a, h => by simp at h; subst h; rfl
  | c :: b, p, x :: a, h => by
    rw [setAll]
    have e : (p ++ x :: a).set p.length c = (p ++ [c]) ++ a := by simp
    have := setAll_pre b (p ++ [c]) a (by simpa using h)
    rw [e, show p.length + 1 = (p ++ [c]).length by simp, this]
    simp
theorem setAll_all {a b : List AV} (h : a.length = b.length) : setAll a 0 b = b := by simpa using setAll_pre b [] a h
theorem a_mkSl0 {t sz : Nat} {z : AV} (q : K .emp h) : iMkSl t 0 sz z [] h K := q
theorem a_mkSl1 {t sz : Nat} {z v : AV} {cs : List AV} (hv : vcells v = cs) (hl : cs.length = sz) (hz : (vcells z).length = sz) (hs : cs.all scal = true) (q : K (.own h.length 0 1 sz) (h ++ [.blk ⟨t, cs, true⟩])) : iMkSl t 1 sz z [(0, sz, v)] h K := by
  subst hv
  have : bfill (rep0 1 (vcells z)) [(0, sz, v)] = some (vcells v) := by
    simp only [bfill, rep0, List.append_nil]
    rw [if_pos ⟨hl, by omega, hs⟩, setAll_all (by omega)]
  unfold iMkSl
  rw [this]
  exact q
theorem a_app0 {e sz bytes : Nat} {x y : AV} {rows : List (List AV)} (ex : x = .emp) (hs : srcR h sz y = some rows) (hr : rows.all (rowOK sz) = true) (hm : roomA bytes rows.length) (q : K (.sb h.length sz rows) (h ++ [.tok e sz rows.length])) : iApp false e sz bytes x y h K := by
  subst ex
  unfold iApp iAppTo
  rw [hs]
  exact ⟨hr, hm, q⟩
theorem a_appO {e sz bytes : Nat} {x y : AV} {rows : List (List AV)} (ex : x = .emp) (hs : srcR h sz y = some rows) (hr : rows.all (rowOK sz) = true) (hn : rows ≠ []) (hm : roomA bytes rows.length) (q : K (.own h.length 0 rows.length sz) (h ++ [.blk ⟨e, rows.flatten, true⟩])) : iApp true e sz bytes x y h K := by
  subst ex
  unfold iApp iAppTo
  rw [hs]
  exact ⟨hr, hn, hm, q⟩
theorem a_appB {own : Bool} {e sz bytes id k : Nat} {x y : AV} {base rows : List (List AV)} (ex : x = .sb id sz base) (ht : h[id]? = some (.tok e sz k)) (hk : k = base.length) (hs : srcR h sz y = some rows) (hr : rows.all (rowOK sz) = true) (hm : roomA bytes (k + rows.length)) (q : K (.sb id sz (base ++ rows)) (h.set id (.tok e sz (k + rows.length)))) : iApp own e sz bytes x y h K := by
  subst ex
  unfold iApp iAppTo
  rw [hs]
  refine ⟨hr, ?_⟩
  simp only [nle]
  rw [ht]
  exact ⟨by simp [hk], hm, q⟩
theorem a_appK {own : Bool} {e sz bytes id len : Nat} {x y : AV} {cells : List AV} {rows : List (List AV)} (ex : x = .own id 0 len sz) (hb : h[id]? = some (.blk ⟨e, cells, true⟩)) (hl : len * sz ≤ cells.length) (hp : 0 < len) (hs : srcR h sz y = some rows) (hr : rows.all (rowOK sz) = true) (hm : roomA bytes (len + rows.length))
    (q : K (.own h.length 0 (len + rows.length) sz) (h.set id .dead ++ [.blk ⟨e, cells.take (len * sz) ++ rows.flatten, true⟩])) : iApp own e sz bytes x y h K := by
  subst ex
  unfold iApp iAppTo
  rw [hs]
  refine ⟨hr, ?_⟩
  simp only [nle]
  rw [hb]
  exact ⟨by simp [hl], by omega, hm, q⟩
theorem a_idxOw {m id off len : Nat} {x i : AV} {K : AV → Prop} {n : Nat} (ex : x = .own id off len m) (ei : i = int n) (hn : n < len) (q : K (.op id (off + n * m))) : iIdxP m x i K := by
  subst ex; subst ei
  exact ⟨rfl, ⟨by omega, by omega⟩, by simpa using q⟩
section
variable {h' : Heap} {n : Nat}
theorem n_mkSl0 {t sz : Nat} {z : AV} (hh : h = h') (q : K .emp h') : iMkSl t 0 sz z [] h K := by subst hh; exact q
theorem n_mkSl1 {t sz : Nat} {z v : AV} {cs : List AV} (hv : vcells v = cs) (hl : cs.length = sz) (hz : (vcells z).length = sz) (hs : cs.all scal = true) (hn : h.length = n) (hh : h ++ [.blk ⟨t, cs, true⟩] = h') (q : K (.own n 0 1 sz) h') : iMkSl t 1 sz z [(0, sz, v)] h K := by
  subst hn; subst hh; exact a_mkSl1 hv hl hz hs q
theorem n_app0 {e sz bytes k : Nat} {x y : AV} {rows : List (List AV)} (ex : x = .emp) (hs : srcR h sz y = some rows) (hr : rows.all (rowOK sz) = true) (hk : rows.length = k) (hm : roomA bytes k) (hn : h.length = n) (hh : h ++ [.tok e sz k] = h') (q : K (.sb n sz rows) h') : iApp false e sz bytes x y h K := by
  subst hn; subst hh; subst hk; exact a_app0 ex hs hr hm q
theorem n_appO {e sz bytes k : Nat} {x y : AV} {rows : List (List AV)} (ex : x = .emp) (hs : srcR h sz y = some rows) (hr : rows.all (rowOK sz) = true) (hne : rows ≠ []) (hk : rows.length = k) (hm : roomA bytes k) (hn : h.length = n) (hh : h ++ [.blk ⟨e, rows.flatten, true⟩] = h') (q : K (.own n 0 k sz) h') : iApp true e sz bytes x y h K := by
  subst hn; subst hh; subst hk; exact a_appO ex hs hr hne hm q
theorem n_appB {own : Bool} {e sz bytes id k : Nat} {x y : AV} {base rows : List (List AV)} (ex : x = .sb id sz base) (ht : h[id]? = some (.tok e sz k)) (hk : k = base.length) (hs : srcR h sz y = some rows) (hr : rows.all (rowOK sz) = true) (hm : roomA bytes (k + rows.length)) (hh : h.set id (.tok e sz (k + rows.length)) = h') (q : K (.sb id sz (base ++ rows)) h') : iApp own e sz bytes x y h K := by
  subst hh; exact a_appB ex ht hk hs hr hm q
theorem n_appK {own : Bool} {e sz bytes id len : Nat} {x y : AV} {cells : List AV} {rows : List (List AV)} (ex : x = .own id 0 len sz) (hb : h[id]? = some (.blk ⟨e, cells, true⟩)) (hl : len * sz ≤ cells.length) (hp : 0 < len) (hs : srcR h sz y = some rows) (hr : rows.all (rowOK sz) = true) (hm : roomA bytes (len + rows.length)) (hn : h.length = n)
    (hh : h.set id .dead ++ [.blk ⟨e, cells.take (len * sz) ++ rows.flatten, true⟩] = h') (q : K (.own n 0 (len + rows.length) sz) h') : iApp own e sz bytes x y h K := by
  subst hn; subst hh; exact a_appK ex hb hl hp hs hr hm q
theorem n_new {t : TypeId} {v : AV} {cs : List AV} (hv : vcells v = cs) (e : cs.all scal = true) (hn : h.length = n) (hh : h ++ [.blk ⟨t, cs, true⟩] = h') (q : K (.op n 0) h') : iNew t v h K := by
  subst hv; subst hn; subst hh; exact w_new e q
theorem n_store {sz id o : Nat} {x v : AV} {b : Blk} {cs : List AV} {KS : Heap → Prop} (e : x = .op id o) (hb : h[id]? = some (.blk b)) (hw : b.wr = true) (hv : vcells v = cs) (hl : o + cs.length ≤ b.cells.length) (hz : cs.length = sz) (hs : cs.all scal = true)
    (hh : h.set id (.blk ⟨b.ty, setAll b.cells o cs, b.wr⟩) = h') (q : KS h') : iStore sz x v h KS := by
  subst hh; exact a_store e hb hw hv hl hz hs q
end
theorem srcR_sl {sz : Nat} {rows : List (List AV)} : srcR h sz (.sl sz rows) = some rows := by simp [srcR, unsb]
theorem srcR_own {sz id off len : Nat} {b : Blk} (hb : h[id]? = some (.blk b)) (hl : off + len * sz ≤ b.cells.length) : srcR h sz (.own id off len sz) = some (chunks sz len (b.cells.drop off)) := by
  rw [srcR_o, hb]
  simp [hl]
theorem a_slT {n : Nat} {x : AV} {rows : List (List AV)} {K : AV → Prop} (ex : x = .sl n rows) (hl : 1 ≤ rows.length) (q : K (.sl n (rows.drop 1))) : iSl n x (some (int 1)) none K := by
  subst ex
  rw [iSl_s]
  simp only [optI]
  refine ⟨by simp, ⟨by omega, by omega, by omega⟩, ?_⟩
  simpa using q
end
theorem a_loadAT {h : Heap} {n : Nat} {x : AV} {cs : List AV} {K : AV → Prop} (e : x = .ip cs) (hn : n ≤ cs.length) (q : K (.agg (cs.take n))) : iLoad true n x h K := by
  subst e
  rw [iLoad_i]
  exact ⟨hn, q⟩
/-- A slice that grows, told. -/
theorem told_sb {h : Heap} {d id sz : Nat} {rows : List (List AV)} (p : PureR rows) : tl 0 h d (.sb id sz rows) = .sl sz rows := by
  cases d <;> simp [tl, tlA, tlR_pure _ _ _ _ p]
theorem tl_pureA {h : Heap} {d : Nat} {a : AV} (p : Aw.Pure a) : tl 0 h d a = a := by
  cases d <;> exact tlA_pure _ _ _ _ p
theorem mapL_pure {h : Heap} {d : Nat} : ∀ l : List AV, PureL l → l.map (tl 0 h d) = l
  | [], _ => rfl
  | a :: l, p => by
    simp only [PureL] at p
    rw [List.map_cons, tl_pureA p.1, mapL_pure l p.2]
theorem mapR_pure {h : Heap} {d : Nat} : ∀ r : List (List AV), PureR r → r.map (List.map (tl 0 h d)) = r
  | [], _ => rfl
  | a :: l, p => by
    simp only [PureR] at p
    rw [List.map_cons, mapL_pure a p.1, mapR_pure l p.2]
theorem chunks_rows {sz : Nat} : ∀ rows : List (List AV), rows.all (rowOK sz) = true → chunks sz rows.length rows.flatten = rows
  | [], _ => rfl
  | r :: rows, h => by
    simp only [List.all_cons, Bool.and_eq_true, rowOK, beq_iff_eq] at h
    rw [List.length_cons, List.flatten_cons, chunks]
    have hr := h.1.1
    rw [List.take_append_of_le_length (by omega), List.take_of_length_le (by omega), List.drop_append_of_le_length (by omega), List.drop_of_length_le (by omega), List.nil_append, chunks_rows rows (by simpa [rowOK] using h.2)]
theorem told_own {h : Heap} {d id len sz : Nat} {b : Blk} {cells : List AV} (hb : h[id]? = some (.blk b)) (hc : b.cells = cells) (hl : len * sz ≤ cells.length) : tl 0 h (d + 1) (.own id 0 len sz) = .sl sz ((chunks sz len cells).map (List.map (tl 0 h d))) := by
  subst hc
  simp only [tl, tlA]
  rw [if_neg (by omega), hb]
  simp only [Nat.zero_add, List.drop_zero]
  rw [if_pos hl]
theorem rows_ok {α : Type} {f : α → List AV} {sz : Nat} (hf : ∀ x, (f x).length = sz ∧ (f x).all scal = true) (l : List α) : (l.map f).all (rowOK sz) = true := by
  rw [List.all_map, List.all_eq_true]
  intro x _
  simp only [Function.comp, rowOK, Bool.and_eq_true, beq_iff_eq]
  exact hf x
end Go.Aw
end
