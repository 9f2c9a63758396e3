/-
  Steps through a printed text, one word at a time: each lemma takes the word at the head, and nothing behind it is looked at. Loops whose rounds leave memory behind: what lies behind the first places is let go; nil slices that grow from now on. Less is said, at every memory; joins where one state is known; contracts that speak of calls. Less is said of what lies deep in what is told: a nil slice is a slice with nothing in it.
  No conditions.
-/
import Derived.Test.YtmbpiloibhbmbaaDoorL2
import Derived.Test.YtmbpiloibhbmbaaDoorL4
set_option linter.unusedVariables false
set_option linter.unusedSimpArgs false
section
namespace Go.Aw
open Go Go.RowKit
variable {K : AV → Prop} {A B : Prop} {h : Heap}

theorem w_let {k : (List AV → Heap → Prop) → Prop} {f : List AV → Heap → Prop} (q : k f) : iLet k f := q
theorem w_guard_y {c : AV} {w : Bool} (e : c = .v (.bool w)) (q : A) : iGuard c w A B := by subst e; cases w <;> simpa using q
theorem w_guard_n {c : AV} {w : Bool} (e : c = .v (.bool (!w))) (q : B) : iGuard c w A B := by subst e; cases w <;> simpa using q
theorem w_guard_u {c : AV} {w : Bool} (e : c = .v undef) (q : B) : iGuard c w A B := by subst e; simpa using q
theorem w_pick_t {c a b : AV} (e : c = .v (.bool true)) (q : K a) : iPick c a b K := by subst e; simpa using q
theorem w_pick_f {c a b : AV} (e : c = .v (.bool false)) (q : K b) : iPick c a b K := by subst e; simpa using q
theorem w_cond_t {c : AV} (e : c = .v (.bool true)) (q : A) : iCond c A B := by subst e; simpa using q
theorem w_cond_f {c : AV} (e : c = .v (.bool false)) (q : B) : iCond c A B := by subst e; simpa using q
theorem w_not_t {c : AV} (e : c = .v (.bool true)) (q : K (.v (.bool false))) : iNot c K := by subst e; simpa using q
theorem w_not_f {c : AV} (e : c = .v (.bool false)) (q : K (.v (.bool true))) : iNot c K := by subst e; simpa using q
theorem w_and {X : Prop} {a : List AV} (q : X) : a = a ∧ X := ⟨rfl, q⟩
theorem w_lss {k : IntKind} {x y : AV} {a b : Int} (t : Bool) (ex : x = .v (.int k a)) (ey : y = .v (.int k b)) (c : decide (a < b) = t) (q : K (.v (.bool t))) : iBin .lss x y K := by subst ex; subst ey; subst c; simpa using q
theorem w_leq {k : IntKind} {x y : AV} {a b : Int} (t : Bool) (ex : x = .v (.int k a)) (ey : y = .v (.int k b)) (c : decide (a ≤ b) = t) (q : K (.v (.bool t))) : iBin .leq x y K := by subst ex; subst ey; subst c; simpa using q
theorem w_gtr {k : IntKind} {x y : AV} {a b : Int} (t : Bool) (ex : x = .v (.int k a)) (ey : y = .v (.int k b)) (c : decide (b < a) = t) (q : K (.v (.bool t))) : iBin .gtr x y K := by subst ex; subst ey; subst c; simpa using q
theorem w_geq {k : IntKind} {x y : AV} {a b : Int} (t : Bool) (ex : x = .v (.int k a)) (ey : y = .v (.int k b)) (c : decide (b ≤ a) = t) (q : K (.v (.bool t))) : iBin .geq x y K := by subst ex; subst ey; subst c; simpa using q
theorem w_eql {k : IntKind} {x y : AV} {a b : Int} (t : Bool) (ex : x = .v (.int k a)) (ey : y = .v (.int k b)) (c : decide (a = b) = t) (q : K (.v (.bool t))) : iBin .eql x y K := by subst ex; subst ey; subst c; simpa using q
theorem w_neq {k : IntKind} {x y : AV} {a b : Int} (t : Bool) (ex : x = .v (.int k a)) (ey : y = .v (.int k b)) (c : (!decide (a = b)) = t) (q : K (.v (.bool t))) : iBin .neq x y K := by subst ex; subst ey; subst c; simpa using q
theorem w_add {x y : AV} {a b : Int} (ex : x = int a) (ey : y = int b) (c : inI (a + b)) (q : K (int (a + b))) : iBin .add x y K := by subst ex; subst ey; simpa using ⟨c, q⟩
theorem w_sub {x y : AV} {a b : Int} (ex : x = int a) (ey : y = int b) (c : inI (a - b)) (q : K (int (a - b))) : iBin .sub x y K := by subst ex; subst ey; simpa using ⟨c, q⟩
theorem w_fad {off id o : Nat} {x : AV} (e : x = .op id o) (q : K (.op id (o + off))) : iFad off x K := by subst e; exact q
theorem w_nil {id o : Nat} {x : AV} (e : x = .op id o) (q : K (.op id o)) : iNil x K := by subst e; exact q
theorem w_load {id o : Nat} {x : AV} {b : Blk} {c : AV} (e : x = .op id o) (hb : h[id]? = some (.blk b)) (hc : b.cells[o]? = some c) (q : K c) : iLoad false 1 x h K := by
  subst e
  rw [iLoad_o, hb]
  have hl := (List.getElem?_eq_some_iff.1 hc).1
  simp only [ldP]
  rw [List.drop_eq_getElem_cons hl]
  rw [(List.getElem?_eq_some_iff.1 hc).2]; exact q
theorem w_loadA {id o n : Nat} {x : AV} {b : Blk} (e : x = .op id o) (hb : h[id]? = some (.blk b)) (hn : n ≤ (b.cells.drop o).length) (q : K (.agg ((b.cells.drop o).take n))) : iLoad true n x h K := by
  subst e
  rw [iLoad_o, hb]
  exact ⟨hn, q⟩
theorem w_new {t : TypeId} {v : AV} {KH : AV → Heap → Prop} (e : (vcells v).all scal = true) (q : KH (.op h.length 0) (h ++ [.blk ⟨t, vcells v, true⟩])) : iNew t v h KH := ⟨e, q⟩
theorem w_call [Laid] {P : Program} {f : FuncId} {args args' : List AV} {r : AV} {KH : AV → Heap → Prop} (e : args = args') (hb : hasBody P f = true) (c : Con P f args' r) (k : KH r h) : iCall P (.fn (.func f) [] []) args h KH := by
  subst e; exact iCall_con hb c k
theorem w_extr {i : Nat} {x : AV} {cs : List AV} {c : AV} (e : x = .tup cs) (hc : cs[i]? = some c) (q : K c) : iExtr i x K := by subst e; rw [iExtr_t, hc]; exact q
end Go.Aw
end

section
namespace Go.Aw
open Go Go.RowKit
variable [Laid]
/-- What lies behind the first 'M' places is let go, where nothing names it. -/
theorem Wk.cutL {L M : Nat} {h : Heap} {s : List AV} (hL : L ≤ M) (hM : M ≤ h.length) (hb : ∀ e ∈ h.take M, entB M e) (hs : ∀ a ∈ s, Bd M a) : Wk L s h s (h.take M) :=
  ⟨by simp; omega, rfl, fun base ι S w vs r k => by
    obtain ⟨hE, hT⟩ := k.cut hM hb
    exact ⟨_, _, hE.mono hL (Nat.le_refl _), RepL.mk r.length fun i a v e f => by
      obtain ⟨u, hu, ru⟩ := r.get i a e
      rw [f] at hu
      cases hu
      exact Rep.evoB hE a v (hs a (List.mem_of_getElem? e)) ru, hT⟩⟩
/-- The nil slice is one with nothing in it. -/
theorem Wk.nil {n : Nat} {s : List AV} {h : Heap} (hn : n ≤ h.length) (i : Nat) (hi : s[i]? = some (.v (.slice none 0 0))) : Wk n s h (s.set i .emp) h := by
  refine ⟨hn, by simp, fun base ι S w vs r k => ?_⟩
  obtain ⟨v, hv, rv⟩ := r.get i _ hi
  rw [Rep_v] at rv
  subst rv
  have r2 := r.set i .emp (.slice none 0 0) (by rw [Rep]; exact ⟨_, rfl⟩)
  have : vs.set i (.slice none 0 0) = vs := by
    refine List.ext_getElem? fun j => ?_
    by_cases q : j = i
    · subst q; rw [List.getElem?_set_self (List.getElem?_eq_some_iff.1 hv).1, hv]
    · rw [List.getElem?_set_ne (Ne.symm q)]
  rw [this] at r2
  exact ⟨ι, S, Evo.refl _ _ _ _ _, r2, k⟩
end Go.Aw
end

section
namespace Go.Aw
open Go Go.RowKit
variable [Laid]
/-- Whatever the first stands for, the second does. -/
def RLe (a b : AV) : Prop := ∀ ι S w v, Rep ι S w a v → Rep ι S w b v
omit [Laid] in
theorem RLe.refl (a : AV) : RLe a a := fun _ _ _ _ h => h
omit [Laid] in
theorem RLe.of_le {a b : AV} (h : Le a b) : RLe a b := fun _ _ _ _ r => Rep.le _ _ _ h r
omit [Laid] in
theorem RLe.nil (sz : Nat) : RLe (.v (.slice none 0 0)) (.sl sz []) := fun _ _ _ _ r => by
  rw [Rep_v] at r
  subst r
  rw [Rep]
  exact ⟨none, 0, rfl, Nat.le_refl _, Nat.zero_le _, .inl rfl⟩
omit [Laid] in
theorem RLe.tup2 {a b c d : AV} (h1 : RLe a b) (h2 : RLe c d) : RLe (.tup [a, c]) (.tup [b, d]) := fun ι S w v r => by
  rw [Rep] at *
  obtain ⟨vs, e, k⟩ := r
  match vs, k with
  | [], k => simp at k
  | [x], k => simp at k
  | x :: y :: z :: l, k => simp at k
  | [x, y], k =>
    simp only [RepL_cons, RepL_nil, and_true] at k
    exact ⟨[x, y], e, by simpa using ⟨h1 _ _ _ _ k.1, h2 _ _ _ _ k.2⟩⟩
theorem Gives.rle {r s r' : AV} {h' : Heap} (g : Gives s r' h') (q : RLe s r) : Gives r r' h' := by
  obtain ⟨r'', h'', ⟨a1, a2, a3⟩, rfl⟩ := g
  refine ⟨r, h'', ⟨a1, by simp, fun base ι S w vs r k => ?_⟩, rfl⟩
  obtain ⟨ι', S', hE, hs, hp⟩ := a3 base ι S w vs r k
  refine ⟨ι', S', hE, ?_, hp⟩
  match vs, hs with
  | [], hs => simp at hs
  | x :: y :: l, hs => simp at hs
  | [x], hs =>
    simp only [RepL_cons, RepL_nil, and_true] at hs ⊢
    exact q _ _ _ _ hs
omit [Laid] in
/-- A place to which ways lead that all come with the same. -/
theorem w_join {k : (List AV → Heap → Prop) → Prop} {f : List AV → Heap → Prop} (s : List AV) (h : Heap) (q : f s h) (hk : ∀ F : List AV → Heap → Prop, F s h → k F) : iLet k f := hk f q
/-- A call that is known to leave the memory that was there alone, and to hand back a flat value. -/
theorem con_below {P : Program} {f : FuncId} {args : List AV} {r : AV} {v : Value} (pa : PureL args) (fl : Flat r) (pr : Aw.Pure r) (hr : ∀ w, Rep [] (fun _ _ => False) w r v)
    (c : ∀ ι S w vs, RepL ι S w args vs → GOK S w → Calls P f vs.toArray w fun e w' => e = .returned v ∧ Below w.heap.size w w') : Con P f args r := by
  refine ⟨pa, pr, ?_⟩
  intro base ι S w vs h1 h2
  refine (c ι S w vs h1 h2.gl).mono ?_
  rintro e w' ⟨rfl, hB⟩
  have hE : Evo ι.length w.heap.size ι S w ι S w' := ⟨fun _ _ => IxLe.refl _, fun _ _ q => q, fun _ _ q => .inl q, fun b o q => hB.cell (h2.stb b o q), fun b x hx => by
    unfold World.shape? at hx ⊢
    have hb : b < w.heap.size := by
      rcases Nat.lt_or_ge b w.heap.size with k | k
      · exact k
      · rw [Array.getElem?_eq_none k] at hx; cases hx
    rw [hB.block b hb]; exact hx, hB⟩
  exact ⟨v, ι, S, r, [], rfl, hE.mono (by rw [h2.len]; exact Nat.le_refl _) h2.bas, Rep.flat r v fl (hr w'), h2.over hE (fun b o q => Nat.lt_of_lt_of_le (h2.stb b o q) hB.size), Nat.le_refl _, rfl⟩
theorem w_callQ {P : Program} {f : FuncId} {args args' : List AV} {r : AV} {h : Heap} {K : AV → Prop} (e : args = args') (hb : hasBody P f = true) (c : Con P f args' r) (k : K r) : iCallQ P (.fn (.func f) [] []) args h K := by
  subst e
  exact ⟨r, iCall_con hb c ⟨rfl, rfl⟩, k⟩
omit [Laid] in
theorem w_idxS {m : Nat} {x i : AV} {rows : List (List AV)} {n : Nat} {K : AV → Prop} (ex : x = .sl m rows) (ei : i = int n) (hn : n < rows.length) (q : K (.ip (rows.getD n []))) : iIdxP m x i K := by
  subst ex; subst ei
  rw [iIdxP_s]
  exact ⟨rfl, ⟨by omega, by omega⟩, by simpa using q⟩
omit [Laid] in
theorem w_loadI {x c : AV} {r : List AV} {h : Heap} {K : AV → Prop} (e : x = .ip (c :: r)) (q : K c) : iLoad false 1 x h K := by subst e; exact q
omit [Laid] in
theorem w_lenS {x : AV} {sz : Nat} {rows : List (List AV)} {K : AV → Prop} (e : x = .sl sz rows) (q : K (int rows.length)) : iLen x K := by subst e; rw [iLen_s]; exact fun _ => q
end Go.Aw
end

section
namespace Go.Aw
open Go Go.RowKit
mutual
inductive DLe : AV → AV → Prop
  | refl (a : AV) : DLe a a
  | nil (s : Nat) : DLe (.v (.slice none 0 0)) (.sl s [])
  | sl {s : Nat} {r r' : List (List AV)} : DLeR r r' → DLe (.sl s r) (.sl s r')
  | tup {r r' : List AV} : DLeL r r' → DLe (.tup r) (.tup r')
inductive DLeL : List AV → List AV → Prop
  | nil : DLeL [] []
  | cons {a b : AV} {as bs : List AV} : DLe a b → DLeL as bs → DLeL (a :: as) (b :: bs)
inductive DLeR : List (List AV) → List (List AV) → Prop
  | nil : DLeR [] []
  | cons {a b : List AV} {as bs : List (List AV)} : DLeL a b → DLeR as bs → DLeR (a :: as) (b :: bs)
end
theorem DLeL.length : ∀ {as bs : List AV}, DLeL as bs → as.length = bs.length
  | _, _, .nil => rfl
  | _, _, .cons _ k => by simp [DLeL.length k]
theorem DLeR.length : ∀ {as bs : List (List AV)}, DLeR as bs → as.length = bs.length
  | _, _, .nil => rfl
  | _, _, .cons _ k => by simp [DLeR.length k]
theorem DLeL.refl : ∀ as : List AV, DLeL as as
  | [] => .nil
  | a :: as => .cons (.refl a) (DLeL.refl as)
variable {ι : List Ix} {S : Stab} {w : World}
mutual
theorem Rep.dle : ∀ {a b : AV}, DLe a b → ∀ v, Rep ι S w a v → Rep ι S w b v
  | _, _, .refl _, v, h => h
  | _, _, .nil s, v, h => by
    rw [Rep_v] at h; subst h
    rw [Rep]
    exact ⟨none, 0, rfl, by simp, by simp, .inl rfl⟩
  | _, _, .sl k, v, h => by
    rw [Rep] at h ⊢
    obtain ⟨a, cap, rfl, h1, h2, h3⟩ := h
    refine ⟨a, cap, by rw [k.length], by rw [← k.length]; exact h1, h2, ?_⟩
    rcases h3 with rfl | ⟨b, off, e, h3⟩
    · left
      cases k
      rfl
    · exact .inr ⟨b, off, e, RepR.dle k _ _ h3⟩
  | _, _, .tup k, v, h => by
    rw [Rep] at h ⊢
    obtain ⟨vs, e, h1⟩ := h
    exact ⟨vs, e, RepL.dle k _ h1⟩
theorem RepL.dle : ∀ {as bs : List AV}, DLeL as bs → ∀ vs, RepL ι S w as vs → RepL ι S w bs vs
  | _, _, .nil, vs, h => h
  | _, _, .cons k ks, vs, h => by
    rw [RepL] at h ⊢
    obtain ⟨u, us, e, h1, h2⟩ := h
    exact ⟨u, us, e, Rep.dle k _ h1, RepL.dle ks _ h2⟩
theorem RepC.dle : ∀ {as bs : List AV}, DLeL as bs → ∀ b off, RepC ι S w as b off → RepC ι S w bs b off
  | _, _, .nil, b, off, h => h
  | _, _, .cons k ks, b, off, h => by
    rw [RepC] at h ⊢
    obtain ⟨⟨u, h1, h2, h3⟩, h4⟩ := h
    exact ⟨⟨u, h1, h2, Rep.dle k _ h3⟩, RepC.dle ks _ _ h4⟩
theorem RepR.dle : ∀ {sz : Nat} {as bs : List (List AV)}, DLeR as bs → ∀ b off, RepR ι S w sz as b off → RepR ι S w sz bs b off
  | _, _, _, .nil, b, off, h => h
  | sz, _, _, .cons k ks, b, off, h => by
    rw [RepR] at h ⊢
    obtain ⟨h1, h2, h3⟩ := h
    exact ⟨by rw [← k.length]; exact h1, RepC.dle k _ _ h2, RepR.dle ks _ _ h3⟩
end
variable [Laid]
theorem Con.dle {P : Program} {f : FuncId} {args : List AV} {r r' : AV} (c : Con P f args r) (d : DLe r r') (p : Pure r') : Con P f args r' := by
  obtain ⟨pa, pr, c⟩ := c
  refine ⟨pa, p, ?_⟩
  intro base ι S w vs h1 h2
  refine (c base ι S w vs h1 h2).mono ?_
  rintro e w' ⟨v, ι', S', r2, h', e1, e2, e3, e4, e5, rfl⟩
  exact ⟨v, ι', S', r', h', e1, e2, Rep.dle d v e3, e4, e5, rfl⟩
/-- A call of a function that is known at what comes in, when that is told without own memory, and less is said of it. -/
theorem iCall_borrowD {P : Program} {f : FuncId} {args args' : List AV} {r : AV} {h : Heap} {K : AV → Heap → Prop} (hb : hasBody P f = true) (c : Con P f args' r) (hl : DLeL (args.map (tl 0 h 3)) args') (fl : Flat r) (k : K r h) : iCall P (.fn (.func f) [] []) args h K := by
  refine ⟨hb, ?_⟩
  simp only [List.nil_append, List.append_nil]
  obtain ⟨pa, pr, c⟩ := c
  intro base ι S w vs h1 h2
  obtain ⟨hE0, hh0⟩ := h2.told (L := 0) (Nat.zero_le _)
  have hr : RepL (ι.take 0) (stabT 0 ι S h) w args' vs := by
    refine RepL.dle hl vs ?_
    have := RepL.tlA (L := 0) (f := tl 0 h 2) h2 (Rep.tl h2 2) args vs h1
    rwa [tlL_map] at this
  simp only [List.take_zero] at hr hE0
  refine (c w.heap.size [] (stabT 0 ι S h) w vs hr (HOK.nil _ w hh0.stb hh0.gl)).mono ?_
  rintro e w' ⟨v, ι', S', r', h', e1, e2, e3, e4, _, rfl⟩
  have hE : Evo ι.length w.heap.size ι S w ι S w' := ⟨fun _ _ => IxLe.refl _, fun _ _ q => q, fun _ _ q => .inl q, fun b o q => e2.cell b o (.inl q), e2.shp, e2.bel⟩
  exact ⟨v, ι, S, r', h, e1, hE.mono (by rw [h2.len]; exact Nat.le_refl _) h2.bas, Rep.flat r' v fl e3, h2.over hE (fun b o q => Nat.lt_of_lt_of_le (h2.stb b o q) e2.bel.size), Nat.le_refl _, k⟩
end Go.Aw
end
