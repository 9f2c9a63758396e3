/-
  Less is said, at every memory; joins where one state is known; contracts that speak of calls.
  No conditions: lemmas.
-/
import Derived.Test.YtpggiljgcckmoaaGreatDoorCuts
namespace Go.Aw
open Go Go.RowKit
variable [Laid]
/-- Whatever the first stands for, the second does. -/
def RLe (a b : AV) : Prop := ∀ ι S w v, Rep ι S w a v → Rep ι S w b v
omit [Laid] in
theorem RLe.refl (a : AV) : RLe a a := fun _ _ _ _ h => h
omit [Laid] in
theorem RLe.of_le {a b : AV} (h : Le a b) : RLe a b := fun _ _ _ _ r => Rep.le _ _ _ h r
omit [Laid] in
theorem RLe.nil (sz : Nat) : RLe (.v (.slice none 0 0)) (.sl sz []) := fun _ _ _ _ r => by
  rw [Rep_v] at r
  subst r
  rw [Rep]
  exact ⟨none, 0, rfl, Nat.le_refl _, Nat.zero_le _, .inl rfl⟩
omit [Laid] in
theorem RLe.tup2 {a b c d : AV} (h1 : RLe a b) (h2 : RLe c d) : RLe (.tup [a, c]) (.tup [b, d]) := fun ι S w v r => by
  rw [Rep] at *
  obtain ⟨vs, e, k⟩ := r
  match vs, k with
  | [], k => simp at k
  | [x], k => simp at k
  | x :: y :: z :: l, k => simp at k
  | [x, y], k =>
    simp only [RepL_cons, RepL_nil, and_true] at k
    exact ⟨[x, y], e, by simpa using ⟨h1 _ _ _ _ k.1, h2 _ _ _ _ k.2⟩⟩
theorem Gives.rle {r s r' : AV} {h' : Heap} (g : Gives s r' h') (q : RLe s r) : Gives r r' h' := by
  obtain ⟨r'', h'', ⟨a1, a2, a3⟩, rfl⟩ := g
  refine ⟨r, h'', ⟨a1, by simp, fun base ι S w vs r k => ?_⟩, rfl⟩
  obtain ⟨ι', S', hE, hs, hp⟩ := a3 base ι S w vs r k
  refine ⟨ι', S', hE, ?_, hp⟩
  match vs, hs with
  | [], hs => simp at hs
  | x :: y :: l, hs => simp at hs
  | [x], hs =>
    simp only [RepL_cons, RepL_nil, and_true] at hs ⊢
    exact q _ _ _ _ hs
omit [Laid] in
/-- A place to which ways lead that all come with the same. -/
theorem w_join {k : (List AV → Heap → Prop) → Prop} {f : List AV → Heap → Prop} (s : List AV) (h : Heap) (q : f s h) (hk : ∀ F : List AV → Heap → Prop, F s h → k F) : iLet k f := hk f q
/-- A call that is known to leave the memory that was there alone, and to hand back a flat value. -/
theorem con_below {P : Program} {f : FuncId} {args : List AV} {r : AV} {v : Value} (pa : PureL args) (fl : Flat r) (pr : Aw.Pure r) (hr : ∀ w, Rep [] (fun _ _ => False) w r v)
    (c : ∀ ι S w vs, RepL ι S w args vs → GOK S w → Calls P f vs.toArray w fun e w' => e = .returned v ∧ Below w.heap.size w w') : Con P f args r := by
  refine ⟨pa, pr, ?_⟩
  intro base ι S w vs h1 h2
  refine (c ι S w vs h1 h2.gl).mono ?_
  rintro e w' ⟨rfl, hB⟩
  have hE : Evo ι.length w.heap.size ι S w ι S w' := ⟨fun _ _ => IxLe.refl _, fun _ _ q => q, fun _ _ q => .inl q, fun b o q => hB.cell (h2.stb b o q), fun b x hx => by
    unfold World.shape? at hx ⊢
    have hb : b < w.heap.size := by
      rcases Nat.lt_or_ge b w.heap.size with k | k
      · exact k
      · rw [Array.getElem?_eq_none k] at hx; cases hx
    rw [hB.block b hb]; exact hx, hB⟩
  exact ⟨v, ι, S, r, [], rfl, hE.mono (by rw [h2.len]; exact Nat.le_refl _) h2.bas, Rep.flat r v fl (hr w'), h2.over hE (fun b o q => Nat.lt_of_lt_of_le (h2.stb b o q) hB.size), Nat.le_refl _, rfl⟩
theorem w_callQ {P : Program} {f : FuncId} {args args' : List AV} {r : AV} {h : Heap} {K : AV → Prop} (e : args = args') (hb : hasBody P f = true) (c : Con P f args' r) (k : K r) : iCallQ P (.fn (.func f) [] []) args h K := by
  subst e
  exact ⟨r, iCall_con hb c ⟨rfl, rfl⟩, k⟩
omit [Laid] in
theorem w_idxS {m : Nat} {x i : AV} {rows : List (List AV)} {n : Nat} {K : AV → Prop} (ex : x = .sl m rows) (ei : i = int n) (hn : n < rows.length) (q : K (.ip (rows.getD n []))) : iIdxP m x i K := by
  subst ex; subst ei
  rw [iIdxP_s]
  exact ⟨rfl, ⟨by omega, by omega⟩, by simpa using q⟩
omit [Laid] in
theorem w_loadI {x c : AV} {r : List AV} {h : Heap} {K : AV → Prop} (e : x = .ip (c :: r)) (q : K c) : iLoad false 1 x h K := by subst e; exact q
omit [Laid] in
theorem w_lenS {x : AV} {sz : Nat} {rows : List (List AV)} {K : AV → Prop} (e : x = .sl sz rows) (q : K (int rows.length)) : iLen x K := by subst e; rw [iLen_s]; exact fun _ => q
end Go.Aw
