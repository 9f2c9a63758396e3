/-
  The rules by which the model's wp of a piece of code follows from a condition on abstract states; and what a call comes to.
  No conditions: definitions and lemmas over any program.
-/
import Derived.Test.YtpggiljgcckmoaaGreatDoorCore
namespace Go.Aw
open Go Go.RowKit

mutual
/-- It names no block of the call's own. -/
def Pure : AV → Prop
  | .v _ | .str _ | .any | .emp => True
  | .agg cs | .tup cs | .ip cs => PureL cs
  | .sl _ rows => PureR rows
  | .own .. | .op .. | .sb .. => False
  | .fn _ xs ys => PureL xs ∧ PureL ys
  | .ifc _ x => Pure x
def PureL : List AV → Prop
  | [] => True
  | a :: as => Pure a ∧ PureL as
def PureR : List (List AV) → Prop
  | [] => True
  | r :: rs => PureL r ∧ PureR rs
end

mutual
theorem Rep.pure {ι ι' : List Ix} {S : Stab} {w : World} : ∀ (a : AV) (y : Value), Pure a → Rep ι S w a y → Rep ι' S w a y
  | .v x, y, _, k => by simpa using k
  | .str x, y, _, k => by simpa using k
  | .any, y, _, k => by simp
  | .agg cs, y, p, k => by rw [Rep] at *; rw [Pure] at p; obtain ⟨vs, e, k⟩ := k; exact ⟨vs, e, RepL.pure cs vs p k⟩
  | .tup cs, y, p, k => by rw [Rep] at *; rw [Pure] at p; obtain ⟨vs, e, k⟩ := k; exact ⟨vs, e, RepL.pure cs vs p k⟩
  | .emp, y, _, k => by rw [Rep] at *; exact k
  | .sl sz rows, y, p, k => by
    rw [Rep] at *; rw [Pure] at p
    obtain ⟨a, cap, e, h1, h2, h3⟩ := k
    exact ⟨a, cap, e, h1, h2, h3.imp id fun ⟨b, off, ea, hr⟩ => ⟨b, off, ea, RepR.pure sz rows b off p hr⟩⟩
  | .ip cs, y, p, k => by rw [Rep] at *; rw [Pure] at p; obtain ⟨b, off, e, k⟩ := k; exact ⟨b, off, e, RepC.pure cs b off p k⟩
  | .own id off len sz, y, p, k => by rw [Pure] at p; exact p.elim
  | .sb id sz rows, y, p, k => by rw [Pure] at p; exact p.elim
  | .op id off, y, p, k => by rw [Pure] at p; exact p.elim
  | .fn f xs ys, y, p, k => by rw [Rep] at *; rw [Pure] at p; obtain ⟨vs, us, e, k1, k2⟩ := k; exact ⟨vs, us, e, RepL.pure xs vs p.1 k1, RepL.pure ys us p.2 k2⟩
  | .ifc t x, y, p, k => by rw [Rep] at *; rw [Pure] at p; obtain ⟨v, e, k⟩ := k; exact ⟨v, e, Rep.pure x v p k⟩
theorem RepL.pure {ι ι' : List Ix} {S : Stab} {w : World} : ∀ (as : List AV) (vs : List Value), PureL as → RepL ι S w as vs → RepL ι' S w as vs
  | [], vs, _, k => by simpa using k
  | a :: as, [], _, k => by simp at k
  | a :: as, v :: vs, p, k => by rw [PureL] at p; simp at k; simpa using ⟨Rep.pure a v p.1 k.1, RepL.pure as vs p.2 k.2⟩
theorem RepC.pure {ι ι' : List Ix} {S : Stab} {w : World} : ∀ (cs : List AV) (b off : Nat), PureL cs → RepC ι S w cs b off → RepC ι' S w cs b off
  | [], b, off, _, k => by simp [RepC]
  | c :: cs, b, off, p, k => by
    rw [RepC] at *; rw [PureL] at p
    obtain ⟨⟨u, h1, h2, h3⟩, k2⟩ := k
    exact ⟨⟨u, h1, h2, Rep.pure c u p.1 h3⟩, RepC.pure cs b (off + 1) p.2 k2⟩
theorem RepR.pure {ι ι' : List Ix} {S : Stab} {w : World} (sz : Nat) : ∀ (rows : List (List AV)) (b off : Nat), PureR rows → RepR ι S w sz rows b off → RepR ι' S w sz rows b off
  | [], b, off, _, k => by simp [RepR]
  | r :: rs, b, off, p, k => by
    rw [RepR] at *; rw [PureR] at p
    exact ⟨k.1, RepC.pure r b off p.1 k.2.1, RepR.pure sz rs b (off + sz) p.2 k.2.2⟩
end

/-- What package variables hold, from start-up on: told cells, that nothing writes. -/
class Laid where
  tab : Nat → Option (List AV)
  pure : ∀ g cs, tab g = some cs → PureL cs
variable [Laid]
def GOK (S : Stab) (w : World) : Prop := ∀ g cs, Laid.tab g = some cs → RepC [] S w cs g 0 ∧ ∃ ty, w.shape? g = some (ty, cs.length)
theorem GOK.evo {n base : Nat} {ι ι' : List Ix} {S S' : Stab} {w w' : World} (h : GOK S w) (hE : Evo n base ι S w ι' S' w') : GOK S' w' := fun g cs e =>
  ⟨RepC.evo (n := 0) (base := base) (ι := []) (ι' := []) ⟨fun _ q => absurd q (Nat.not_lt_zero _), hE.sub, hE.new, hE.cell, hE.shp, hE.bel⟩ (Nat.le_refl _) cs g 0 (h g cs e).1, let ⟨ty, k⟩ := (h g cs e).2; ⟨ty, hE.shp _ _ k⟩⟩

/-- The newest version of a slice that grows at its end alone. -/
def TokOK (base : Nat) (S : Stab) (w : World) (e sz n : Nat) (v : Value) : Prop :=
  ∃ a cap, v = .slice a n cap ∧ n ≤ cap ∧ cap ≤ maxLen ∧ (cap = 0 ∨ ∃ b arr fz, a = some ⟨b, 0, none⟩ ∧ base ≤ b ∧ w.heap[b]? = some (.cells arr e fz) ∧
    (∀ o, o < arr.size → ¬ (fz.1 ≤ o ∧ o < fz.2)) ∧ cap * sz ≤ arr.size ∧ ∀ o, S b o → o < n * sz)
/-- The block where a slice lies. -/
def tokB (v : Value) (b : Nat) : Prop := ∃ a l cap, v = .slice (some a) l cap ∧ a.block = b ∧ cap ≠ 0
def ixB : Option Ix → Nat → Prop
  | some (.blk c), b => c = b
  | some (.tok _ v), b => tokB v b
  | none, _ => False
def alive : Option Ent → Prop
  | some .dead | none => False
  | _ => True
omit [Laid] in
theorem TokOK.keep {base : Nat} {S S' : Stab} {w w' : World} {e sz n : Nat} {v : Value} (h : TokOK base S w e sz n v) (k : ∀ b, tokB v b → base ≤ b → b < w.heap.size → w'.heap[b]? = w.heap[b]? ∧ ∀ o, S' b o → S b o) : TokOK base S' w' e sz n v := by
  obtain ⟨a, cap, e1, h1, h2, h3⟩ := h
  refine ⟨a, cap, e1, h1, h2, ?_⟩
  rcases h3 with h3 | ⟨b, arr, fz, ea, k1, k2, k3, k4, k5⟩
  · exact .inl h3
  · by_cases hc : cap = 0
    · exact .inl hc
    · have hb : b < w.heap.size := by
        rcases Nat.lt_or_ge b w.heap.size with q | q
        · exact q
        · rw [Array.getElem?_eq_none q] at k2; cases k2
      obtain ⟨q1, q2⟩ := k b ⟨_, _, _, by rw [e1, ea], rfl, hc⟩ k1 hb
      exact .inr ⟨b, arr, fz, ea, k1, by rw [q1]; exact k2, k3, k4, fun o ho => k5 o (q2 o ho)⟩

/-- The call's own blocks are what the abstract heap says. -/
structure HOK (base : Nat) (ι : List Ix) (S : Stab) (w : World) (h : Heap) : Prop where
  len : ι.length = h.length
  live : ∀ (id : Nat) (x : Blk), h[id]? = some (.blk x) → ∃ b arr fz, ι[id]? = some (.blk b) ∧ base ≤ b ∧ w.heap[b]? = some (.cells arr x.ty fz) ∧
    (∀ o, o < arr.size → ¬ (fz.1 ≤ o ∧ o < fz.2)) ∧ x.cells.length ≤ arr.size ∧
    (∀ (i : Nat) (c : AV), x.cells[i]? = some c → ∃ v, arr[i]? = some v ∧ Rep ι S w c v) ∧
    (x.wr = true → ∀ o, ¬ S b o) ∧ (∀ o, S b o → o < x.cells.length) ∧ (x.wr = false → ∀ o, o < x.cells.length → S b o)
  tok : ∀ (id e sz n : Nat), h[id]? = some (.tok e sz n) → ∃ v, ι[id]? = some (.tok n v) ∧ TokOK base S w e sz n v
  inj : ∀ (i j b : Nat), alive h[i]? → alive h[j]? → ixB ι[i]? b → ixB ι[j]? b → i = j
  stb : ∀ b o, S b o → b < w.heap.size
  bas : base ≤ w.heap.size
  gl : GOK S w

/-- What temporaries hold: of those that are not named nothing is known. -/
abbrev Fr := List (Nat × AV)
def getF : Fr → Nat → AV
  | [], _ => .any
  | (s, y) :: r, t => if s = t then y else getF r t
def putF : Fr → Nat → AV → Fr
  | [], t, x => [(t, x)]
  | (s, y) :: r, t, x => if s = t then (t, x) :: r else if t < s then (t, x) :: (s, y) :: r else (s, y) :: putF r t x
def normF (keep : List Nat) (fr : Fr) : Fr := keep.map fun t => (t, getF fr t)
def setFr (n : Nat) (fr : Fr) (d : Option Tmp) (x : AV) : Fr := match d with | some t => if t < n then putF fr t x else fr | none => fr
def FrOK (ι : List Ix) (S : Stab) (w : World) (fr : Fr) (tmps : Array Value) : Prop := ∀ t, Rep ι S w (getF fr t) (tmps.getD t undef)
omit [Laid] in
theorem FrOK.evo {ι ι' : List Ix} {S S' : Stab} {w w' : World} {fr : Fr} {tmps : Array Value} {n base : Nat} (hE : Evo n base ι S w ι' S' w') (hn : ι.length ≤ n) (h : FrOK ι S w fr tmps) : FrOK ι' S' w' fr tmps :=
  fun t => Rep.evo hE hn _ _ (h t)
omit [Laid] in
theorem getF_put : ∀ (fr : Fr) (t : Nat) (x : AV) (u : Nat), getF (putF fr t x) u = if t = u then x else getF fr u
  | [], t, x, u => by simp [putF, getF]
  | (s, y) :: r, t, x, u => by
    unfold putF
    split
    · rename_i h; subst h
      simp only [getF]
      split <;> rfl
    · split
      · simp only [getF]
      · simp only [getF]
        rw [getF_put r t x u]
        split
        · rename_i h1 h2 h3
          split
          · omega
          · rfl
        · rfl
omit [Laid] in
theorem putF_comm : ∀ (fr : Fr) {t u : Nat} (x y : AV), t ≠ u → putF (putF fr t x) u y = putF (putF fr u y) t x := by
  have key : ∀ (fr : Fr) {t u : Nat} (x y : AV), t < u → putF (putF fr t x) u y = putF (putF fr u y) t x := by
    intro fr
    induction fr with
    | nil =>
      intro t u x y h
      have h1 : t ≠ u := by omega
      have h2 : ¬ u < t := by omega
      simp [putF, h1, h2, h, Ne.symm h1]
    | cons p r ih =>
      intro t u x y h
      obtain ⟨s, z⟩ := p
      have h1 : t ≠ u := by omega
      have h2 : ¬ u < t := by omega
      by_cases a : s = t
      · subst a
        have e1 : ¬ u < s := by omega
        simp [putF, h1, e1]
      · by_cases b : s = u
        · subst b
          have e1 : s ≠ t := by omega
          simp [putF, h1, e1, h, h2]
        · by_cases c : t < s
          · by_cases d : u < s
            · simp [putF, a, b, c, d, h1, h2, h, Ne.symm h1]
            · simp [putF, a, b, c, d, h1, h2]
          · by_cases d : u < s
            · omega
            · simp [putF, a, b, c, d, ih x y h]
  intro fr t u x y h
  rcases Nat.lt_or_gt_of_ne h with q | q
  · exact key fr x y q
  · exact (key fr y x q).symm

/-- An abstract state: how many temporaries there are, what they hold, and the call's own blocks. -/
structure St where
  n : Nat
  fr : Fr
  h : Heap

/-- The state of a frame is what the abstract state says. -/
structure ROK (base : Nat) (ι : List Ix) (S : Stab) (a : Act) (w : World) (st : St) : Prop where
  df : a.defers = []
  sz : a.tmps.size = st.n
  fr : FrOK ι S w st.fr a.tmps
  hp : HOK base ι S w st.h

def Post (m base : Nat) (ι : List Ix) (S : Stab) (w : World) (Q : Exit → St → Prop) : Exit → Act → World → Prop := fun e a' w' =>
  ∃ ι' S' st', Evo m base ι S w ι' S' w' ∧ m ≤ st'.h.length ∧ ROK base ι' S' a' w' st' ∧ Q e st'

/-- The code, from the abstract state 'st', comes to 'Q'; the first 'm' blocks keep their numbers. -/
def AW (P : Program) (m : Nat) (c : Code) (Q : Exit → St → Prop) (st : St) : Prop :=
  ∀ base ι S a w, m ≤ st.h.length → ROK base ι S a w st → c.wp P (Post m base ι S w Q) a w

theorem Post.mono {m base : Nat} {ι : List Ix} {S : Stab} {w : World} {Q Q' : Exit → St → Prop} {e : Exit} {a' : Act} {w' : World}
    (h : Post m base ι S w Q e a' w') (hq : ∀ st, Q e st → Q' e st) : Post m base ι S w Q' e a' w' :=
  let ⟨ι', S', st', h1, h2, h3, h4⟩ := h; ⟨ι', S', st', h1, h2, h3, hq _ h4⟩

theorem AW.mono {P : Program} {m : Nat} {c : Code} {Q Q' : Exit → St → Prop} {st : St} (h : AW P m c Q st) (hq : ∀ e st, Q e st → Q' e st) : AW P m c Q' st :=
  fun base ι S a w hm hr => wp_mono (h base ι S a w hm hr) fun _ _ _ k => k.mono (hq _)

abbrev thenQ (next : St → Prop) (Q : Exit → St → Prop) : Exit → St → Prop
  | .normal, st => next st
  | e, st => Q e st

theorem Post.trans {m base : Nat} {ι ι' : List Ix} {S S' : Stab} {w w' : World} {Q : Exit → St → Prop} {e : Exit} {a'' : Act} {w'' : World}
    (hE : Evo m base ι S w ι' S' w') (h : Post m base ι' S' w' Q e a'' w'') : Post m base ι S w Q e a'' w'' :=
  let ⟨ι'', S'', st'', h1, h2, h3, h4⟩ := h; ⟨ι'', S'', st'', hE.trans h1, h2, h3, h4⟩

section
variable {P : Program} {m : Nat} {Q : Exit → St → Prop} {st : St}

theorem AW_skip (h : Q .normal st) : AW P m .skip Q st :=
  fun _ ι S _ _ hm hr => wp_skip ⟨ι, S, st, Evo.refl _ _ _ _ _, hm, hr, h⟩
theorem AW_ret (h : Q .ret st) : AW P m .ret Q st :=
  fun _ ι S _ _ hm hr => wp_ret ⟨ι, S, st, Evo.refl _ _ _ _ _, hm, hr, h⟩
theorem AW_exit {id : Nat} (h : Q (.exit id) st) : AW P m (.exit id) Q st :=
  fun _ ι S _ _ hm hr => wp_exit ⟨ι, S, st, Evo.refl _ _ _ _ _, hm, hr, h⟩
theorem AW_label {l : Nat} (h : Q .normal st) : AW P m (.label l) Q st :=
  fun _ ι S _ _ hm hr => wp_label ⟨ι, S, st, Evo.refl _ _ _ _ _, hm, hr, h⟩
theorem AW_goto {l : Nat} (h : Q (.goto l) st) : AW P m (.goto l) Q st :=
  fun _ ι S _ _ hm hr => wp_goto ⟨ι, S, st, Evo.refl _ _ _ _ _, hm, hr, h⟩

theorem AW_seq {x y : Code} (h : AW P m x (thenQ (AW P m y Q) Q) st) : AW P m (.seq x y) Q st := by
  intro base ι S a w hm hr
  refine wp_seq (wp_mono (h base ι S a w hm hr) ?_)
  intro e a' w' k
  obtain ⟨ι', S', st', h1, h2, h3, h4⟩ := k
  cases e with
  | normal => exact wp_mono (h4 base ι' S' a' w' h2 h3) fun _ _ _ k => k.trans h1
  | exit id => exact ⟨ι', S', st', h1, h2, h3, h4⟩
  | goto l => exact ⟨ι', S', st', h1, h2, h3, h4⟩
  | ret => exact ⟨ι', S', st', h1, h2, h3, h4⟩
  | panic ch => exact ⟨ι', S', st', h1, h2, h3, h4⟩
  | outgrown => exact ⟨ι', S', st', h1, h2, h3, h4⟩

def blockQ (id : Nat) (Q : Exit → St → Prop) : Exit → St → Prop
  | .exit id', st => if id' = id then Q .normal st else Q (.exit id') st
  | e, st => Q e st

theorem AW_block {id : Nat} {c : Code} (h : AW P m c (blockQ id Q) st) : AW P m (.block id c) Q st := by
  intro base ι S a w hm hr
  refine wp_block (wp_mono (h base ι S a w hm hr) ?_)
  intro e a' w' k
  obtain ⟨ι', S', st', h1, h2, h3, h4⟩ := k
  cases e with
  | exit id' =>
    simp only [Exit.inBlock, blockQ] at h4 ⊢
    split
    · rename_i he; rw [if_pos he] at h4; exact ⟨ι', S', st', h1, h2, h3, h4⟩
    · rename_i he; rw [if_neg he] at h4; exact ⟨ι', S', st', h1, h2, h3, h4⟩
  | normal => exact ⟨ι', S', st', h1, h2, h3, h4⟩
  | goto l => exact ⟨ι', S', st', h1, h2, h3, h4⟩
  | ret => exact ⟨ι', S', st', h1, h2, h3, h4⟩
  | panic ch => exact ⟨ι', S', st', h1, h2, h3, h4⟩
  | outgrown => exact ⟨ι', S', st', h1, h2, h3, h4⟩

/-- What a temporary holds, told by the abstract frame. -/
theorem ROK.get {base : Nat} {ι : List Ix} {S : Stab} {a : Act} {w : World} {st : St} (hr : ROK base ι S a w st) (t : Nat) :
    Rep ι S w (getF st.fr t) (a.tmps.getD t undef) := hr.fr t

omit [Laid] in
theorem FrOK.put {ι : List Ix} {S : Stab} {w : World} {fr : Fr} {tmps : Array Value} (h : FrOK ι S w fr tmps) {t : Nat} {x : AV} {v : Value} (ht : t < tmps.size) (r : Rep ι S w x v) : FrOK ι S w (putF fr t x) (tmps.setIfInBounds t v) := by
  intro u
  rw [getF_put]
  by_cases hu : t = u
  · subst hu
    rw [if_pos rfl]
    simpa [Array.getD_eq_getD_getElem?, ht] using r
  · rw [if_neg hu]
    have := h u
    simpa [Array.getD_eq_getD_getElem?, Array.getElem?_setIfInBounds, hu] using this
omit [Laid] in
/-- What stands in a frame is told again. -/
theorem FrOK.say {ι : List Ix} {S : Stab} {w : World} {fr : Fr} {tmps : Array Value} (h : FrOK ι S w fr tmps) {t : Nat} {x : AV} (r : Rep ι S w x (tmps.getD t undef)) : FrOK ι S w (putF fr t x) tmps := by
  intro u
  rw [getF_put]
  by_cases hu : t = u
  · subst hu; rw [if_pos rfl]; exact r
  · rw [if_neg hu]; exact h u
omit [Laid] in
theorem getF_norm (keep : List Nat) (fr : Fr) (t : Nat) : getF (normF keep fr) t = getF fr t ∨ getF (normF keep fr) t = .any := by
  unfold normF
  induction keep with
  | nil => exact .inr rfl
  | cons k r ih =>
    simp only [List.map_cons, getF]
    split
    · rename_i h; subst h; exact .inl rfl
    · exact ih
omit [Laid] in
theorem FrOK.norm {ι : List Ix} {S : Stab} {w : World} {fr : Fr} {tmps : Array Value} (h : FrOK ι S w fr tmps) (keep : List Nat) : FrOK ι S w (normF keep fr) tmps := by
  intro t
  rcases getF_norm keep fr t with e | e
  · rw [e]; exact h t
  · rw [e]; simp
theorem ROK.put {base : Nat} {ι : List Ix} {S : Stab} {a : Act} {w : World} {st : St} (hr : ROK base ι S a w st) {x : AV} {v : Value} (d : Option Tmp) (h : Rep ι S w x v) :
    ROK base ι S (a.put d v) w ⟨st.n, setFr st.n st.fr d x, st.h⟩ := by
  cases d with
  | none => exact hr
  | some t =>
    by_cases ht : t < st.n
    · have hsz := hr.sz
      refine ⟨hr.df, by simpa [Act.put] using hr.sz, ?_, hr.hp⟩
      simp only [Act.put, setFr, if_pos ht]
      exact FrOK.put hr.fr (by rw [hsz]; exact ht) h
    · refine ⟨hr.df, by simpa [Act.put] using hr.sz, ?_, hr.hp⟩
      have : a.tmps.setIfInBounds t v = a.tmps := by
        have hs := hr.sz
        have hge : ¬ t < a.tmps.size := by rw [hs]; exact ht
        simp [Array.setIfInBounds, hge]
      simp only [Act.put, setFr, if_neg ht, this]
      exact hr.fr
theorem ROK.norm {base : Nat} {ι : List Ix} {S : Stab} {a : Act} {w : World} {st : St} (hr : ROK base ι S a w st) (keep : List Nat) : ROK base ι S a w ⟨st.n, normF keep st.fr, st.h⟩ := ⟨hr.df, hr.sz, FrOK.norm hr.fr keep, hr.hp⟩
end

omit [Laid] in
/-- A loop, with a word for each round's state in the place of the state itself. -/
theorem wp_loop_ghost {α : Type} {P : Program} {Q : Exit → Act → World → Prop} {a : Act} {w : World} {c : Code} (I : α → Act → World → Prop) (μ : α → Nat) (x₀ : α) (h₀ : I x₀ a w)
    (round : ∀ x a w, I x a w → c.wp P (Exit.then (fun a' w' => ∃ y, I y a' w' ∧ μ y < μ x) Q) a w) : (Code.loop c).wp P Q a w := by
  intro b k cs
  have key : ∀ n x a w, μ x = n → I x a w → ∃ e a' w', Q e a' w' ∧ Arrives P (lone (b.at a (.code c :: .inLoop c :: k)) cs w) b k cs e a' w' := by
    intro n
    induction n using Nat.strongRecOn with
    | _ n ih =>
      intro x a w hn hI
      obtain ⟨e, a₁, w₁, hq, harr⟩ := round x a w hI b (.inLoop c :: k) cs
      cases e with
      | normal =>
        obtain ⟨y, hI₁, hlt⟩ := hq
        obtain ⟨e₂, a₂, w₂, hq₂, harr₂⟩ := ih (μ y) (hn ▸ hlt) y a₁ w₁ rfl hI₁
        exact ⟨e₂, a₂, w₂, hq₂, .of_steps (Steps.trans harr (.one step_inLoop)) harr₂⟩
      | exit id => exact ⟨_, a₁, w₁, hq, .pass (x := .inLoop c) rfl (fun _ _ => .inl (by simp)) harr⟩
      | goto l => exact ⟨_, a₁, w₁, hq, .pass (x := .inLoop c) rfl (fun _ _ => .inl (by simp)) harr⟩
      | ret => exact ⟨_, a₁, w₁, hq, .pass (x := .inLoop c) rfl (fun _ _ => .inl (by simp)) harr⟩
      | panic ch => exact ⟨_, a₁, w₁, hq, .pass (x := .inLoop c) rfl (fun _ _ => .inl (by simp)) harr⟩
      | outgrown => exact ⟨_, a₁, w₁, hq, .pass (x := .inLoop c) rfl (fun _ _ => .inl (by simp)) harr⟩
  obtain ⟨e, a', w', hq, harr⟩ := key _ x₀ a w rfl h₀
  exact ⟨e, a', w', hq, .of_steps (.one step_loop) harr⟩

/-- From one abstract state to one that says less: some temporaries forgotten, the last blocks forgotten. -/
def Weak (m : Nat) (st st' : St) : Prop :=
  ∀ base ι S a w, m ≤ st.h.length → ROK base ι S a w st → ∃ ι' S', Evo m base ι S w ι' S' w ∧ m ≤ st'.h.length ∧ ROK base ι' S' a w st'

theorem Weak.refl (m : Nat) (st : St) : Weak m st st := fun _ ι S _ _ hm hr => ⟨ι, S, Evo.refl _ _ _ _ _, hm, hr⟩
theorem Weak.trans {m : Nat} {a b c : St} (h : Weak m a b) (k : Weak m b c) : Weak m a c := fun base ι S ac w hm hr =>
  let ⟨ι', S', e1, m1, r1⟩ := h base ι S ac w hm hr
  let ⟨ι'', S'', e2, m2, r2⟩ := k base ι' S' ac w m1 r1
  ⟨ι'', S'', e1.trans e2, m2, r2⟩

theorem AW.weak {P : Program} {m : Nat} {c : Code} {Q : Exit → St → Prop} {st st' : St} (hw : Weak m st st') (h : AW P m c Q st') : AW P m c Q st := by
  intro base ι S a w hm hr
  obtain ⟨ι', S', e1, m1, r1⟩ := hw base ι S a w hm hr
  exact wp_mono (h base ι' S' a w m1 r1) fun _ _ _ k => k.trans e1

theorem AW_loop {α : Type} {P : Program} {m : Nat} {Q : Exit → St → Prop} {st : St} {c : Code} (I : α → Prop) (inv : α → St) (μ : α → Nat) (x₀ : α) (h₀ : I x₀) (hs : Weak m st (inv x₀))
    (round : ∀ x, I x → AW P m c (thenQ (fun st' => ∃ y, I y ∧ Weak m st' (inv y) ∧ μ y < μ x) Q) (inv x)) : AW P m (.loop c) Q st := by
  intro base ι S a w hm hr
  obtain ⟨ι₀, S₀, e₀, m₀, r₀⟩ := hs base ι S a w hm hr
  refine wp_loop_ghost (fun x a' w' => I x ∧ ∃ ι' S', Evo m base ι S w ι' S' w' ∧ m ≤ (inv x).h.length ∧ ROK base ι' S' a' w' (inv x)) μ x₀ ⟨h₀, ι₀, S₀, e₀, m₀, r₀⟩ ?_
  rintro x a' w' ⟨hx, ι', S', hE, hm', hr'⟩
  refine wp_mono (round x hx base ι' S' a' w' hm' hr') ?_
  intro e a'' w'' k
  obtain ⟨ι'', S'', st'', h1, h2, h3, h4⟩ := k
  cases e with
  | normal =>
    obtain ⟨y, hy, hw, hlt⟩ := h4
    obtain ⟨ι3, S3, e3, m3, r3⟩ := hw base ι'' S'' a'' w'' h2 h3
    exact ⟨y, ⟨hy, ι3, S3, (hE.trans h1).trans e3, m3, r3⟩, hlt⟩
  | exit id => exact ⟨ι'', S'', st'', hE.trans h1, h2, h3, h4⟩
  | goto l => exact ⟨ι'', S'', st'', hE.trans h1, h2, h3, h4⟩
  | ret => exact ⟨ι'', S'', st'', hE.trans h1, h2, h3, h4⟩
  | panic ch => exact ⟨ι'', S'', st'', hE.trans h1, h2, h3, h4⟩
  | outgrown => exact ⟨ι'', S'', st'', hE.trans h1, h2, h3, h4⟩

/-- What a call comes to: it hands back a value, told by an abstract one, and leaves the call's own blocks as an abstract heap says. -/
def ACall (P : Program) (f : FuncId) (args : List AV) (h : Heap) (K : AV → Heap → Prop) : Prop :=
  ∀ base ι S w vs, RepL ι S w args vs → HOK base ι S w h → Calls P f vs.toArray w fun e w' =>
    ∃ v ι' S' r h', e = .returned v ∧ Evo h.length base ι S w ι' S' w' ∧ Rep ι' S' w' r v ∧ HOK base ι' S' w' h' ∧ h.length ≤ h'.length ∧ K r h'

theorem ACall.mono {P : Program} {f : FuncId} {args : List AV} {h : Heap} {K K' : AV → Heap → Prop} (c : ACall P f args h K) (hk : ∀ r h', K r h' → K' r h') : ACall P f args h K' :=
  fun base ι S w vs h1 h2 => (c base ι S w vs h1 h2).mono fun _ _ ⟨v, ι', S', r, h', a1, a2, a3, a4, a5, a6⟩ => ⟨v, ι', S', r, h', a1, a2, a3, a4, a5, hk _ _ a6⟩

/-- A contract: from these values the call hands back that one. -/
def Con (P : Program) (f : FuncId) (args : List AV) (r : AV) : Prop := PureL args ∧ Pure r ∧ ACall P f args [] fun r' _ => r' = r

theorem HOK.nil (S : Stab) (w : World) (h : ∀ b o, S b o → b < w.heap.size) (hg : GOK S w) : HOK w.heap.size [] S w [] :=
  ⟨rfl, by simp, by simp, fun i j b hi _ => by simp [alive] at hi, h, Nat.le_refl _, hg⟩

/-- The call's own blocks are as they were behind a call that knows nothing of them. -/
theorem HOK.over {base : Nat} {ι : List Ix} {S S' : Stab} {w w' : World} {h : Heap} (hh : HOK base ι S w h) (hE : Evo ι.length w.heap.size ι S w ι S' w') (hst : ∀ b o, S' b o → b < w'.heap.size) : HOK base ι S' w' h := by
  refine ⟨hh.len, fun id x e => ?_, fun id t sz n e => ?_, hh.inj, hst, Nat.le_trans hh.bas hE.bel.size, hh.gl.evo hE⟩
  rotate_left
  · obtain ⟨v, h1, h2⟩ := hh.tok id t sz n e
    refine ⟨v, h1, h2.keep fun b hb _ hlt => ⟨hE.bel.block b hlt, fun o ho => ?_⟩⟩
    rcases hE.new b o ho with k | k
    · exact k
    · omega
  obtain ⟨b, arr, fz, h1, h2, h3, h4, h5, h6, h7, h8, h9⟩ := hh.live id x e
  have hb : b < w.heap.size := by
    rcases Nat.lt_or_ge b w.heap.size with k | k
    · exact k
    · rw [Array.getElem?_eq_none k] at h3; cases h3
  refine ⟨b, arr, fz, h1, h2, by rw [hE.bel.block b hb]; exact h3, h4, h5, fun i c e => ?_, fun hw o ho => ?_, fun o ho => ?_, fun q o ho => hE.sub _ _ (h9 q o ho)⟩
  · obtain ⟨v, e1, e2⟩ := h6 i c e
    exact ⟨v, e1, Rep.evo hE (Nat.le_refl _) c v e2⟩
  · rcases hE.new b o ho with k | k
    · exact h7 hw o k
    · omega
  · rcases hE.new b o ho with k | k
    · exact h8 o k
    · omega

theorem Con.call {P : Program} {f : FuncId} {args : List AV} {r : AV} (c : Con P f args r) {h : Heap} {K : AV → Heap → Prop} (hk : K r h) : ACall P f args h K := by
  obtain ⟨pa, pr, c⟩ := c
  intro base ι S w vs h1 h2
  refine (c w.heap.size [] S w vs (RepL.pure args vs pa h1) (HOK.nil S w h2.stb h2.gl)).mono ?_
  rintro e w' ⟨v, ι', S', r', h', e1, e2, e3, e4, _, rfl⟩
  have hE : Evo ι.length w.heap.size ι S w ι S' w' := ⟨fun _ _ => IxLe.refl _, e2.sub, e2.new, e2.cell, e2.shp, e2.bel⟩
  exact ⟨v, ι, S', r', h, e1, hE.mono (by rw [h2.len]; exact Nat.le_refl _) h2.bas, Rep.pure r' v pr e3, h2.over hE e4.stb, Nat.le_refl _, hk⟩
end Go.Aw
