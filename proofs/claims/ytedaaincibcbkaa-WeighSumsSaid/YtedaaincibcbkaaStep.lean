/-
  What one operation does to an abstract state: words for a condition ('i..'), and that the model's operation meets it.
  No conditions: definitions and lemmas over any program.
-/
import Derived.Test.YtedaaincibcbkaaAw
namespace Go.Aw
open Go Go.RowKit

/-! ### Values -/
def constS : Value → AV
  | .string s => if s.size ≤ maxLen then .str s.data.toList else .any
  | .slice none 0 0 => .emp
  | x => .v x
def constAV : Value → AV
  | .agg cs => .agg (cs.toList.map constS)
  | x => constS x

theorem Rep_constS (ι : List Nat) (S : Stab) (w : World) (x : Value) : Rep ι S w (constS x) x := by
  unfold constS
  split
  · split
    · rename_i s h
      cases s with
      | mk d => simpa [ByteArray.size] using h
    · simp
  · rw [Rep]; exact ⟨none, rfl⟩
  · simp
theorem Rep_constAV (ι : List Nat) (S : Stab) (w : World) (x : Value) : Rep ι S w (constAV x) x := by
  unfold constAV
  split
  · rename_i cs
    rw [Rep]
    refine ⟨cs.toList, by simp, RepL.mk (by simp) fun i a v e f => ?_⟩
    simp only [List.getElem?_map, f, Option.map_some, Option.some.injEq] at e
    subst e; exact Rep_constS ι S w v
  · exact Rep_constS ι S w x

def evalA (fr : List AV) : Operand → AV
  | .tmp t => (fr[t]?).getD .any
  | .const v => constAV v
  | .global _ => .any
  | .func f => .fn (.func f) [] []

theorem ROK.eval {base : Nat} {ι : List Nat} {S : Stab} {a : Act} {w : World} {st : St} (hr : ROK base ι S a w st) (x : Operand) : Rep ι S w (evalA st.fr x) (a.eval x) := by
  cases x with
  | tmp t =>
    simp only [evalA, Act.eval]
    cases h : st.fr[t]? with
    | none => simp
    | some x => simpa using hr.get h
  | const v => exact Rep_constAV ι S w v
  | global g => simp [evalA]
  | func f => simp only [evalA, Act.eval]; rw [Rep]; exact ⟨[], [], rfl, by simp, by simp⟩

/-- The cells of a value. -/
def vcells : AV → List AV
  | .agg cs => cs
  | x => [x]
/-- It is one cell, for sure. -/
def scal : AV → Bool
  | .v x => x.oneCell'
  | .any | .agg _ | .tup _ => false
  | _ => true
theorem scal_one {ι : List Nat} {S : Stab} {w : World} {a : AV} {v : Value} (h : scal a = true) (r : Rep ι S w a v) : v.oneCell' = true := by
  cases a <;> simp only [scal, Bool.false_eq_true] at h
  case v x => simp at r; subst r; exact h
  case str l => simp at r; rw [r.1]; rfl
  case emp => rw [Rep] at r; obtain ⟨a, rfl⟩ := r; rfl
  case sl => rw [Rep] at r; obtain ⟨a, cap, rfl, _⟩ := r; rfl
  case ip => rw [Rep] at r; obtain ⟨a, cap, rfl, _⟩ := r; rfl
  case own => rw [Rep] at r; obtain ⟨b, a, cap, n, ty, _, rfl, _⟩ := r; rfl
  case op => rw [Rep] at r; obtain ⟨b, _, rfl⟩ := r; rfl
  case fn => rw [Rep] at r; obtain ⟨b, c, rfl, _⟩ := r; rfl
  case ifc => rw [Rep] at r; obtain ⟨b, rfl, _⟩ := r; rfl
theorem one_cells {v : Value} (h : v.oneCell' = true) : v.cells = #[v] := by cases v <;> first | rfl | cases h

theorem Rep_vcells {ι : List Nat} {S : Stab} {w : World} {a : AV} {v : Value} (r : Rep ι S w a v) (h : (vcells a).all scal = true) : ∃ vs : List Value, v.cells = vs.toArray ∧ RepL ι S w (vcells a) vs ∧ ∀ u ∈ vs, u.oneCell' = true := by
  have key : ∀ {cs : List AV} {vs : List Value}, RepL ι S w cs vs → cs.all scal = true → ∀ u ∈ vs, u.oneCell' = true := by
    intro cs
    induction cs with
    | nil => intro vs h _ u hu; simp at h; subst h; cases hu
    | cons c cs ih =>
      intro vs h hs u hu
      cases vs with
      | nil => simp at h
      | cons v vs =>
        simp at h hs
        simp only [List.mem_cons] at hu
        rcases hu with rfl | hu
        · exact scal_one hs.1 h.1
        · exact ih h.2 (by simpa using hs.2) u hu
  cases a
  case agg cs =>
    rw [Rep] at r
    obtain ⟨vs, rfl, k⟩ := r
    exact ⟨vs, rfl, k, key k h⟩
  all_goals
    simp only [vcells, List.all_cons, List.all_nil, Bool.and_true] at h
    have := scal_one h r
    exact ⟨[v], by rw [one_cells this], (RepL_cons _ _ _ _).2 ⟨r, by simp⟩, by simpa using this⟩

/-! ### Memory -/
theorem shape_alloc {w : World} (o : Obj) {b : Nat} {x : TypeId × Nat} (h : w.shape? b = some x) : (w.alloc o).shape? b = some x := by
  unfold World.shape? at *
  have hb : b < w.heap.size := by
    rcases Nat.lt_or_ge b w.heap.size with k | k
    · exact k
    · rw [Array.getElem?_eq_none k] at h; cases h
  rw [show (w.alloc o).heap[b]? = w.heap[b]? from Below.heap_alloc w o b hb]; exact h

theorem HOK.lt {base : Nat} {ι : List Nat} {S : Stab} {w : World} {h : Heap} (hh : HOK base ι S w h) {b o : Nat} (s : S b o) : b < w.heap.size := hh.stb b o s

theorem Evo.alloc {base : Nat} {ι : List Nat} {S : Stab} {w : World} (hb : base ≤ w.heap.size) (hs : ∀ b o, S b o → b < w.heap.size) (o : Obj) (k : List Nat) : Evo ι.length base ι S w (ι ++ k) S (w.alloc o) :=
  ⟨fun i hi => by rw [List.getElem?_append_left hi], fun _ _ h => h, fun _ _ h => .inl h,
    fun b f h => World.cell?_of_block (w := w) (Below.heap_alloc w o b (hs b f h)), fun _ _ h => shape_alloc o h, (Below.refl _ _).alloc hb o⟩

/-- A new block, told by an abstract one. -/
theorem HOK.alloc {base : Nat} {ι : List Nat} {S : Stab} {w : World} {h : Heap} (hh : HOK base ι S w h) (t : TypeId) (cs : List AV) (vs : List Value) (r : RepL ι S w cs vs) (fz : Nat × Nat := (0, 0)) (more : List Value := [])
    (hf : ∀ o, o < vs.length + more.length → ¬ (fz.1 ≤ o ∧ o < fz.2)) :
    HOK base (ι ++ [w.heap.size]) S (w.alloc (.cells (vs ++ more).toArray t fz)) (h ++ [some ⟨t, cs, true⟩]) := by
  have hE : Evo ι.length base ι S w (ι ++ [w.heap.size]) S (w.alloc (.cells (vs ++ more).toArray t fz)) := Evo.alloc hh.bas (fun b o => hh.stb b o) _ _
  have hbl : ∀ {b : Nat} {o : Obj}, w.heap[b]? = some o → b < w.heap.size := fun {b o} k => by
    rcases Nat.lt_or_ge b w.heap.size with q | q
    · exact q
    · rw [Array.getElem?_eq_none q] at k; cases k
  have hnew : (w.alloc (.cells (vs ++ more).toArray t fz)).heap[w.heap.size]? = some (.cells (vs ++ more).toArray t fz) := by
    show (w.heap.push _)[w.heap.size]? = _
    simp
  have hl := r.length
  have hf' : ∀ o, o < (vs ++ more).toArray.size → ¬ (fz.1 ≤ o ∧ o < fz.2) := by intro o ho; exact hf o (by simpa using ho)
  refine ⟨by simp [hh.len], fun id x e => ?_, fun i j x y b ei ej hi hj => ?_, fun b o s => ?_, ?_⟩
  · rcases Nat.lt_or_ge id h.length with hid | hid
    · rw [List.getElem?_append_left hid] at e
      obtain ⟨b, arr, f, h1, h2, h3, h4, h5, h6, h7, h8, h9⟩ := hh.live id x e
      refine ⟨b, arr, f, by rw [List.getElem?_append_left (by rw [hh.len]; exact hid)]; exact h1, h2, ?_, h4, h5, fun i c e => ?_, h7, h8, h9⟩
      · rw [show (w.alloc (.cells (vs ++ more).toArray t fz)).heap[b]? = w.heap[b]? from Below.heap_alloc w _ b (hbl h3)]; exact h3
      · obtain ⟨v, e1, e2⟩ := h6 i c e
        exact ⟨v, e1, Rep.evo hE (Nat.le_refl _) c v e2⟩
    · rw [List.getElem?_append_right hid] at e
      have hid' : id = h.length := by
        rcases Nat.lt_or_ge (id - h.length) 1 with q | q
        · omega
        · rw [List.getElem?_eq_none (by simpa using q)] at e; cases e
      subst hid'
      simp only [Nat.sub_self, List.getElem?_cons_zero, Option.some.injEq] at e
      subst e
      refine ⟨w.heap.size, (vs ++ more).toArray, fz, by rw [List.getElem?_append_right (by rw [hh.len]; exact Nat.le_refl _)]; simp [hh.len], hh.bas, hnew, hf', by simp [hl] <;> omega, fun i c e => ?_, fun _ o s => ?_, fun o s => ?_, fun q => by cases q⟩
      · obtain ⟨v, e1, e2⟩ := r.get i c e
        obtain ⟨hi, _⟩ := List.getElem?_eq_some_iff.1 e1
        exact ⟨v, by simp only [List.getElem?_toArray]; rw [List.getElem?_append_left hi]; exact e1, Rep.evo hE (Nat.le_refl _) c v e2⟩
      · have := hh.stb _ _ s; omega
      · have := hh.stb _ _ s; omega
  · have old : ∀ {i : Nat} {x : Blk}, (h ++ [some ⟨t, cs, true⟩])[i]? = some (some x) → (ι ++ [w.heap.size])[i]? = some b → (i < h.length ∧ h[i]? = some (some x) ∧ ι[i]? = some b ∧ b < w.heap.size) ∨ (i = h.length ∧ b = w.heap.size) := by
      intro i x e f
      rcases Nat.lt_or_ge i h.length with hid | hid
      · rw [List.getElem?_append_left hid] at e
        rw [List.getElem?_append_left (by rw [hh.len]; exact hid)] at f
        obtain ⟨b', arr, fq, h1, h2, h3, _⟩ := hh.live i x e
        rw [f] at h1; cases h1
        exact .inl ⟨hid, e, f, hbl h3⟩
      · rw [List.getElem?_append_right (by rw [hh.len]; exact hid)] at f
        rw [List.getElem?_append_right hid] at e
        rcases Nat.lt_or_ge (i - h.length) 1 with q | q
        · have : i = h.length := by omega
          subst this
          simp only [hh.len, Nat.sub_self, List.getElem?_cons_zero, Option.some.injEq] at f
          exact .inr ⟨rfl, f.symm⟩
        · rw [List.getElem?_eq_none (by simpa using q)] at e; cases e
    rcases old ei hi with ⟨_, a1, a2, a3⟩ | ⟨rfl, a2⟩ <;> rcases old ej hj with ⟨_, b1, b2, b3⟩ | ⟨rfl, b2⟩
    · exact hh.inj i j x y b a1 b1 a2 b2
    · omega
    · omega
    · rfl
  · have := hh.stb b o s
    show b < (w.heap.push _).size
    simp; omega
  · have := hh.bas
    show base ≤ (w.heap.push _).size
    simp; omega

theorem heap_setCell_at {w : World} {b : Nat} {arr : Array Value} {t : TypeId} {fz : Nat × Nat} (h : w.heap[b]? = some (.cells arr t fz)) (o : Nat) (v : Value) :
    (w.setCell ⟨b, o, none⟩ v).heap[b]? = some (.cells (arr.setIfInBounds o v) t fz) := by
  simp only [World.setCell, Array.getElem?_modify, if_true, h, Option.map_some]
  simp

theorem shape_setCell {w : World} (a : Addr) (v : Value) (b : Nat) : (w.setCell a v).shape? b = w.shape? b := by
  unfold World.shape? World.setCell
  simp only [Array.getElem?_modify]
  by_cases hb : a.block = b
  · simp only [hb, if_true]
    cases h : w.heap[b]? with
    | none => rfl
    | some o => cases o <;> simp; split <;> simp
  · simp only [hb, if_false]

/-- One cell of a block of the call's own, written. -/
theorem HOK.set {base : Nat} {ι : List Nat} {S : Stab} {w : World} {h : Heap} (hh : HOK base ι S w h) {id : Nat} {x : Blk} (e : h[id]? = some (some x)) (hw : x.wr = true) {b : Nat} (hb : ι[id]? = some b)
    {o : Nat} (ho : o < x.cells.length) {c : AV} {v : Value} (r : Rep ι S w c v) :
    Evo ι.length base ι S w ι S (w.setCell ⟨b, o, none⟩ v) ∧ HOK base ι S (w.setCell ⟨b, o, none⟩ v) (h.set id (some { x with cells := x.cells.set o c })) := by
  obtain ⟨b', arr, fz, h1, h2, h3, h4, h5, h6, h7, h8, h9⟩ := hh.live id x e
  rw [hb] at h1; cases h1
  have hE : Evo ι.length base ι S w ι S (w.setCell ⟨b, o, none⟩ v) := by
    refine ⟨fun _ _ => rfl, fun _ _ h => h, fun _ _ h => .inl h, fun b' o' s => ?_, fun b' y hy => by rw [shape_setCell]; exact hy, (Below.refl _ _).setCell h2 v⟩
    have hne : b' ≠ b := fun q => h7 hw o' (q ▸ s)
    exact World.cell?_of_block (w := w) (Below.heap_setCell w _ v b' hne)
  refine ⟨hE, ⟨by simp [hh.len], fun id' y ey => ?_, fun i j y z b' ei ej hi hj => ?_, fun b' o' s => by have := hh.stb b' o' s; simpa [World.setCell] using this, by have := hh.bas; simpa [World.setCell] using this⟩⟩
  · by_cases hid : id' = id
    · subst hid
      have hlt : id' < h.length := (List.getElem?_eq_some_iff.1 e).1
      rw [List.getElem?_set_self hlt] at ey
      simp only [Option.some.injEq] at ey
      subst ey
      refine ⟨b, arr.setIfInBounds o v, fz, hb, h2, heap_setCell_at h3 o v, by simpa using h4, by simpa using h5, fun i d ed => ?_, h7, by simpa using h8, fun q => by rw [hw] at q; cases q⟩
      by_cases hi : i = o
      · subst hi
        simp only [List.getElem?_set_self ho, Option.some.injEq] at ed
        subst ed
        refine ⟨v, ?_, Rep.evo hE (Nat.le_refl _) c v r⟩
        rw [Array.getElem?_setIfInBounds]; simp; omega
      · have ed' : x.cells[i]? = some d := by rw [List.getElem?_set_ne (Ne.symm hi)] at ed; exact ed
        obtain ⟨u, e1, e2⟩ := h6 i d ed'
        exact ⟨u, by rw [Array.getElem?_setIfInBounds_ne (Ne.symm hi)]; exact e1, Rep.evo hE (Nat.le_refl _) d u e2⟩
    · rw [List.getElem?_set_ne (Ne.symm hid)] at ey
      obtain ⟨b', arr', f', k1, k2, k3, k4, k5, k6, k7, k8, k9⟩ := hh.live id' y ey
      have hne : b' ≠ b := fun q => hid (hh.inj id' id y x b ey e (q ▸ k1) hb)
      refine ⟨b', arr', f', k1, k2, by rw [Below.heap_setCell w _ v b' hne]; exact k3, k4, k5, fun i d ed => ?_, k7, k8, k9⟩
      obtain ⟨u, e1, e2⟩ := k6 i d ed
      exact ⟨u, e1, Rep.evo hE (Nat.le_refl _) d u e2⟩
  · have low : ∀ {i : Nat} {y : Blk}, (h.set id (some { x with cells := x.cells.set o c }))[i]? = some (some y) → ∃ z, h[i]? = some (some z) := by
      intro i y ey
      by_cases hi : i = id
      · subst hi; exact ⟨x, e⟩
      · rw [List.getElem?_set_ne (Ne.symm hi)] at ey; exact ⟨y, ey⟩
    obtain ⟨y', ey'⟩ := low ei
    obtain ⟨z', ez'⟩ := low ej
    exact hh.inj i j y' z' b' ey' ez' hi hj

def setAll : List AV → Nat → List AV → List AV
  | cells, _, [] => cells
  | cells, o, c :: cs => setAll (cells.set o c) (o + 1) cs
theorem setAll_length : ∀ (cs cells : List AV) (o : Nat), (setAll cells o cs).length = cells.length
  | [], _, _ => rfl
  | c :: cs, cells, o => by rw [setAll, setAll_length cs]; simp

theorem addr_add (b o i : Nat) : (⟨b, o, none⟩ : Addr).add i = ⟨b, o + i, none⟩ := by
  unfold Addr.add; split
  · simp_all
  · rfl

theorem cell_at {w : World} {b : Nat} {arr : Array Value} {t : TypeId} {fz : Nat × Nat} (h : w.heap[b]? = some (.cells arr t fz)) (o : Nat) : w.cell? ⟨b, o, none⟩ = arr[o]? := by
  unfold World.cell?; simp [h]
theorem frozen_at {w : World} {b : Nat} {arr : Array Value} {t : TypeId} {fz : Nat × Nat} (h : w.heap[b]? = some (.cells arr t fz)) (o : Nat) : w.frozen? ⟨b, o, none⟩ = (decide (fz.1 ≤ o) && decide (o < fz.2)) := by
  unfold World.frozen?; simp [h]

/-- Cells of a block of the call's own, written one behind the other. -/
theorem run_storeCells {P : Program} {base : Nat} {ι : List Nat} {S : Stab} : ∀ (vs : List Value) (cs : List AV) (w : World) (h : Heap), HOK base ι S w h → ∀ {id : Nat} {x : Blk} {b : Nat}, h[id]? = some (some x) → x.wr = true → ι[id]? = some b →
    ∀ (o i : Nat), o + i + cs.length ≤ x.cells.length → RepL ι S w cs vs → (∀ u ∈ vs, u.oneCell' = true) →
    ∃ w', (storeCells ⟨b, o, none⟩ vs i).run P w = .ok () w' ∧ Evo ι.length base ι S w ι S w' ∧ HOK base ι S w' (h.set id (some { x with cells := setAll x.cells (o + i) cs }))
  | [], cs, w, h, hh, id, x, b, e, hw, hb, o, i, hl, r, hv => by
    have : cs = [] := by have := r.length; simpa using this
    subst this
    refine ⟨w, rfl, Evo.refl _ _ _ _ _, ?_⟩
    have hlt : id < h.length := (List.getElem?_eq_some_iff.1 e).1
    have : h.set id (some { x with cells := setAll x.cells (o + i) [] }) = h := by
      rw [setAll]
      refine List.ext_getElem? fun j => ?_
      by_cases hj : j = id
      · subst hj; rw [List.getElem?_set_self hlt, e]
      · rw [List.getElem?_set_ne (Ne.symm hj)]
    rw [this]; exact hh
  | v :: vs, [], w, h, hh, id, x, b, e, hw, hb, o, i, hl, r, hv => by simp at r
  | v :: vs, c :: cs, w, h, hh, id, x, b, e, hw, hb, o, i, hl, r, hv => by
    simp only [RepL_cons] at r
    simp only [List.length_cons] at hl
    have ho : o + i < x.cells.length := by omega
    obtain ⟨hE, hH⟩ := hh.set e hw hb ho r.1
    have hlt : id < h.length := (List.getElem?_eq_some_iff.1 e).1
    obtain ⟨b', arr, fz, h1, h2, h3, h4, h5, h6, h7, h8, h9⟩ := hh.live id x e
    rw [hb] at h1; cases h1
    have hrun : (store ((⟨b, o, none⟩ : Addr).add i) v).run P w = .ok () (w.setCell ⟨b, o + i, none⟩ v) := by
      rw [addr_add, run_store P w _ v _ (hv v (by simp)), cell_at h3, frozen_at h3]
      have : arr[o + i]? = some arr[o + i] := Array.getElem?_eq_getElem (by omega)
      rw [this]
      have := h4 (o + i) (by omega)
      simp only [Bool.and_eq_true, decide_eq_true_eq, this, if_false]
    obtain ⟨w', k1, k2, k3⟩ := run_storeCells vs cs (w.setCell ⟨b, o + i, none⟩ v) _ hH (id := id) (x := { x with cells := x.cells.set (o + i) c }) (b := b) (by rw [List.getElem?_set_self hlt]) hw hb o (i + 1) (by simp; omega)
      (RepL.evo hE (Nat.le_refl _) cs vs r.2) (fun u hu => hv u (by simp [hu]))
    refine ⟨w', ?_, hE.trans k2, ?_⟩
    · rw [storeCells]; simp only [Sem.run_bind, hrun, Result.andThen]; exact k1
    · simp only [List.set_set] at k3
      rw [setAll]; exact k3
end Go.Aw
