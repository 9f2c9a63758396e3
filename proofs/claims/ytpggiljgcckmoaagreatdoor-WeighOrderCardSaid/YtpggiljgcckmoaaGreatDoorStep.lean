/-
  What one operation does to an abstract state: words for a condition ('i..'), and that the model's operation meets it.
  No conditions: definitions and lemmas over any program.
-/
import Derived.Test.YtpggiljgcckmoaaGreatDoorAw
namespace Go.Aw
open Go Go.RowKit
variable [Laid]

/-! ### Values -/
def constS : Value → AV
  | .string s => if s.size ≤ maxLen then .str s.data.toList else .any
  | x => .v x
def constAV : Value → AV
  | .agg cs => .agg (cs.toList.map constS)
  | x => constS x

omit [Laid] in
theorem Rep_constS (ι : List Ix) (S : Stab) (w : World) (x : Value) : Rep ι S w (constS x) x := by
  unfold constS
  split
  · split
    · rename_i s h
      cases s with
      | mk d => simpa [ByteArray.size] using h
    · simp
  · simp
omit [Laid] in
theorem Rep_constAV (ι : List Ix) (S : Stab) (w : World) (x : Value) : Rep ι S w (constAV x) x := by
  unfold constAV
  split
  · rename_i cs
    rw [Rep]
    refine ⟨cs.toList, by simp, RepL.mk (by simp) fun i a v e f => ?_⟩
    simp only [List.getElem?_map, f, Option.map_some, Option.some.injEq] at e
    subst e; exact Rep_constS ι S w v
  · exact Rep_constS ι S w x

def evalA (fr : Fr) : Operand → AV
  | .tmp t => getF fr t
  | .const v => constAV v
  | .global g => match Laid.tab g with | some cs => .ip cs | none => .any
  | .func f => .fn (.func f) [] []

theorem ROK.eval {base : Nat} {ι : List Ix} {S : Stab} {a : Act} {w : World} {st : St} (hr : ROK base ι S a w st) (x : Operand) : Rep ι S w (evalA st.fr x) (a.eval x) := by
  cases x with
  | tmp t => exact hr.get t
  | const v => exact Rep_constAV ι S w v
  | global g =>
    simp only [evalA, Act.eval]
    split
    · rename_i cs e
      rw [Rep]
      exact ⟨g, 0, rfl, RepC.pure cs g 0 (Laid.pure g cs e) (hr.hp.gl g cs e).1⟩
    · simp
  | func f => simp only [evalA, Act.eval]; rw [Rep]; exact ⟨[], [], rfl, by simp, by simp⟩

/-- The cells of a value. -/
def vcells : AV → List AV
  | .agg cs => cs
  | x => [x]
/-- It is one cell, for sure. -/
def scal : AV → Bool
  | .v x => x.oneCell'
  | .any | .agg _ | .tup _ => false
  | _ => true
omit [Laid] in
theorem scal_one {ι : List Ix} {S : Stab} {w : World} {a : AV} {v : Value} (h : scal a = true) (r : Rep ι S w a v) : v.oneCell' = true := by
  cases a <;> simp only [scal, Bool.false_eq_true] at h
  case v x => simp at r; subst r; exact h
  case str l => simp at r; rw [r.1]; rfl
  case emp => rw [Rep] at r; obtain ⟨a, rfl⟩ := r; rfl
  case sl => rw [Rep] at r; obtain ⟨a, cap, rfl, _⟩ := r; rfl
  case sb => rw [Rep] at r; obtain ⟨⟨a, cap, rfl, _⟩, _⟩ := r; rfl
  case ip => rw [Rep] at r; obtain ⟨a, cap, rfl, _⟩ := r; rfl
  case own => rw [Rep] at r; obtain ⟨b, a, cap, n, ty, _, rfl, _⟩ := r; rfl
  case op => rw [Rep] at r; obtain ⟨b, _, rfl⟩ := r; rfl
  case fn => rw [Rep] at r; obtain ⟨b, c, rfl, _⟩ := r; rfl
  case ifc => rw [Rep] at r; obtain ⟨b, rfl, _⟩ := r; rfl
omit [Laid] in
theorem one_cells {v : Value} (h : v.oneCell' = true) : v.cells = #[v] := by cases v <;> first | rfl | cases h

omit [Laid] in
theorem Rep_vcells {ι : List Ix} {S : Stab} {w : World} {a : AV} {v : Value} (r : Rep ι S w a v) (h : (vcells a).all scal = true) : ∃ vs : List Value, v.cells = vs.toArray ∧ RepL ι S w (vcells a) vs ∧ ∀ u ∈ vs, u.oneCell' = true := by
  have key : ∀ {cs : List AV} {vs : List Value}, RepL ι S w cs vs → cs.all scal = true → ∀ u ∈ vs, u.oneCell' = true := by
    intro cs
    induction cs with
    | nil => intro vs h _ u hu; simp at h; subst h; cases hu
    | cons c cs ih =>
      intro vs h hs u hu
      cases vs with
      | nil => simp at h
      | cons v vs =>
        simp at h hs
        simp only [List.mem_cons] at hu
        rcases hu with rfl | hu
        · exact scal_one hs.1 h.1
        · exact ih h.2 (by simpa using hs.2) u hu
  cases a
  case agg cs =>
    rw [Rep] at r
    obtain ⟨vs, rfl, k⟩ := r
    exact ⟨vs, rfl, k, key k h⟩
  all_goals
    simp only [vcells, List.all_cons, List.all_nil, Bool.and_true] at h
    have := scal_one h r
    exact ⟨[v], by rw [one_cells this], (RepL_cons _ _ _ _).2 ⟨r, by simp⟩, by simpa using this⟩

/-! ### Memory -/
omit [Laid] in
theorem shape_alloc {w : World} (o : Obj) {b : Nat} {x : TypeId × Nat} (h : w.shape? b = some x) : (w.alloc o).shape? b = some x := by
  unfold World.shape? at *
  have hb : b < w.heap.size := by
    rcases Nat.lt_or_ge b w.heap.size with k | k
    · exact k
    · rw [Array.getElem?_eq_none k] at h; cases h
  rw [show (w.alloc o).heap[b]? = w.heap[b]? from Below.heap_alloc w o b hb]; exact h

theorem HOK.lt {base : Nat} {ι : List Ix} {S : Stab} {w : World} {h : Heap} (hh : HOK base ι S w h) {b o : Nat} (s : S b o) : b < w.heap.size := hh.stb b o s

omit [Laid] in
theorem Evo.alloc {base : Nat} {ι : List Ix} {S : Stab} {w : World} (hb : base ≤ w.heap.size) (hs : ∀ b o, S b o → b < w.heap.size) (o : Obj) (k : List Ix) : Evo ι.length base ι S w (ι ++ k) S (w.alloc o) :=
  ⟨fun i hi => IxLe.of_eq (List.getElem?_append_left hi), fun _ _ h => h, fun _ _ h => .inl h,
    fun b f h => World.cell?_of_block (w := w) (Below.heap_alloc w o b (hs b f h)), fun _ _ h => shape_alloc o h, (Below.refl _ _).alloc hb o⟩

omit [Laid] in
theorem lt_heap {w : World} {b : Nat} {o : Obj} (k : w.heap[b]? = some o) : b < w.heap.size := by
  rcases Nat.lt_or_ge b w.heap.size with q | q
  · exact q
  · rw [Array.getElem?_eq_none q] at k; cases k

/-- One place of the call's own memory turned, or a new one; the others are as they were. -/
theorem HOK.turn {base : Nat} {ι ι' : List Ix} {S S' : Stab} {w w' : World} {h h' : Heap} (hh : HOK base ι S w h) (hE : Evo ι.length base ι S w ι' S' w') (hlen : ι'.length = h'.length) (T : Nat)
    (old : ∀ i, i ≠ T → alive h'[i]? → h'[i]? = h[i]? ∧ ι'[i]? = ι[i]? ∧ ∀ b, ixB ι[i]? b → b < w.heap.size → w'.heap[b]? = w.heap[b]? ∧ ∀ o, S' b o → S b o)
    (newb : ∀ x, h'[T]? = some (.blk x) → ∃ b arr fz, ι'[T]? = some (.blk b) ∧ base ≤ b ∧ w'.heap[b]? = some (.cells arr x.ty fz) ∧ (∀ o, o < arr.size → ¬ (fz.1 ≤ o ∧ o < fz.2)) ∧ x.cells.length ≤ arr.size ∧
      (∀ (i : Nat) (c : AV), x.cells[i]? = some c → ∃ v, arr[i]? = some v ∧ Rep ι' S' w' c v) ∧ (x.wr = true → ∀ o, ¬ S' b o) ∧ (∀ o, S' b o → o < x.cells.length) ∧ (x.wr = false → ∀ o, o < x.cells.length → S' b o))
    (newt : ∀ e sz n, h'[T]? = some (.tok e sz n) → ∃ v, ι'[T]? = some (.tok n v) ∧ TokOK base S' w' e sz n v)
    (hinj : ∀ j b, j ≠ T → alive h'[T]? → alive h'[j]? → ixB ι'[T]? b → ixB ι'[j]? b → False)
    (hstb : ∀ b o, S' b o → b < w'.heap.size) (hbas : base ≤ w'.heap.size) : HOK base ι' S' w' h' := by
  refine ⟨hlen, fun id x e => ?_, fun id t sz n e => ?_, fun i j b ai aj hi hj => ?_, hstb, hbas, hh.gl.evo hE⟩
  · by_cases q : id = T
    · subst q; exact newb x e
    · obtain ⟨o1, o2, o3⟩ := old id q (by rw [e]; exact trivial)
      obtain ⟨b, arr, fz, h1, h2, h3, h4, h5, h6, h7, h8, h9⟩ := hh.live id x (o1 ▸ e)
      obtain ⟨p1, p2⟩ := o3 b (by rw [h1]; rfl) (lt_heap h3)
      exact ⟨b, arr, fz, o2.trans h1, h2, p1.trans h3, h4, h5, fun i c ec => let ⟨v, e1, e2⟩ := h6 i c ec; ⟨v, e1, Rep.evo hE (Nat.le_refl _) c v e2⟩,
        fun hw o ho => h7 hw o (p2 o ho), fun o ho => h8 o (p2 o ho), fun hw o ho => hE.sub _ _ (h9 hw o ho)⟩
  · by_cases q : id = T
    · subst q; exact newt t sz n e
    · obtain ⟨o1, o2, o3⟩ := old id q (by rw [e]; exact trivial)
      obtain ⟨v, h1, h2⟩ := hh.tok id t sz n (o1 ▸ e)
      exact ⟨v, o2.trans h1, h2.keep fun b hb _ hlt => o3 b (by rw [h1]; exact hb) hlt⟩
  · by_cases q : i = T
    · by_cases r : j = T
      · rw [q, r]
      · subst q; exact (hinj j b r ai aj hi hj).elim
    · by_cases r : j = T
      · subst r; exact (hinj i b q aj ai hj hi).elim
      · obtain ⟨o1, o2, _⟩ := old i q ai
        obtain ⟨p1, p2, _⟩ := old j r aj
        exact hh.inj i j b (o1 ▸ ai) (p1 ▸ aj) (o2 ▸ hi) (p2 ▸ hj)

/-- A block of the call's own lies in a block of the memory. -/
theorem HOK.ixlt {base : Nat} {ι : List Ix} {S : Stab} {w : World} {h : Heap} (hh : HOK base ι S w h) {i b : Nat} (ha : alive h[i]?) (hb : ixB ι[i]? b) : base ≤ b ∧ b < w.heap.size := by
  cases e : h[i]? with
  | none => rw [e] at ha; exact ha.elim
  | some x =>
    cases x with
    | dead => rw [e] at ha; exact ha.elim
    | blk x =>
      obtain ⟨c, arr, fz, h1, h2, h3, _⟩ := hh.live i x e
      rw [h1] at hb
      have : c = b := hb
      subst this; exact ⟨h2, lt_heap h3⟩
    | tok t sz n =>
      obtain ⟨v, h1, a, cap, ev, _, _, h4⟩ := hh.tok i t sz n e
      rw [h1] at hb
      obtain ⟨a', l', cap', ev', hb, hc⟩ := hb
      rw [ev] at ev'; cases ev'
      rcases h4 with h4 | ⟨c, arr, fz, ea, k1, k2, _⟩
      · exact absurd h4 hc
      · cases ea; simp only at hb; subst hb; exact ⟨k1, lt_heap k2⟩

omit [Laid] in
/-- Room: the places that are there are there. -/
theorem get_app {α : Type} {l k : List α} {i : Nat} (h : i < l.length) : (l ++ k)[i]? = l[i]? := List.getElem?_append_left h
omit [Laid] in
theorem get_one {α : Type} {l : List α} {x : α} : (l ++ [x])[l.length]? = some x := by simp
omit [Laid] in
theorem get_off {α : Type} {l : List α} {x : α} {i : Nat} (h : i ≠ l.length) : (l ++ [x])[i]? = l[i]? := by
  rcases Nat.lt_or_ge i l.length with q | q
  · exact get_app q
  · rw [List.getElem?_eq_none (by simp; omega), List.getElem?_eq_none q]

/-- A new place behind all others. -/
theorem HOK.push {base : Nat} {ι : List Ix} {S S' : Stab} {w w' : World} {h : Heap} (hh : HOK base ι S w h) (ix : Ix) (en : Ent) (hE : Evo ι.length base ι S w (ι ++ [ix]) S' w')
    (same : ∀ b, b < w.heap.size → base ≤ b → w'.heap[b]? = w.heap[b]? ∧ ∀ o, S' b o → S b o)
    (newb : ∀ x, en = .blk x → ∃ b arr fz, ix = .blk b ∧ base ≤ b ∧ w'.heap[b]? = some (.cells arr x.ty fz) ∧ (∀ o, o < arr.size → ¬ (fz.1 ≤ o ∧ o < fz.2)) ∧ x.cells.length ≤ arr.size ∧
      (∀ (i : Nat) (c : AV), x.cells[i]? = some c → ∃ v, arr[i]? = some v ∧ Rep (ι ++ [ix]) S' w' c v) ∧ (x.wr = true → ∀ o, ¬ S' b o) ∧ (∀ o, S' b o → o < x.cells.length) ∧ (x.wr = false → ∀ o, o < x.cells.length → S' b o))
    (newt : ∀ e sz n, en = .tok e sz n → ∃ v, ix = .tok n v ∧ TokOK base S' w' e sz n v)
    (hnew : en ≠ .dead → ∀ b, ixB (some ix) b → w.heap.size ≤ b) (hstb : ∀ b o, S' b o → b < w'.heap.size) : HOK base (ι ++ [ix]) S' w' (h ++ [en]) := by
  have hl := hh.len
  refine hh.turn hE (by simp [hl]) h.length (fun i hi ha => ?_) (fun x e => ?_) (fun e sz n q => ?_) (fun j b hj aT aj hi hj' => ?_) hstb (Nat.le_trans hh.bas hE.bel.size)
  · have hi' : i ≠ ι.length := by rw [hl]; exact hi
    refine ⟨get_off hi, get_off hi', fun b hb hlt => ?_⟩
    rw [get_off hi] at ha
    exact same b hlt (hh.ixlt ha hb).1
  · rw [get_one] at e
    obtain ⟨b, arr, fz, h1, h2⟩ := newb x (by simpa using e)
    exact ⟨b, arr, fz, by rw [← hl, get_one, h1], h2⟩
  · rw [get_one] at q
    obtain ⟨v, h1, h2⟩ := newt e sz n (by simpa using q)
    exact ⟨v, by rw [← hl, get_one, h1], h2⟩
  · rw [← hl, get_one] at hi
    rw [get_off hj] at aj
    rw [get_off (by rw [hl]; exact hj)] at hj'
    have hd : en ≠ .dead := by rintro rfl; rw [get_one] at aT; exact aT
    have h1 := hnew hd b hi
    have h2 := (hh.ixlt aj hj').2
    omega

/-- A new block, told by an abstract one. -/
theorem HOK.alloc {base : Nat} {ι : List Ix} {S : Stab} {w : World} {h : Heap} (hh : HOK base ι S w h) (t : TypeId) (cs : List AV) (vs : List Value) (r : RepL ι S w cs vs) (fz : Nat × Nat := (0, 0)) (more : List Value := [])
    (hf : ∀ o, o < vs.length + more.length → ¬ (fz.1 ≤ o ∧ o < fz.2)) :
    HOK base (ι ++ [.blk w.heap.size]) S (w.alloc (.cells (vs ++ more).toArray t fz)) (h ++ [.blk ⟨t, cs, true⟩]) := by
  have hE : Evo ι.length base ι S w (ι ++ [.blk w.heap.size]) S (w.alloc (.cells (vs ++ more).toArray t fz)) := Evo.alloc hh.bas (fun b o => hh.stb b o) _ _
  have hnew : (w.alloc (.cells (vs ++ more).toArray t fz)).heap[w.heap.size]? = some (.cells (vs ++ more).toArray t fz) := by
    show (w.heap.push _)[w.heap.size]? = _
    simp
  have hl := r.length
  have hf' : ∀ o, o < (vs ++ more).toArray.size → ¬ (fz.1 ≤ o ∧ o < fz.2) := by intro o ho; exact hf o (by simpa using ho)
  refine hh.push _ _ hE (fun b hb _ => ⟨Below.heap_alloc w _ b hb, fun _ q => q⟩) (fun x e => ?_) (fun _ _ _ e => by cases e) (fun _ b hb => ?_) (fun b o s => ?_)
  · cases e
    refine ⟨w.heap.size, (vs ++ more).toArray, fz, rfl, hh.bas, hnew, hf', by simp [hl] <;> omega, fun i c e => ?_, fun _ o s => ?_, fun o s => ?_, fun q => by cases q⟩
    · obtain ⟨v, e1, e2⟩ := r.get i c e
      obtain ⟨hi, _⟩ := List.getElem?_eq_some_iff.1 e1
      exact ⟨v, by simp only [List.getElem?_toArray]; rw [List.getElem?_append_left hi]; exact e1, Rep.evo hE (Nat.le_refl _) c v e2⟩
    · have := hh.stb _ _ s; omega
    · have := hh.stb _ _ s; omega
  · have : w.heap.size = b := hb
    omega
  · have := hh.stb b o s
    show b < (w.heap.push _).size
    simp; omega

omit [Laid] in
theorem heap_setCell_at {w : World} {b : Nat} {arr : Array Value} {t : TypeId} {fz : Nat × Nat} (h : w.heap[b]? = some (.cells arr t fz)) (o : Nat) (v : Value) :
    (w.setCell ⟨b, o, none⟩ v).heap[b]? = some (.cells (arr.setIfInBounds o v) t fz) := by
  simp only [World.setCell, Array.getElem?_modify, if_true, h, Option.map_some]
  simp

omit [Laid] in
theorem shape_setCell {w : World} (a : Addr) (v : Value) (b : Nat) : (w.setCell a v).shape? b = w.shape? b := by
  unfold World.shape? World.setCell
  simp only [Array.getElem?_modify]
  by_cases hb : a.block = b
  · simp only [hb, if_true]
    cases h : w.heap[b]? with
    | none => rfl
    | some o => cases o <;> simp; split <;> simp
  · simp only [hb, if_false]

/-- One cell of a block of the call's own, written. -/
theorem HOK.set {base : Nat} {ι : List Ix} {S : Stab} {w : World} {h : Heap} (hh : HOK base ι S w h) {id : Nat} {x : Blk} (e : h[id]? = some (.blk x)) (hw : x.wr = true) {b : Nat} (hb : ι[id]? = some (.blk b))
    {o : Nat} (ho : o < x.cells.length) {c : AV} {v : Value} (r : Rep ι S w c v) :
    Evo ι.length base ι S w ι S (w.setCell ⟨b, o, none⟩ v) ∧ HOK base ι S (w.setCell ⟨b, o, none⟩ v) (h.set id (.blk { x with cells := x.cells.set o c })) := by
  obtain ⟨b', arr, fz, h1, h2, h3, h4, h5, h6, h7, h8, h9⟩ := hh.live id x e
  rw [hb] at h1; cases h1
  have hlt : id < h.length := (List.getElem?_eq_some_iff.1 e).1
  have hE : Evo ι.length base ι S w ι S (w.setCell ⟨b, o, none⟩ v) := by
    refine ⟨fun _ _ => IxLe.refl _, fun _ _ h => h, fun _ _ h => .inl h, fun b' o' s => ?_, fun b' y hy => by rw [shape_setCell]; exact hy, (Below.refl _ _).setCell h2 v⟩
    have hne : b' ≠ b := fun q => h7 hw o' (q ▸ s)
    exact World.cell?_of_block (w := w) (Below.heap_setCell w _ v b' hne)
  refine ⟨hE, hh.turn hE (by simp [hh.len]) id (fun i hi ha => ?_) (fun y ey => ?_) (fun t sz n q => ?_) (fun j c' hj _ aj hi hj' => ?_) (fun b' o' s => by have := hh.stb b' o' s; simpa [World.setCell] using this) (by have := hh.bas; simpa [World.setCell] using this)⟩
  · rw [List.getElem?_set_ne (Ne.symm hi)] at ha ⊢
    refine ⟨rfl, rfl, fun c' hc _ => ⟨Below.heap_setCell w _ v c' fun q => ?_, fun _ q => q⟩⟩
    simp only at q
    subst q
    exact hi (hh.inj i id c' ha (by rw [e]; exact trivial) hc (by rw [hb]; rfl))
  · rw [List.getElem?_set_self hlt] at ey
    cases ey
    refine ⟨b, arr.setIfInBounds o v, fz, hb, h2, heap_setCell_at h3 o v, by simpa using h4, by simpa using h5, fun i d ed => ?_, h7, by simpa using h8, fun q => by rw [hw] at q; cases q⟩
    by_cases hi : i = o
    · subst hi
      simp only [List.getElem?_set_self ho, Option.some.injEq] at ed
      subst ed
      refine ⟨v, ?_, Rep.evo hE (Nat.le_refl _) c v r⟩
      rw [Array.getElem?_setIfInBounds]; simp; omega
    · have ed' : x.cells[i]? = some d := by rw [List.getElem?_set_ne (Ne.symm hi)] at ed; exact ed
      obtain ⟨u, e1, e2⟩ := h6 i d ed'
      exact ⟨u, by rw [Array.getElem?_setIfInBounds_ne (Ne.symm hi)]; exact e1, Rep.evo hE (Nat.le_refl _) d u e2⟩
  · rw [List.getElem?_set_self hlt] at q; cases q
  · rw [List.getElem?_set_ne (Ne.symm hj)] at aj
    exact hj (hh.inj j id c' aj (by rw [e]; exact trivial) hj' hi)

def setAll : List AV → Nat → List AV → List AV
  | cells, _, [] => cells
  | cells, o, c :: cs => setAll (cells.set o c) (o + 1) cs
omit [Laid] in
theorem setAll_length : ∀ (cs cells : List AV) (o : Nat), (setAll cells o cs).length = cells.length
  | [], _, _ => rfl
  | c :: cs, cells, o => by rw [setAll, setAll_length cs]; simp

omit [Laid] in
theorem addr_add (b o i : Nat) : (⟨b, o, none⟩ : Addr).add i = ⟨b, o + i, none⟩ := by
  unfold Addr.add; split
  · simp_all
  · rfl

omit [Laid] in
theorem cell_at {w : World} {b : Nat} {arr : Array Value} {t : TypeId} {fz : Nat × Nat} (h : w.heap[b]? = some (.cells arr t fz)) (o : Nat) : w.cell? ⟨b, o, none⟩ = arr[o]? := by
  unfold World.cell?; simp [h]
omit [Laid] in
theorem frozen_at {w : World} {b : Nat} {arr : Array Value} {t : TypeId} {fz : Nat × Nat} (h : w.heap[b]? = some (.cells arr t fz)) (o : Nat) : w.frozen? ⟨b, o, none⟩ = (decide (fz.1 ≤ o) && decide (o < fz.2)) := by
  unfold World.frozen?; simp [h]

/-- Cells of a block of the call's own, written one behind the other. -/
theorem run_storeCells {P : Program} {base : Nat} {ι : List Ix} {S : Stab} : ∀ (vs : List Value) (cs : List AV) (w : World) (h : Heap), HOK base ι S w h → ∀ {id : Nat} {x : Blk} {b : Nat}, h[id]? = some (.blk x) → x.wr = true → ι[id]? = some (.blk b) →
    ∀ (o i : Nat), o + i + cs.length ≤ x.cells.length → RepL ι S w cs vs → (∀ u ∈ vs, u.oneCell' = true) →
    ∃ w', (storeCells ⟨b, o, none⟩ vs i).run P w = .ok () w' ∧ Evo ι.length base ι S w ι S w' ∧ HOK base ι S w' (h.set id (.blk { x with cells := setAll x.cells (o + i) cs }))
  | [], cs, w, h, hh, id, x, b, e, hw, hb, o, i, hl, r, hv => by
    have : cs = [] := by have := r.length; simpa using this
    subst this
    refine ⟨w, rfl, Evo.refl _ _ _ _ _, ?_⟩
    have hlt : id < h.length := (List.getElem?_eq_some_iff.1 e).1
    have : h.set id (.blk { x with cells := setAll x.cells (o + i) [] }) = h := by
      rw [setAll]
      refine List.ext_getElem? fun j => ?_
      by_cases hj : j = id
      · subst hj; rw [List.getElem?_set_self hlt, e]
      · rw [List.getElem?_set_ne (Ne.symm hj)]
    rw [this]; exact hh
  | v :: vs, [], w, h, hh, id, x, b, e, hw, hb, o, i, hl, r, hv => by simp at r
  | v :: vs, c :: cs, w, h, hh, id, x, b, e, hw, hb, o, i, hl, r, hv => by
    simp only [RepL_cons] at r
    simp only [List.length_cons] at hl
    have ho : o + i < x.cells.length := by omega
    obtain ⟨hE, hH⟩ := hh.set e hw hb ho r.1
    have hlt : id < h.length := (List.getElem?_eq_some_iff.1 e).1
    obtain ⟨b', arr, fz, h1, h2, h3, h4, h5, h6, h7, h8, h9⟩ := hh.live id x e
    rw [hb] at h1; cases h1
    have hrun : (store ((⟨b, o, none⟩ : Addr).add i) v).run P w = .ok () (w.setCell ⟨b, o + i, none⟩ v) := by
      rw [addr_add, run_store P w _ v _ (hv v (by simp)), cell_at h3, frozen_at h3]
      have : arr[o + i]? = some arr[o + i] := Array.getElem?_eq_getElem (by omega)
      rw [this]
      have := h4 (o + i) (by omega)
      simp only [Bool.and_eq_true, decide_eq_true_eq, this, if_false]
    obtain ⟨w', k1, k2, k3⟩ := run_storeCells vs cs (w.setCell ⟨b, o + i, none⟩ v) _ hH (id := id) (x := { x with cells := x.cells.set (o + i) c }) (b := b) (by rw [List.getElem?_set_self hlt]) hw hb o (i + 1) (by simp; omega)
      (RepL.evo hE (Nat.le_refl _) cs vs r.2) (fun u hu => hv u (by simp [hu]))
    refine ⟨w', ?_, hE.trans k2, ?_⟩
    · rw [storeCells]; simp only [Sem.run_bind, hrun, Result.andThen]; exact k1
    · simp only [List.set_set] at k3
      rw [setAll]; exact k3
end Go.Aw
