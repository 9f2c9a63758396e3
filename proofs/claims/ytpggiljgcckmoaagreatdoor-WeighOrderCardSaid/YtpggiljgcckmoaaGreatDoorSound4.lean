/-
  'append' and what else makes or grows a slice: the model's operations meet their words.
  No conditions: lemmas over any program.
-/
import Derived.Test.YtpggiljgcckmoaaGreatDoorSound3
import Derived.Deep.AppendSrc
import Derived.Deep.Upon
namespace Go.Aw
open Go Go.RowKit
variable [Laid]

theorem HOK.kill {base : Nat} {ι : List Ix} {S : Stab} {w : World} {h : Heap} (hh : HOK base ι S w h) (id : Nat) : HOK base ι S w (h.set id .dead) := by
  have dead : ∀ {x}, (h.set id .dead)[id]? = some x → x = .dead := by
    intro x e
    by_cases hl : id < h.length
    · rw [List.getElem?_set_self hl] at e; exact (Option.some.inj e).symm
    · rw [List.getElem?_eq_none (by simpa using hl)] at e; cases e
  refine hh.turn (Evo.refl _ _ _ _ _) (by simp [hh.len]) id (fun i hi _ => ⟨List.getElem?_set_ne (Ne.symm hi), rfl, fun _ _ _ => ⟨rfl, fun _ q => q⟩⟩) (fun x e => ?_) (fun e sz n q => ?_) (fun j b _ aT _ _ _ => ?_) hh.stb hh.bas
  · cases dead e
  · cases dead q
  · cases e : (h.set id .dead)[id]? with
    | none => rw [e] at aT; exact aT.elim
    | some x => rw [e, dead e] at aT; exact aT.elim

omit [Laid] in
theorem Evo.grow {base : Nat} {ι : List Ix} {S : Stab} {w : World} (k : List Ix) : Evo ι.length base ι S w (ι ++ k) S w :=
  ⟨fun i hi => IxLe.of_eq (List.getElem?_append_left hi), fun _ _ h => h, fun _ _ h => .inl h, fun _ _ _ => rfl, fun _ _ h => h, Below.refl _ _⟩

theorem HOK.pad {base : Nat} {ι : List Ix} {S : Stab} {w : World} {h : Heap} (hh : HOK base ι S w h) (k : Ix) : HOK base (ι ++ [k]) S w (h ++ [.dead]) :=
  hh.push k .dead (Evo.grow [k]) (fun _ _ _ => ⟨rfl, fun _ q => q⟩) (fun _ e => by cases e) (fun _ _ _ e => by cases e) (fun e => absurd rfl e) hh.stb

theorem HOK.drew {base : Nat} {ι : List Ix} {S : Stab} {w : World} {h : Heap} (hh : HOK base ι S w h) : Evo ι.length base ι S w ι S w.drew ∧ HOK base ι S w.drew h := by
  have hE : Evo ι.length base ι S w ι S w.drew := ⟨fun _ _ => IxLe.refl _, fun _ _ h => h, fun _ _ h => .inl h, fun _ _ _ => rfl, fun _ _ h => h, (Below.refl base w).drew⟩
  exact ⟨hE, hh.turn hE hh.len h.length (fun i _ _ => ⟨rfl, rfl, fun _ _ _ => ⟨rfl, fun _ q => q⟩⟩) (fun x e => by simp at e) (fun _ _ _ e => by simp at e) (fun j b _ aT => by simp [alive] at aT) hh.stb hh.bas⟩

omit [Laid] in
theorem zok_spec {P : Program} {e : TypeId} (h : zok P e = true) : ∃ i z, P.info? e = some i ∧ i.zero = some z ∧ z.cells.size = i.size ∧ P.cellsOf e = i.size ∧ bytesA P e = i.bytes := by
  unfold zok at h
  split at h
  · rename_i i hi
    split at h
    · rename_i z hz
      exact ⟨i, z, hi, hz, by simpa using h, by simp [Program.cellsOf, hi], by simp [bytesA, hi]⟩
    · cases h
  · cases h


omit [Laid] in
theorem chunks_flat (sz : Nat) : ∀ (n : Nat) (cs : List AV), n * sz ≤ cs.length → (chunks sz n cs).flatten = cs.take (n * sz) ∧ ∀ r ∈ chunks sz n cs, r.length = sz
  | 0, _, _ => by simp [chunks]
  | n + 1, cs, h => by
    rw [Nat.add_mul, Nat.one_mul] at h
    obtain ⟨h1, h2⟩ := chunks_flat sz n (cs.drop sz) (by simp; omega)
    refine ⟨?_, fun r hr => ?_⟩
    · simp only [chunks, List.flatten_cons, h1]
      rw [Nat.add_mul, Nat.one_mul, Nat.add_comm, List.take_add]
    · simp only [chunks, List.mem_cons] at hr
      rcases hr with rfl | hr
      · simp; omega
      · exact h2 r hr
omit [Laid] in
theorem chunks_len (sz : Nat) : ∀ (n : Nat) (cs : List AV), (chunks sz n cs).length = n
  | 0, _ => rfl
  | n + 1, cs => by simp [chunks, chunks_len sz n]
omit [Laid] in
theorem flat_len {sz : Nat} : ∀ {rows : List (List AV)}, (∀ r ∈ rows, r.length = sz) → rows.flatten.length = rows.length * sz
  | [], _ => by simp
  | r :: rs, h => by
    have := flat_len (rows := rs) fun x hx => h x (List.mem_cons_of_mem _ hx)
    simp only [List.flatten_cons, List.length_append, this, List.length_cons, Nat.add_mul, Nat.one_mul, h r (List.mem_cons_self ..)]
    omega
omit [Laid] in
theorem RepR.of_flat {ι : List Ix} {S : Stab} {w : World} {sz : Nat} : ∀ {rows : List (List AV)} {b off : Nat}, (∀ r ∈ rows, r.length = sz) → RepC ι S w rows.flatten b off → RepR ι S w sz rows b off
  | [], _, _, _, _ => by simp [RepR]
  | r :: rs, b, off, h, k => by
    rw [RepR]
    have hr := h r (List.mem_cons_self ..)
    refine ⟨hr, RepC.mk fun i c e => ?_, RepR.of_flat (fun x hx => h x (List.mem_cons_of_mem _ hx)) ?_⟩
    · refine k.get i c ?_
      rw [List.flatten_cons, List.getElem?_append_left (List.getElem?_eq_some_iff.1 e).1]; exact e
    · have := k.drop sz
      rw [List.flatten_cons, List.drop_left' hr] at this
      exact this
omit [Laid] in
theorem RepR.flat {ι : List Ix} {S : Stab} {w : World} {sz : Nat} : ∀ {rows : List (List AV)} {b off : Nat}, RepR ι S w sz rows b off → rows.flatten.length = rows.length * sz ∧ RepC ι S w rows.flatten b off
  | [], b, off, _ => by simp [RepC]
  | r :: rs, b, off, h => by
    rw [RepR] at h
    obtain ⟨h1, h2, h3⟩ := h
    obtain ⟨k1, k2⟩ := RepR.flat h3
    refine ⟨by simp [h1, k1, Nat.add_mul, Nat.add_comm], RepC.mk fun i c e => ?_⟩
    rw [List.flatten_cons] at e
    rcases Nat.lt_or_ge i r.length with q | q
    · rw [List.getElem?_append_left q] at e; exact h2.get i c e
    · rw [List.getElem?_append_right q] at e
      have := k2.get _ c e
      rw [show off + sz + (i - r.length) = off + i by omega] at this
      exact this

omit [Laid] in
theorem cells_one {ι : List Ix} {S : Stab} {w : World} : ∀ {cs : List AV} {vs : List Value}, RepL ι S w cs vs → cs.all scal = true → ∀ u ∈ vs, u.oneCell' = true
  | [], vs, h, _, u, hu => by simp at h; subst h; cases hu
  | c :: cs, [], h, _, u, hu => by simp at h
  | c :: cs, v :: vs, h, hs, u, hu => by
    simp at h hs
    simp only [List.mem_cons] at hu
    rcases hu with rfl | hu
    · exact scal_one hs.1 h.1
    · exact cells_one h.2 (by simpa using hs.2) u hu


omit [Laid] in
/-- Cells that lie in a block and are written no more, told one behind the other. -/
theorem RepC.of_block {ι : List Ix} {S : Stab} {w : World} {b : Nat} {arr : Array Value} {t : TypeId} {fz : Nat × Nat} (h : w.heap[b]? = some (.cells arr t fz)) {cs : List AV} {vs : List Value} (r : RepL ι S w cs vs) {off : Nat}
    (ha : ∀ i v, vs[i]? = some v → arr[off + i]? = some v) (hs : ∀ i, i < vs.length → S b (off + i)) : RepC ι S w cs b off :=
  RepC.mk fun i c e => by
    obtain ⟨v, e1, e2⟩ := r.get i c e
    exact ⟨v, by rw [cell_at h]; exact ha i v e1, hs i (List.getElem?_eq_some_iff.1 e1).1, e2⟩

/-- The slice's own block has no room: a new one, whose cells are told from now on. -/
theorem run_tok_grow {P : Program} {base : Nat} {ι : List Ix} {S : Stab} {w : World} {h : Heap} (hh : HOK base ι S w h) {t tx ty e : TypeId} (ht : P.underlying t = some (.slice e)) (hz : zok P e = true)
    {v : Value} {rows : List (List AV)} {news : List Value} (hs : Src P (P.cellsOf e) tx v rows.length news w) (hn : RepL ι S w rows.flatten news) (hrl : ∀ r ∈ rows, r.length = P.cellsOf e)
    {a : Option Addr} {cap : Nat} {bse : List (List AV)} {olds : List Value} (hbl : ∀ r ∈ bse, r.length = P.cellsOf e) (hlt : cap < bse.length + rows.length) (ho : RepL ι S w bse.flatten olds)
    (hrd : (Builtin.firstCells (P.cellsOf e) bse.length (.slice a bse.length cap)).run P w.drew = .ok olds.toArray w.drew) (hm : bse.length + rows.length ≤ maxLen) (hby : (bse.length + rows.length) * bytesA P e ≤ 140737488355328) :
    ∃ u' w' arr S', (Builtin.append_ #[t, tx] ty #[.slice a bse.length cap, v]).run P w = .ok u' w' ∧ w'.heap = w.heap.push (.cells arr e) ∧ Evo ι.length base ι S w ι S' w' ∧
      (∃ cap', u' = .slice (some ⟨w.heap.size, 0, none⟩) (bse.length + rows.length) cap' ∧ bse.length + rows.length ≤ cap' ∧ cap' ≤ maxLen ∧ cap' * P.cellsOf e ≤ arr.size) ∧
      (∀ b o, S' b o ↔ S b o ∨ (b = w.heap.size ∧ o < (bse.length + rows.length) * P.cellsOf e)) ∧ RepR ι S' w' (P.cellsOf e) (bse ++ rows) w.heap.size 0 := by
  obtain ⟨i, z, hi, hzz, hzs, hce, hbe⟩ := zok_spec hz
  rw [hbe] at hby
  rw [hce] at hs hrl hbl hrd ⊢
  have hnl := hs.newsLen
  have hol : olds.length = bse.length * i.size := by rw [← ho.length, flat_len hbl]
  have hrun := run_append_grow_src (P := P) w t tx ty e i z ht hi hzz a bse.length cap olds hrd v rows.length news hs hlt (by simp only [maxLen] at hm; omega) (growslice_fits hlt hby)
  have hge := grownCap_ge w (bse.length + rows.length) cap e
  have hcm := grownCap_le_maxLen w (bse.length + rows.length) cap e hm
  generalize hZ : Builtin.zeroCells z.cells (grownCap w (bse.length + rows.length) cap e - (bse.length + rows.length)) = Z at hrun
  have hZs : Z.size = (grownCap w (bse.length + rows.length) cap e - (bse.length + rows.length)) * i.size := by rw [← hZ, size_zeroCells, hzs]
  let S' : Stab := fun b o => S b o ∨ (b = w.heap.size ∧ o < (bse.length + rows.length) * i.size)
  obtain ⟨hE1, hH1⟩ := hh.drew
  have hE2 : Evo ι.length base ι S w ι S' (w.drew.alloc (.cells ((olds ++ news).toArray ++ Z) e)) :=
    ⟨fun _ _ => IxLe.refl _, fun _ _ q => .inl q, fun b o q => q.elim .inl fun q => .inr (by rw [q.1]; exact hh.bas), fun b o q => World.cell?_of_block (w := w) (Below.heap_alloc w.drew _ b (hh.stb b o q)),
      fun b x q => shape_alloc (w := w.drew) _ q, ((Below.refl base w).drew).alloc hh.bas _⟩
  have hnew : (w.drew.alloc (.cells ((olds ++ news).toArray ++ Z) e)).heap[w.heap.size]? = some (.cells ((olds ++ news).toArray ++ Z) e) := by
    show (w.heap.push _)[w.heap.size]? = _
    simp
  refine ⟨_, _, (olds ++ news).toArray ++ Z, S', hrun, rfl, hE2, ⟨_, rfl, hge, hcm, ?_⟩, fun _ _ => Iff.rfl, ?_⟩
  · rw [Array.size_append, hZs, List.size_toArray, List.length_append, hol, hnl, ← Nat.add_mul, ← Nat.add_mul]
    exact Nat.mul_le_mul_right _ (by omega)
  · refine RepR.of_flat (fun r hr => ?_) ?_
    · rcases List.mem_append.1 hr with q | q
      · exact hbl r q
      · exact hrl r q
    · rw [List.flatten_append]
      have r1 := (RepL.evo hE2 (Nat.le_refl _) _ _ ho).append (RepL.evo hE2 (Nat.le_refl _) _ _ hn)
      refine RepC.of_block hnew r1 (fun j v q => ?_) (fun j hj => ?_)
      · rw [Nat.zero_add, Array.getElem?_append_left (by simpa using (List.getElem?_eq_some_iff.1 q).1)]
        simpa using q
      · right
        refine ⟨rfl, ?_⟩
        rw [List.length_append, hol, hnl, ← Nat.add_mul] at hj
        omega

omit [Laid] in
theorem firstCells_told {P : Program} {ι : List Ix} {S : Stab} {w : World} {sz : Nat} {rows : List (List AV)} {a : Option Addr} {cap : Nat} (h : rows = [] ∨ ∃ b off, a = some ⟨b, off, none⟩ ∧ RepR ι S w sz rows b off) :
    ∃ olds, RepL ι S w rows.flatten olds ∧ (Builtin.firstCells sz rows.length (.slice a rows.length cap)).run P w.drew = .ok olds.toArray w.drew := by
  rcases h with rfl | ⟨b, off, rfl, rr⟩
  · refine ⟨[], by simp, ?_⟩
    cases a with
    | none => exact run_firstCells_none w.drew sz 0 0 cap
    | some a => exact run_firstCells_some w.drew sz 0 a 0 cap [] (by simp) (by simp)
  · obtain ⟨k1, k2⟩ := rr.flat
    obtain ⟨vs, rv, hc⟩ := k2.vals
    refine ⟨vs, rv, run_firstCells_some w.drew sz rows.length _ rows.length cap _ (by rw [← rv.length, k1]) fun j v q => ?_⟩
    rw [addr_add]; exact hc j v q

section
variable {P : Program} {o : Oper} {base : Nat} {ι : List Ix} {S : Stab} {a : Act} {w : World} {st : St} {K : AV → Heap → Prop}

omit [Laid] in
theorem tokB_new {w : World} {n cap b c : Nat} (h : tokB (.slice (some ⟨c, 0, none⟩) n cap) b) : b = c := by
  obtain ⟨a, l, cap', e, h1, h2⟩ := h
  cases e; exact h1.symm

omit [Laid] in
theorem setCells_heap : ∀ (vs : List Value) (w : World) (b o c : Nat), c ≠ b → (w.setCells b o vs).heap[c]? = w.heap[c]?
  | [], w, b, o, c, _ => rfl
  | v :: vs, w, b, o, c, h => by
    rw [World.setCells, setCells_heap vs _ b (o + 1) c h]
    exact Below.heap_setCell w ⟨b, o, none⟩ v c h
omit [Laid] in
theorem setCells_at : ∀ (vs : List Value) (w : World) (b o : Nat) {arr : Array Value} {t : TypeId} {fz : Nat × Nat}, w.heap[b]? = some (.cells arr t fz) → o + vs.length ≤ arr.size →
    ∃ arr', (w.setCells b o vs).heap[b]? = some (.cells arr' t fz) ∧ arr'.size = arr.size ∧ (∀ i v, vs[i]? = some v → arr'[o + i]? = some v) ∧ ∀ i, (i < o ∨ o + vs.length ≤ i) → arr'[i]? = arr[i]?
  | [], w, b, o, arr, t, fz, h, _ => ⟨arr, h, rfl, by simp, fun _ _ => rfl⟩
  | v :: vs, w, b, o, arr, t, fz, h, hl => by
    simp only [List.length_cons] at hl
    obtain ⟨arr', k1, k2, k3, k4⟩ := setCells_at vs (w.setCell ⟨b, o, none⟩ v) b (o + 1) (heap_setCell_at h o v) (by simp; omega)
    refine ⟨arr', k1, by simpa using k2, fun i u e => ?_, fun i hi => ?_⟩
    · cases i with
      | zero =>
        simp only [List.getElem?_cons_zero, Option.some.injEq] at e
        subst e
        rw [Nat.add_zero, k4 o (.inl (by omega)), Array.getElem?_setIfInBounds]
        simp; omega
      | succ i =>
        have := k3 i u (by simpa using e)
        rw [show o + (i + 1) = o + 1 + i by omega]; exact this
    · simp only [List.length_cons] at hi
      rw [k4 i (by omega), Array.getElem?_setIfInBounds_ne (by omega)]
omit [Laid] in
theorem setCells_below {base : Nat} : ∀ (vs : List Value) (w : World) (b o : Nat), base ≤ b → Below base w (w.setCells b o vs)
  | [], w, b, o, _ => Below.refl _ _
  | v :: vs, w, b, o, h => ((Below.refl base w).setCell (p := ⟨b, o, none⟩) h v).trans (setCells_below vs _ b (o + 1) h)
omit [Laid] in
theorem setCells_shape : ∀ (vs : List Value) (w : World) (b o c : Nat), (w.setCells b o vs).shape? c = w.shape? c
  | [], w, b, o, c => rfl
  | v :: vs, w, b, o, c => by rw [World.setCells, setCells_shape vs _ b (o + 1) c, shape_setCell]
omit [Laid] in
theorem setCells_size : ∀ (vs : List Value) (w : World) (b o : Nat), (w.setCells b o vs).heap.size = w.heap.size
  | [], w, b, o => rfl
  | v :: vs, w, b, o => by rw [World.setCells, setCells_size vs _ b (o + 1)]; simp [World.setCell]

/-- A slice that grows at its end alone, and something behind it. -/
theorem run_tok {t tx ty e : TypeId} {h : Heap} (hh : HOK base ι S w h) (ht : P.underlying t = some (.slice e)) (hz : zok P e = true) {v u : Value} {rows bse : List (List AV)} {news : List Value} {id : Nat}
    (hs : Src P (P.cellsOf e) tx v rows.length news w) (hn : RepL ι S w rows.flatten news) (hrl : ∀ r ∈ rows, r.length = P.cellsOf e)
    (hu : Rep ι S w (.sb id (P.cellsOf e) bse) u) (hid : h[id]? = some (.tok e (P.cellsOf e) bse.length)) (hm : roomA (bytesA P e) (bse.length + rows.length)) :
    ∃ u' w' ι' S', (Builtin.append_ #[t, tx] ty #[u, v]).run P w = .ok u' w' ∧ Evo ι.length base ι S w ι' S' w' ∧ Rep ι' S' w' (.sb id (P.cellsOf e) (bse ++ rows)) u' ∧ HOK base ι' S' w' (h.set id (.tok e (P.cellsOf e) (bse.length + rows.length))) := by
  have hlt : id < h.length := (List.getElem?_eq_some_iff.1 hid).1
  have hlι : id < ι.length := by rw [hh.len]; exact hlt
  obtain ⟨v0, hv0, a, cap, rfl, hcap, hcm, hblk⟩ := hh.tok id _ _ _ hid
  rw [Rep] at hu
  obtain ⟨⟨a', cap', eu, hc1, hc2, hrows⟩, n', v', t1, t2, t3⟩ := hu
  rw [hv0] at t1; cases t1
  have eu' := t3 rfl
  rw [eu] at eu'; cases eu'
  subst eu
  have hbl : ∀ r ∈ bse, r.length = P.cellsOf e := by
    rcases hrows with rfl | ⟨b, off, _, rr⟩
    · simp
    · intro r hr
      obtain ⟨j, hj⟩ := List.getElem?_of_mem hr
      exact (rr.get j r hj).1
  have hflat := flat_len hrl
  have hnl : news.length = rows.length * P.cellsOf e := by rw [← hn.length, hflat]
  -- what becomes of the place
  have close : ∀ {u' : Value} {w' : World} {S' : Stab}, Evo ι.length base ι S w ι S' w' → (∃ a'' cap'', u' = .slice a'' (bse.length + rows.length) cap'' ∧ bse.length + rows.length ≤ cap'' ∧ cap'' ≤ maxLen ∧ (bse ++ rows = [] ∨ ∃ b off, a'' = some ⟨b, off, none⟩ ∧ RepR ι S' w' (P.cellsOf e) (bse ++ rows) b off)) →
      (rows.length = 0 → u' = .slice a bse.length cap) → TokOK base S' w' e (P.cellsOf e) (bse.length + rows.length) u' → (∀ b, b < w.heap.size → (∀ c, tokB (.slice a bse.length cap) c → b ≠ c) → base ≤ b → w'.heap[b]? = w.heap[b]? ∧ ∀ o, S' b o → S b o) →
      (∀ b, tokB u' b → tokB (.slice a bse.length cap) b ∨ w.heap.size ≤ b) → (∀ b o, S' b o → b < w'.heap.size) →
      ∃ ι' S', Evo ι.length base ι S w ι' S' w' ∧ Rep ι' S' w' (.sb id (P.cellsOf e) (bse ++ rows)) u' ∧ HOK base ι' S' w' (h.set id (.tok e (P.cellsOf e) (bse.length + rows.length))) := by
    intro u' w' S' hE hrep hsame htok hother hnew hstb
    have hE' : Evo ι.length base ι S w (ι.set id (.tok (bse.length + rows.length) u')) S' w' := by
      refine ⟨fun i hi => ?_, hE.sub, hE.new, hE.cell, hE.shp, hE.bel⟩
      by_cases q : i = id
      · subst q
        rw [List.getElem?_set_self hlι, hv0]
        refine ⟨_, _, rfl, ?_⟩
        by_cases z : rows.length = 0
        · left; exact ⟨by omega, by rw [hsame z]⟩
        · right; omega
      · rw [List.getElem?_set_ne (Ne.symm q)]; exact IxLe.refl _
    have hE2 : Evo ι.length base ι S' w' (ι.set id (.tok (bse.length + rows.length) u')) S' w' := ⟨hE'.pre, fun _ _ q => q, fun _ _ q => .inl q, fun _ _ _ => rfl, fun _ _ q => q, Below.refl _ _⟩
    refine ⟨_, S', hE', ?_, hh.turn hE' (by simp [hh.len]) id (fun i hi ha => ?_) (fun x q => ?_) (fun e' sz' n' q => ?_) (fun j b hj _ aj hb hb' => ?_) hstb (Nat.le_trans hh.bas hE.bel.size)⟩
    · rw [Rep]
      obtain ⟨a'', cap'', e1, e2, e3, e4⟩ := hrep
      refine ⟨⟨a'', cap'', by rw [List.length_append]; exact e1, by rw [List.length_append]; exact e2, e3, e4.imp (fun q => q) fun ⟨b, off, q1, q2⟩ => ⟨b, off, q1, RepR.evo hE2 (Nat.le_refl _) _ _ b off q2⟩⟩, _, _, List.getElem?_set_self hlι, by simp, fun _ => rfl⟩
    · rw [List.getElem?_set_ne (Ne.symm hi)] at ha ⊢
      refine ⟨rfl, List.getElem?_set_ne (Ne.symm hi), fun b hb hbl => hother b hbl (fun c hc q => ?_) (hh.ixlt ha hb).1⟩
      subst q
      exact hi (hh.inj i id b ha (by rw [hid]; exact trivial) hb (by rw [hv0]; exact hc))
    · rw [List.getElem?_set_self hlt] at q; cases q
    · rw [List.getElem?_set_self hlt] at q; cases q
      exact ⟨_, List.getElem?_set_self hlι, htok⟩
    · rw [List.getElem?_set_ne (Ne.symm hj)] at aj
      rw [List.getElem?_set_ne (Ne.symm hj)] at hb'
      rw [List.getElem?_set_self hlι] at hb
      rcases hnew b hb with q | q
      · exact hj (hh.inj j id b aj (by rw [hid]; exact trivial) hb' (by rw [hv0]; exact q))
      · have := (hh.ixlt aj hb').2; omega
  by_cases hfit : bse.length + rows.length ≤ cap
  · -- there is room
    by_cases hc0 : cap = 0
    · have hr0 : rows.length = 0 := by omega
      have hb0 : bse.length = 0 := by omega
      obtain ⟨i, z, hi, hzz, hzs, hce, hbe⟩ := zok_spec hz
      have hnews : news = [] := List.eq_nil_of_length_eq_zero (by rw [hnl, hr0, Nat.zero_mul])
      subst hnews
      have hrows0 : rows = [] := List.eq_nil_of_length_eq_zero hr0
      subst hrows0
      have hrun := run_append_nothing (P := P) w t tx ty e i ht hi a bse.length cap (by omega) v (by rw [← hce]; exact hs)
      obtain ⟨ι', S', q1, q2, q3⟩ := close (u' := .slice a bse.length cap) (w' := w) (S' := S) (Evo.refl _ _ _ _ _) ⟨a, cap, by simp, by simpa using hfit, hcm, by left; simp; exact List.eq_nil_of_length_eq_zero hb0⟩ (fun _ => rfl)
        ⟨a, cap, by simp, by simpa using hfit, hcm, .inl hc0⟩ (fun _ _ _ _ => ⟨rfl, fun _ q => q⟩) (fun _ q => .inl q) hh.stb
      exact ⟨_, _, ι', S', hrun, q1, q2, q3⟩
    · rcases hblk with hblk | ⟨b, arr, fz, rfl, k1, k2, k3, k4, k5⟩
      · exact absurd hblk hc0
      · obtain ⟨i, z, hi, hzz, hzs, hce, hbe⟩ := zok_spec hz
        have hmul : (bse.length + rows.length) * P.cellsOf e ≤ cap * P.cellsOf e := Nat.mul_le_mul_right _ hfit
        rw [Nat.add_mul] at hmul
        have hcells : ∀ j, j < news.length → (w.cell? ⟨b, 0 + bse.length * i.size + j, none⟩).isSome = true := fun j hj => by
          rw [cell_at k2, Array.getElem?_eq_getElem (by rw [hnl] at hj; rw [← hce]; omega)]; rfl
        have hfroz : ∀ j, j < news.length → w.frozen? ⟨b, 0 + bse.length * i.size + j, none⟩ = false := fun j hj => by
          rw [frozen_at k2]
          have := k3 (0 + bse.length * i.size + j) (by rw [hnl] at hj; rw [← hce]; omega)
          simpa using this
        have hrun := run_append_room_src (P := P) w t tx ty e i ht hi b 0 bse.length cap v rows.length news (by rw [← hce]; exact hs) hfit hcells hfroz
        rw [Nat.zero_add, ← hce] at hrun
        obtain ⟨arr', g1, g2, g3, g4⟩ := setCells_at news w b (bse.length * P.cellsOf e) k2 (by rw [hnl]; omega)
        let S' : Stab := fun c o => S c o ∨ (c = b ∧ bse.length * P.cellsOf e ≤ o ∧ o < (bse.length + rows.length) * P.cellsOf e)
        have hE : Evo ι.length base ι S w ι S' (w.setCells b (bse.length * P.cellsOf e) news) := by
          refine ⟨fun _ _ => IxLe.refl _, fun _ _ q => .inl q, fun c o q => q.elim .inl fun q => .inr (by rw [q.1]; exact k1), fun c o q => ?_, fun c x q => by rw [setCells_shape]; exact q, setCells_below news w b _ k1⟩
          by_cases hcb : c = b
          · subst hcb
            rw [cell_at g1, cell_at k2]
            exact g4 o (.inl (k5 o q))
          · exact World.cell?_of_block (w := w) (setCells_heap news w b _ c hcb)
        have told : ∀ b' off, (⟨b, 0, none⟩ : Addr) = ⟨b', off, none⟩ → b' = b ∧ off = 0 := fun b' off q => by cases q; exact ⟨rfl, rfl⟩
        have hR : bse ++ rows = [] ∨ ∃ b' off, some (⟨b, 0, none⟩ : Addr) = some ⟨b', off, none⟩ ∧ RepR ι S' (w.setCells b (bse.length * P.cellsOf e) news) (P.cellsOf e) (bse ++ rows) b' off := by
          right
          refine ⟨b, 0, rfl, RepR.of_flat (fun r hr => (List.mem_append.1 hr).elim (hbl r) (hrl r)) ?_⟩
          rw [List.flatten_append]
          have hC1 : RepC ι S' (w.setCells b (bse.length * P.cellsOf e) news) bse.flatten b 0 := by
            rcases hrows with rfl | ⟨b', off, q, rr⟩
            · simp [RepC]
            · obtain ⟨rfl, rfl⟩ := told b' off (Option.some.inj q)
              exact RepC.evo hE (Nat.le_refl _) _ _ _ rr.flat.2
          have hC2 : RepC ι S' (w.setCells b (bse.length * P.cellsOf e) news) rows.flatten b (bse.length * P.cellsOf e) :=
            RepC.of_block g1 (RepL.evo hE (Nat.le_refl _) _ _ hn) (fun i v q => g3 i v q) (fun i hi => .inr ⟨rfl, by omega, by rw [hnl] at hi; rw [Nat.add_mul]; omega⟩)
          have hfl := flat_len hbl
          refine RepC.mk fun i c q => ?_
          rcases Nat.lt_or_ge i bse.flatten.length with z | z
          · rw [List.getElem?_append_left z] at q; exact hC1.get i c q
          · rw [List.getElem?_append_right z] at q
            have := hC2.get _ c q
            rw [show bse.length * P.cellsOf e + (i - bse.flatten.length) = 0 + i by omega] at this
            exact this
        obtain ⟨ι', S'', q1, q2, q3⟩ := close (u' := .slice (some ⟨b, 0, none⟩) (bse.length + rows.length) cap) (w' := w.setCells b (bse.length * P.cellsOf e) news) (S' := S') hE ⟨_, cap, rfl, hfit, hcm, hR⟩ (fun z => by rw [z, Nat.add_zero])
          ⟨_, cap, rfl, hfit, hcm, .inr ⟨b, arr', fz, rfl, k1, g1, by rw [g2]; exact k3, by rw [g2]; exact k4, fun o q => by
            rcases q with q | q
            · have := k5 o q; rw [Nat.add_mul]; omega
            · exact q.2.2⟩⟩ (fun c hc hne _ => ⟨setCells_heap news w b _ c (hne b ⟨_, _, _, rfl, rfl, hc0⟩), fun o q => q.elim (fun q => q) fun q => absurd q.1 (hne b ⟨_, _, _, rfl, rfl, hc0⟩)⟩)
          (fun c q => .inl ⟨_, _, _, rfl, (tokB_new (w := w) q).symm, hc0⟩) (fun c o q => by
            rw [setCells_size]
            rcases q with q | q
            · exact hh.stb c o q
            · rw [q.1]; exact lt_heap k2)
        exact ⟨_, _, ι', S'', hrun, q1, q2, q3⟩
  · -- it grows
    obtain ⟨olds, hold, hrd⟩ := firstCells_told (P := P) (cap := cap) hrows
    obtain ⟨u', w', arr, S', hrun, hheap, hE, ⟨cap', rfl, g1, g2, g3⟩, hS', hR⟩ := run_tok_grow (ty := ty) hh ht hz hs hn hrl hbl (by omega) hold hrd hm.1 hm.2
    have hnw : w'.heap[w.heap.size]? = some (.cells arr e) := by rw [hheap]; simp
    obtain ⟨ι', S'', q1, q2, q3⟩ := close hE ⟨_, cap', rfl, g1, g2, .inr ⟨_, 0, rfl, hR⟩⟩ (fun z => by omega)
      ⟨_, cap', rfl, g1, g2, .inr ⟨w.heap.size, arr, (0, 0), rfl, hh.bas, hnw, fun o _ => by simp, g3, fun o q => by
        rcases (hS' _ o).1 q with q | q
        · have := hh.stb _ _ q; omega
        · exact q.2⟩⟩ (fun b hb _ _ => ⟨by rw [hheap, Array.getElem?_push]; simp; omega, fun o q => by
        rcases (hS' b o).1 q with q | q
        · exact q
        · omega⟩) (fun b q => .inr (by rw [tokB_new (w := w) q]; exact Nat.le_refl _)) (fun b o q => by
        rw [hheap, Array.size_push]
        rcases (hS' b o).1 q with q | q
        · have := hh.stb b o q; omega
        · omega)
    exact ⟨_, _, ι', S'', hrun, q1, q2, q3⟩

/-- Nothing was there: it may grow from now on. -/
theorem HOK.begin {h : Heap} (hh : HOK base ι S w h) {e sz : TypeId} {a : Option Addr} : HOK base (ι ++ [.tok 0 (.slice a 0 0)]) S w (h ++ [.tok e sz 0]) :=
  hh.push _ _ (Evo.grow _) (fun _ _ _ => ⟨rfl, fun _ q => q⟩) (fun _ q => by cases q) (fun e' sz' n' q => by cases q; exact ⟨_, rfl, a, 0, rfl, Nat.le_refl _, Nat.zero_le _, .inl rfl⟩)
    (fun _ b hb => by obtain ⟨_, _, _, q, _, h0⟩ := hb; cases q; exact absurd rfl h0) hh.stb
omit [Laid] in
theorem Rep.begin (ι : List Ix) (S : Stab) (w : World) (sz : Nat) (a : Option Addr) : Rep (ι ++ [.tok 0 (.slice a 0 0)]) S w (.sb ι.length sz []) (.slice a 0 0) := by
  rw [Rep]
  exact ⟨⟨a, 0, rfl, Nat.le_refl _, Nat.zero_le _, .inl rfl⟩, 0, _, by simp, Nat.le_refl _, fun _ => rfl⟩

/-- Where a slice's cells lie. -/
theorem src_cells {h : Heap} (hh : HOK base ι S w h) {x : AV} {y : Value} (hy : Rep ι S w x y) {sz : Nat} {rows : List (List AV)} (hs : srcR h sz x = some rows) :
    ∃ ad cap vs, y = .slice ad rows.length cap ∧ rows.length ≤ maxLen ∧ RepL ι S w rows.flatten vs ∧ rows.flatten.length = rows.length * sz ∧
      ((ad = none ∧ vs = [] ∧ rows = []) ∨ ∃ b, ad = some b ∧ ∀ j u, vs[j]? = some u → w.cell? (b.add j) = some u) := by
  have hy := hy.unsb
  unfold srcR at hs
  split at hs
  · rename_i e1
    cases hs
    rw [e1, Rep] at hy
    obtain ⟨b, ev⟩ := hy
    exact ⟨b, 0, [], ev, Nat.zero_le _, by simp, by simp, by cases b <;> simp⟩
  · rename_i sz' rows' e1
    split at hs
    · rename_i hsz
      subst hsz
      cases hs
      rw [e1, Rep] at hy
      obtain ⟨b, cap, ev, c1, c2, c3⟩ := hy
      rcases c3 with rfl | ⟨bb, off, rfl, hrr⟩
      · exact ⟨b, cap, [], ev, Nat.zero_le _, by simp, by simp, by cases b <;> simp⟩
      · obtain ⟨k1, k2⟩ := hrr.flat
        obtain ⟨vs, rv, hcell⟩ := k2.vals
        exact ⟨_, cap, vs, ev, by omega, rv, k1, .inr ⟨_, rfl, fun j u q => by rw [addr_add]; exact hcell j u q⟩⟩
    · cases hs
  · rename_i id off len sz' e1
    split at hs
    · rename_i blk eb
      split at hs
      · rename_i hcond
        obtain ⟨rfl, hlen⟩ := hcond
        cases hs
        rw [e1, Rep] at hy
        obtain ⟨b, b', cap, n, ty, c1, ev, c2, c3, c4, c5, c6⟩ := hy
        obtain ⟨b2, arr, fz, k1, k2, k3, k4, k5, k6, k7, k8, k9⟩ := hh.live id blk eb
        rw [c1] at k1; cases k1
        obtain ⟨f1, f2⟩ := chunks_flat sz' len (blk.cells.drop off) (by simp; omega)
        have hcells : RepL ι S w ((blk.cells.drop off).take (len * sz')) ((arr.toList.drop off).take (len * sz')) := by
          refine RepL.mk (by simp; omega) fun j c v e1 e2 => ?_
          rw [List.getElem?_take] at e1 e2
          split at e1
          · rename_i hj
            rw [if_pos hj] at e2
            rw [List.getElem?_drop] at e1 e2
            obtain ⟨v', e3, r⟩ := k6 _ c e1
            simp only [Array.getElem?_toList] at e2
            rw [e3] at e2; cases e2; exact r
          · cases e1
        refine ⟨b', cap, _, by rw [chunks_len]; exact ev, by rw [chunks_len]; omega, by rw [f1]; exact hcells, flat_len f2, ?_⟩
        rcases c4 with rfl | rfl
        · have : len = 0 := by omega
          subst this
          cases b' <;> simp [chunks]
        · refine .inr ⟨_, rfl, fun j u q => ?_⟩
          rw [addr_add, cell_at k3]
          rw [List.getElem?_take] at q
          split at q
          · rw [List.getElem?_drop] at q; simpa using q
          · cases q
      · cases hs
    · cases hs
  · cases hs

omit [Laid] in
theorem flat_bytes : ∀ l : List UInt8, (l.map fun b => [byteA b]).flatten = l.map byteA
  | [] => rfl
  | b :: l => by rw [List.map_cons, List.flatten_cons, flat_bytes l]; rfl
omit [Laid] in
theorem rowsOK {sz : Nat} {rows : List (List AV)} (h : rows.all (rowOK sz) = true) : (∀ r ∈ rows, r.length = sz) ∧ rows.flatten.all scal = true := by
  simp only [List.all_eq_true, rowOK, Bool.and_eq_true, beq_iff_eq] at h
  refine ⟨fun r hr => (h r hr).1, ?_⟩
  simp only [List.all_eq_true]
  intro c hc
  obtain ⟨r, hr, hcr⟩ := List.mem_flatten.1 hc
  exact (h r hr).2 c hcr

theorem s_appTo {own : Bool} {c : Call} {t tx e : TypeId} {x y : Operand} {src : Option (List (List AV))} (hr : ROK base ι S a w st) (ho : o.op = .call c) (hc : c.callee = .builtin .append) (hat : c.argTypes.toList = [t, tx]) (hax : c.args.toList = [x, y])
    (ht : P.underlying t = some (.slice e)) (hz : zok P e = true) (hsrc : ∀ rows, src = some rows → (∀ r ∈ rows, r.length = P.cellsOf e) → rows.flatten.all scal = true → ∃ news, Src P (P.cellsOf e) tx (a.eval y) rows.length news w ∧ RepL ι S w rows.flatten news)
    (h : iAppTo own e (P.cellsOf e) (bytesA P e) (evalA st.fr x) src st.h K) : Meets P o base ι S a w st K := by
  have hty : c.argTypes = #[t, tx] := by apply Array.ext'; simpa using hat
  have hag : c.args.map a.eval = #[a.eval x, a.eval y] := by apply Array.ext'; simp [hax]
  have done : ∀ {u' w'}, (Builtin.append_ #[t, tx] o.type #[a.eval x, a.eval y]).run P w = .ok u' w' → (execOp a.eval o).run P w = .ok (.value u') w' := fun hrun =>
    exec_bi (s := Builtin.append_ c.argTypes o.type (c.args.map a.eval)) ho hc (fun cs => rfl) (by rw [hty, hag]; exact hrun)
  have hx := (hr.eval x).nle
  unfold iAppTo at h
  split at h
  · exact h.elim
  · rename_i rows
    obtain ⟨hro, h⟩ := h
    obtain ⟨hrl, hsc⟩ := rowsOK hro
    obtain ⟨news, hs, hn⟩ := hsrc rows rfl hrl hsc
    -- a new block of the call's own
    have mine : ∀ {h' : Heap} {id0 : Option Nat} {bse : List (List AV)} {olds : List Value} {ad : Option Addr} {cap : Nat}, a.eval x = .slice ad bse.length cap → h'.length = st.h.length → HOK base ι S w h' → (∀ r ∈ bse, r.length = P.cellsOf e) → cap < bse.length + rows.length →
        RepL ι S w bse.flatten olds → (Builtin.firstCells (P.cellsOf e) bse.length (.slice ad bse.length cap)).run P w.drew = .ok olds.toArray w.drew → roomA (bytesA P e) (bse.length + rows.length) →
        K (.own st.h.length 0 (bse.length + rows.length) (P.cellsOf e)) (h' ++ [.blk ⟨e, bse.flatten ++ rows.flatten, true⟩]) → Meets P o base ι S a w st K := by
      intro h' id0 bse olds ad cap ev hlen hh hbl hlt hold hrd hm k
      obtain ⟨i, z, hi, hzz, hzs, hce, hbe⟩ := zok_spec hz
      have hm2 := hm.2
      rw [hbe] at hm2
      rw [hce] at hs hbl hrl hrd k
      have hnl := hs.newsLen
      have hol : olds.length = bse.length * i.size := by rw [← hold.length, flat_len hbl]
      have hrun := run_append_grow_src (P := P) w t tx o.type e i z ht hi hzz ad bse.length cap olds hrd (a.eval y) rows.length news hs hlt (by have := hm.1; simp only [maxLen] at this; omega) (growslice_fits hlt hm2)
      have hge := grownCap_ge w (bse.length + rows.length) cap e
      have hcm := grownCap_le_maxLen w (bse.length + rows.length) cap e hm.1
      obtain ⟨hE1, hH1⟩ := hh.drew
      have r1 : RepL ι S w.drew (bse.flatten ++ rows.flatten) (olds ++ news) := (RepL.evo hE1 (Nat.le_refl _) _ _ hold).append (RepL.evo hE1 (Nat.le_refl _) _ _ hn)
      have hA := hH1.alloc e _ (olds ++ news) r1 (0, 0) (Builtin.zeroCells z.cells (grownCap w (bse.length + rows.length) cap e - (bse.length + rows.length))).toList (fun o _ => by simp)
      have harr : ((olds ++ news) ++ (Builtin.zeroCells z.cells (grownCap w (bse.length + rows.length) cap e - (bse.length + rows.length))).toList).toArray = (olds ++ news).toArray ++ Builtin.zeroCells z.cells (grownCap w (bse.length + rows.length) cap e - (bse.length + rows.length)) := by
        apply Array.ext'; simp
      rw [harr] at hA
      refine meets_value hr (done (by rw [ev]; exact hrun)) (hE1.trans (Evo.alloc hH1.bas (fun b o => hH1.stb b o) _ [.blk w.heap.size])) ?_ hA (by simp [hlen]) k
      rw [Rep]
      have hsz : ((olds ++ news).toArray ++ Builtin.zeroCells z.cells (grownCap w (bse.length + rows.length) cap e - (bse.length + rows.length))).size = grownCap w (bse.length + rows.length) cap e * i.size := by
        rw [Array.size_append, List.size_toArray, List.length_append, hol, hnl, size_zeroCells, hzs, ← Nat.add_mul, ← Nat.add_mul]
        congr 1
        omega
      refine ⟨w.heap.size, _, _, _, e, by rw [← hr.hp.len]; simp, rfl, hge, hcm, .inr rfl, ?_, by rw [Nat.zero_add]; exact Nat.le_of_eq hsz.symm⟩
      have hnew : (w.drew.alloc (.cells ((olds ++ news).toArray ++ Builtin.zeroCells z.cells (grownCap w (bse.length + rows.length) cap e - (bse.length + rows.length))) e)).heap[w.heap.size]? = some (.cells ((olds ++ news).toArray ++ Builtin.zeroCells z.cells (grownCap w (bse.length + rows.length) cap e - (bse.length + rows.length))) e) := by
        show (w.heap.push _)[w.heap.size]? = _
        simp
      unfold World.shape?
      rw [hnew]
    split at h
    · -- out of nothing
      rename_i e1
      rw [e1, Rep] at hx
      obtain ⟨ad, ev⟩ := hx
      split at h
      · obtain ⟨hm, k⟩ := h
        have hB := hr.hp.begin (e := e) (sz := P.cellsOf e) (a := ad)
        have hEb : Evo ι.length base ι S w (ι ++ [.tok 0 (.slice ad 0 0)]) S w := Evo.grow _
        have hsB : RepL (ι ++ [.tok 0 (.slice ad 0 0)]) S w rows.flatten news := RepL.evo hEb (Nat.le_refl _) _ _ hn
        have hRB := Rep.begin ι S w (P.cellsOf e) ad
        rw [hr.hp.len] at hRB
        obtain ⟨u', w', ι', S', q1, q2, q3, q4⟩ := run_tok (ty := o.type) (bse := []) (id := st.h.length) hB ht hz hs hsB hrl hRB (by simp) (by simpa using hm)
        rw [ev] at done
        refine meets_value hr (done q1) ((hEb).trans (q2.mono (by simp) (Nat.le_refl _))) q3 q4 (by simp) ?_
        simp only [List.nil_append, List.length_nil, Nat.zero_add]
        rw [List.set_append_right _ _ (Nat.le_refl _)]
        simpa using k
      · obtain ⟨hne, hm, k⟩ := h
        obtain ⟨olds, hold, hrd⟩ := firstCells_told (P := P) (ι := ι) (S := S) (w := w) (sz := P.cellsOf e) (rows := []) (a := ad) (cap := 0) (.inl rfl)
        refine mine (bse := []) (id0 := none) (h' := st.h) (ad := ad) (cap := 0) ev rfl hr.hp (by simp) ?_ hold hrd (by simpa using hm) (by simpa using k)
        have := List.length_pos_iff.2 hne
        simpa using this
    · -- at its end
      rename_i id sz' bse e1
      split at h
      · rename_i e' sz'' k eh
        obtain ⟨⟨rfl, rfl, rfl, rfl⟩, hm, kk⟩ := h
        rw [e1] at hx
        obtain ⟨u', w', ι', S', q1, q2, q3, q4⟩ := run_tok (ty := o.type) hr.hp ht hz hs hn hrl hx eh hm
        exact meets_value hr (done q1) q2 q3 q4 (by simp) kk
      · exact h.elim
    · -- the call's own
      rename_i id off len sz' e1
      split at h
      · rename_i blk eb
        obtain ⟨⟨rfl, rfl, hwr, rfl, hlc⟩, hpos, hm, k⟩ := h
        rw [e1, Rep] at hx
        obtain ⟨b, ad, cap, m, ty', c1, ev, c2, c3, c4, c5, c6⟩ := hx
        obtain ⟨b', arr, fz, k1, k2, k3, k4, k5, k6, k7, k8, k9⟩ := hr.hp.live id blk eb
        rw [c1] at k1; cases k1
        have hm' : m = arr.size := by
          unfold World.shape? at c5
          rw [k3] at c5
          simp only [Option.some.injEq, Prod.mk.injEq] at c5
          exact c5.2.symm
        subst hm'
        obtain ⟨f1, f2⟩ := chunks_flat (P.cellsOf blk.ty) len blk.cells hlc
        have hcl := chunks_len (P.cellsOf blk.ty) len blk.cells
        have hcs : RepL ι S w (blk.cells.take (len * P.cellsOf blk.ty)) (arr.toList.take (len * P.cellsOf blk.ty)) := by
          refine RepL.mk (by simp; omega) fun j c v e1 e2 => ?_
          rw [List.getElem?_take] at e1 e2
          split at e1
          · rename_i hj
            rw [if_pos hj] at e2
            obtain ⟨v', e3, r⟩ := k6 j c e1
            simp only [Array.getElem?_toList] at e2
            rw [e3] at e2; cases e2; exact r
          · cases e1
        by_cases hfit : len + rows.length ≤ cap
        · -- there is room
          obtain ⟨i, z, hi, hzz, hzs, hce, hbe⟩ := zok_spec hz
          rcases c4 with c4 | rfl
          · omega
          have hnl := hs.newsLen
          have hmul : (len + rows.length) * P.cellsOf blk.ty ≤ cap * P.cellsOf blk.ty := Nat.mul_le_mul_right _ hfit
          rw [Nat.add_mul] at hmul
          have hcells : ∀ j, j < news.length → (w.cell? ⟨b, 0 + len * i.size + j, none⟩).isSome = true := fun j hj => by
            rw [cell_at k3, Array.getElem?_eq_getElem (by rw [hnl] at hj; rw [← hce]; omega)]; rfl
          have hfroz : ∀ j, j < news.length → w.frozen? ⟨b, 0 + len * i.size + j, none⟩ = false := fun j hj => by
            rw [frozen_at k3]
            have := k4 (0 + len * i.size + j) (by rw [hnl] at hj; rw [← hce]; omega)
            simpa using this
          have hrun := run_append_room_src (P := P) w t tx o.type blk.ty i ht hi b 0 len cap (a.eval y) rows.length news (by rw [← hce]; exact hs) hfit hcells hfroz
          rw [Nat.zero_add, ← hce] at hrun
          obtain ⟨arr', g1, g2, g3, g4⟩ := setCells_at news w b (len * P.cellsOf blk.ty) k3 (by rw [hnl]; omega)
          have hE : Evo ι.length base ι S w (ι ++ [.blk b]) S (w.setCells b (len * P.cellsOf blk.ty) news) :=
            ⟨fun i hi => IxLe.of_eq (List.getElem?_append_left hi), fun _ _ q => q, fun _ _ q => .inl q, fun c o q => World.cell?_of_block (w := w) (setCells_heap news w b _ c fun z => k7 hwr o (z ▸ q)), fun c x q => by rw [setCells_shape]; exact q, setCells_below news w b _ k2⟩
          have hl := hr.hp.len
          have hid : id < st.h.length := (List.getElem?_eq_some_iff.1 eb).1
          have alv : ∀ {i : Nat}, i ≠ st.h.length → alive (st.h.set id .dead ++ [.blk ⟨blk.ty, blk.cells.take (len * P.cellsOf blk.ty) ++ rows.flatten, true⟩])[i]? → i ≠ id ∧ (st.h.set id .dead ++ [.blk ⟨blk.ty, blk.cells.take (len * P.cellsOf blk.ty) ++ rows.flatten, true⟩])[i]? = st.h[i]? := by
            intro i hi ha
            rw [get_off (by simpa using hi)] at ha ⊢
            by_cases q : i = id
            · subst q; rw [List.getElem?_set_self hid] at ha; exact ha.elim
            · exact ⟨q, List.getElem?_set_ne (Ne.symm q)⟩
          have hH : HOK base (ι ++ [.blk b]) S (w.setCells b (len * P.cellsOf blk.ty) news) (st.h.set id .dead ++ [.blk ⟨blk.ty, blk.cells.take (len * P.cellsOf blk.ty) ++ rows.flatten, true⟩]) := by
            have lst : (st.h.set id .dead ++ [Ent.blk ⟨blk.ty, blk.cells.take (len * P.cellsOf blk.ty) ++ rows.flatten, true⟩])[st.h.length]? = some (.blk ⟨blk.ty, blk.cells.take (len * P.cellsOf blk.ty) ++ rows.flatten, true⟩) := by
              rw [List.getElem?_append_right (by simp)]; simp
            refine hr.hp.turn hE (by simp [hl]) st.h.length (fun i hi ha => ?_) (fun x q => ?_) (fun _ _ _ q => ?_) (fun j c hj _ aj hb hb' => ?_) (fun c o q => by rw [setCells_size]; exact hr.hp.stb c o q) (by rw [setCells_size]; exact hr.hp.bas)
            · obtain ⟨hne, he⟩ := alv hi ha
              refine ⟨he, get_off (by rw [hl]; exact hi), fun c hc _ => ⟨setCells_heap news w b _ c fun q => ?_, fun _ q => q⟩⟩
              subst q
              rw [he] at ha
              exact hne (hr.hp.inj i id c ha (by rw [eb]; exact trivial) hc (by rw [c1]; rfl))
            · rw [lst] at q; cases q
              have hnf : rows.flatten.length = rows.length * P.cellsOf blk.ty := flat_len hrl
              have hlt : (blk.cells.take (len * P.cellsOf blk.ty)).length = len * P.cellsOf blk.ty := by simp; omega
              refine ⟨b, arr', fz, by rw [← hl]; exact get_one, k2, g1, by rw [g2]; exact k4, ?_, fun j c q => ?_, fun _ => k7 hwr, fun o q => absurd q (k7 hwr o), fun q => by cases q⟩
              · rw [List.length_append, hlt, hnf, g2]; omega
              · rcases Nat.lt_or_ge j (len * P.cellsOf blk.ty) with z | z
                · rw [List.getElem?_append_left (by omega), List.getElem?_take, if_pos z] at q
                  obtain ⟨v, q1, q2⟩ := k6 j c q
                  exact ⟨v, by rw [g4 j (.inl z)]; exact q1, Rep.evo hE (Nat.le_refl _) c v q2⟩
                · rw [List.getElem?_append_right (by omega), hlt] at q
                  obtain ⟨v, q1, q2⟩ := hn.get _ c q
                  have := g3 _ v q1
                  rw [show len * P.cellsOf blk.ty + (j - len * P.cellsOf blk.ty) = j by omega] at this
                  exact ⟨v, this, Rep.evo hE (Nat.le_refl _) c v q2⟩
            · rw [lst] at q; cases q
            · obtain ⟨hne, he⟩ := alv hj aj
              rw [he] at aj
              rw [get_off (by rw [hl]; exact hj)] at hb'
              rw [← hl, get_one] at hb
              have : b = c := hb
              subst this
              exact hne (hr.hp.inj j id b aj (by rw [eb]; exact trivial) hb' (by rw [c1]; rfl))
          refine meets_value hr (done (by rw [ev]; exact hrun)) hE ?_ hH (by simp) k
          rw [Rep]
          exact ⟨b, _, cap, arr.size, ty', by rw [← hl]; exact get_one, rfl, hfit, c3, .inr rfl, hE.shp _ _ c5, c6⟩
        · have hrd : (Builtin.firstCells (P.cellsOf blk.ty) len (.slice ad len cap)).run P w.drew = .ok (arr.toList.take (len * P.cellsOf blk.ty)).toArray w.drew := by
            by_cases hl0 : len = 0
            · subst hl0
              simp only [Nat.zero_mul, List.take_zero]
              cases ad with
              | none => exact run_firstCells_none w.drew _ 0 0 cap
              | some ad => exact run_firstCells_some w.drew _ 0 ad 0 cap [] (by simp) (by simp)
            · rcases c4 with c4 | rfl
              · omega
              · refine run_firstCells_some w.drew _ len _ len cap _ (by simp; omega) fun j v q => ?_
                rw [addr_add, Nat.zero_add]
                rw [List.getElem?_take] at q
                split at q
                · show w.cell? ⟨b, j, none⟩ = some v
                  rw [cell_at k3]; simpa using q
                · cases q
          refine mine (bse := chunks (P.cellsOf blk.ty) len blk.cells) (id0 := some id) (h' := st.h.set id .dead) (ad := ad) (cap := cap) (olds := arr.toList.take (len * P.cellsOf blk.ty)) (by rw [hcl]; exact ev) (by simp) (hr.hp.kill id) f2 (by rw [hcl]; omega)
            (by rw [f1]; exact hcs) (by rw [hcl]; exact hrd) (by rw [hcl]; exact hm) (by rw [hcl, f1]; exact k)
      · exact h.elim
    · exact h.elim

theorem s_app {own : Bool} {c : Call} {t tx e e' : TypeId} {x y : Operand} (hr : ROK base ι S a w st) (ho : o.op = .call c) (hc : c.callee = .builtin .append) (hat : c.argTypes.toList = [t, tx]) (hax : c.args.toList = [x, y])
    (ht : P.underlying t = some (.slice e)) (htx : P.underlying tx = some (.slice e')) (hz : zok P e = true) (h : iApp own e (P.cellsOf e) (bytesA P e) (evalA st.fr x) (evalA st.fr y) st.h K) : Meets P o base ι S a w st K := by
  refine s_appTo hr ho hc hat hax ht hz (fun rows hs hrl hsc => ?_) h
  obtain ⟨ad, cap, vs, ev, _, rv, hfl, hcell⟩ := src_cells hr.hp (hr.eval y) hs
  refine ⟨vs, ?_, rv⟩
  rw [ev]
  have hvl : vs.length = rows.length * P.cellsOf e := by rw [← rv.length]; exact hfl
  rcases hcell with ⟨rfl, rfl, rfl⟩ | ⟨b, rfl, hcell⟩
  · exact Src.ofNil w htx cap
  · exact Src.ofSlice w htx b rows.length cap vs hvl (fun j u q => hcell j u q) (cells_one rv hsc)

theorem s_appS {own : Bool} {c : Call} {t tx e : TypeId} {x y : Operand} (hr : ROK base ι S a w st) (ho : o.op = .call c) (hc : c.callee = .builtin .append) (hat : c.argTypes.toList = [t, tx]) (hax : c.args.toList = [x, y])
    (ht : P.underlying t = some (.slice e)) (htx : P.underlying tx = some .string) (hz : zok P e = true) (h1 : P.cellsOf e = 1) (h : iAppS own e (bytesA P e) (evalA st.fr x) (evalA st.fr y) st.h K) : Meets P o base ι S a w st K := by
  have h' : iAppTo own e (P.cellsOf e) (bytesA P e) (evalA st.fr x) (srcS (evalA st.fr y)) st.h K := by rw [h1]; exact h
  refine s_appTo hr ho hc hat hax ht hz (fun rows hs _ hsc => ?_) h'
  have hy := hr.eval y
  unfold srcS at hs
  split at hs
  · rename_i l e1
    cases hs
    rw [e1, Rep_str] at hy
    obtain ⟨ev, _⟩ := hy
    have hfl := flat_bytes l
    refine ⟨byteCells ⟨l.toArray⟩, ?_, ?_⟩
    · rw [ev, h1]
      have := Src.ofString (P := P) w htx ⟨l.toArray⟩
      simpa [ByteArray.size] using this
    · rw [hfl]
      unfold byteCells
      refine RepL.mk (by simp) fun i c v q1 q2 => ?_
      simp only [List.getElem?_map] at q1 q2
      cases hl : l[i]? with
      | none => rw [hl] at q1; cases q1
      | some b =>
        rw [hl] at q1 q2
        simp only [Option.map_some, Option.some.injEq] at q1 q2
        subst q1; subst q2
        simp [byteA]
  · cases hs
end

omit [Laid] in
theorem rep0_length (z : List AV) : ∀ n, (rep0 n z).length = n * z.length
  | 0 => by simp [rep0]
  | n + 1 => by rw [rep0, List.length_append, rep0_length z n, Nat.add_mul, Nat.one_mul, Nat.add_comm]
omit [Laid] in
theorem rep0_get (z : List AV) : ∀ (n i : Nat), i < n * z.length → (rep0 n z)[i]? = z[i % z.length]?
  | 0, i, h => by simp at h
  | n + 1, i, h => by
    rw [rep0]
    rcases Nat.lt_or_ge i z.length with q | q
    · rw [List.getElem?_append_left q, Nat.mod_eq_of_lt q]
    · rw [List.getElem?_append_right q, rep0_get z n (i - z.length) (by rw [Nat.add_mul, Nat.one_mul] at h; omega), ← Nat.mod_eq_sub_mod q]

omit [Laid] in
theorem made_rep {ι : List Ix} {S : Stab} {w : World} {cs : List AV} {vs : List Value} (h : RepL ι S w cs vs) (n m : Nat) (hm : m = n * cs.length) : RepL ι S w (rep0 n cs) (madeCells vs.toArray m).toList := by
  subst hm
  have hl := h.length
  refine RepL.mk (by rw [rep0_length]; simp [madeCells]) fun i c v e f => ?_
  have hi : i < n * cs.length := by rw [← rep0_length]; exact (List.getElem?_eq_some_iff.1 e).1
  rw [rep0_get cs n i hi] at e
  have hpos : 0 < cs.length := by
    rcases Nat.eq_zero_or_pos cs.length with q | q
    · rw [q] at hi; simp at hi
    · exact q
  have hi2 : i % cs.length < vs.length := by rw [← hl]; exact Nat.mod_lt _ hpos
  simp only [madeCells, Array.toList_map, List.getElem?_map, Array.toList_range, List.getElem?_range hi, Option.map_some, Option.some.injEq] at f
  obtain ⟨u, hu, r⟩ := h.get _ c e
  have : v = u := by
    rw [← f]
    simp only [List.size_toArray]
    rw [← hl]
    rw [getElem!_pos vs.toArray (i % cs.length) (by simpa using hi2)]
    rw [List.getElem?_eq_getElem hi2] at hu
    simpa using hu
  rw [this]; exact r

omit [Laid] in
theorem zero_cells {P : Program} {e : TypeId} {z : AV} (hz : zok P e = true) (h : zeroA P e = some z) : ∃ i u vs, P.info? e = some i ∧ i.zero = some u ∧ z = constAV u ∧ u.cells = (vs : List Value).toArray ∧ vs.length = i.size ∧ P.cellsOf e = i.size ∧ bytesA P e = i.bytes ∧ ∀ ι S w, RepL ι S w (vcells z) vs := by
  obtain ⟨i, u, hi, hu, hs, hc, hb⟩ := zok_spec hz
  unfold zeroA at h
  rw [hi] at h
  simp only [Option.bind_some, hu, Option.map_some, Option.some.injEq] at h
  obtain ⟨vs, e1, r⟩ := vcells_zero u
  exact ⟨i, u, vs, hi, hu, h.symm, e1, by rw [e1] at hs; simpa using hs, hc, hb, by rw [← h]; exact r⟩

section
variable {P : Program} {o : Oper} {base : Nat} {ι : List Ix} {S : Stab} {a : Act} {w : World} {st : St} {K : AV → Heap → Prop}

/-- A new block that is of no matter. -/
theorem HOK.other {h : Heap} (hh : HOK base ι S w h) (ob : Obj) : Evo ι.length base ι S w ι S (w.alloc ob) ∧ HOK base ι S (w.alloc ob) h := by
  have hE : Evo ι.length base ι S w ι S (w.alloc ob) := by simpa using Evo.alloc hh.bas (fun b o => hh.stb b o) ob []
  exact ⟨hE, hh.turn hE hh.len h.length (fun i _ _ => ⟨rfl, rfl, fun b _ hb => ⟨Below.heap_alloc w _ b hb, fun _ q => q⟩⟩) (fun x e => by simp at e) (fun _ _ _ e => by simp at e) (fun j b _ aT => by simp [alive] at aT)
    (fun b o q => by have := hh.stb b o q; show b < (w.heap.push _).size; simp; omega) (by have := hh.bas; show base ≤ (w.heap.push _).size; simp; omega)⟩

/-- A new block of cells, as a slice. -/
theorem meets_row {e : TypeId} {cells : Array Value} {cs : List AV} {more : List Value} {l c : Nat} {sz : Nat} {fz : Nat × Nat} {w1 : World} (hr : ROK base ι S a w st) (hw1 : w1 = w ∨ w1 = w.drew)
    (hrun : (execOp a.eval o).run P w = .ok (.value (.slice (some ⟨w.heap.size, 0, none⟩) l c)) (w1.alloc (.cells cells e fz))) {vs : List Value} (hcells : cells = (vs ++ more).toArray) (r : RepL ι S w cs vs)
    (hf : ∀ o, o < vs.length + more.length → ¬ (fz.1 ≤ o ∧ o < fz.2)) (hlc : l ≤ c) (hcm : c ≤ maxLen) (hcz : c * sz ≤ vs.length + more.length) (k : K (.own st.h.length 0 l sz) (st.h ++ [.blk ⟨e, cs, true⟩])) : Meets P o base ι S a w st K := by
  have hd : Evo ι.length base ι S w ι S w1 ∧ HOK base ι S w1 st.h ∧ w1.heap = w.heap := by
    rcases hw1 with rfl | rfl
    · exact ⟨Evo.refl _ _ _ _ _, hr.hp, rfl⟩
    · exact ⟨hr.hp.drew.1, hr.hp.drew.2, rfl⟩
  obtain ⟨hE, hH, hh⟩ := hd
  have hA := hH.alloc e cs vs (RepL.evo hE (Nat.le_refl _) _ _ r) fz more hf
  rw [← hcells] at hA
  rw [hh] at hA
  refine meets_value hr hrun (hE.trans (Evo.alloc hH.bas (fun b o => hH.stb b o) _ [.blk w.heap.size])) ?_ hA (by simp) k
  rw [Rep]
  refine ⟨w.heap.size, _, c, cells.size, e, by rw [← hr.hp.len]; simp, rfl, hlc, hcm, .inr rfl, ?_, by rw [hcells]; simpa using hcz⟩
  have hnew : (w1.alloc (.cells cells e fz)).heap[w.heap.size]? = some (.cells cells e fz) := by
    show (w1.heap.push _)[w.heap.size]? = _
    rw [← hh]; simp
  unfold World.shape?
  rw [hnew]

/-- A new block of cells that is written no more, as a slice. -/
theorem meets_rowP {e : TypeId} {cs : List AV} {sz len : Nat} {vs : List Value} (hr : ROK base ι S a w st)
    (hrun : (execOp a.eval o).run P w = .ok (.value (.slice (some ⟨w.heap.size, 0, none⟩) len len)) (w.alloc (.cells vs.toArray e))) (r : RepL ι S w cs vs)
    (hlen : vs.length = len * sz) (hcm : len ≤ maxLen) (k : K (.sl sz (chunks sz len cs)) st.h) : Meets P o base ι S a w st K := by
  have hh := hr.hp
  let S' : Stab := fun b o => S b o ∨ (b = w.heap.size ∧ o < vs.length)
  have hnew : (w.alloc (.cells vs.toArray e)).heap[w.heap.size]? = some (.cells vs.toArray e (0, 0)) := by
    show (w.heap.push _)[w.heap.size]? = _
    simp
  have hE0 : Evo ι.length w.heap.size ι S w ι S (w.alloc (.cells vs.toArray e)) := by simpa using Evo.alloc (Nat.le_refl _) (fun b o => hh.stb b o) (.cells vs.toArray e) []
  have hE : Evo ι.length w.heap.size ι S w ι S' (w.alloc (.cells vs.toArray e)) := ⟨hE0.pre, fun _ _ q => .inl q, fun b o q => q.elim .inl (fun q => .inr (by rw [q.1]; exact Nat.le_refl _)), hE0.cell, hE0.shp, hE0.bel⟩
  have hH : HOK base ι S' (w.alloc (.cells vs.toArray e)) st.h := hh.over hE (fun b o q => by
    show b < (w.heap.push _).size
    rcases q with q | q
    · have := hh.stb b o q; simp; omega
    · rw [q.1]; simp)
  refine meets_value hr hrun (hE.mono (Nat.le_refl _) hh.bas) ?_ hH (Nat.le_refl _) k
  have hcl := r.length
  obtain ⟨f1, f2⟩ := chunks_flat sz len cs (by rw [hcl, hlen]; exact Nat.le_refl _)
  have hcells : RepC ι S' (w.alloc (.cells vs.toArray e)) (chunks sz len cs).flatten w.heap.size 0 := by
    rw [f1]
    refine RepC.mk fun i c ec => ?_
    have ec' : cs[i]? = some c := by
      rw [List.getElem?_take] at ec
      split at ec
      · exact ec
      · cases ec
    obtain ⟨v, ev, rv⟩ := r.get i c ec'
    have hi := (List.getElem?_eq_some_iff.1 ev).1
    refine ⟨v, by rw [Nat.zero_add, cell_at hnew]; simpa using ev, .inr ⟨rfl, by omega⟩, Rep.evo hE (Nat.le_refl _) c v rv⟩
  rw [Rep]
  refine ⟨_, len, by rw [chunks_len], by rw [chunks_len]; exact Nat.le_refl _, hcm, .inr ⟨w.heap.size, 0, rfl, ?_⟩⟩
  exact RepR.of_flat f2 hcells

theorem s_mkSl {t e : TypeId} {len : Nat} {parts : Array (Nat × Operand)} {z : AV} (hr : ROK base ι S a w st) (ho : o.op = .buildSlice t len parts) (ht : P.underlying t = some (.slice e)) (hz : zeroA P e = some z)
    (hk : (zok P e && tOk P e && decide (len * P.cellsOf e ≤ 16777216) && decide (len ≤ 16777216)) = true) (h : iMkSl e len (P.cellsOf e) z (parts.toList.map fun p => (p.1 * P.cellsOf e, P.cellsOf e, evalA st.fr p.2)) st.h K) : Meets P o base ι S a w st K := by
  simp only [Bool.and_eq_true, decide_eq_true_eq] at hk
  obtain ⟨⟨⟨hk1, hk2⟩, hk3⟩, hk4⟩ := hk
  obtain ⟨i, u, vs, hi, hu, rfl, euc, hvl, hce, hbe, rz⟩ := zero_cells hk1 hz
  unfold iMkSl at h
  split at h
  · rename_i cs e'
    have r0 := made_rep (rz ι S w) len (len * P.cellsOf e) (by rw [(rz ι S w).length, hvl, hce])
    obtain ⟨q1, q2⟩ := parts_eq hr (fun i => some (i * P.cellsOf e, P.cellsOf e)) parts
    obtain ⟨vs', e1, r1⟩ := fill_all (ι := ι) (S := S) (w := w) (fun i => some (i * P.cellsOf e, P.cellsOf e)) (parts.toList.map fun p => (p.1, evalA st.fr p.2, a.eval p.2)) _ _ cs r0 (fun p hpm => ⟨q1 p hpm, rfl⟩) (by
        rw [← e', List.map_map]; rfl)
    simp only [Array.toArray_toList] at e1
    have hlen : vs'.length = len * P.cellsOf e := by
      have hb : ∀ (ps : List (Nat × Nat × AV)) (c r : List AV), bfill c ps = some r → r.length = c.length := by
        intro ps
        induction ps with
        | nil => intro c r h; simp only [bfill, Option.some.injEq] at h; rw [h]
        | cons p ps ih =>
          intro c r h
          obtain ⟨o, n, x⟩ := p
          simp only [bfill] at h
          split at h
          · rw [ih _ _ h, setAll_length]
          · cases h
      rw [← r1.length, hb _ _ _ e', rep0_length, (rz ι S w).length, hvl, hce]
    have hrun : (execOp a.eval o).run P w = .ok (.value (.slice (some ⟨w.heap.size, 0, none⟩) len len)) (w.alloc (.cells vs'.toArray e)) := ?_
    · split at h
      · obtain ⟨hE, hH⟩ := hr.hp.other (.cells vs'.toArray e)
        exact meets_value hr hrun hE (by rw [Rep]; exact ⟨_, rfl⟩) hH (Nat.le_refl _) h
      · exact meets_row (more := []) (fz := (0, 0)) hr (.inl rfl) hrun (by simp) r1 (fun o _ => by simp) (Nat.le_refl _) (by unfold maxLen; omega) (by simp [hlen]) h
    simp only [execOp, ho]
    refine runv ?_
    have hn : ¬ len * P.cellsOf e > 2 ^ 24 := by
      have : (2 : Nat) ^ 24 = 16777216 := by decide
      omega
    have hzero : (zeroValue e).run P w = .ok u w := by simp [zeroValue, run_info hi, hu]
    have hmade : madeCells vs.toArray (len * P.cellsOf e) = (Array.range (len * P.cellsOf e)).map (vs.toArray[· % vs.toArray.size]!) := rfl
    simp only [Instr.buildSlice, Sem.run_bind, run_underlying ht, Result.andThen_ok, run_sizeOf' hk2, hn, if_false, Sem.run_pure]
    by_cases h0 : len * P.cellsOf e = 0
    · simp only [h0, if_true, Sem.run_bind, Sem.run_pure, Result.andThen_ok]
      have : madeCells vs.toArray (len * P.cellsOf e) = (Array.range 0).map fun x => (#[] : Array Value)[x % (#[] : Array Value).size]! := by
        rw [h0]; apply Array.ext'; simp [madeCells]
      rw [this, ← q2] at e1
      have e2 : Instr.fill (fun i => some (i * P.cellsOf e, P.cellsOf e)) (Array.map (fun x => (#[] : Array Value)[x % (#[] : Array Value).size]!) (Array.range 0)) (Array.map (fun x => (x.fst, a.eval x.snd)) parts).toList = some vs'.toArray := e1
      rw [e2]
      simp [newRow]
    · simp only [h0, if_false, Sem.run_bind, hzero, Result.andThen_ok, Sem.run_pure]
      rw [hmade, ← euc, ← q2] at e1
      rw [e1]
      simp [newRow]
  · exact h.elim

theorem s_mkSlP {t e : TypeId} {len : Nat} {parts : Array (Nat × Operand)} {z : AV} (hr : ROK base ι S a w st) (ho : o.op = .buildSlice t len parts) (ht : P.underlying t = some (.slice e)) (hz : zeroA P e = some z)
    (hk : (zok P e && tOk P e && decide (len * P.cellsOf e ≤ 16777216) && decide (len ≤ 16777216)) = true) (h : iMkSlP len (P.cellsOf e) z (parts.toList.map fun p => (p.1 * P.cellsOf e, P.cellsOf e, evalA st.fr p.2)) fun v => K v st.h) : Meets P o base ι S a w st K := by
  simp only [Bool.and_eq_true, decide_eq_true_eq] at hk
  obtain ⟨⟨⟨hk1, hk2⟩, hk3⟩, hk4⟩ := hk
  obtain ⟨i, u, vs, hi, hu, rfl, euc, hvl, hce, hbe, rz⟩ := zero_cells hk1 hz
  unfold iMkSlP at h
  split at h
  · rename_i cs e'
    have r0 := made_rep (rz ι S w) len (len * P.cellsOf e) (by rw [(rz ι S w).length, hvl, hce])
    obtain ⟨q1, q2⟩ := parts_eq hr (fun i => some (i * P.cellsOf e, P.cellsOf e)) parts
    obtain ⟨vs', e1, r1⟩ := fill_all (ι := ι) (S := S) (w := w) (fun i => some (i * P.cellsOf e, P.cellsOf e)) (parts.toList.map fun p => (p.1, evalA st.fr p.2, a.eval p.2)) _ _ cs r0 (fun p hpm => ⟨q1 p hpm, rfl⟩) (by
        rw [← e', List.map_map]; rfl)
    simp only [Array.toArray_toList] at e1
    have hlen : vs'.length = len * P.cellsOf e := by
      have hb : ∀ (ps : List (Nat × Nat × AV)) (c r : List AV), bfill c ps = some r → r.length = c.length := by
        intro ps
        induction ps with
        | nil => intro c r h; simp only [bfill, Option.some.injEq] at h; rw [h]
        | cons p ps ih =>
          intro c r h
          obtain ⟨o, n, x⟩ := p
          simp only [bfill] at h
          split at h
          · rw [ih _ _ h, setAll_length]
          · cases h
      rw [← r1.length, hb _ _ _ e', rep0_length, (rz ι S w).length, hvl, hce]
    have hrun : (execOp a.eval o).run P w = .ok (.value (.slice (some ⟨w.heap.size, 0, none⟩) len len)) (w.alloc (.cells vs'.toArray e)) := ?_
    · exact meets_rowP hr hrun r1 hlen (by unfold maxLen; omega) h
    simp only [execOp, ho]
    refine runv ?_
    have hn : ¬ len * P.cellsOf e > 2 ^ 24 := by
      have : (2 : Nat) ^ 24 = 16777216 := by decide
      omega
    have hzero : (zeroValue e).run P w = .ok u w := by simp [zeroValue, run_info hi, hu]
    have hmade : madeCells vs.toArray (len * P.cellsOf e) = (Array.range (len * P.cellsOf e)).map (vs.toArray[· % vs.toArray.size]!) := rfl
    simp only [Instr.buildSlice, Sem.run_bind, run_underlying ht, Result.andThen_ok, run_sizeOf' hk2, hn, if_false, Sem.run_pure]
    by_cases h0 : len * P.cellsOf e = 0
    · simp only [h0, if_true, Sem.run_bind, Sem.run_pure, Result.andThen_ok]
      have : madeCells vs.toArray (len * P.cellsOf e) = (Array.range 0).map fun x => (#[] : Array Value)[x % (#[] : Array Value).size]! := by
        rw [h0]; apply Array.ext'; simp [madeCells]
      rw [this, ← q2] at e1
      have e2 : Instr.fill (fun i => some (i * P.cellsOf e, P.cellsOf e)) (Array.map (fun x => (#[] : Array Value)[x % (#[] : Array Value).size]!) (Array.range 0)) (Array.map (fun x => (x.fst, a.eval x.snd)) parts).toList = some vs'.toArray := e1
      rw [e2]
      simp [newRow]
    · simp only [h0, if_false, Sem.run_bind, hzero, Result.andThen_ok, Sem.run_pure]
      rw [hmade, ← euc, ← q2] at e1
      rw [e1]
      simp [newRow]
  · exact h.elim

theorem s_make {t e : TypeId} {x y : Operand} {z : AV} (hr : ROK base ι S a w st) (ho : o.op = .makeSlice t x y) (ht : P.underlying t = some (.slice e)) (hz : zeroA P e = some z) (hk : (zok P e && decide (0 < P.cellsOf e)) = true)
    (h : iMake e (P.cellsOf e) (bytesA P e) z (evalA st.fr x) (evalA st.fr y) st.h K) : Meets P o base ι S a w st K := by
  simp only [Bool.and_eq_true, decide_eq_true_eq] at hk
  obtain ⟨i, u, vs, hi, hu, rfl, euc, hvl, hce, hbe, rz⟩ := zero_cells hk.1 hz
  have hx := hr.eval x
  have hy := hr.eval y
  unfold iMake at h
  split at h
  · rename_i kl l kc c e1 e2
    obtain ⟨⟨g1, g2, g3, g4⟩, h⟩ := h
    rw [e1, Rep_v] at hx
    rw [e2, Rep_v] at hy
    have r0 := made_rep (rz ι S w) c.toNat (c.toNat * P.cellsOf e) (by rw [(rz ι S w).length, hvl, hce])
    have hrun := run_make (P := P) w t e i u ht hi hu kl kc l c g1 g2 (by rw [← hbe]; exact g3) g4
    refine meets_row (more := []) (fz := (0, 0)) hr (.inl rfl) (cells := madeCells vs.toArray (c.toNat * P.cellsOf e)) (l := l.toNat) (c := c.toNat) ?_ (by simp) r0 (fun o _ => by simp) (by omega) (by unfold maxLen; omega) (by simp [madeCells]) h
    simp only [execOp, ho, hx, hy]
    refine runv ?_
    rw [hrun, euc, hce]
  · exact h.elim

omit [Laid] in
theorem isU8_spec {e : TypeId} (h : isU8 P e = true) : P.underlying e = some (.int .u8) := by
  unfold isU8 at h
  split at h
  · assumption
  · cases h

theorem s_toBytes {s d e : TypeId} {x : Operand} (hr : ROK base ι S a w st) (ho : o.op = .convert s d x) (hs : P.underlying s = some .string) (hd : P.underlying d = some (.slice e)) (he : isU8 P e = true)
    (h : iToBytes e (evalA st.fr x) st.h K) : Meets P o base ι S a w st K := by
  have hx := hr.eval x
  unfold iToBytes at h
  split at h
  · rename_i l e1
    rw [e1, Rep_str] at hx
    obtain ⟨ev, hl⟩ := hx
    have hrun := run_bytes_of_string (P := P) w s d e ⟨l.toArray⟩ hs hd (isU8_spec he)
    have hge := grownCap_ge w l.length 0 e
    have hcm := grownCap_le_maxLen w l.length 0 e hl
    have hsz : (⟨l.toArray⟩ : ByteArray).size = l.length := by simp [ByteArray.size]
    rw [hsz] at hrun
    have hrow : bytesRow ⟨l.toArray⟩ (grownCap w l.length 0 e) = ((l.map fun (b : UInt8) => Value.int .u8 b.toNat) ++ List.replicate (grownCap w l.length 0 e - l.length) (Value.int .u8 0)).toArray := by
      apply Array.ext'
      simp [bytesRow, hsz]
    refine meets_row (vs := l.map fun (b : UInt8) => Value.int .u8 b.toNat) (more := List.replicate (grownCap w l.length 0 e - l.length) (Value.int .u8 0)) (fz := ((bytesRow ⟨l.toArray⟩ (grownCap w l.length 0 e)).size, (bytesRow ⟨l.toArray⟩ (grownCap w l.length 0 e)).size + 1)) hr (.inr rfl) (l := l.length) (c := grownCap w l.length 0 e) ?_ hrow ?_ ?_ hge hcm ?_ h
    · simp only [execOp, ho, ev]
      exact runv hrun
    · refine RepL.mk (by simp) fun i c v q1 q2 => ?_
      simp only [List.getElem?_map] at q1 q2
      cases hl : l[i]? with
      | none => rw [hl] at q1; cases q1
      | some b =>
        rw [hl] at q1 q2
        simp only [Option.map_some, Option.some.injEq] at q1 q2
        subst q1; subst q2
        simp [byteA]
    · intro o ho'
      rw [hrow]
      simp only [List.size_toArray, List.length_append]
      omega
    · simp; omega
  · exact h.elim

omit [Laid] in
theorem unB_vals {cs : List AV} {vs : List Value} : ∀ {l : List UInt8}, RepL ι S w cs vs → unB cs = some l → ∃ ns : List Int, vs = ns.map (Value.int .u8) ∧ l = ns.map fun n => UInt8.ofNat n.toNat := by
  induction cs generalizing vs with
  | nil => intro l h e; simp at h; simp [unB] at e; subst h; subst e; exact ⟨[], rfl, rfl⟩
  | cons c cs ih =>
    intro l h e
    cases vs with
    | nil => simp at h
    | cons v vs =>
      simp only [RepL_cons] at h
      unfold unB at e
      split at e
      · rename_i q; cases q
      · rename_i n r q
        simp only [List.cons.injEq] at q
        obtain ⟨rfl, rfl⟩ := q
        simp only [Option.map_eq_some_iff] at e
        obtain ⟨l', e', rfl⟩ := e
        obtain ⟨ns, rfl, rfl⟩ := ih h.2 e'
        have := h.1
        rw [Rep_v] at this
        subst this
        exact ⟨n :: ns, rfl, rfl⟩
      · cases e

omit [Laid] in
theorem foldl_push : ∀ (ns : List Int) (r : ByteArray), ns.foldl (fun r n => r.push (UInt8.ofNat n.toNat)) r = ⟨r.data ++ (ns.map fun n => UInt8.ofNat n.toNat).toArray⟩
  | [], r => by simp
  | n :: ns, r => by
    simp only [List.foldl_cons, List.map_cons]
    rw [foldl_push ns]
    simp [ByteArray.push]

theorem s_ofBytes {s d e : TypeId} {x : Operand} (hr : ROK base ι S a w st) (ho : o.op = .convert s d x) (hs : P.underlying s = some (.slice e)) (hd : P.underlying d = some .string) (he : isU8 P e = true)
    (h : iOfBytes (evalA st.fr x) st.h fun v => K v st.h) : Meets P o base ι S a w st K := by
  unfold iOfBytes at h
  split at h
  · rename_i l hl
    simp only [Option.bind_eq_some_iff] at hl
    obtain ⟨rows, hsrc, hl⟩ := hl
    obtain ⟨ad, cap, vs, ev, hm, rv, hfl, hcell⟩ := src_cells hr.hp (hr.eval x) hsrc
    rw [Nat.mul_one] at hfl
    have hvl : vs.length = rows.length := by rw [← rv.length, hfl]
    obtain ⟨ns, rfl, hl'⟩ := unB_vals rv hl
    have hll : l.length = rows.length := by rw [hl', ← hvl]; simp
    refine meets_pure hr (u := .string ⟨l.toArray⟩) ?_ (by rw [Rep_str]; exact ⟨rfl, by omega⟩) h
    simp only [execOp, ho, ev]
    refine runv ?_
    rw [run_convert_bytes_string w s d e ad rows.length cap hs (isU8_spec he) hd]
    rcases hcell with ⟨rfl, hv, _⟩ | ⟨b, rfl, hcell⟩
    · have : ns = [] := by simpa using hv
      subst this
      simp only [List.map_nil] at hl'
      subst hl'
      rfl
    · have hload : (loadCells b rows.length).run P w = .ok (ns.map (Value.int .u8)).toArray w := by
        rw [← hvl]; exact run_loadCells_list (P := P) w b _ hcell
      rw [run_bytesToString w b rows.length cap ns hload, foldl_push, ← hl', show ByteArray.empty.data = #[] from rfl, Array.empty_append]
  · exact h.elim
end
end Go.Aw
