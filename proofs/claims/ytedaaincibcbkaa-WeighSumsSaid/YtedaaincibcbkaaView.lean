/-
  Memory of the call's own that is written no more: it may be told as values, and handed on.
  No conditions: definitions and lemmas over any program.
-/
import Derived.Test.YtedaaincibcbkaaUse
namespace Go.Aw
open Go Go.RowKit

/-- Block 'id' is written no more. -/
def frz (id : Nat) (h : Heap) : Heap :=
  match h[id]? with
  | some (some b) => h.set id (some { b with wr := false })
  | _ => h
def frzs : List Nat → Heap → Heap
  | [], h => h
  | i :: r, h => frzs r (frz i h)

theorem frz_length (id : Nat) (h : Heap) : (frz id h).length = h.length := by
  unfold frz; split <;> simp
theorem frzs_length : ∀ (l : List Nat) (h : Heap), (frzs l h).length = h.length
  | [], h => rfl
  | i :: r, h => by rw [frzs, frzs_length r, frz_length]

theorem HOK.frz {base : Nat} {ι : List Nat} {S : Stab} {w : World} {h : Heap} (hh : HOK base ι S w h) (id : Nat) : ∃ S', Evo ι.length base ι S w ι S' w ∧ HOK base ι S' w (frz id h) := by
  unfold Aw.frz
  split
  · rename_i x e
    obtain ⟨b, arr, fz, h1, h2, h3, h4, h5, h6, h7, h8, h9⟩ := hh.live id x e
    have hlt : id < h.length := (List.getElem?_eq_some_iff.1 e).1
    have hbw : b < w.heap.size := by
      rcases Nat.lt_or_ge b w.heap.size with q | q
      · exact q
      · rw [Array.getElem?_eq_none q] at h3; cases h3
    let S' : Stab := fun b' o => S b' o ∨ (b' = b ∧ o < x.cells.length)
    have hE : Evo ι.length base ι S w ι S' w := ⟨fun _ _ => rfl, fun _ _ q => .inl q, fun b' o q => q.elim .inl (fun r => .inr (by rw [r.1]; exact h2)), fun _ _ _ => rfl, fun _ _ q => q, Below.refl _ _⟩
    refine ⟨S', hE, by simp [hh.len], fun id' y ey => ?_, fun i j y z b' ei ej hi hj => ?_, fun b' o q => q.elim (hh.stb b' o) (fun r => by rw [r.1]; exact hbw), hh.bas⟩
    · by_cases hid : id' = id
      · subst hid
        rw [List.getElem?_set_self hlt] at ey
        simp only [Option.some.injEq] at ey
        subst ey
        exact ⟨b, arr, fz, h1, h2, h3, h4, h5, fun i c ec => let ⟨v, e1, e2⟩ := h6 i c ec; ⟨v, e1, Rep.evo hE (Nat.le_refl _) c v e2⟩, fun q => (by cases q), fun o q => q.elim (h8 o) (fun r => r.2), fun _ o ho => .inr ⟨rfl, ho⟩⟩
      · rw [List.getElem?_set_ne (Ne.symm hid)] at ey
        obtain ⟨b', arr', f', k1, k2, k3, k4, k5, k6, k7, k8, k9⟩ := hh.live id' y ey
        have hne : b' ≠ b := fun q => hid (hh.inj id' id y x b ey e (q ▸ k1) h1)
        exact ⟨b', arr', f', k1, k2, k3, k4, k5, fun i c ec => let ⟨v, e1, e2⟩ := k6 i c ec; ⟨v, e1, Rep.evo hE (Nat.le_refl _) c v e2⟩, fun q o r => r.elim (k7 q o) (fun r => hne r.1), fun o r => r.elim (k8 o) (fun r => absurd r.1 hne), fun q o ho => .inl (k9 q o ho)⟩
    · have low : ∀ {i : Nat} {y : Blk}, (h.set id (some { x with wr := false }))[i]? = some (some y) → ∃ z, h[i]? = some (some z) := by
        intro i y ey
        by_cases hi : i = id
        · subst hi; exact ⟨x, e⟩
        · rw [List.getElem?_set_ne (Ne.symm hi)] at ey; exact ⟨y, ey⟩
      obtain ⟨y', ey'⟩ := low ei
      obtain ⟨z', ez'⟩ := low ej
      exact hh.inj i j y' z' b' ey' ez' hi hj
  · exact ⟨S, Evo.refl _ _ _ _ _, hh⟩

theorem HOK.frzs {base : Nat} {ι : List Nat} {w : World} : ∀ (l : List Nat) {S : Stab} {h : Heap}, HOK base ι S w h → ∃ S', Evo ι.length base ι S w ι S' w ∧ HOK base ι S' w (frzs l h)
  | [], S, h, hh => ⟨S, Evo.refl _ _ _ _ _, hh⟩
  | i :: r, S, h, hh => by
    obtain ⟨S1, e1, h1⟩ := hh.frz i
    obtain ⟨S2, e2, h2⟩ := HOK.frzs r h1
    exact ⟨S2, e1.trans e2, h2⟩

def F2 {α β : Type} (R : α → β → Prop) : List α → List β → Prop
  | [], [] => True
  | a :: as, b :: bs => R a b ∧ F2 R as bs
  | _, _ => False

def chunks (sz : Nat) : Nat → List AV → List (List AV)
  | 0, _ => []
  | n + 1, cs => cs.take sz :: chunks sz n (cs.drop sz)

/-- 'b' is what 'a' stands for, told without the call's own blocks. -/
def View (h : Heap) : Nat → AV → AV → Prop
  | 0, a, b => a = b
  | n + 1, a, b =>
    match a, b with
    | .own id off len sz, .sl sz' rows => sz' = sz ∧ ∃ x, h[id]? = some (some x) ∧ x.wr = false ∧ off + len * sz ≤ x.cells.length ∧ F2 (F2 (View h n)) (chunks sz len (x.cells.drop off)) rows
    | .op id off, .ip cs => ∃ x, h[id]? = some (some x) ∧ x.wr = false ∧ F2 (View h n) (x.cells.drop off) cs
    | .emp, .sl _ rows => rows = []
    | .agg xs, .agg ys => F2 (View h n) xs ys
    | .tup xs, .tup ys => F2 (View h n) xs ys
    | .fn f xs ys, .fn f' xs' ys' => f = f' ∧ F2 (View h n) xs xs' ∧ F2 (View h n) ys ys'
    | .sl sz rows, .sl sz' rows' => sz' = sz ∧ F2 (F2 (View h n)) rows rows'
    | a, b => a = b

theorem chunks_get (sz : Nat) : ∀ (n : Nat) (cs : List AV) (i : Nat), i < n → (chunks sz n cs)[i]? = some ((cs.drop (i * sz)).take sz)
  | 0, _, i, h => by omega
  | n + 1, cs, 0, _ => by simp [chunks]
  | n + 1, cs, i + 1, h => by
    simp only [chunks, List.getElem?_cons_succ]
    rw [chunks_get sz n (cs.drop sz) i (by omega), List.drop_drop]
    congr 3
    rw [Nat.add_mul]; omega
theorem chunks_length (sz : Nat) : ∀ (n : Nat) (cs : List AV), (chunks sz n cs).length = n
  | 0, _ => rfl
  | n + 1, cs => by simp [chunks, chunks_length sz n]

theorem f2_get {α β : Type} {R : α → β → Prop} : ∀ {xs : List α} {ys : List β}, F2 R xs ys → ∀ (i : Nat) (y : β), ys[i]? = some y → ∃ x, xs[i]? = some x ∧ R x y
  | [], [], _, i, y, e => by simp at e
  | [], _ :: _, h, _, _, _ => h.elim
  | _ :: _, [], h, _, _, _ => h.elim
  | x :: xs, z :: ys, h, 0, y, e => by simp at e; subst e; exact ⟨x, by simp, h.1⟩
  | x :: xs, z :: ys, h, i + 1, y, e => by
    obtain ⟨x, h1, h2⟩ := f2_get h.2 i y (by simpa using e)
    exact ⟨x, by simpa using h1, h2⟩
theorem f2_length {α β : Type} {R : α → β → Prop} : ∀ {xs : List α} {ys : List β}, F2 R xs ys → xs.length = ys.length
  | [], [], _ => rfl
  | [], _ :: _, h => h.elim
  | _ :: _, [], h => h.elim
  | x :: xs, y :: ys, h => by simp [f2_length h.2]

theorem RepL.view {ι : List Nat} {S : Stab} {w : World} {R : AV → AV → Prop} (hR : ∀ a b v, R a b → Rep ι S w a v → Rep ι S w b v) : ∀ {as bs : List AV} {vs : List Value}, F2 R as bs → RepL ι S w as vs → RepL ι S w bs vs
  | [], [], vs, _, h => h
  | [], _ :: _, _, f, _ => f.elim
  | _ :: _, [], _, f, _ => f.elim
  | _ :: _, _ :: _, [], _, h => by simp at h
  | _ :: _, _ :: _, v :: vs, f, k => by simp at k; simpa using ⟨hR _ _ _ f.1 k.1, RepL.view hR f.2 k.2⟩
theorem RepC.view {ι : List Nat} {S : Stab} {w : World} {R : AV → AV → Prop} (hR : ∀ a b v, R a b → Rep ι S w a v → Rep ι S w b v) {as bs : List AV} {b off : Nat} (f : F2 R as bs) (h : RepC ι S w as b off) : RepC ι S w bs b off :=
  RepC.mk fun i c e => by
    obtain ⟨x, e1, r⟩ := f2_get f i c e
    obtain ⟨u, h1, h2, h3⟩ := h.get i x e1
    exact ⟨u, h1, h2, hR _ _ _ r h3⟩

theorem Rep.view {base : Nat} {ι : List Nat} {S : Stab} {w : World} {h : Heap} (hh : HOK base ι S w h) : ∀ (n : Nat) (a b : AV) (v : Value), View h n a b → Rep ι S w a v → Rep ι S w b v
  | 0, a, b, v, q, r => by rw [View] at q; subst q; exact r
  | n + 1, a, b, v, q, r => by
    have ih := fun a b v => Rep.view hh n a b v
    have cellsOK : ∀ {id : Nat} {x : Blk}, h[id]? = some (some x) → x.wr = false → ∀ {bb : Nat}, ι[id]? = some bb → ∀ (off : Nat), RepC ι S w (x.cells.drop off) bb off := by
      intro id x e hx bb hbb off
      obtain ⟨b', arr, fz, h1, h2, h3, h4, h5, h6, h7, h8, h9⟩ := hh.live id x e
      rw [hbb] at h1; cases h1
      refine RepC.mk fun i c ec => ?_
      have ec' : x.cells[off + i]? = some c := by simpa [List.getElem?_drop] using ec
      obtain ⟨u, e1, e2⟩ := h6 _ _ ec'
      exact ⟨u, by rw [cell_at h3]; exact e1, h9 hx _ (List.getElem?_eq_some_iff.1 ec').1, e2⟩
    unfold View at q
    split at q
    · rename_i id off len sz sz' rows
      obtain ⟨rfl, x, e, hx, hl, hf⟩ := q
      rw [Rep] at r
      obtain ⟨bb, ad, cap, m, ty, c1, ev, c2, c3, c4, c5, c6⟩ := r
      have hlen : rows.length = len := by rw [← f2_length hf, chunks_length]
      rw [Rep]
      refine ⟨ad, cap, by rw [hlen]; exact ev, by omega, c3, ?_⟩
      by_cases hr : rows = []
      · exact .inl hr
      · right
        have hpos : 0 < rows.length := List.length_pos_iff.2 hr
        rcases c4 with c4 | c4
        · omega
        · refine ⟨bb, off, c4, RepR.mk fun i row er => ?_⟩
          have hi : i < len := by rw [← hlen]; exact (List.getElem?_eq_some_iff.1 er).1
          obtain ⟨row0, e0, f0⟩ := f2_get hf i row er
          rw [chunks_get _ _ _ _ hi] at e0
          cases e0
          have hmul : (i + 1) * sz' ≤ len * sz' := Nat.mul_le_mul_right _ (by omega)
          rw [Nat.add_mul, Nat.one_mul] at hmul
          refine ⟨by rw [← f2_length f0]; simp; omega, RepC.view ih f0 ?_⟩
          have := cellsOK e hx c1 (off + i * sz')
          refine RepC.mk fun j c ej => ?_
          have ej' : (x.cells.drop (off + i * sz'))[j]? = some c := by
            rw [List.getElem?_take] at ej
            split at ej
            · simpa [List.drop_drop] using ej
            · cases ej
          exact this.get j c ej'
    · rename_i id off cs
      obtain ⟨x, e, hx, hf⟩ := q
      rw [Rep] at r
      obtain ⟨bb, c1, ev⟩ := r
      rw [Rep]
      exact ⟨bb, off, ev, RepC.view ih hf (cellsOK e hx c1 off)⟩
    · subst q
      rw [Rep] at r
      obtain ⟨ad, ev⟩ := r
      rw [Rep]
      exact ⟨ad, 0, ev, by simp, by unfold maxLen; omega, .inl rfl⟩
    · rw [Rep] at *
      obtain ⟨vs, e, k⟩ := r
      exact ⟨vs, e, k.view ih q⟩
    · rw [Rep] at *
      obtain ⟨vs, e, k⟩ := r
      exact ⟨vs, e, k.view ih q⟩
    · rw [Rep] at *
      obtain ⟨rfl, q1, q2⟩ := q
      obtain ⟨vs, us, e, k1, k2⟩ := r
      exact ⟨vs, us, e, k1.view ih q1, k2.view ih q2⟩
    · rename_i sz rows sz' rows'
      obtain ⟨rfl, q⟩ := q
      rw [Rep] at *
      obtain ⟨ad, cap, e, h1, h2, h3⟩ := r
      have hlen := f2_length q
      refine ⟨ad, cap, by rw [← hlen]; exact e, by omega, h2, ?_⟩
      rcases h3 with h3 | ⟨b, off, ea, hr⟩
      · subst h3
        exact .inl (List.length_eq_zero_iff.1 (by rw [← hlen]; rfl))
      · refine .inr ⟨b, off, ea, RepR.mk fun i row er => ?_⟩
        obtain ⟨row0, e0, f0⟩ := f2_get q i row er
        obtain ⟨l0, r0⟩ := hr.get i row0 e0
        exact ⟨by rw [← f2_length f0]; exact l0, RepC.view ih f0 r0⟩
    · subst q; exact r

theorem ACall.own {P : Program} {f : FuncId} {args args' : List AV} {h : Heap} {K : AV → Heap → Prop} (l : List Nat) (n : Nat) (hv : F2 (View (frzs l h) n) args args') (q : ACall P f args' (frzs l h) K) : ACall P f args h K := by
  intro base ι S w vs h1 h2
  obtain ⟨S', hE, hH⟩ := h2.frzs l
  have h1' : RepL ι S' w args' vs := (RepL.evo hE (Nat.le_refl _) _ _ h1).view (fun a b v => Rep.view hH n a b v) hv
  refine (q base ι S' w vs h1' hH).mono ?_
  rintro e w' ⟨v, ι'', S'', r, h', e1, e2, e3, e4, e5, e6⟩
  rw [frzs_length] at e2 e5
  exact ⟨v, ι'', S'', r, h', e1, (hE.mono (by rw [h2.len]; exact Nat.le_refl _) (Nat.le_refl _)).trans e2, e3, e4, e5, e6⟩

/-- A call by a contract, some blocks of the call's own being written no more from here on. -/
theorem iCall_own {P : Program} {f : FuncId} {args args' : List AV} {r : AV} {h : Heap} {K : AV → Heap → Prop} (l : List Nat) (n : Nat) (hb : hasBody P f = true) (c : Con P f args' r) (hv : F2 (View (frzs l h) n) args args') (k : K r (frzs l h)) :
    iCall P (.fn (.func f) [] []) args h K :=
  ⟨hb, by
    have := ACall.own (K := K) l n hv (c.call k)
    simpa using this⟩

/-- A contract whose result lies in the call's own memory. -/
theorem con_view {P : Program} {f : FuncId} {args : List AV} {r : AV} (pa : PureL args) (pr : Pure r) (q : ACall P f args [] fun r' h' => ∃ l n, View (frzs l h') n r' r) : Con P f args r := by
  refine ⟨pa, pr, fun base ι S w vs h1 h2 => (q base ι S w vs h1 h2).mono ?_⟩
  rintro e w' ⟨v, ι', S', r', h', e1, e2, e3, e4, e5, l, n, hv⟩
  obtain ⟨S'', hE, hH⟩ := e4.frzs l
  exact ⟨v, ι', S'', r, _, e1, e2.trans (hE.mono (Nat.zero_le _) (Nat.le_refl _)), Rep.view hH n r' r v hv (Rep.evo hE (Nat.le_refl _) _ _ e3), hH, Nat.zero_le _, rfl⟩

theorem Weak.frz {m : Nat} {fr : List AV} {h : Heap} (l : List Nat) : Weak m ⟨fr, h⟩ ⟨fr, frzs l h⟩ := by
  intro base ι S a w hm hr
  obtain ⟨S', hE, hH⟩ := hr.hp.frzs l
  exact ⟨ι, S', hE.mono (by rw [hr.hp.len]; exact hm) (Nat.le_refl _), by rw [frzs_length]; exact hm, hr.df, RepL.evo hE (Nat.le_refl _) _ _ hr.fr, hH⟩
theorem Weak.view {m : Nat} {fr fr' : List AV} {h : Heap} (n : Nat) (hv : F2 (View h n) fr fr') : Weak m ⟨fr, h⟩ ⟨fr', h⟩ := fun _ ι S _ _ hm hr =>
  ⟨ι, S, Evo.refl _ _ _ _ _, hm, hr.df, hr.fr.view (fun a b v => Rep.view hr.hp n a b v) hv, hr.hp⟩

mutual
/-- It says nothing of memory. -/
def Flat : AV → Prop
  | .v _ | .str _ | .any => True
  | .agg cs | .tup cs => FlatL cs
  | .emp | .sl .. | .ip _ | .own .. | .op .. | .fn .. | .ifc .. => False
def FlatL : List AV → Prop
  | [] => True
  | a :: as => Flat a ∧ FlatL as
end
mutual
theorem Rep.flat {ι ι' : List Nat} {S S' : Stab} {w w' : World} : ∀ (a : AV) (v : Value), Flat a → Rep ι S w a v → Rep ι' S' w' a v
  | .v x, y, _, k => by simpa using k
  | .str x, y, _, k => by simpa using k
  | .any, y, _, k => by simp
  | .agg cs, y, p, k => by rw [Rep] at *; rw [Flat] at p; obtain ⟨vs, e, k⟩ := k; exact ⟨vs, e, RepL.flat cs vs p k⟩
  | .tup cs, y, p, k => by rw [Rep] at *; rw [Flat] at p; obtain ⟨vs, e, k⟩ := k; exact ⟨vs, e, RepL.flat cs vs p k⟩
  | .emp, _, p, _ => by rw [Flat] at p; exact p.elim
  | .sl _ _, _, p, _ => by rw [Flat] at p; exact p.elim
  | .ip _, _, p, _ => by rw [Flat] at p; exact p.elim
  | .own .., _, p, _ => by rw [Flat] at p; exact p.elim
  | .op .., _, p, _ => by rw [Flat] at p; exact p.elim
  | .fn .., _, p, _ => by rw [Flat] at p; exact p.elim
  | .ifc .., _, p, _ => by rw [Flat] at p; exact p.elim
theorem RepL.flat {ι ι' : List Nat} {S S' : Stab} {w w' : World} : ∀ (as : List AV) (vs : List Value), FlatL as → RepL ι S w as vs → RepL ι' S' w' as vs
  | [], vs, _, k => by simpa using k
  | a :: as, [], _, k => by simp at k
  | a :: as, v :: vs, p, k => by rw [FlatL] at p; simp at k; simpa using ⟨Rep.flat a v p.1 k.1, RepL.flat as vs p.2 k.2⟩
end

/-- A call by a contract that only looks at the call's own memory. -/
theorem iCall_borrow {P : Program} {f : FuncId} {args args' : List AV} {r : AV} {h : Heap} {K : AV → Heap → Prop} (l : List Nat) (n : Nat) (hb : hasBody P f = true) (c : Con P f args' r) (hf : Flat r) (hv : F2 (View (frzs l h) n) args args') (k : K r h) :
    iCall P (.fn (.func f) [] []) args h K := by
  refine ⟨hb, ?_⟩
  obtain ⟨pa, pr, c⟩ := c
  intro base ι S w vs h1 h2
  simp only [List.nil_append, List.append_nil] at h1
  obtain ⟨S1, hE, hH⟩ := h2.frzs l
  have h1' : RepL ι S1 w args' vs := (RepL.evo hE (Nat.le_refl _) _ _ h1).view (fun a b v => Rep.view hH n a b v) hv
  refine (c w.heap.size [] S1 w vs (RepL.pure args' vs pa h1') (HOK.nil S1 w hH.stb)).mono ?_
  rintro e w' ⟨v, ι', S', r', h', e1, e2, e3, e4, _, rfl⟩
  have hE2 : Evo ι.length w.heap.size ι S w ι S w' := ⟨fun _ _ => rfl, fun _ _ q => q, fun _ _ q => .inl q, fun b o q => e2.cell b o (hE.sub b o q), e2.shp, e2.bel⟩
  exact ⟨v, ι, S, r', h, e1, hE2.mono (by rw [h2.len]; exact Nat.le_refl _) h2.bas, Rep.flat r' v hf e3, h2.over hE2 (fun b o q => Nat.lt_of_lt_of_le (h2.stb b o q) e2.bel.size), Nat.le_refl _, k⟩

attribute [simp] Flat FlatL
attribute [simp] frz frzs chunks View F2
theorem f2_refl {α : Type} {R : α → α → Prop} (hr : ∀ a, R a a) : ∀ l : List α, F2 R l l
  | [] => trivial
  | a :: l => ⟨hr a, f2_refl hr l⟩
end Go.Aw
