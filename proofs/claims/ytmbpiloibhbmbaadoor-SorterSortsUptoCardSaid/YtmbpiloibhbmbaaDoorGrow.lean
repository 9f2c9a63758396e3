/-
  Steps for slices that grow.
  No conditions: lemmas.
-/
import Derived.Test.YtmbpiloibhbmbaaDoorAuto
import Derived.Test.YtmbpiloibhbmbaaDoorL5
set_option linter.unusedVariables false
set_option linter.unusedSimpArgs false
namespace Go.Aw
open Go
section
variable {h : Heap} {K : AV → Heap → Prop}
theorem setAll_pre : ∀ (b p a : List AV), a.length = b.length → setAll (p ++ a) p.length b = p ++ b
  | [], p, a, h => by simp at h; subst h; rfl
  | c :: b, p, x :: a, h => by
    rw [setAll]
    have e : (p ++ x :: a).set p.length c = (p ++ [c]) ++ a := by simp
    have := setAll_pre b (p ++ [c]) a (by simpa using h)
    rw [e, show p.length + 1 = (p ++ [c]).length by simp, this]
    simp
theorem setAll_all {a b : List AV} (h : a.length = b.length) : setAll a 0 b = b := by simpa using setAll_pre b [] a h
theorem a_mkSl0 {t sz : Nat} {z : AV} (q : K .emp h) : iMkSl t 0 sz z [] h K := q
theorem a_mkSl1 {t sz : Nat} {z v : AV} {cs : List AV} (hv : vcells v = cs) (hl : cs.length = sz) (hz : (vcells z).length = sz) (hs : cs.all scal = true) (q : K (.own h.length 0 1 sz) (h ++ [.blk ⟨t, cs, true⟩])) : iMkSl t 1 sz z [(0, sz, v)] h K := by
  subst hv
  have : bfill (rep0 1 (vcells z)) [(0, sz, v)] = some (vcells v) := by
    simp only [bfill, rep0, List.append_nil]
    rw [if_pos ⟨hl, by omega, hs⟩, setAll_all (by omega)]
  unfold iMkSl
  rw [this]
  exact q
theorem a_app0 {e sz bytes : Nat} {x y : AV} {rows : List (List AV)} (ex : x = .emp) (hs : srcR h sz y = some rows) (hr : rows.all (rowOK sz) = true) (hm : roomA bytes rows.length) (q : K (.sb h.length sz rows) (h ++ [.tok e sz rows.length])) : iApp false e sz bytes x y h K := by
  subst ex
  unfold iApp iAppTo
  rw [hs]
  exact ⟨hr, hm, q⟩
theorem a_appO {e sz bytes : Nat} {x y : AV} {rows : List (List AV)} (ex : x = .emp) (hs : srcR h sz y = some rows) (hr : rows.all (rowOK sz) = true) (hn : rows ≠ []) (hm : roomA bytes rows.length) (q : K (.own h.length 0 rows.length sz) (h ++ [.blk ⟨e, rows.flatten, true⟩])) : iApp true e sz bytes x y h K := by
  subst ex
  unfold iApp iAppTo
  rw [hs]
  exact ⟨hr, hn, hm, q⟩
theorem a_appB {own : Bool} {e sz bytes id k : Nat} {x y : AV} {base rows : List (List AV)} (ex : x = .sb id sz base) (ht : h[id]? = some (.tok e sz k)) (hk : k = base.length) (hs : srcR h sz y = some rows) (hr : rows.all (rowOK sz) = true) (hm : roomA bytes (k + rows.length)) (q : K (.sb id sz (base ++ rows)) (h.set id (.tok e sz (k + rows.length)))) : iApp own e sz bytes x y h K := by
  subst ex
  unfold iApp iAppTo
  rw [hs]
  refine ⟨hr, ?_⟩
  simp only [nle]
  rw [ht]
  exact ⟨by simp [hk], hm, q⟩
theorem a_appK {own : Bool} {e sz bytes id len : Nat} {x y : AV} {cells : List AV} {rows : List (List AV)} (ex : x = .own id 0 len sz) (hb : h[id]? = some (.blk ⟨e, cells, true⟩)) (hl : len * sz ≤ cells.length) (hp : 0 < len) (hs : srcR h sz y = some rows) (hr : rows.all (rowOK sz) = true) (hm : roomA bytes (len + rows.length))
    (q : K (.own h.length 0 (len + rows.length) sz) (h.set id .dead ++ [.blk ⟨e, cells.take (len * sz) ++ rows.flatten, true⟩])) : iApp own e sz bytes x y h K := by
  subst ex
  unfold iApp iAppTo
  rw [hs]
  refine ⟨hr, ?_⟩
  simp only [nle]
  rw [hb]
  exact ⟨by simp [hl], by omega, hm, q⟩
theorem a_idxOw {m id off len : Nat} {x i : AV} {K : AV → Prop} {n : Nat} (ex : x = .own id off len m) (ei : i = int n) (hn : n < len) (q : K (.op id (off + n * m))) : iIdxP m x i K := by
  subst ex; subst ei
  exact ⟨rfl, ⟨by omega, by omega⟩, by simpa using q⟩
section
variable {h' : Heap} {n : Nat}
theorem n_mkSl0 {t sz : Nat} {z : AV} (hh : h = h') (q : K .emp h') : iMkSl t 0 sz z [] h K := by subst hh; exact q
theorem n_mkSl1 {t sz : Nat} {z v : AV} {cs : List AV} (hv : vcells v = cs) (hl : cs.length = sz) (hz : (vcells z).length = sz) (hs : cs.all scal = true) (hn : h.length = n) (hh : h ++ [.blk ⟨t, cs, true⟩] = h') (q : K (.own n 0 1 sz) h') : iMkSl t 1 sz z [(0, sz, v)] h K := by
  subst hn; subst hh; exact a_mkSl1 hv hl hz hs q
theorem n_app0 {e sz bytes k : Nat} {x y : AV} {rows : List (List AV)} (ex : x = .emp) (hs : srcR h sz y = some rows) (hr : rows.all (rowOK sz) = true) (hk : rows.length = k) (hm : roomA bytes k) (hn : h.length = n) (hh : h ++ [.tok e sz k] = h') (q : K (.sb n sz rows) h') : iApp false e sz bytes x y h K := by
  subst hn; subst hh; subst hk; exact a_app0 ex hs hr hm q
theorem n_appO {e sz bytes k : Nat} {x y : AV} {rows : List (List AV)} (ex : x = .emp) (hs : srcR h sz y = some rows) (hr : rows.all (rowOK sz) = true) (hne : rows ≠ []) (hk : rows.length = k) (hm : roomA bytes k) (hn : h.length = n) (hh : h ++ [.blk ⟨e, rows.flatten, true⟩] = h') (q : K (.own n 0 k sz) h') : iApp true e sz bytes x y h K := by
  subst hn; subst hh; subst hk; exact a_appO ex hs hr hne hm q
theorem n_appB {own : Bool} {e sz bytes id k : Nat} {x y : AV} {base rows : List (List AV)} (ex : x = .sb id sz base) (ht : h[id]? = some (.tok e sz k)) (hk : k = base.length) (hs : srcR h sz y = some rows) (hr : rows.all (rowOK sz) = true) (hm : roomA bytes (k + rows.length)) (hh : h.set id (.tok e sz (k + rows.length)) = h') (q : K (.sb id sz (base ++ rows)) h') : iApp own e sz bytes x y h K := by
  subst hh; exact a_appB ex ht hk hs hr hm q
theorem n_appK {own : Bool} {e sz bytes id len : Nat} {x y : AV} {cells : List AV} {rows : List (List AV)} (ex : x = .own id 0 len sz) (hb : h[id]? = some (.blk ⟨e, cells, true⟩)) (hl : len * sz ≤ cells.length) (hp : 0 < len) (hs : srcR h sz y = some rows) (hr : rows.all (rowOK sz) = true) (hm : roomA bytes (len + rows.length)) (hn : h.length = n)
    (hh : h.set id .dead ++ [.blk ⟨e, cells.take (len * sz) ++ rows.flatten, true⟩] = h') (q : K (.own n 0 (len + rows.length) sz) h') : iApp own e sz bytes x y h K := by
  subst hn; subst hh; exact a_appK ex hb hl hp hs hr hm q
theorem n_new {t : TypeId} {v : AV} {cs : List AV} (hv : vcells v = cs) (e : cs.all scal = true) (hn : h.length = n) (hh : h ++ [.blk ⟨t, cs, true⟩] = h') (q : K (.op n 0) h') : iNew t v h K := by
  subst hv; subst hn; subst hh; exact w_new e q
theorem n_store {sz id o : Nat} {x v : AV} {b : Blk} {cs : List AV} {KS : Heap → Prop} (e : x = .op id o) (hb : h[id]? = some (.blk b)) (hw : b.wr = true) (hv : vcells v = cs) (hl : o + cs.length ≤ b.cells.length) (hz : cs.length = sz) (hs : cs.all scal = true)
    (hh : h.set id (.blk ⟨b.ty, setAll b.cells o cs, b.wr⟩) = h') (q : KS h') : iStore sz x v h KS := by
  subst hh; exact a_store e hb hw hv hl hz hs q
end
theorem srcR_sl {sz : Nat} {rows : List (List AV)} : srcR h sz (.sl sz rows) = some rows := by simp [srcR, unsb]
theorem srcR_own {sz id off len : Nat} {b : Blk} (hb : h[id]? = some (.blk b)) (hl : off + len * sz ≤ b.cells.length) : srcR h sz (.own id off len sz) = some (chunks sz len (b.cells.drop off)) := by
  rw [srcR_o, hb]
  simp [hl]
theorem a_slT {n : Nat} {x : AV} {rows : List (List AV)} {K : AV → Prop} (ex : x = .sl n rows) (hl : 1 ≤ rows.length) (q : K (.sl n (rows.drop 1))) : iSl n x (some (int 1)) none K := by
  subst ex
  rw [iSl_s]
  simp only [optI]
  refine ⟨by simp, ⟨by omega, by omega, by omega⟩, ?_⟩
  simpa using q
end
theorem a_loadAT {h : Heap} {n : Nat} {x : AV} {cs : List AV} {K : AV → Prop} (e : x = .ip cs) (hn : n ≤ cs.length) (q : K (.agg (cs.take n))) : iLoad true n x h K := by
  subst e
  rw [iLoad_i]
  exact ⟨hn, q⟩
/-- A slice that grows, told. -/
theorem told_sb {h : Heap} {d id sz : Nat} {rows : List (List AV)} (p : PureR rows) : tl 0 h d (.sb id sz rows) = .sl sz rows := by
  cases d <;> simp [tl, tlA, tlR_pure _ _ _ _ p]
theorem tl_pureA {h : Heap} {d : Nat} {a : AV} (p : Aw.Pure a) : tl 0 h d a = a := by
  cases d <;> exact tlA_pure _ _ _ _ p
theorem mapL_pure {h : Heap} {d : Nat} : ∀ l : List AV, PureL l → l.map (tl 0 h d) = l
  | [], _ => rfl
  | a :: l, p => by
    simp only [PureL] at p
    rw [List.map_cons, tl_pureA p.1, mapL_pure l p.2]
theorem mapR_pure {h : Heap} {d : Nat} : ∀ r : List (List AV), PureR r → r.map (List.map (tl 0 h d)) = r
  | [], _ => rfl
  | a :: l, p => by
    simp only [PureR] at p
    rw [List.map_cons, mapL_pure a p.1, mapR_pure l p.2]
theorem chunks_rows {sz : Nat} : ∀ rows : List (List AV), rows.all (rowOK sz) = true → chunks sz rows.length rows.flatten = rows
  | [], _ => rfl
  | r :: rows, h => by
    simp only [List.all_cons, Bool.and_eq_true, rowOK, beq_iff_eq] at h
    rw [List.length_cons, List.flatten_cons, chunks]
    have hr := h.1.1
    rw [List.take_append_of_le_length (by omega), List.take_of_length_le (by omega), List.drop_append_of_le_length (by omega), List.drop_of_length_le (by omega), List.nil_append, chunks_rows rows (by simpa [rowOK] using h.2)]
theorem told_own {h : Heap} {d id len sz : Nat} {b : Blk} {cells : List AV} (hb : h[id]? = some (.blk b)) (hc : b.cells = cells) (hl : len * sz ≤ cells.length) : tl 0 h (d + 1) (.own id 0 len sz) = .sl sz ((chunks sz len cells).map (List.map (tl 0 h d))) := by
  subst hc
  simp only [tl, tlA]
  rw [if_neg (by omega), hb]
  simp only [Nat.zero_add, List.drop_zero]
  rw [if_pos hl]
theorem rows_ok {α : Type} {f : α → List AV} {sz : Nat} (hf : ∀ x, (f x).length = sz ∧ (f x).all scal = true) (l : List α) : (l.map f).all (rowOK sz) = true := by
  rw [List.all_map, List.all_eq_true]
  intro x _
  simp only [Function.comp, rowOK, Bool.and_eq_true, beq_iff_eq]
  exact hf x
end Go.Aw
