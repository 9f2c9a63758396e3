/-
  Steps for slices that grow; weights that are small enough. Steps for slices cut and turned; what a turned selector is told as. A weight is a sum over compounds, and the order of simple selectors does not count: the law.
  No conditions.
-/
import Derived.Test.YthblflmjingcfaaGreatDoorG1
import Derived.Test.YthblflmjingcfaaGreatDoorL5
import Derived.Test.YthblflmjingcfaaGreatDoorWCut
set_option linter.unusedVariables false
set_option linter.unusedSimpArgs false
section
namespace Go.Aw
open Go
section
variable {h : Heap} {K : AV → Heap → Prop}
theorem setAll_pre : ∀ (b p a : List AV), a.length = b.length → setAll (p ++ a) p.length b = p ++ b
  | [], p, a, h => by simp at h; subst h; rfl
  | c :: b, p, x :: a, h => by
    rw [setAll]
    have e : (p ++ x :: a).set p.length c = (p ++ [c]) ++ a := by simp
    have := setAll_pre b (p ++ [c]) a (by simpa using h)
    rw [e, show p.length + 1 = (p ++ [c]).length by simp, this]
    simp
theorem setAll_all {a b : List AV} (h : a.length = b.length) : setAll a 0 b = b := by simpa using setAll_pre b [] a h
theorem a_mkSl0 {t sz : Nat} {z : AV} (q : K .emp h) : iMkSl t 0 sz z [] h K := q
theorem a_mkSl1 {t sz : Nat} {z v : AV} {cs : List AV} (hv : vcells v = cs) (hl : cs.length = sz) (hz : (vcells z).length = sz) (hs : cs.all scal = true) (q : K (.own h.length 0 1 sz) (h ++ [.blk ⟨t, cs, true⟩])) : iMkSl t 1 sz z [(0, sz, v)] h K := by
  subst hv
  have : bfill (rep0 1 (vcells z)) [(0, sz, v)] = some (vcells v) := by
    simp only [bfill, rep0, List.append_nil]
    rw [if_pos ⟨hl, by omega, hs⟩, setAll_all (by omega)]
  unfold iMkSl
  rw [this]
  exact q
theorem a_app0 {e sz bytes : Nat} {x y : AV} {rows : List (List AV)} (ex : x = .emp) (hs : srcR h sz y = some rows) (hr : rows.all (rowOK sz) = true) (hm : roomA bytes rows.length) (q : K (.sb h.length sz rows) (h ++ [.tok e sz rows.length])) : iApp false e sz bytes x y h K := by
  subst ex
  unfold iApp iAppTo
  rw [hs]
  exact ⟨hr, hm, q⟩
theorem a_appO {e sz bytes : Nat} {x y : AV} {rows : List (List AV)} (ex : x = .emp) (hs : srcR h sz y = some rows) (hr : rows.all (rowOK sz) = true) (hn : rows ≠ []) (hm : roomA bytes rows.length) (q : K (.own h.length 0 rows.length sz) (h ++ [.blk ⟨e, rows.flatten, true⟩])) : iApp true e sz bytes x y h K := by
  subst ex
  unfold iApp iAppTo
  rw [hs]
  exact ⟨hr, hn, hm, q⟩
theorem a_appB {own : Bool} {e sz bytes id k : Nat} {x y : AV} {base rows : List (List AV)} (ex : x = .sb id sz base) (ht : h[id]? = some (.tok e sz k)) (hk : k = base.length) (hs : srcR h sz y = some rows) (hr : rows.all (rowOK sz) = true) (hm : roomA bytes (k + rows.length)) (q : K (.sb id sz (base ++ rows)) (h.set id (.tok e sz (k + rows.length)))) : iApp own e sz bytes x y h K := by
  subst ex
  unfold iApp iAppTo
  rw [hs]
  refine ⟨hr, ?_⟩
  simp only [nle]
  rw [ht]
  exact ⟨by simp [hk], hm, q⟩
theorem a_appK {own : Bool} {e sz bytes id len : Nat} {x y : AV} {cells : List AV} {rows : List (List AV)} (ex : x = .own id 0 len sz) (hb : h[id]? = some (.blk ⟨e, cells, true⟩)) (hl : len * sz ≤ cells.length) (hp : 0 < len) (hs : srcR h sz y = some rows) (hr : rows.all (rowOK sz) = true) (hm : roomA bytes (len + rows.length))
    (q : K (.own h.length 0 (len + rows.length) sz) (h.set id .dead ++ [.blk ⟨e, cells.take (len * sz) ++ rows.flatten, true⟩])) : iApp own e sz bytes x y h K := by
  subst ex
  unfold iApp iAppTo
  rw [hs]
  refine ⟨hr, ?_⟩
  simp only [nle]
  rw [hb]
  exact ⟨by simp [hl], by omega, hm, q⟩
theorem a_idxOw {m id off len : Nat} {x i : AV} {K : AV → Prop} {n : Nat} (ex : x = .own id off len m) (ei : i = int n) (hn : n < len) (q : K (.op id (off + n * m))) : iIdxP m x i K := by
  subst ex; subst ei
  exact ⟨rfl, ⟨by omega, by omega⟩, by simpa using q⟩
section
variable {h' : Heap} {n : Nat}
theorem n_mkSl0 {t sz : Nat} {z : AV} (hh : h = h') (q : K .emp h') : iMkSl t 0 sz z [] h K := by subst hh; exact q
theorem n_mkSl1 {t sz : Nat} {z v : AV} {cs : List AV} (hv : vcells v = cs) (hl : cs.length = sz) (hz : (vcells z).length = sz) (hs : cs.all scal = true) (hn : h.length = n) (hh : h ++ [.blk ⟨t, cs, true⟩] = h') (q : K (.own n 0 1 sz) h') : iMkSl t 1 sz z [(0, sz, v)] h K := by
  subst hn; subst hh; exact a_mkSl1 hv hl hz hs q
theorem n_app0 {e sz bytes k : Nat} {x y : AV} {rows : List (List AV)} (ex : x = .emp) (hs : srcR h sz y = some rows) (hr : rows.all (rowOK sz) = true) (hk : rows.length = k) (hm : roomA bytes k) (hn : h.length = n) (hh : h ++ [.tok e sz k] = h') (q : K (.sb n sz rows) h') : iApp false e sz bytes x y h K := by
  subst hn; subst hh; subst hk; exact a_app0 ex hs hr hm q
theorem n_appO {e sz bytes k : Nat} {x y : AV} {rows : List (List AV)} (ex : x = .emp) (hs : srcR h sz y = some rows) (hr : rows.all (rowOK sz) = true) (hne : rows ≠ []) (hk : rows.length = k) (hm : roomA bytes k) (hn : h.length = n) (hh : h ++ [.blk ⟨e, rows.flatten, true⟩] = h') (q : K (.own n 0 k sz) h') : iApp true e sz bytes x y h K := by
  subst hn; subst hh; subst hk; exact a_appO ex hs hr hne hm q
theorem n_appB {own : Bool} {e sz bytes id k : Nat} {x y : AV} {base rows : List (List AV)} (ex : x = .sb id sz base) (ht : h[id]? = some (.tok e sz k)) (hk : k = base.length) (hs : srcR h sz y = some rows) (hr : rows.all (rowOK sz) = true) (hm : roomA bytes (k + rows.length)) (hh : h.set id (.tok e sz (k + rows.length)) = h') (q : K (.sb id sz (base ++ rows)) h') : iApp own e sz bytes x y h K := by
  subst hh; exact a_appB ex ht hk hs hr hm q
theorem n_appK {own : Bool} {e sz bytes id len : Nat} {x y : AV} {cells : List AV} {rows : List (List AV)} (ex : x = .own id 0 len sz) (hb : h[id]? = some (.blk ⟨e, cells, true⟩)) (hl : len * sz ≤ cells.length) (hp : 0 < len) (hs : srcR h sz y = some rows) (hr : rows.all (rowOK sz) = true) (hm : roomA bytes (len + rows.length)) (hn : h.length = n)
    (hh : h.set id .dead ++ [.blk ⟨e, cells.take (len * sz) ++ rows.flatten, true⟩] = h') (q : K (.own n 0 (len + rows.length) sz) h') : iApp own e sz bytes x y h K := by
  subst hn; subst hh; exact a_appK ex hb hl hp hs hr hm q
theorem n_new {t : TypeId} {v : AV} {cs : List AV} (hv : vcells v = cs) (e : cs.all scal = true) (hn : h.length = n) (hh : h ++ [.blk ⟨t, cs, true⟩] = h') (q : K (.op n 0) h') : iNew t v h K := by
  subst hv; subst hn; subst hh; exact w_new e q
theorem n_store {sz id o : Nat} {x v : AV} {b : Blk} {cs : List AV} {KS : Heap → Prop} (e : x = .op id o) (hb : h[id]? = some (.blk b)) (hw : b.wr = true) (hv : vcells v = cs) (hl : o + cs.length ≤ b.cells.length) (hz : cs.length = sz) (hs : cs.all scal = true)
    (hh : h.set id (.blk ⟨b.ty, setAll b.cells o cs, b.wr⟩) = h') (q : KS h') : iStore sz x v h KS := by
  subst hh; exact a_store e hb hw hv hl hz hs q
end
theorem srcR_sl {sz : Nat} {rows : List (List AV)} : srcR h sz (.sl sz rows) = some rows := by simp [srcR, unsb]
theorem srcR_own {sz id off len : Nat} {b : Blk} (hb : h[id]? = some (.blk b)) (hl : off + len * sz ≤ b.cells.length) : srcR h sz (.own id off len sz) = some (chunks sz len (b.cells.drop off)) := by
  rw [srcR_o, hb]
  simp [hl]
theorem a_slT {n : Nat} {x : AV} {rows : List (List AV)} {K : AV → Prop} (ex : x = .sl n rows) (hl : 1 ≤ rows.length) (q : K (.sl n (rows.drop 1))) : iSl n x (some (int 1)) none K := by
  subst ex
  rw [iSl_s]
  simp only [optI]
  refine ⟨by simp, ⟨by omega, by omega, by omega⟩, ?_⟩
  simpa using q
end
/-- A slice that grows, told. -/
theorem told_sb {h : Heap} {d id sz : Nat} {rows : List (List AV)} (p : PureR rows) : tl 0 h d (.sb id sz rows) = .sl sz rows := by
  cases d <;> simp [tl, tlA, tlR_pure _ _ _ _ p]
theorem tl_pureA {h : Heap} {d : Nat} {a : AV} (p : Aw.Pure a) : tl 0 h d a = a := by
  cases d <;> exact tlA_pure _ _ _ _ p
theorem mapL_pure {h : Heap} {d : Nat} : ∀ l : List AV, PureL l → l.map (tl 0 h d) = l
  | [], _ => rfl
  | a :: l, p => by
    simp only [PureL] at p
    rw [List.map_cons, tl_pureA p.1, mapL_pure l p.2]
theorem mapR_pure {h : Heap} {d : Nat} : ∀ r : List (List AV), PureR r → r.map (List.map (tl 0 h d)) = r
  | [], _ => rfl
  | a :: l, p => by
    simp only [PureR] at p
    rw [List.map_cons, mapL_pure a p.1, mapR_pure l p.2]
theorem chunks_rows {sz : Nat} : ∀ rows : List (List AV), rows.all (rowOK sz) = true → chunks sz rows.length rows.flatten = rows
  | [], _ => rfl
  | r :: rows, h => by
    simp only [List.all_cons, Bool.and_eq_true, rowOK, beq_iff_eq] at h
    rw [List.length_cons, List.flatten_cons, chunks]
    have hr := h.1.1
    rw [List.take_append_of_le_length (by omega), List.take_of_length_le (by omega), List.drop_append_of_le_length (by omega), List.drop_of_length_le (by omega), List.nil_append, chunks_rows rows (by simpa [rowOK] using h.2)]
theorem told_own {h : Heap} {d id len sz : Nat} {b : Blk} {cells : List AV} (hb : h[id]? = some (.blk b)) (hc : b.cells = cells) (hl : len * sz ≤ cells.length) : tl 0 h (d + 1) (.own id 0 len sz) = .sl sz ((chunks sz len cells).map (List.map (tl 0 h d))) := by
  subst hc
  simp only [tl, tlA]
  rw [if_neg (by omega), hb]
  simp only [Nat.zero_add, List.drop_zero]
  rw [if_pos hl]
theorem rows_ok {α : Type} {f : α → List AV} {sz : Nat} (hf : ∀ x, (f x).length = sz ∧ (f x).all scal = true) (l : List α) : (l.map f).all (rowOK sz) = true := by
  rw [List.all_map, List.all_eq_true]
  intro x _
  simp only [Function.comp, rowOK, Bool.and_eq_true, beq_iff_eq]
  exact hf x
end Go.Aw
namespace Go.Proofs.YthblflmjingcfaaGreatDoor
open Go Go.Aw Go.Sel
theorem rowsX (l : List Cx) : (encXs l).all (rowOK 3) = true := by
  rw [encXs_map]
  exact rows_ok (fun x => by simp [encX_eq, scal]) l
theorem rowsP (l : List Cp) : (encPs l).all (rowOK 2) = true := by
  rw [encPs_map]
  exact rows_ok (fun x => by simp [encP_eq, scal]) l
theorem rowsS (l : List Sm) : (encSs l).all (rowOK 9) = true := by
  rw [encSs_map]
  exact rows_ok (fun x => by simp [encS_eq, scal]) l
theorem encXs_append (a b : List Cx) : encXs (a ++ b) = encXs a ++ encXs b := by simp [encXs_map]
theorem encSs_append (a b : List Sm) : encSs (a ++ b) = encSs a ++ encSs b := by simp [encSs_map]
theorem okW_of {n : Nat} {w : Wt3} (hb : bdW n w) (hn : n ≤ 4000) : okW w = true := by
  unfold bdW at hb
  simp only [okW, okI, Bool.and_eq_true, decide_eq_true_eq]
  omega
theorem okW_l {l : List Cx} (h : zXs l ≤ 4000) : okW (wXs l) = true := okW_of (wXs_bd l) h
theorem a_eqW {w : Wt3} {x y : AV} {K : AV → Prop} (ex : x = w3 w) (ey : y = w3 w) (q : K tt) : iEqA false [1, 1, 1] x y K := by
  subst ex; subst ey
  exact a_eqA (b := true) rfl rfl (by simp [eqK]) q
theorem a_neW {w : Wt3} {x y : AV} {K : AV → Prop} (ex : x = w3 w) (ey : y = w3 w) (q : K ff) : iEqA true [1, 1, 1] x y K := by
  subst ex; subst ey
  exact a_eqA (b := true) rfl rfl (by simp [eqK]) q
theorem flatP_len : ∀ ps : List Cp, (encPs ps).flatten.length = (encPs ps).length * 2
  | [] => by simp [encPs]
  | p :: ps => by rw [encPs, List.flatten_cons, List.length_append, flatP_len ps, List.length_cons]; simp [encP_eq]; omega
theorem told_more {h : Heap} {i1 i3 i5 : Nat} {b1 b5 : Blk} {le : Int} {t : Str} {ss ss' : List Sm} {ps : List Cp} {cs : List Int} (hb1 : h[i1]? = some (.blk b1)) (hc1 : b1.cells = [u1 le, .own i5 0 (1 + (encPs ps).length) 2, .sl 1 (cs.map fun c => [u1 c])]) (hb5 : h[i5]? = some (.blk b5)) (hc5 : b5.cells = [.str t, .sb i3 9 (encSs ss ++ encSs ss')] ++ (encPs ps).flatten) :
    tl 0 h 3 (.own i1 0 1 3) = .sl 3 (encXs [moreX le t ss ss' ps cs]) := by
  have r2 : PureR (encSs ss ++ encSs ss') := by rw [← encSs_append]; exact pureSs _
  have k5 : (1 + (encPs ps).length) * 2 ≤ ([.str t, .sb i3 9 (encSs ss ++ encSs ss')] ++ (encPs ps).flatten : List AV).length := by
    have := flatP_len ps
    simp [this]; omega
  rw [told_own hb1 hc1 (Nat.le_refl _)]
  simp only [chunks, List.take, List.drop, List.map_cons, List.map_nil]
  rw [told_own hb5 hc5 k5, Nat.add_comm 1, chunks]
  have e1 : List.take 2 ([.str t, .sb i3 9 (encSs ss ++ encSs ss')] ++ (encPs ps).flatten : List AV) = [.str t, .sb i3 9 (encSs ss ++ encSs ss')] := rfl
  have e2 : List.drop 2 ([.str t, .sb i3 9 (encSs ss ++ encSs ss')] ++ (encPs ps).flatten : List AV) = (encPs ps).flatten := rfl
  rw [e1, e2, chunks_rows _ (rowsP ps), List.map_cons, mapR_pure _ (purePs ps), List.map_cons, List.map_cons, List.map_nil, told_sb r2, tl_pureA (by simp), tl_pureA (by simp), tl_pureA (by simp [pureC])]
  rw [moreX, encXs, encX, encXs, encPs, encP, encSs_append]
/-- The first selector of a valid list. -/
theorem first_of {l : List Cx} (h : checkL l = 0) : ∃ le t ss ps cs l', l = .mk le (.mk t ss :: ps) cs :: l' := by
  obtain ⟨h1, h2, _⟩ := checkL_zero h
  match l, h1 with
  | .mk le ps cs :: l', _ =>
    rw [okXs, Bool.and_eq_true] at h2
    obtain ⟨_, _, a3, _⟩ := okX_parts h2.1
    match ps with
    | [] => simp at a3
    | .mk t ss :: ps => exact ⟨le, t, ss, ps, cs, l', rfl⟩
end Go.Proofs.YthblflmjingcfaaGreatDoor
end

section
namespace Go.Aw
open Go Go.RowKit
section
variable {h : Heap} {K : AV → Prop}
theorem a_req {b : Bool} {X : Prop} (hb : b = true) (q : X) : req b X := by subst hb; exact q
theorem a_slH {n k : Nat} {x i : AV} {rows r : List (List AV)} (ex : x = .sl n rows) (ei : i = int (k : Int)) (hk : k ≤ rows.length) (hr : rows.take k = r) (q : K (.sl n r)) : iSl n x none (some i) K := by
  subst ex; subst ei; subst hr
  rw [iSl_s]
  simp only [optI]
  refine ⟨by simp, ⟨by omega, by omega, by omega⟩, ?_⟩
  simpa using q
theorem a_slL {n k : Nat} {x i : AV} {rows r : List (List AV)} (ex : x = .sl n rows) (ei : i = int (k : Int)) (hk : k ≤ rows.length) (hr : rows.drop k = r) (q : K (.sl n r)) : iSl n x (some i) none K := by
  subst ex; subst ei; subst hr
  rw [iSl_s]
  simp only [optI]
  refine ⟨by simp, ⟨by omega, by omega, by omega⟩, ?_⟩
  simpa using q
theorem a_mkSlP {len sz : Nat} {z : AV} {ps : List (Nat × Nat × AV)} {cs : List AV} (e : bfill (rep0 len (vcells z)) ps = some cs) (q : K (.sl sz (chunks sz len cs))) : iMkSlP len sz z ps K := by
  unfold iMkSlP; rw [e]; exact q
theorem n_appN {h' : Heap} {n : Nat} {e sz bytes k : Nat} {x y : AV} {rows : List (List AV)} {K : AV → Heap → Prop} (ex : x = .v (.slice none 0 0)) (hs : srcR h sz y = some rows) (hr : rows.all (rowOK sz) = true) (hk : rows.length = k) (hm : roomA bytes k) (hn : h.length = n) (hh : h ++ [.tok e sz k] = h') (q : K (.sb n sz rows) h') : iApp false e sz bytes x y h K := by
  subst ex; subst hn; subst hh; subst hk
  unfold iApp iAppTo
  rw [hs]
  exact ⟨hr, hm, q⟩
end
end Go.Aw
namespace Go.Proofs.YthblflmjingcfaaGreatDoor
open Go Go.Aw Go.Sel
theorem dleR_refl : ∀ r : List (List AV), DLeR r r
  | [] => .nil
  | x :: r => .cons (DLeL.refl x) (dleR_refl r)
theorem told_turn {h : Heap} {i1 i5 : Nat} {b1 b5 : Blk} {t : Str} {back : AV} {ss : List Sm} {ps : List Cp} {cs : List Int} (hb1 : h[i1]? = some (.blk b1)) (hc1 : b1.cells = [u1 0, .own i5 0 (1 + (encPs ps).length) 2, .sl 1 (cs.map fun c => [u1 c])]) (hb5 : h[i5]? = some (.blk b5)) (hc5 : b5.cells = [.str t, back] ++ (encPs ps).flatten) (hbk : DLe (tl 0 h 1 back) (.sl 9 (encSs ss.reverse))) :
    DLe (tl 0 h 3 (.own i1 0 1 3)) (.sl 3 (encXs [turnX t ss ps cs])) := by
  have k5 : (1 + (encPs ps).length) * 2 ≤ ([.str t, back] ++ (encPs ps).flatten : List AV).length := by
    have := flatP_len ps
    simp [this]; omega
  rw [told_own hb1 hc1 (Nat.le_refl _)]
  simp only [chunks, List.take, List.drop, List.map_cons, List.map_nil]
  rw [told_own hb5 hc5 k5, Nat.add_comm 1, chunks]
  have e1 : List.take 2 ([.str t, back] ++ (encPs ps).flatten : List AV) = [.str t, back] := rfl
  have e2 : List.drop 2 ([.str t, back] ++ (encPs ps).flatten : List AV) = (encPs ps).flatten := rfl
  rw [e1, e2, chunks_rows _ (rowsP ps), List.map_cons, mapR_pure _ (purePs ps), List.map_cons, List.map_cons, List.map_nil, tl_pureA (a := u1 0) (by simp), tl_pureA (a := .str t) (by simp), tl_pureA (a := .sl 1 (cs.map fun c => [u1 c])) (by simp [pureC])]
  rw [turnX, encXs, encX, encXs, encPs, encP]
  exact .sl (.cons (.cons (.refl _) (.cons (.sl (.cons (.cons (.refl _) (.cons hbk .nil)) (dleR_refl _))) (.cons (.refl _) .nil))) .nil)
end Go.Proofs.YthblflmjingcfaaGreatDoor
end

section
namespace Go.Proofs.YthblflmjingcfaaGreatDoor
open Go Go.Aw Go.Sel
set_option maxRecDepth 100000
theorem encPs_take (ps : List Cp) (k : Nat) : (encPs ps).take k = encPs (ps.take k) := by simp [encPs_map, List.map_take]
theorem encPs_drop (ps : List Cp) (k : Nat) : (encPs ps).drop k = encPs (ps.drop k) := by simp [encPs_map, List.map_drop]
theorem rev_take {ss : List Sm} {j : Nat} {x : Sm} (hj : j < ss.length) (hx : ss[ss.length - 1 - j]? = some x) : ss.reverse.take (j + 1) = ss.reverse.take j ++ [x] := by
  rw [List.take_add_one, List.getElem?_reverse hj, hx]
  rfl
theorem encSs_one (x : Sm) : encSs [x] = [encS x] := by rw [encSs, encSs]
theorem BdR_pure (n : Nat) (r : List (List AV)) (p : PureR r) : BdR n r := by
  have := Bd_pure n (.sl 0 r) (by rw [Aw.Pure]; exact p)
  rwa [Bd] at this
abbrev bkX (le : Int) (ps : List Cp) (cs : List Int) : Ent := .blk ⟨42, [u1 le, .sl 2 (encPs ps), .sl 1 (cs.map fun c => [u1 c])], true⟩
variable [Laid]
set_option maxHeartbeats 16000000 in
theorem con_WeighCut (hal : Con Tryz.prog 13 [] (bool true)) (l : List Cx) (at' : Int) (hzl : zXs l < 2 ^ 39) : Con Tryz.prog 4 [.sl 3 (encXs l), int at'] (bool true) := by
  refine (V4 _ _).gives (by simp [pureXs]) (by simp) ?_
  unfold W4
  have hG := con_Great l (by omega)
  have hR := con_rCheck l (by omega)
  have hN := con_Number l (by omega)
  by_cases main : szXs 600 0 l ≤ 600 ∧ checkL l = 0 ∧ number l ≤ 63
  case neg =>
    have hm : ¬ (decide (600 < szXs 600 0 l) = false ∧ checkL l = 0 ∧ decide ((63 : Int) < ((number l : Nat) : Int)) = false) := fun ⟨a, b, c⟩ => main ⟨by simpa using a, b, by simp only [decide_eq_false_iff_not] at c; omega⟩
    repeat' (first | (with_reducible first | apply w_let | apply w_and | refine And.intro True.intro ?_) | ((with_reducible first | apply a_lss | apply a_leq | apply a_gtr | apply a_geq | apply a_eql | apply a_neq); rfl; rfl) | ((with_reducible first | apply a_eqlS | apply a_neqS | apply a_eqlB | apply a_neqB); rfl; rfl) | ((with_reducible apply w_add); rfl; rfl; first | assumption | (unfold inI; omega)) | ((with_reducible apply w_sub); rfl; rfl; first | assumption | (unfold inI; omega)) | ((with_reducible apply a_not); rfl) | ((with_reducible apply w_pick_t); rfl) | ((with_reducible apply w_pick_f); rfl) | ((with_reducible apply a_cond1); rfl; first | rfl | assumption) | ((with_reducible apply a_cond0); rfl; first | rfl | assumption) | ((with_reducible apply a_guard1); rfl; first | rfl | assumption) | ((with_reducible apply a_guard0); rfl; first | rfl | assumption) | ((with_reducible apply w_guard_u); rfl) | ((with_reducible apply a_pick1); rfl; first | rfl | assumption) | ((with_reducible apply a_pick0); rfl; first | rfl | assumption) | ((with_reducible apply a_pickN); rfl) | ((with_reducible apply a_condN); rfl) | ((with_reducible apply a_guardN); rfl) | ((with_reducible apply w_fad); rfl) | ((with_reducible apply a_fadI); rfl) | ((with_reducible apply w_load); rfl; rfl; rfl) | ((with_reducible apply w_loadI); rfl) | ((with_reducible apply w_loadA); rfl; rfl; first | exact Nat.le_refl _ | exact Nat.le_of_ble_eq_true rfl) | ((with_reducible apply a_eqA); rfl; rfl; rfl) | ((with_reducible apply a_loadAI); rfl; first | rfl | simp) | ((with_reducible apply w_new); first | rfl | simp) | ((with_reducible apply a_store); rfl; rfl; rfl; rfl; (first | exact Nat.le_refl _ | simp); (first | rfl | simp); (first | rfl | simp)) | ((with_reducible apply a_lenS); rfl; intro _) | ((with_reducible apply a_len); rfl; (first | rfl | simp); intro _) | ((with_reducible apply a_build); rfl) | ((with_reducible apply a_extr); rfl; rfl) | (refine iCall_con (by kernel_rfl) (hG) ?_) | (refine iCall_con (by kernel_rfl) (hR) ?_) | (refine iCall_con (by kernel_rfl) (hN) ?_) | (refine iCall_con (by kernel_rfl) (hal) ?_) | ((with_reducible apply a_cond); rfl) | ((with_reducible apply a_guard); rfl) | (with_reducible intro _))
    all_goals first
      | exact .pure (by simp) rfl
      | (exfalso; grind)
  obtain ⟨g1, c1, g3⟩ := main
  have z1 : zXs l ≤ 600 := by have := (szXs_le 600 0 l).2.1 g1; omega
  have hE := con_Each l (by omega)
  rw [eachV, if_pos c1, c1] at hE
  rw [c1] at hR
  have e1 : decide (600 < szXs 600 0 l) = false := by simpa using g1
  have e3 : decide ((63 : Int) < ((number l : Nat) : Int)) = false := decide_eq_false (by omega)
  obtain ⟨le, t, ss, ps, cs, l', rfl⟩ := first_of c1
  have n4 : (!decide ((((List.map w3c (List.map wX (.mk le (.mk t ss :: ps) cs :: l'))).length : Nat) : Int) = (((encXs (.mk le (.mk t ss :: ps) cs :: l')).length : Nat) : Int))) = false := by simp [encXs_map]
  repeat' (first | (with_reducible first | apply w_let | apply w_and | refine And.intro True.intro ?_) | ((with_reducible first | apply a_lss | apply a_leq | apply a_gtr | apply a_geq | apply a_eql | apply a_neq); rfl; rfl) | ((with_reducible first | apply a_eqlS | apply a_neqS | apply a_eqlB | apply a_neqB); rfl; rfl) | ((with_reducible apply w_add); rfl; rfl; first | assumption | (unfold inI; omega)) | ((with_reducible apply w_sub); rfl; rfl; first | assumption | (unfold inI; omega)) | ((with_reducible apply a_not); rfl) | ((with_reducible apply w_pick_t); rfl) | ((with_reducible apply w_pick_f); rfl) | ((with_reducible apply a_cond1); rfl; first | rfl | assumption) | ((with_reducible apply a_cond0); rfl; first | rfl | assumption) | ((with_reducible apply a_guard1); rfl; first | rfl | assumption) | ((with_reducible apply a_guard0); rfl; first | rfl | assumption) | ((with_reducible apply w_guard_u); rfl) | ((with_reducible apply a_pick1); rfl; first | rfl | assumption) | ((with_reducible apply a_pick0); rfl; first | rfl | assumption) | ((with_reducible apply a_pickN); rfl) | ((with_reducible apply a_condN); rfl) | ((with_reducible apply a_guardN); rfl) | ((with_reducible apply w_fad); rfl) | ((with_reducible apply a_fadI); rfl) | ((with_reducible apply w_load); rfl; rfl; rfl) | ((with_reducible apply w_loadI); rfl) | ((with_reducible apply w_loadA); rfl; rfl; first | exact Nat.le_refl _ | exact Nat.le_of_ble_eq_true rfl) | ((with_reducible apply a_eqA); rfl; rfl; rfl) | ((with_reducible apply a_loadAI); rfl; first | rfl | simp) | ((with_reducible apply w_new); first | rfl | simp) | ((with_reducible apply a_store); rfl; rfl; rfl; rfl; (first | exact Nat.le_refl _ | simp); (first | rfl | simp); (first | rfl | simp)) | ((with_reducible apply a_lenS); rfl; intro _) | ((with_reducible apply a_len); rfl; (first | rfl | simp); intro _) | ((with_reducible apply a_build); rfl) | ((with_reducible apply a_extr); rfl; rfl) | (refine iCall_con (by kernel_rfl) (hG) ?_) | (refine iCall_con (by kernel_rfl) (hR) ?_) | (refine iCall_con (by kernel_rfl) (hN) ?_) | (refine iCall_con (by kernel_rfl) (hE) ?_) | ((with_reducible apply a_cond); rfl) | ((with_reducible apply a_guard); rfl) | (with_reducible intro _))
  refine a_idx (l := .mk le (.mk t ss :: ps) cs :: l') rfl (encXs_map _) (n := 0) rfl rfl ?_
  refine a_loadAI rfl (by simp [encX_eq]) ?_
  refine n_new (n := 0) (h' := [_]) rfl rfl rfl rfl ?_
  refine n_store (h' := [bkX le (.mk t ss :: ps) cs]) (cs := [u1 le, .sl 2 (encPs (.mk t ss :: ps)), .sl 1 (cs.map fun c => [u1 c])]) rfl rfl rfl (by rw [encX]; rfl) (Nat.le_refl _) rfl rfl rfl ?_
  by_cases q1 : at' < 1
  · have q1' : decide (at' < 1) = true := by simpa using q1
    repeat' (first | (with_reducible first | apply w_let | apply w_and | refine And.intro True.intro ?_) | ((with_reducible first | apply a_lss | apply a_leq | apply a_gtr | apply a_geq | apply a_eql | apply a_neq); rfl; rfl) | ((with_reducible first | apply a_eqlS | apply a_neqS | apply a_eqlB | apply a_neqB); rfl; rfl) | ((with_reducible apply w_add); rfl; rfl; first | assumption | (unfold inI; omega)) | ((with_reducible apply w_sub); rfl; rfl; first | assumption | (unfold inI; omega)) | ((with_reducible apply a_not); rfl) | ((with_reducible apply w_pick_t); rfl) | ((with_reducible apply w_pick_f); rfl) | ((with_reducible apply a_cond1); rfl; first | rfl | assumption) | ((with_reducible apply a_cond0); rfl; first | rfl | assumption) | ((with_reducible apply a_guard1); rfl; first | rfl | assumption) | ((with_reducible apply a_guard0); rfl; first | rfl | assumption) | ((with_reducible apply w_guard_u); rfl) | ((with_reducible apply a_pick1); rfl; first | rfl | assumption) | ((with_reducible apply a_pick0); rfl; first | rfl | assumption) | ((with_reducible apply a_pickN); rfl) | ((with_reducible apply a_condN); rfl) | ((with_reducible apply a_guardN); rfl) | ((with_reducible apply w_fad); rfl) | ((with_reducible apply a_fadI); rfl) | ((with_reducible apply w_load); rfl; rfl; rfl) | ((with_reducible apply w_loadI); rfl) | ((with_reducible apply w_loadA); rfl; rfl; first | exact Nat.le_refl _ | exact Nat.le_of_ble_eq_true rfl) | ((with_reducible apply a_eqA); rfl; rfl; rfl) | ((with_reducible apply a_loadAI); rfl; first | rfl | simp) | ((with_reducible apply w_new); first | rfl | simp) | ((with_reducible apply a_store); rfl; rfl; rfl; rfl; (first | exact Nat.le_refl _ | simp); (first | rfl | simp); (first | rfl | simp)) | ((with_reducible apply a_lenS); rfl; intro _) | ((with_reducible apply a_len); rfl; (first | rfl | simp); intro _) | ((with_reducible apply a_build); rfl) | ((with_reducible apply a_extr); rfl; rfl) | (refine iCall_con (by kernel_rfl) (hal) ?_) | ((with_reducible apply a_cond); rfl) | ((with_reducible apply a_guard); rfl) | (with_reducible intro _))
    all_goals exact .pure (by simp) rfl
  have q1' : decide (at' < 1) = false := by simpa using q1
  by_cases q2 : (((encPs (.mk t ss :: ps)).length : Nat) : Int) ≤ at'
  · have q2' : decide ((((encPs (.mk t ss :: ps)).length : Nat) : Int) ≤ at') = true := by simpa using q2
    repeat' (first | (with_reducible first | apply w_let | apply w_and | refine And.intro True.intro ?_) | ((with_reducible first | apply a_lss | apply a_leq | apply a_gtr | apply a_geq | apply a_eql | apply a_neq); rfl; rfl) | ((with_reducible first | apply a_eqlS | apply a_neqS | apply a_eqlB | apply a_neqB); rfl; rfl) | ((with_reducible apply w_add); rfl; rfl; first | assumption | (unfold inI; omega)) | ((with_reducible apply w_sub); rfl; rfl; first | assumption | (unfold inI; omega)) | ((with_reducible apply a_not); rfl) | ((with_reducible apply w_pick_t); rfl) | ((with_reducible apply w_pick_f); rfl) | ((with_reducible apply a_cond1); rfl; first | rfl | assumption) | ((with_reducible apply a_cond0); rfl; first | rfl | assumption) | ((with_reducible apply a_guard1); rfl; first | rfl | assumption) | ((with_reducible apply a_guard0); rfl; first | rfl | assumption) | ((with_reducible apply w_guard_u); rfl) | ((with_reducible apply a_pick1); rfl; first | rfl | assumption) | ((with_reducible apply a_pick0); rfl; first | rfl | assumption) | ((with_reducible apply a_pickN); rfl) | ((with_reducible apply a_condN); rfl) | ((with_reducible apply a_guardN); rfl) | ((with_reducible apply w_fad); rfl) | ((with_reducible apply a_fadI); rfl) | ((with_reducible apply w_load); rfl; rfl; rfl) | ((with_reducible apply w_loadI); rfl) | ((with_reducible apply w_loadA); rfl; rfl; first | exact Nat.le_refl _ | exact Nat.le_of_ble_eq_true rfl) | ((with_reducible apply a_eqA); rfl; rfl; rfl) | ((with_reducible apply a_loadAI); rfl; first | rfl | simp) | ((with_reducible apply w_new); first | rfl | simp) | ((with_reducible apply a_store); rfl; rfl; rfl; rfl; (first | exact Nat.le_refl _ | simp); (first | rfl | simp); (first | rfl | simp)) | ((with_reducible apply a_lenS); rfl; intro _) | ((with_reducible apply a_len); rfl; (first | rfl | simp); intro _) | ((with_reducible apply a_build); rfl) | ((with_reducible apply a_extr); rfl; rfl) | (refine iCall_con (by kernel_rfl) (hal) ?_) | ((with_reducible apply a_cond); rfl) | ((with_reducible apply a_guard); rfl) | (with_reducible intro _))
    all_goals exact .pure (by simp) rfl
  have q2' : decide ((((encPs (.mk t ss :: ps)).length : Nat) : Int) ≤ at') = false := by simpa using q2
  obtain ⟨k, rfl⟩ : ∃ k : Nat, at' = k := ⟨at'.toNat, by omega⟩
  have k1 : 1 ≤ k := by omega
  have lnQ : (encPs (.mk t ss :: ps)).length = (Cp.mk t ss :: ps).length := by rw [encPs_map, List.length_map]
  have k2 : k < (Cp.mk t ss :: ps).length := by omega
  obtain ⟨_, ho, _⟩ := checkL_zero c1
  have hoX : okX 0 false false (.mk le (.mk t ss :: ps) cs) = true := by rw [okXs, Bool.and_eq_true] at ho; exact ho.1
  obtain ⟨_, _, a3, a4, _, _⟩ := okX_parts hoX
  have s1 : ss.length ≤ 600 ∧ ps.length ≤ 600 := by
    rw [zXs, zX, zPs, zP] at z1
    have := zSs_len ss
    have := zPs_len ps
    omega
  have lnS : (encSs ss).length = ss.length := by rw [encSs_map, List.length_map]
  have lnP : (encPs ps).length = ps.length := by rw [encPs_map, List.length_map]
  have zc : zX (.mk le (.mk t ss :: ps) cs) = zX (firstX (.mk t ss :: ps) cs k) + zX (restX (.mk t ss :: ps) cs k) ∨ zXs [firstX (.mk t ss :: ps) cs k, restX (.mk t ss :: ps) cs k] ≤ 1200 := by
    right
    have e := zPs_append ((Cp.mk t ss :: ps).take k) ((Cp.mk t ss :: ps).drop k)
    rw [List.take_append_drop] at e
    rw [zXs, zX] at z1
    rw [zXs, zXs, zXs, firstX, restX, zX, zX]
    have c1 : (List.take (k - 1) cs).length ≤ cs.length := by rw [List.length_take]; omega
    have c2 : (List.drop k cs).length ≤ cs.length := by rw [List.length_drop]; omega
    omega
  have zc2 : zXs [firstX (.mk t ss :: ps) cs k, restX (.mk t ss :: ps) cs k] ≤ 3000 := by
    rcases zc with zc | zc
    · rw [zXs] at z1; rw [zXs, zXs, zXs]; omega
    · omega
  have cc := check_cut c1 g3 k1 k2
  have hE2 := con_Each [firstX (.mk t ss :: ps) cs k, restX (.mk t ss :: ps) cs k] (by omega)
  rw [eachV, if_pos cc, cc, encXs, encXs, encXs] at hE2
  simp only [firstX, restX, encX] at hE2
  have hS := con_Sum (wX (firstX (.mk t ss :: ps) cs k)) (wX (restX (.mk t ss :: ps) cs k))
  have hsum := wX_cut2 le (.mk t ss :: ps) cs k
  have ok0 : okW (wX (.mk le (.mk t ss :: ps) cs)) = true := okW_of (wX_bd _) (by rw [zXs] at z1; omega)
  have ok1 : okW (wX (firstX (.mk t ss :: ps) cs k)) = true := okW_of (wX_bd _) (by rw [zXs] at zc2; omega)
  have ok2 : okW (wX (restX (.mk t ss :: ps) cs k)) = true := okW_of (wX_bd _) (by rw [zXs, zXs] at zc2; omega)
  rw [sumW, sumOk, ok1, ok2, ← hsum, ok0] at hS
  simp only [Bool.and_self, if_true] at hS
  have ct := check_turn c1
  have hM := con_Most [turnX t ss ps cs] (by rw [zXs, zXs, turnX, zX, zPs, zP, zSs_reverse]; rw [zXs, zX, zPs, zP] at z1; omega)
  rw [mostV, ct, if_pos rfl, wXs, wM, wX_turn le] at hM
  repeat' (first | (with_reducible first | apply w_let | apply w_and | refine And.intro True.intro ?_) | ((with_reducible first | apply a_lss | apply a_leq | apply a_gtr | apply a_geq | apply a_eql | apply a_neq); rfl; rfl) | ((with_reducible first | apply a_eqlS | apply a_neqS | apply a_eqlB | apply a_neqB); rfl; rfl) | ((with_reducible apply w_add); rfl; rfl; first | assumption | (unfold inI; omega)) | ((with_reducible apply w_sub); rfl; rfl; first | assumption | (unfold inI; omega)) | ((with_reducible apply a_not); rfl) | ((with_reducible apply w_pick_t); rfl) | ((with_reducible apply w_pick_f); rfl) | ((with_reducible apply a_cond1); rfl; first | rfl | assumption) | ((with_reducible apply a_cond0); rfl; first | rfl | assumption) | ((with_reducible apply a_guard1); rfl; first | rfl | assumption) | ((with_reducible apply a_guard0); rfl; first | rfl | assumption) | ((with_reducible apply w_guard_u); rfl) | ((with_reducible apply a_pick1); rfl; first | rfl | assumption) | ((with_reducible apply a_pick0); rfl; first | rfl | assumption) | ((with_reducible apply a_pickN); rfl) | ((with_reducible apply a_condN); rfl) | ((with_reducible apply a_guardN); rfl) | ((with_reducible apply w_fad); rfl) | ((with_reducible apply a_fadI); rfl) | ((with_reducible apply w_load); rfl; rfl; rfl) | ((with_reducible apply w_loadI); rfl) | ((with_reducible apply w_loadA); rfl; rfl; first | exact Nat.le_refl _ | exact Nat.le_of_ble_eq_true rfl) | ((with_reducible apply a_eqA); rfl; rfl; rfl) | ((with_reducible apply a_loadAI); rfl; first | rfl | simp) | ((with_reducible apply w_new); first | rfl | simp) | ((with_reducible apply a_store); rfl; rfl; rfl; rfl; (first | exact Nat.le_refl _ | simp); (first | rfl | simp); (first | rfl | simp)) | ((with_reducible apply a_lenS); rfl; intro _) | ((with_reducible apply a_len); rfl; (first | rfl | simp); intro _) | ((with_reducible apply a_build); rfl) | ((with_reducible apply a_extr); rfl; rfl) | ((with_reducible apply a_cond); rfl) | ((with_reducible apply a_guard); rfl) | (with_reducible intro _))
  refine a_slH (k := k) rfl rfl (by omega) (encPs_take _ _) ?_
  refine w_fad rfl ?_
  refine w_load rfl rfl rfl ?_
  refine w_sub rfl rfl (by unfold inI; omega) ?_
  refine a_slH (k := k - 1) rfl (by congr 2; omega) (by rw [List.length_map]; simp only [List.length_cons] at a3 k2; omega) (List.map_take.symm) ?_
  refine a_build rfl ?_
  refine n_store (id := 2) (h' := [bkX le (.mk t ss :: ps) cs, .dead, bkX 0 ((Cp.mk t ss :: ps).take k) (cs.take (k - 1))]) (cs := [u1 0, .sl 2 (encPs ((Cp.mk t ss :: ps).take k)), .sl 1 ((cs.take (k - 1)).map fun c => [u1 c])]) rfl rfl rfl rfl (Nat.le_of_ble_eq_true rfl) rfl rfl rfl ?_
  refine w_fad rfl ?_
  refine w_load rfl rfl rfl ?_
  refine a_slL (k := k) rfl rfl (by omega) (encPs_drop _ _) ?_
  refine w_fad rfl ?_
  refine w_load rfl rfl rfl ?_
  refine a_slL (k := k) rfl rfl (by rw [List.length_map]; simp only [List.length_cons] at a3 k2; omega) (List.map_drop.symm) ?_
  refine a_build rfl ?_
  refine n_store (id := 4) (h' := [bkX le (.mk t ss :: ps) cs, .dead, bkX 0 ((Cp.mk t ss :: ps).take k) (cs.take (k - 1)), .dead, bkX 0 ((Cp.mk t ss :: ps).drop k) (cs.drop k)]) (cs := [u1 0, .sl 2 (encPs ((Cp.mk t ss :: ps).drop k)), .sl 1 ((cs.drop k).map fun c => [u1 c])]) rfl rfl rfl rfl (Nat.le_of_ble_eq_true rfl) rfl rfl rfl ?_
  refine w_loadA (id := 2) (o := 0) rfl rfl (Nat.le_of_ble_eq_true rfl) ?_
  refine w_loadA (id := 4) (o := 0) rfl rfl (Nat.le_of_ble_eq_true rfl) ?_
  refine a_mkSlP rfl ?_
  refine iCall_con (by kernel_rfl) hE2 ?_
  refine w_extr rfl rfl ?_
  refine w_extr rfl rfl ?_
  refine a_neq rfl rfl ?_
  refine w_let ?_
  refine a_guard1 rfl rfl ?_
  refine a_len (n := 2) rfl rfl fun _ => ?_
  refine a_neq rfl rfl ?_
  refine w_and ?_
  refine w_pick_f rfl ?_
  refine w_cond_f rfl ?_
  refine a_idx (l := [wX (firstX (.mk t ss :: ps) cs k), wX (restX (.mk t ss :: ps) cs k)]) (f := w3c) rfl rfl (n := 0) rfl rfl ?_
  refine a_loadAI rfl rfl ?_
  refine a_idx (l := [wX (firstX (.mk t ss :: ps) cs k), wX (restX (.mk t ss :: ps) cs k)]) (f := w3c) rfl rfl (n := 1) rfl rfl ?_
  refine a_loadAI rfl rfl ?_
  refine ⟨_, by kernel_rfl, hS, ?_⟩
  refine w_extr rfl rfl ?_
  refine w_extr rfl rfl ?_
  refine n_new (n := 5) (h' := [_, _, _, _, _, _]) rfl rfl rfl rfl ?_
  generalize hbF : bkX 0 ((Cp.mk t ss :: ps).take k) (cs.take (k - 1)) = bF
  generalize hbR : bkX 0 ((Cp.mk t ss :: ps).drop k) (cs.drop k) = bR
  obtain ⟨bS, hbS⟩ : ∃ x : Ent, x = .blk ⟨44, w3c (wX (.mk le (.mk t ss :: ps) cs)), true⟩ := ⟨_, rfl⟩
  refine n_store (h' := [bkX le (.mk t ss :: ps) cs, .dead, bF, .dead, bR, bS]) (cs := w3c (wX (.mk le (.mk t ss :: ps) cs))) rfl rfl rfl rfl (Nat.le_of_ble_eq_true rfl) rfl rfl (by rw [hbS]; rfl) ?_
  refine w_fad rfl ?_
  refine w_load rfl rfl rfl ?_
  refine a_idx (l := .mk t ss :: ps) rfl (encPs_map _) (n := 0) rfl rfl ?_
  rw [encP]
  refine a_fadI rfl ?_
  refine w_loadI rfl ?_
  refine a_len (n := ss.length) rfl lnS fun _ => ?_
  refine w_sub rfl rfl (by unfold inI; omega) ?_
  have bdF : entB 6 bF := by rw [← hbF]; simp [entB, BdL, Bd]; exact ⟨BdR_pure _ _ (purePs _), BdR_pure _ _ (by first | exact pureC _ | (rw [← List.map_take]; exact pureC _))⟩
  have bdR : entB 6 bR := by rw [← hbR]; simp [entB, BdL, Bd]; exact ⟨BdR_pure _ _ (purePs _), BdR_pure _ _ (by first | exact pureC _ | (rw [← List.map_drop]; exact pureC _))⟩
  refine iLoop_of (α := Nat) (fun j => j ≤ ss.length) (fun j => [if j = 0 then .v (.slice none 0 0) else .sb 6 9 (encSs (ss.reverse.take j)), int (ss.length - 1 - j)]) (fun j => [bkX le (.mk t ss :: ps) cs, .dead, bF, .dead, bR, bS] ++ (if j = 0 then [] else [.tok 53 9 j])) (fun j => ss.length - j) 0 (by simp) (by simp; exact Wk.refl _ _ _ (by simp)) ?_
  intro j hj
  refine a_geq rfl rfl ?_
  rcases Nat.lt_or_ge j ss.length with z | z
  · refine a_cond1 rfl (by simp; omega) ?_
    obtain ⟨x, hx⟩ : ∃ x, ss[ss.length - 1 - j]? = some x := ⟨ss[ss.length - 1 - j]'(by omega), List.getElem?_eq_getElem _⟩
    have hxe : int ((ss.length : Int) - 1 - j) = int ((ss.length - 1 - j : Nat) : Int) := by congr 2; omega
    have hrt := rev_take z hx
    by_cases j0 : j = 0
    · subst j0
      rw [if_pos rfl, if_pos rfl, List.append_nil]
      refine w_fad rfl ?_
      refine w_load rfl rfl rfl ?_
      refine a_idx (l := .mk t ss :: ps) rfl (encPs_map _) (n := 0) rfl rfl ?_
      rw [encP]
      refine a_fadI rfl ?_
      refine w_loadI rfl ?_
      refine a_idx rfl (encSs_map _) hxe hx ?_
      refine a_loadAI rfl (by simp [encS_eq]) ?_
      refine a_mkSlP (cs := encS x) (by rw [encS_eq]; rfl) ?_
      refine n_appN (n := 6) (k := 1) (h' := [bkX le (.mk t ss :: ps) cs, .dead, bF, .dead, bR, bS, .tok 53 9 1]) (rows := encSs [x]) rfl (by rw [srcR_sl, encSs_one]; rw [encS_eq]; rfl) (rowsS _) (by rw [encSs_one]; rfl) (by unfold roomA maxLen; omega) rfl rfl ?_
      refine w_sub rfl rfl (by unfold inI; omega) ?_
      refine w_and ?_
      refine ⟨1, by omega, ?_, by omega⟩
      rw [if_neg (by omega), if_neg (by omega), hrt]
      simp only [List.take_zero, List.nil_append]
      refine Wk.le (by simp) ?_
      simp
    · rw [if_neg j0, if_neg j0]
      have lj : (encSs (ss.reverse.take j)).length = j := by rw [encSs_map, List.length_map, List.length_take, List.length_reverse]; omega
      refine w_fad rfl ?_
      refine w_load rfl rfl rfl ?_
      refine a_idx (l := .mk t ss :: ps) rfl (encPs_map _) (n := 0) rfl rfl ?_
      rw [encP]
      refine a_fadI rfl ?_
      refine w_loadI rfl ?_
      refine a_idx rfl (encSs_map _) hxe hx ?_
      refine a_loadAI rfl (by simp [encS_eq]) ?_
      refine a_mkSlP (cs := encS x) (by rw [encS_eq]; rfl) ?_
      refine n_appB (id := 6) (k := j) (h' := [bkX le (.mk t ss :: ps) cs, .dead, bF, .dead, bR, bS, .tok 53 9 (j + 1)]) (rows := encSs [x]) (base := encSs (ss.reverse.take j)) rfl rfl lj.symm (by rw [srcR_sl, encSs_one]; rw [encS_eq]; rfl) (rowsS _) (by rw [encSs_one]; unfold roomA maxLen; simp only [List.length_cons, List.length_nil]; omega) (by rw [encSs_one]; rfl) ?_
      refine w_sub rfl rfl (by unfold inI; omega) ?_
      refine w_and ?_
      refine ⟨j + 1, by omega, ?_, by omega⟩
      rw [if_neg (by omega), if_neg (by omega), hrt, encSs_append]
      refine Wk.le (by simp) ?_
      simp; omega
  · obtain rfl : j = ss.length := by omega
    refine a_cond0 rfl (by simp; omega) ?_
    rw [List.take_of_length_le (by simp)]
    by_cases j0 : ss.length = 0
    · rw [if_pos j0, if_pos j0, List.append_nil]
      have s0 : ss.reverse = [] := by rw [List.length_eq_zero_iff] at j0; rw [j0]; rfl
      refine w_let ?_
      refine w_fad rfl ?_
      refine a_req rfl ?_
      refine w_load rfl rfl rfl ?_
      refine a_idx (l := .mk t ss :: ps) rfl (encPs_map _) (n := 0) rfl rfl ?_
      rw [encP]
      refine a_fadI rfl ?_
      refine a_req rfl ?_
      refine w_loadI rfl ?_
      refine a_build rfl ?_
      refine w_fad rfl ?_
      refine a_req rfl ?_
      refine w_load rfl rfl rfl ?_
      refine a_slL (k := 1) (r := encPs ps) rfl rfl (by rw [lnQ]; simp) (by rw [encPs]; rfl) ?_
      refine w_fad rfl ?_
      refine a_req rfl ?_
      refine w_load rfl rfl rfl ?_
      refine ⟨?_, ?_⟩
      · refine n_mkSl1 (n := 6) (h' := [bkX le (.mk t ss :: ps) cs, .dead, bF, .dead, bR, bS, .blk ⟨49, [.str t, .v (.slice none 0 0)], true⟩]) (cs := [.str t, .v (.slice none 0 0)]) rfl rfl rfl rfl rfl rfl ?_
        refine ⟨?_, ?_⟩
        · refine a_req rfl ?_
          refine n_appK (n := 7) (h' := [bkX le (.mk t ss :: ps) cs, .dead, bF, .dead, bR, bS, .dead, .blk ⟨49, [.str t, .v (.slice none 0 0)] ++ (encPs ps).flatten, true⟩]) (id := 6) (cells := [.str t, .v (.slice none 0 0)]) (rows := encPs ps) rfl rfl (Nat.le_refl _) (by omega) srcR_sl (rowsP _) (by unfold roomA maxLen; omega) rfl rfl ?_
          refine a_build rfl ?_
          refine n_new (n := 8) (h' := [bkX le (.mk t ss :: ps) cs, .dead, bF, .dead, bR, bS, .dead, .blk ⟨49, [.str t, .v (.slice none 0 0)] ++ (encPs ps).flatten, true⟩, .blk ⟨42, [u1 0, .v (.slice none 0 0), .v (.slice none 0 0)], true⟩]) rfl rfl rfl rfl ?_
          refine n_store (id := 8) (h' := [bkX le (.mk t ss :: ps) cs, .dead, bF, .dead, bR, bS, .dead, .blk ⟨49, [.str t, .v (.slice none 0 0)] ++ (encPs ps).flatten, true⟩, .blk ⟨42, [u1 0, .own 7 0 (1 + (encPs ps).length) 2, .sl 1 (cs.map fun c => [u1 c])], true⟩]) (cs := [u1 0, .own 7 0 (1 + (encPs ps).length) 2, .sl 1 (cs.map fun c => [u1 c])]) rfl rfl rfl rfl (Nat.le_of_ble_eq_true rfl) rfl rfl rfl ?_
          refine w_and ?_
          refine w_loadA (id := 8) (o := 0) rfl rfl (Nat.le_of_ble_eq_true rfl) ?_
          refine n_mkSl1 (n := 9) (h' := [bkX le (.mk t ss :: ps) cs, .dead, bF, .dead, bR, bS, .dead, .blk ⟨49, [.str t, .v (.slice none 0 0)] ++ (encPs ps).flatten, true⟩, .blk ⟨42, [u1 0, .own 7 0 (1 + (encPs ps).length) 2, .sl 1 (cs.map fun c => [u1 c])], true⟩, .blk ⟨42, [u1 0, .own 7 0 (1 + (encPs ps).length) 2, .sl 1 (cs.map fun c => [u1 c])], true⟩]) (cs := [u1 0, .own 7 0 (1 + (encPs ps).length) 2, .sl 1 (cs.map fun c => [u1 c])]) rfl rfl rfl rfl rfl rfl ?_
          refine iCall_borrowD (by kernel_rfl) hM (.cons (told_turn (i1 := 9) (i5 := 7) rfl rfl rfl rfl (by rw [tl_pureA (by simp), s0, encSs]; exact .nil 9)) .nil) (by simp) ?_
          refine w_extr rfl rfl ?_
          refine w_extr rfl rfl ?_
          refine n_new (n := 10) (h' := [_, _, _, _, _, _, _, _, _, _, _]) rfl rfl rfl rfl ?_
          refine n_store (h' := [bkX le (.mk t ss :: ps) cs, .dead, bF, .dead, bR, bS, .dead, .blk ⟨49, [.str t, .v (.slice none 0 0)] ++ (encPs ps).flatten, true⟩, .blk ⟨42, [u1 0, .own 7 0 (1 + (encPs ps).length) 2, .sl 1 (cs.map fun c => [u1 c])], true⟩, .blk ⟨42, [u1 0, .own 7 0 (1 + (encPs ps).length) 2, .sl 1 (cs.map fun c => [u1 c])], true⟩, .blk ⟨44, w3c (wX (.mk le (.mk t ss :: ps) cs)), true⟩]) (cs := w3c (wX (.mk le (.mk t ss :: ps) cs))) rfl rfl rfl rfl (Nat.le_of_ble_eq_true rfl) rfl rfl rfl ?_
          subst hbS
          refine a_eql rfl rfl ?_
          refine w_let ?_
          refine a_guard1 rfl rfl ?_
          refine w_loadA (id := 5) (o := 0) rfl rfl (Nat.le_of_ble_eq_true rfl) ?_
          refine a_idx (l := (wX (.mk le (.mk t ss :: ps) cs) :: l'.map wX)) (f := w3c) rfl rfl (n := 0) rfl rfl ?_
          refine a_loadAI rfl rfl ?_
          refine a_eqW rfl rfl ?_
          refine w_pick_t rfl ?_
          refine w_let ?_
          refine a_guard1 rfl rfl ?_
          refine a_eql rfl rfl ?_
          refine w_pick_t rfl ?_
          refine w_let ?_
          refine a_guard1 rfl rfl ?_
          refine w_loadA (id := 10) (o := 0) rfl rfl (Nat.le_of_ble_eq_true rfl) ?_
          refine a_idx (l := (wX (.mk le (.mk t ss :: ps) cs) :: l'.map wX)) (f := w3c) rfl rfl (n := 0) rfl rfl ?_
          refine a_loadAI rfl rfl ?_
          refine a_eqW rfl rfl ?_
          refine w_pick_t rfl ?_
          refine w_let ?_
          refine a_guard1 rfl rfl ?_
          refine w_callQ rfl (by kernel_rfl) hal ?_
          refine w_pick_t rfl ?_
          exact .pure (by simp) rfl
        · refine n_new (n := 7) (h' := [bkX le (.mk t ss :: ps) cs, .dead, bF, .dead, bR, bS, .blk ⟨49, [.str t, .v (.slice none 0 0)], true⟩, .blk ⟨42, [u1 0, .v (.slice none 0 0), .v (.slice none 0 0)], true⟩]) rfl rfl rfl rfl ?_
          refine a_req rfl ?_
          refine n_appK (n := 8) (h' := [bkX le (.mk t ss :: ps) cs, .dead, bF, .dead, bR, bS, .dead, .blk ⟨42, [u1 0, .v (.slice none 0 0), .v (.slice none 0 0)], true⟩, .blk ⟨49, [.str t, .v (.slice none 0 0)] ++ (encPs ps).flatten, true⟩]) (id := 6) (cells := [.str t, .v (.slice none 0 0)]) (rows := encPs ps) rfl rfl (Nat.le_refl _) (by omega) srcR_sl (rowsP _) (by unfold roomA maxLen; omega) rfl rfl ?_
          refine a_build rfl ?_
          refine n_store (id := 7) (h' := [bkX le (.mk t ss :: ps) cs, .dead, bF, .dead, bR, bS, .dead, .blk ⟨42, [u1 0, .own 8 0 (1 + (encPs ps).length) 2, .sl 1 (cs.map fun c => [u1 c])], true⟩, .blk ⟨49, [.str t, .v (.slice none 0 0)] ++ (encPs ps).flatten, true⟩]) (cs := [u1 0, .own 8 0 (1 + (encPs ps).length) 2, .sl 1 (cs.map fun c => [u1 c])]) rfl rfl rfl rfl (Nat.le_of_ble_eq_true rfl) rfl rfl rfl ?_
          refine w_and ?_
          refine w_loadA (id := 7) (o := 0) rfl rfl (Nat.le_of_ble_eq_true rfl) ?_
          refine n_mkSl1 (n := 9) (h' := [bkX le (.mk t ss :: ps) cs, .dead, bF, .dead, bR, bS, .dead, .blk ⟨42, [u1 0, .own 8 0 (1 + (encPs ps).length) 2, .sl 1 (cs.map fun c => [u1 c])], true⟩, .blk ⟨49, [.str t, .v (.slice none 0 0)] ++ (encPs ps).flatten, true⟩, .blk ⟨42, [u1 0, .own 8 0 (1 + (encPs ps).length) 2, .sl 1 (cs.map fun c => [u1 c])], true⟩]) (cs := [u1 0, .own 8 0 (1 + (encPs ps).length) 2, .sl 1 (cs.map fun c => [u1 c])]) rfl rfl rfl rfl rfl rfl ?_
          refine iCall_borrowD (by kernel_rfl) hM (.cons (told_turn (i1 := 9) (i5 := 8) rfl rfl rfl rfl (by rw [tl_pureA (by simp), s0, encSs]; exact .nil 9)) .nil) (by simp) ?_
          refine w_extr rfl rfl ?_
          refine w_extr rfl rfl ?_
          refine n_new (n := 10) (h' := [_, _, _, _, _, _, _, _, _, _, _]) rfl rfl rfl rfl ?_
          refine n_store (h' := [bkX le (.mk t ss :: ps) cs, .dead, bF, .dead, bR, bS, .dead, .blk ⟨42, [u1 0, .own 8 0 (1 + (encPs ps).length) 2, .sl 1 (cs.map fun c => [u1 c])], true⟩, .blk ⟨49, [.str t, .v (.slice none 0 0)] ++ (encPs ps).flatten, true⟩, .blk ⟨42, [u1 0, .own 8 0 (1 + (encPs ps).length) 2, .sl 1 (cs.map fun c => [u1 c])], true⟩, .blk ⟨44, w3c (wX (.mk le (.mk t ss :: ps) cs)), true⟩]) (cs := w3c (wX (.mk le (.mk t ss :: ps) cs))) rfl rfl rfl rfl (Nat.le_of_ble_eq_true rfl) rfl rfl rfl ?_
          subst hbS
          refine a_eql rfl rfl ?_
          refine w_let ?_
          refine a_guard1 rfl rfl ?_
          refine w_loadA (id := 5) (o := 0) rfl rfl (Nat.le_of_ble_eq_true rfl) ?_
          refine a_idx (l := (wX (.mk le (.mk t ss :: ps) cs) :: l'.map wX)) (f := w3c) rfl rfl (n := 0) rfl rfl ?_
          refine a_loadAI rfl rfl ?_
          refine a_eqW rfl rfl ?_
          refine w_pick_t rfl ?_
          refine w_let ?_
          refine a_guard1 rfl rfl ?_
          refine a_eql rfl rfl ?_
          refine w_pick_t rfl ?_
          refine w_let ?_
          refine a_guard1 rfl rfl ?_
          refine w_loadA (id := 10) (o := 0) rfl rfl (Nat.le_of_ble_eq_true rfl) ?_
          refine a_idx (l := (wX (.mk le (.mk t ss :: ps) cs) :: l'.map wX)) (f := w3c) rfl rfl (n := 0) rfl rfl ?_
          refine a_loadAI rfl rfl ?_
          refine a_eqW rfl rfl ?_
          refine w_pick_t rfl ?_
          refine w_let ?_
          refine a_guard1 rfl rfl ?_
          refine w_callQ rfl (by kernel_rfl) hal ?_
          refine w_pick_t rfl ?_
          exact .pure (by simp) rfl
      · refine n_new (n := 6) (h' := [bkX le (.mk t ss :: ps) cs, .dead, bF, .dead, bR, bS, .blk ⟨42, [u1 0, .v (.slice none 0 0), .v (.slice none 0 0)], true⟩]) rfl rfl rfl rfl ?_
        refine n_mkSl1 (n := 7) (h' := [bkX le (.mk t ss :: ps) cs, .dead, bF, .dead, bR, bS, .blk ⟨42, [u1 0, .v (.slice none 0 0), .v (.slice none 0 0)], true⟩, .blk ⟨49, [.str t, .v (.slice none 0 0)], true⟩]) (cs := [.str t, .v (.slice none 0 0)]) rfl rfl rfl rfl rfl rfl ?_
        refine a_req rfl ?_
        refine n_appK (n := 8) (h' := [bkX le (.mk t ss :: ps) cs, .dead, bF, .dead, bR, bS, .blk ⟨42, [u1 0, .v (.slice none 0 0), .v (.slice none 0 0)], true⟩, .dead, .blk ⟨49, [.str t, .v (.slice none 0 0)] ++ (encPs ps).flatten, true⟩]) (id := 7) (cells := [.str t, .v (.slice none 0 0)]) (rows := encPs ps) rfl rfl (Nat.le_refl _) (by omega) srcR_sl (rowsP _) (by unfold roomA maxLen; omega) rfl rfl ?_
        refine a_build rfl ?_
        refine n_store (id := 6) (h' := [bkX le (.mk t ss :: ps) cs, .dead, bF, .dead, bR, bS, .blk ⟨42, [u1 0, .own 8 0 (1 + (encPs ps).length) 2, .sl 1 (cs.map fun c => [u1 c])], true⟩, .dead, .blk ⟨49, [.str t, .v (.slice none 0 0)] ++ (encPs ps).flatten, true⟩]) (cs := [u1 0, .own 8 0 (1 + (encPs ps).length) 2, .sl 1 (cs.map fun c => [u1 c])]) rfl rfl rfl rfl (Nat.le_of_ble_eq_true rfl) rfl rfl rfl ?_
        refine w_and ?_
        refine w_loadA (id := 6) (o := 0) rfl rfl (Nat.le_of_ble_eq_true rfl) ?_
        refine n_mkSl1 (n := 9) (h' := [bkX le (.mk t ss :: ps) cs, .dead, bF, .dead, bR, bS, .blk ⟨42, [u1 0, .own 8 0 (1 + (encPs ps).length) 2, .sl 1 (cs.map fun c => [u1 c])], true⟩, .dead, .blk ⟨49, [.str t, .v (.slice none 0 0)] ++ (encPs ps).flatten, true⟩, .blk ⟨42, [u1 0, .own 8 0 (1 + (encPs ps).length) 2, .sl 1 (cs.map fun c => [u1 c])], true⟩]) (cs := [u1 0, .own 8 0 (1 + (encPs ps).length) 2, .sl 1 (cs.map fun c => [u1 c])]) rfl rfl rfl rfl rfl rfl ?_
        refine iCall_borrowD (by kernel_rfl) hM (.cons (told_turn (i1 := 9) (i5 := 8) rfl rfl rfl rfl (by rw [tl_pureA (by simp), s0, encSs]; exact .nil 9)) .nil) (by simp) ?_
        refine w_extr rfl rfl ?_
        refine w_extr rfl rfl ?_
        refine n_new (n := 10) (h' := [_, _, _, _, _, _, _, _, _, _, _]) rfl rfl rfl rfl ?_
        refine n_store (h' := [bkX le (.mk t ss :: ps) cs, .dead, bF, .dead, bR, bS, .blk ⟨42, [u1 0, .own 8 0 (1 + (encPs ps).length) 2, .sl 1 (cs.map fun c => [u1 c])], true⟩, .dead, .blk ⟨49, [.str t, .v (.slice none 0 0)] ++ (encPs ps).flatten, true⟩, .blk ⟨42, [u1 0, .own 8 0 (1 + (encPs ps).length) 2, .sl 1 (cs.map fun c => [u1 c])], true⟩, .blk ⟨44, w3c (wX (.mk le (.mk t ss :: ps) cs)), true⟩]) (cs := w3c (wX (.mk le (.mk t ss :: ps) cs))) rfl rfl rfl rfl (Nat.le_of_ble_eq_true rfl) rfl rfl rfl ?_
        subst hbS
        refine a_eql rfl rfl ?_
        refine w_let ?_
        refine a_guard1 rfl rfl ?_
        refine w_loadA (id := 5) (o := 0) rfl rfl (Nat.le_of_ble_eq_true rfl) ?_
        refine a_idx (l := (wX (.mk le (.mk t ss :: ps) cs) :: l'.map wX)) (f := w3c) rfl rfl (n := 0) rfl rfl ?_
        refine a_loadAI rfl rfl ?_
        refine a_eqW rfl rfl ?_
        refine w_pick_t rfl ?_
        refine w_let ?_
        refine a_guard1 rfl rfl ?_
        refine a_eql rfl rfl ?_
        refine w_pick_t rfl ?_
        refine w_let ?_
        refine a_guard1 rfl rfl ?_
        refine w_loadA (id := 10) (o := 0) rfl rfl (Nat.le_of_ble_eq_true rfl) ?_
        refine a_idx (l := (wX (.mk le (.mk t ss :: ps) cs) :: l'.map wX)) (f := w3c) rfl rfl (n := 0) rfl rfl ?_
        refine a_loadAI rfl rfl ?_
        refine a_eqW rfl rfl ?_
        refine w_pick_t rfl ?_
        refine w_let ?_
        refine a_guard1 rfl rfl ?_
        refine w_callQ rfl (by kernel_rfl) hal ?_
        refine w_pick_t rfl ?_
        exact .pure (by simp) rfl
    · rw [if_neg j0, if_neg j0]
      have hbk : ∀ (h : Heap), DLe (tl 0 h 1 (.sb 6 9 (encSs ss.reverse))) (.sl 9 (encSs ss.reverse)) := fun h => by rw [told_sb (pureSs _)]; exact .refl _
      refine w_let ?_
      refine w_fad rfl ?_
      refine a_req rfl ?_
      refine w_load rfl rfl rfl ?_
      refine a_idx (l := .mk t ss :: ps) rfl (encPs_map _) (n := 0) rfl rfl ?_
      rw [encP]
      refine a_fadI rfl ?_
      refine a_req rfl ?_
      refine w_loadI rfl ?_
      refine a_build rfl ?_
      refine w_fad rfl ?_
      refine a_req rfl ?_
      refine w_load rfl rfl rfl ?_
      refine a_slL (k := 1) (r := encPs ps) rfl rfl (by rw [lnQ]; simp) (by rw [encPs]; rfl) ?_
      refine w_fad rfl ?_
      refine a_req rfl ?_
      refine w_load rfl rfl rfl ?_
      refine ⟨?_, ?_⟩
      · refine n_mkSl1 (n := 7) (h' := [bkX le (.mk t ss :: ps) cs, .dead, bF, .dead, bR, bS, .tok 53 9 ss.length, .blk ⟨49, [.str t, .sb 6 9 (encSs ss.reverse)], true⟩]) (cs := [.str t, .sb 6 9 (encSs ss.reverse)]) rfl rfl rfl rfl rfl rfl ?_
        refine ⟨?_, ?_⟩
        · refine a_req rfl ?_
          refine n_appK (n := 8) (h' := [bkX le (.mk t ss :: ps) cs, .dead, bF, .dead, bR, bS, .tok 53 9 ss.length, .dead, .blk ⟨49, [.str t, .sb 6 9 (encSs ss.reverse)] ++ (encPs ps).flatten, true⟩]) (id := 7) (cells := [.str t, .sb 6 9 (encSs ss.reverse)]) (rows := encPs ps) rfl rfl (Nat.le_refl _) (by omega) srcR_sl (rowsP _) (by unfold roomA maxLen; omega) rfl rfl ?_
          refine a_build rfl ?_
          refine n_new (n := 9) (h' := [bkX le (.mk t ss :: ps) cs, .dead, bF, .dead, bR, bS, .tok 53 9 ss.length, .dead, .blk ⟨49, [.str t, .sb 6 9 (encSs ss.reverse)] ++ (encPs ps).flatten, true⟩, .blk ⟨42, [u1 0, .v (.slice none 0 0), .v (.slice none 0 0)], true⟩]) rfl rfl rfl rfl ?_
          refine n_store (id := 9) (h' := [bkX le (.mk t ss :: ps) cs, .dead, bF, .dead, bR, bS, .tok 53 9 ss.length, .dead, .blk ⟨49, [.str t, .sb 6 9 (encSs ss.reverse)] ++ (encPs ps).flatten, true⟩, .blk ⟨42, [u1 0, .own 8 0 (1 + (encPs ps).length) 2, .sl 1 (cs.map fun c => [u1 c])], true⟩]) (cs := [u1 0, .own 8 0 (1 + (encPs ps).length) 2, .sl 1 (cs.map fun c => [u1 c])]) rfl rfl rfl rfl (Nat.le_of_ble_eq_true rfl) rfl rfl rfl ?_
          refine w_and ?_
          refine w_loadA (id := 9) (o := 0) rfl rfl (Nat.le_of_ble_eq_true rfl) ?_
          refine n_mkSl1 (n := 10) (h' := [bkX le (.mk t ss :: ps) cs, .dead, bF, .dead, bR, bS, .tok 53 9 ss.length, .dead, .blk ⟨49, [.str t, .sb 6 9 (encSs ss.reverse)] ++ (encPs ps).flatten, true⟩, .blk ⟨42, [u1 0, .own 8 0 (1 + (encPs ps).length) 2, .sl 1 (cs.map fun c => [u1 c])], true⟩, .blk ⟨42, [u1 0, .own 8 0 (1 + (encPs ps).length) 2, .sl 1 (cs.map fun c => [u1 c])], true⟩]) (cs := [u1 0, .own 8 0 (1 + (encPs ps).length) 2, .sl 1 (cs.map fun c => [u1 c])]) rfl rfl rfl rfl rfl rfl ?_
          refine iCall_borrowD (by kernel_rfl) hM (.cons (told_turn (i1 := 10) (i5 := 8) rfl rfl rfl rfl (hbk _)) .nil) (by simp) ?_
          refine w_extr rfl rfl ?_
          refine w_extr rfl rfl ?_
          refine n_new (n := 11) (h' := [_, _, _, _, _, _, _, _, _, _, _, _]) rfl rfl rfl rfl ?_
          refine n_store (h' := [bkX le (.mk t ss :: ps) cs, .dead, bF, .dead, bR, bS, .tok 53 9 ss.length, .dead, .blk ⟨49, [.str t, .sb 6 9 (encSs ss.reverse)] ++ (encPs ps).flatten, true⟩, .blk ⟨42, [u1 0, .own 8 0 (1 + (encPs ps).length) 2, .sl 1 (cs.map fun c => [u1 c])], true⟩, .blk ⟨42, [u1 0, .own 8 0 (1 + (encPs ps).length) 2, .sl 1 (cs.map fun c => [u1 c])], true⟩, .blk ⟨44, w3c (wX (.mk le (.mk t ss :: ps) cs)), true⟩]) (cs := w3c (wX (.mk le (.mk t ss :: ps) cs))) rfl rfl rfl rfl (Nat.le_of_ble_eq_true rfl) rfl rfl rfl ?_
          subst hbS
          refine a_eql rfl rfl ?_
          refine w_let ?_
          refine a_guard1 rfl rfl ?_
          refine w_loadA (id := 5) (o := 0) rfl rfl (Nat.le_of_ble_eq_true rfl) ?_
          refine a_idx (l := (wX (.mk le (.mk t ss :: ps) cs) :: l'.map wX)) (f := w3c) rfl rfl (n := 0) rfl rfl ?_
          refine a_loadAI rfl rfl ?_
          refine a_eqW rfl rfl ?_
          refine w_pick_t rfl ?_
          refine w_let ?_
          refine a_guard1 rfl rfl ?_
          refine a_eql rfl rfl ?_
          refine w_pick_t rfl ?_
          refine w_let ?_
          refine a_guard1 rfl rfl ?_
          refine w_loadA (id := 11) (o := 0) rfl rfl (Nat.le_of_ble_eq_true rfl) ?_
          refine a_idx (l := (wX (.mk le (.mk t ss :: ps) cs) :: l'.map wX)) (f := w3c) rfl rfl (n := 0) rfl rfl ?_
          refine a_loadAI rfl rfl ?_
          refine a_eqW rfl rfl ?_
          refine w_pick_t rfl ?_
          refine w_let ?_
          refine a_guard1 rfl rfl ?_
          refine w_callQ rfl (by kernel_rfl) hal ?_
          refine w_pick_t rfl ?_
          exact .pure (by simp) rfl
        · refine n_new (n := 8) (h' := [bkX le (.mk t ss :: ps) cs, .dead, bF, .dead, bR, bS, .tok 53 9 ss.length, .blk ⟨49, [.str t, .sb 6 9 (encSs ss.reverse)], true⟩, .blk ⟨42, [u1 0, .v (.slice none 0 0), .v (.slice none 0 0)], true⟩]) rfl rfl rfl rfl ?_
          refine a_req rfl ?_
          refine n_appK (n := 9) (h' := [bkX le (.mk t ss :: ps) cs, .dead, bF, .dead, bR, bS, .tok 53 9 ss.length, .dead, .blk ⟨42, [u1 0, .v (.slice none 0 0), .v (.slice none 0 0)], true⟩, .blk ⟨49, [.str t, .sb 6 9 (encSs ss.reverse)] ++ (encPs ps).flatten, true⟩]) (id := 7) (cells := [.str t, .sb 6 9 (encSs ss.reverse)]) (rows := encPs ps) rfl rfl (Nat.le_refl _) (by omega) srcR_sl (rowsP _) (by unfold roomA maxLen; omega) rfl rfl ?_
          refine a_build rfl ?_
          refine n_store (id := 8) (h' := [bkX le (.mk t ss :: ps) cs, .dead, bF, .dead, bR, bS, .tok 53 9 ss.length, .dead, .blk ⟨42, [u1 0, .own 9 0 (1 + (encPs ps).length) 2, .sl 1 (cs.map fun c => [u1 c])], true⟩, .blk ⟨49, [.str t, .sb 6 9 (encSs ss.reverse)] ++ (encPs ps).flatten, true⟩]) (cs := [u1 0, .own 9 0 (1 + (encPs ps).length) 2, .sl 1 (cs.map fun c => [u1 c])]) rfl rfl rfl rfl (Nat.le_of_ble_eq_true rfl) rfl rfl rfl ?_
          refine w_and ?_
          refine w_loadA (id := 8) (o := 0) rfl rfl (Nat.le_of_ble_eq_true rfl) ?_
          refine n_mkSl1 (n := 10) (h' := [bkX le (.mk t ss :: ps) cs, .dead, bF, .dead, bR, bS, .tok 53 9 ss.length, .dead, .blk ⟨42, [u1 0, .own 9 0 (1 + (encPs ps).length) 2, .sl 1 (cs.map fun c => [u1 c])], true⟩, .blk ⟨49, [.str t, .sb 6 9 (encSs ss.reverse)] ++ (encPs ps).flatten, true⟩, .blk ⟨42, [u1 0, .own 9 0 (1 + (encPs ps).length) 2, .sl 1 (cs.map fun c => [u1 c])], true⟩]) (cs := [u1 0, .own 9 0 (1 + (encPs ps).length) 2, .sl 1 (cs.map fun c => [u1 c])]) rfl rfl rfl rfl rfl rfl ?_
          refine iCall_borrowD (by kernel_rfl) hM (.cons (told_turn (i1 := 10) (i5 := 9) rfl rfl rfl rfl (hbk _)) .nil) (by simp) ?_
          refine w_extr rfl rfl ?_
          refine w_extr rfl rfl ?_
          refine n_new (n := 11) (h' := [_, _, _, _, _, _, _, _, _, _, _, _]) rfl rfl rfl rfl ?_
          refine n_store (h' := [bkX le (.mk t ss :: ps) cs, .dead, bF, .dead, bR, bS, .tok 53 9 ss.length, .dead, .blk ⟨42, [u1 0, .own 9 0 (1 + (encPs ps).length) 2, .sl 1 (cs.map fun c => [u1 c])], true⟩, .blk ⟨49, [.str t, .sb 6 9 (encSs ss.reverse)] ++ (encPs ps).flatten, true⟩, .blk ⟨42, [u1 0, .own 9 0 (1 + (encPs ps).length) 2, .sl 1 (cs.map fun c => [u1 c])], true⟩, .blk ⟨44, w3c (wX (.mk le (.mk t ss :: ps) cs)), true⟩]) (cs := w3c (wX (.mk le (.mk t ss :: ps) cs))) rfl rfl rfl rfl (Nat.le_of_ble_eq_true rfl) rfl rfl rfl ?_
          subst hbS
          refine a_eql rfl rfl ?_
          refine w_let ?_
          refine a_guard1 rfl rfl ?_
          refine w_loadA (id := 5) (o := 0) rfl rfl (Nat.le_of_ble_eq_true rfl) ?_
          refine a_idx (l := (wX (.mk le (.mk t ss :: ps) cs) :: l'.map wX)) (f := w3c) rfl rfl (n := 0) rfl rfl ?_
          refine a_loadAI rfl rfl ?_
          refine a_eqW rfl rfl ?_
          refine w_pick_t rfl ?_
          refine w_let ?_
          refine a_guard1 rfl rfl ?_
          refine a_eql rfl rfl ?_
          refine w_pick_t rfl ?_
          refine w_let ?_
          refine a_guard1 rfl rfl ?_
          refine w_loadA (id := 11) (o := 0) rfl rfl (Nat.le_of_ble_eq_true rfl) ?_
          refine a_idx (l := (wX (.mk le (.mk t ss :: ps) cs) :: l'.map wX)) (f := w3c) rfl rfl (n := 0) rfl rfl ?_
          refine a_loadAI rfl rfl ?_
          refine a_eqW rfl rfl ?_
          refine w_pick_t rfl ?_
          refine w_let ?_
          refine a_guard1 rfl rfl ?_
          refine w_callQ rfl (by kernel_rfl) hal ?_
          refine w_pick_t rfl ?_
          exact .pure (by simp) rfl
      · refine n_new (n := 7) (h' := [bkX le (.mk t ss :: ps) cs, .dead, bF, .dead, bR, bS, .tok 53 9 ss.length, .blk ⟨42, [u1 0, .v (.slice none 0 0), .v (.slice none 0 0)], true⟩]) rfl rfl rfl rfl ?_
        refine n_mkSl1 (n := 8) (h' := [bkX le (.mk t ss :: ps) cs, .dead, bF, .dead, bR, bS, .tok 53 9 ss.length, .blk ⟨42, [u1 0, .v (.slice none 0 0), .v (.slice none 0 0)], true⟩, .blk ⟨49, [.str t, .sb 6 9 (encSs ss.reverse)], true⟩]) (cs := [.str t, .sb 6 9 (encSs ss.reverse)]) rfl rfl rfl rfl rfl rfl ?_
        refine a_req rfl ?_
        refine n_appK (n := 9) (h' := [bkX le (.mk t ss :: ps) cs, .dead, bF, .dead, bR, bS, .tok 53 9 ss.length, .blk ⟨42, [u1 0, .v (.slice none 0 0), .v (.slice none 0 0)], true⟩, .dead, .blk ⟨49, [.str t, .sb 6 9 (encSs ss.reverse)] ++ (encPs ps).flatten, true⟩]) (id := 8) (cells := [.str t, .sb 6 9 (encSs ss.reverse)]) (rows := encPs ps) rfl rfl (Nat.le_refl _) (by omega) srcR_sl (rowsP _) (by unfold roomA maxLen; omega) rfl rfl ?_
        refine a_build rfl ?_
        refine n_store (id := 7) (h' := [bkX le (.mk t ss :: ps) cs, .dead, bF, .dead, bR, bS, .tok 53 9 ss.length, .blk ⟨42, [u1 0, .own 9 0 (1 + (encPs ps).length) 2, .sl 1 (cs.map fun c => [u1 c])], true⟩, .dead, .blk ⟨49, [.str t, .sb 6 9 (encSs ss.reverse)] ++ (encPs ps).flatten, true⟩]) (cs := [u1 0, .own 9 0 (1 + (encPs ps).length) 2, .sl 1 (cs.map fun c => [u1 c])]) rfl rfl rfl rfl (Nat.le_of_ble_eq_true rfl) rfl rfl rfl ?_
        refine w_and ?_
        refine w_loadA (id := 7) (o := 0) rfl rfl (Nat.le_of_ble_eq_true rfl) ?_
        refine n_mkSl1 (n := 10) (h' := [bkX le (.mk t ss :: ps) cs, .dead, bF, .dead, bR, bS, .tok 53 9 ss.length, .blk ⟨42, [u1 0, .own 9 0 (1 + (encPs ps).length) 2, .sl 1 (cs.map fun c => [u1 c])], true⟩, .dead, .blk ⟨49, [.str t, .sb 6 9 (encSs ss.reverse)] ++ (encPs ps).flatten, true⟩, .blk ⟨42, [u1 0, .own 9 0 (1 + (encPs ps).length) 2, .sl 1 (cs.map fun c => [u1 c])], true⟩]) (cs := [u1 0, .own 9 0 (1 + (encPs ps).length) 2, .sl 1 (cs.map fun c => [u1 c])]) rfl rfl rfl rfl rfl rfl ?_
        refine iCall_borrowD (by kernel_rfl) hM (.cons (told_turn (i1 := 10) (i5 := 9) rfl rfl rfl rfl (hbk _)) .nil) (by simp) ?_
        refine w_extr rfl rfl ?_
        refine w_extr rfl rfl ?_
        refine n_new (n := 11) (h' := [_, _, _, _, _, _, _, _, _, _, _, _]) rfl rfl rfl rfl ?_
        refine n_store (h' := [bkX le (.mk t ss :: ps) cs, .dead, bF, .dead, bR, bS, .tok 53 9 ss.length, .blk ⟨42, [u1 0, .own 9 0 (1 + (encPs ps).length) 2, .sl 1 (cs.map fun c => [u1 c])], true⟩, .dead, .blk ⟨49, [.str t, .sb 6 9 (encSs ss.reverse)] ++ (encPs ps).flatten, true⟩, .blk ⟨42, [u1 0, .own 9 0 (1 + (encPs ps).length) 2, .sl 1 (cs.map fun c => [u1 c])], true⟩, .blk ⟨44, w3c (wX (.mk le (.mk t ss :: ps) cs)), true⟩]) (cs := w3c (wX (.mk le (.mk t ss :: ps) cs))) rfl rfl rfl rfl (Nat.le_of_ble_eq_true rfl) rfl rfl rfl ?_
        subst hbS
        refine a_eql rfl rfl ?_
        refine w_let ?_
        refine a_guard1 rfl rfl ?_
        refine w_loadA (id := 5) (o := 0) rfl rfl (Nat.le_of_ble_eq_true rfl) ?_
        refine a_idx (l := (wX (.mk le (.mk t ss :: ps) cs) :: l'.map wX)) (f := w3c) rfl rfl (n := 0) rfl rfl ?_
        refine a_loadAI rfl rfl ?_
        refine a_eqW rfl rfl ?_
        refine w_pick_t rfl ?_
        refine w_let ?_
        refine a_guard1 rfl rfl ?_
        refine a_eql rfl rfl ?_
        refine w_pick_t rfl ?_
        refine w_let ?_
        refine a_guard1 rfl rfl ?_
        refine w_loadA (id := 11) (o := 0) rfl rfl (Nat.le_of_ble_eq_true rfl) ?_
        refine a_idx (l := (wX (.mk le (.mk t ss :: ps) cs) :: l'.map wX)) (f := w3c) rfl rfl (n := 0) rfl rfl ?_
        refine a_loadAI rfl rfl ?_
        refine a_eqW rfl rfl ?_
        refine w_pick_t rfl ?_
        refine w_let ?_
        refine a_guard1 rfl rfl ?_
        refine w_callQ rfl (by kernel_rfl) hal ?_
        refine w_pick_t rfl ?_
        exact .pure (by simp) rfl
end Go.Proofs.YthblflmjingcfaaGreatDoor
end
