/-
  A list within a selector: as plain data; what the function hands back. A list in a pseudo-class weighs as the greatest alone: the law.
  No conditions.
-/
import Derived.Test.YtpggiljgcckmoaaGreatDoorG1
import Derived.Test.YtpggiljgcckmoaaGreatDoorL5
set_option linter.unusedVariables false
set_option linter.unusedSimpArgs false
section
namespace Go.Sel
open Go Go.Aw
def leadX (lead : Int) : Cx → Cx
  | .mk _ ps cs => .mk lead ps cs
def insideL (kind : Int) (l : List Cx) (lead : Int) (w : Bool) : List Cx := [.mk 0 [.mk [] [.mk kind [] 0 [] false 0 0 w (l.map (leadX lead))]] []]
def leadR (lead : Int) (x : Cx) : List AV := encX (leadX lead x)
theorem leadR_pure (lead : Int) : ∀ l : List Cx, PureR (l.map (leadR lead))
  | [] => by simp [PureR]
  | x :: l => by
    rw [List.map_cons]
    simp only [PureR]
    exact ⟨pureX _, leadR_pure lead l⟩
theorem leadR_enc (lead : Int) (l : List Cx) : l.map (leadR lead) = encXs (l.map (leadX lead)) := by
  rw [encXs_map, List.map_map]; rfl
/-- As the function makes it: no combinators at all. -/
def insideR (kind : Int) (l : List Cx) (lead : Int) (w : Bool) : List AV := [u1 0, .sl 2 [[.str [], .sl 9 [[u1 kind, .str [], u1 0, .str [], ff, int 0, int 0, .v (.bool w), .sl 3 (l.map (leadR lead))]]]], .v (.slice none 0 0)]
theorem inside_dle (kind : Int) (l : List Cx) (lead : Int) (w : Bool) : DLe (.sl 3 [insideR kind l lead w]) (.sl 3 (encXs (insideL kind l lead w))) := by
  have : encXs (insideL kind l lead w) = [[u1 0, .sl 2 [[.str [], .sl 9 [[u1 kind, .str [], u1 0, .str [], ff, int 0, int 0, .v (.bool w), .sl 3 (l.map (leadR lead))]]]], .sl 1 []]] := by
    rw [leadR_enc]
    simp [insideL, encXs, encX, encPs, encP, encSs, encS]
  rw [this, insideR]
  exact .sl (.cons (.cons (.refl _) (.cons (.refl _) (.cons (.nil 1) .nil))) .nil)
end Go.Sel
namespace Go.Proofs.YtpggiljgcckmoaaGreatDoor
open Go Go.Aw Go.Sel
set_option maxRecDepth 100000
variable [Laid]
theorem con_inside0 (kind lead : Int) (l : List Cx) (hz : zXs l < 2 ^ 40) : Con Tryz.prog 11 [u1 kind, .sl 3 (encXs l), u1 lead] (.sl 3 [insideR kind l lead false]) := by
  refine (V11 _ _ _).gives (by simp [pureXs]) (by simp [insideR, Aw.Pure, PureR, PureL, leadR_pure]) ?_
  unfold W11
  have hlen : (encXs l).length = l.length := by simp [encXs_map]
  have hxl := zXs_len l
  refine iLoop_of (α := Nat) (fun k => k ≤ l.length) (fun k => [.sb 0 3 ((l.take k).map (leadR lead)), int k]) (fun k => [.tok 42 3 k]) (fun k => l.length - k) 0 (by simp) ?_ ?_
  · have a := Wk.nil (n := 0) (s := [.v (.slice none 0 0), int 0]) (h := []) (by simp) 0 rfl
    have b := Wk.tok (n := 0) (s := [.emp, int 0]) (h := []) (by simp) 0 42 3 rfl
    exact a.trans b
  · intro k hk
    refine a_len (n := l.length) rfl hlen fun _ => ?_
    refine a_lss rfl rfl ?_
    rcases Nat.lt_or_ge k l.length with q | q
    · obtain ⟨⟨le, ps, cs⟩, hx⟩ : ∃ s, l[k]? = some s := ⟨l[k], List.getElem?_eq_getElem q⟩
      have hin : inI ((k : Int) + 1) := by unfold inI; omega
      have hlk : ((l.take k).map (leadR lead)).length = k := by simp; omega
      have e : (l.take k).map (leadR lead) ++ [[u1 lead, .sl 2 (encPs ps), .sl 1 (cs.map fun c => [u1 c])]] = (l.take (k + 1)).map (leadR lead) := by
        rw [List.take_add_one, hx]; simp [leadR, leadX, encX]
      have pr := leadR_pure lead (l.take (k + 1))
      have hr : roomA 56 (k + 1) := by unfold roomA maxLen; omega
      refine a_cond1 rfl (by simpa using q) ?_
      refine a_idx rfl (encXs_map l) rfl hx ?_
      refine a_loadAI rfl (by simp [encX_eq]) ?_
      refine w_new (by simp) ?_
      rw [encX]
      refine a_store (cs := [u1 le, .sl 2 (encPs ps), .sl 1 (cs.map fun c => [u1 c])]) rfl rfl rfl rfl (Nat.le_refl _) rfl rfl ?_
      refine w_fad rfl ?_
      refine a_store (cs := [u1 lead]) rfl rfl rfl rfl (by simp [setAll]) rfl rfl ?_
      refine w_loadA rfl rfl (by simp [setAll]) ?_
      simp [setAll, chunks, hr, hin, hlk]
      refine ⟨by omega, k + 1, q, ?_, by omega⟩
      rw [← List.map_take, ← List.map_take, e]
      exact Wk.back (n := 0) (M := 1) (by simp) (by simp) (by simp) rfl (by simp [entB]) (by
        have hb := Bd_pure 1 (.sl 3 ((l.take (k + 1)).map (leadR lead))) (by rw [Aw.Pure]; exact pr)
        rw [Bd, List.map_take] at hb
        intro a ha
        simp at ha
        rcases ha with rfl | rfl
        · rw [Bd]
          exact ⟨by omega, hb⟩
        · simp [Bd])
    · obtain rfl : k = l.length := by omega
      have pr := leadR_pure lead l
      rw [List.take_length]
      refine a_cond0 rfl (by simp) ?_
      refine a_build rfl ?_
      simp [chunks, rep0, bfill, setAll, scal]
      refine Gives.of ?_
      simp [tl, tlA, tlL, tlR, chunks, insideR, tlR_pure _ _ _ _ pr, Le]
theorem con_inside (kind lead : Int) (l : List Cx) (hz : zXs l < 2 ^ 40) : Con Tryz.prog 11 [u1 kind, .sl 3 (encXs l), u1 lead] (.sl 3 (encXs (insideL kind l lead false))) :=
  (con_inside0 kind lead l hz).dle (inside_dle kind l lead false) (by simp [pureXs])
/-- Behind five blocks, its memory kept. -/
theorem con_inside5 (kind lead : Int) (l : List Cx) (hz : zXs l < 2 ^ 40) (B0 B1 B2 B3 B4 : Blk) (p0 : PureL B0.cells) (p1 : PureL B1.cells) (p2 : PureL B2.cells) (p3 : PureL B3.cells) (p4 : PureL B4.cells) {K : AV → Heap → Prop}
    (k : K (.own 8 0 1 3) [.blk B0, .blk B1, .blk B2, .blk B3, .blk B4, .tok 42 3 l.length, .blk ⟨35, [u1 kind, .str [], u1 0, .str [], ff, int 0, int 0, ff, .sb 5 3 (l.map (leadR lead))], true⟩, .blk ⟨38, [.str [], .own 6 0 1 9], true⟩, .blk ⟨42, [u1 0, .own 7 0 1 2, .v (.slice none 0 0)], true⟩]) :
    iCall Tryz.prog (.fn (.func 11) [] []) [u1 kind, .sl 3 (encXs l), u1 lead] [.blk B0, .blk B1, .blk B2, .blk B3, .blk B4] K := by
  refine ⟨by kernel_rfl, ?_⟩
  simp only [List.nil_append, List.append_nil]
  refine (V11 _ _ _).acall ?_
  unfold W11
  have hlen : (encXs l).length = l.length := by simp [encXs_map]
  have hxl := zXs_len l
  refine iLoop_of (α := Nat) (fun k => k ≤ l.length) (fun k => [.sb 5 3 ((l.take k).map (leadR lead)), int k]) (fun k => [.blk B0, .blk B1, .blk B2, .blk B3, .blk B4, .tok 42 3 k]) (fun k => l.length - k) 0 (by simp) ?_ ?_
  · have a := Wk.nil (n := 5) (s := [.v (.slice none 0 0), int 0]) (h := [.blk B0, .blk B1, .blk B2, .blk B3, .blk B4]) (by simp) 0 rfl
    have b := Wk.tok (n := 5) (s := [.emp, int 0]) (h := [.blk B0, .blk B1, .blk B2, .blk B3, .blk B4]) (by simp) 0 42 3 rfl
    exact a.trans b
  · intro k hk
    refine a_len (n := l.length) rfl hlen fun _ => ?_
    refine a_lss rfl rfl ?_
    rcases Nat.lt_or_ge k l.length with q | q
    · obtain ⟨⟨le, ps, cs⟩, hx⟩ : ∃ s, l[k]? = some s := ⟨l[k], List.getElem?_eq_getElem q⟩
      have hin : inI ((k : Int) + 1) := by unfold inI; omega
      have hlk : ((l.take k).map (leadR lead)).length = k := by simp; omega
      have e : (l.take k).map (leadR lead) ++ [[u1 lead, .sl 2 (encPs ps), .sl 1 (cs.map fun c => [u1 c])]] = (l.take (k + 1)).map (leadR lead) := by
        rw [List.take_add_one, hx]; simp [leadR, leadX, encX]
      have pr := leadR_pure lead (l.take (k + 1))
      have hr : roomA 56 (k + 1) := by unfold roomA maxLen; omega
      refine a_cond1 rfl (by simpa using q) ?_
      refine a_idx rfl (encXs_map l) rfl hx ?_
      refine a_loadAI rfl (by simp [encX_eq]) ?_
      refine w_new (by simp) ?_
      rw [encX]
      refine a_store (cs := [u1 le, .sl 2 (encPs ps), .sl 1 (cs.map fun c => [u1 c])]) rfl rfl rfl rfl (Nat.le_refl _) rfl rfl ?_
      refine w_fad rfl ?_
      refine a_store (cs := [u1 lead]) rfl rfl rfl rfl (by simp [setAll]) rfl rfl ?_
      refine w_loadA rfl rfl (by simp [setAll]) ?_
      simp [setAll, chunks, hr, hin, hlk]
      refine ⟨by omega, k + 1, q, ?_, by omega⟩
      rw [← List.map_take, ← List.map_take, e]
      exact Wk.back (n := 5) (M := 6) (by simp) (by simp) (by simp) rfl (by simp [entB]; exact ⟨BdL_pure _ _ p0, BdL_pure _ _ p1, BdL_pure _ _ p2, BdL_pure _ _ p3, BdL_pure _ _ p4⟩) (by
        have hb := Bd_pure 6 (.sl 3 ((l.take (k + 1)).map (leadR lead))) (by rw [Aw.Pure]; exact pr)
        rw [Bd, List.map_take] at hb
        intro a ha
        simp at ha
        rcases ha with rfl | rfl
        · rw [Bd]
          exact ⟨by omega, hb⟩
        · simp [Bd])
    · obtain rfl : k = l.length := by omega
      have pr := leadR_pure lead l
      rw [List.take_length]
      refine a_cond0 rfl (by simp) ?_
      refine a_build rfl ?_
      simp [chunks, rep0, bfill, setAll, scal]
      exact ⟨_, _, Wk.refl _ _ _ (by simp), k⟩
end Go.Proofs.YtpggiljgcckmoaaGreatDoor
end

section
namespace Go.Sel
open Go Go.Aw
mutual
theorem okX_has (d : Nat) (rel : Bool) : ∀ x : Cx, okX d true rel x = true → okX d false rel x = true
  | .mk l ps cs, h => by
    rw [okX] at h ⊢
    simp only [Bool.and_eq_true] at h ⊢
    exact ⟨h.1, okPs_has d ps h.2⟩
theorem okPs_has (d : Nat) : ∀ l : List Cp, okPs d true l = true → okPs d false l = true
  | [], _ => by rw [okPs]
  | p :: l, h => by
    rw [okPs] at h ⊢
    simp only [Bool.and_eq_true] at h ⊢
    exact ⟨okP_has d p h.1, okPs_has d l h.2⟩
theorem okP_has (d : Nat) : ∀ p : Cp, okP d true p = true → okP d false p = true
  | .mk t ss, h => by
    rw [okP] at h ⊢
    simp only [Bool.and_eq_true] at h ⊢
    exact ⟨h.1, okSs_has d ss h.2⟩
theorem okSs_has (d : Nat) : ∀ l : List Sm, okSs d true l = true → okSs d false l = true
  | [], _ => by rw [okSs]
  | s :: l, h => by
    rw [okSs] at h ⊢
    simp only [Bool.and_eq_true] at h ⊢
    exact ⟨okS_has d s h.1, okSs_has d l h.2⟩
theorem okS_has (d : Nat) : ∀ s : Sm, okS d true s = true → okS d false s = true
  | .mk k n o v f a b w l, h => by
    have ih := okXs_has (d + 1) (decide (k = 14)) l
    rw [okS] at h ⊢
    cases hl : hasL k w
    · rw [hl] at h; simpa using h
    · rw [hl] at h
      simp only [if_true, Bool.and_eq_true, Bool.true_and, Bool.false_and, Bool.true_or, Bool.false_or, Bool.not_false] at h ⊢
      obtain ⟨h0, ⟨⟨h1, h2⟩, h3⟩, h4⟩ := h
      have hk : decide (k = 14) = false := by simpa using h2
      rw [hk] at ih h4 ⊢
      exact ⟨h0, ⟨⟨h1, trivial⟩, h3⟩, ih h4⟩
theorem okXs_has (d : Nat) (rel : Bool) : ∀ l : List Cx, okXs d true rel l = true → okXs d false rel l = true
  | [], _ => by rw [okXs]
  | x :: l, h => by
    rw [okXs] at h ⊢
    simp only [Bool.and_eq_true] at h ⊢
    exact ⟨okX_has d rel x h.1, okXs_has d rel l h.2⟩
end
theorem okXs_lead (d : Nat) (has rel : Bool) (a b : Int) (r2 : Bool) (h1 : (r2 == !decide (b = 0)) = true) (h2 : b ≤ 4) : ∀ l : List Cx, okXs d has rel (l.map (leadX a)) = true → okXs d has r2 (l.map (leadX b)) = true
  | [], _ => by simp [okXs]
  | .mk le ps cs :: l, h => by
    rw [List.map_cons, okXs, leadX, okX] at h ⊢
    simp only [Bool.and_eq_true] at h ⊢
    obtain ⟨⟨⟨⟨⟨⟨_, _⟩, a1⟩, a2⟩, a3⟩, a4⟩, a5⟩ := h
    exact ⟨⟨⟨⟨⟨⟨h1, by simpa using h2⟩, a1⟩, a2⟩, a3⟩, a4⟩, okXs_lead d has rel a b r2 h1 h2 l a5⟩
theorem nXs_lead (a : Int) : ∀ l : List Cx, nXs (l.map (leadX a)) = nXs l
  | [] => by simp [nXs]
  | .mk le ps cs :: l => by
    rw [List.map_cons, nXs, nXs, leadX, nX, nX, nXs_lead a l]
theorem zXs_lead (a : Int) : ∀ l : List Cx, zXs (l.map (leadX a)) = zXs l
  | [] => by simp [zXs]
  | .mk le ps cs :: l => by
    rw [List.map_cons, zXs, zXs, leadX, zX, zX, zXs_lead a l]
theorem number_inside (k : Int) (l : List Cx) (a : Int) (w : Bool) : number (insideL k l a w) = 1 + number l := by
  simp [number, insideL, nXs, nX, nPs, nP, nSs, nS, nXs_lead]
theorem zXs_inside (k : Int) (l : List Cx) (a : Int) (w : Bool) : zXs (insideL k l a w) = 3 + zXs l := by
  simp [insideL, zXs, zX, zPs, zP, zSs, zS, zXs_lead]; omega
/-- What :has takes, the others take. -/
theorem check_inside {l : List Cx} (h : checkL (insideL 14 l 1 false) = 0) (k a : Int) (w : Bool) (hk : k = 11 ∧ w = false ∧ a = 0 ∨ k = 12 ∧ w = false ∧ a = 0 ∨ k = 13 ∧ w = false ∧ a = 0 ∨ k = 14 ∧ w = false ∧ a = 2 ∨ k = 9 ∧ w = true ∧ a = 0) : checkL (insideL k l a w) = 0 := by
  have hn : number (insideL 14 l 1 false) ≤ 64 := by
    unfold checkL at h
    split at h
    · split at h
      · assumption
      · omega
    · omega
  have ho : okXs 0 false false (insideL 14 l 1 false) = true := by
    unfold checkL at h
    split at h
    · rename_i q; rw [Bool.and_eq_true] at q; exact q.2
    · omega
  rw [number_inside] at hn
  have he : l.isEmpty = false ∧ okXs 1 true true (l.map (leadX 1)) = true := by
    simp [insideL, okXs, okX, okPs, okP, okSs, okS, hasL, bareOK, isNth, freeL] at ho
    exact ⟨by simpa using ho.1, ho.2⟩
  have h2 : okXs 1 true true (l.map (leadX 2)) = true := okXs_lead 1 true true 1 2 true (by decide) (by omega) l he.2
  have h0 : okXs 1 false false (l.map (leadX 0)) = true := okXs_has 1 false _ (okXs_lead 1 true true 1 0 false (by decide) (by omega) l he.2)
  have hq : okXs 0 false false (insideL k l a w) = true := by
    rcases hk with ⟨rfl, rfl, rfl⟩ | ⟨rfl, rfl, rfl⟩ | ⟨rfl, rfl, rfl⟩ | ⟨rfl, rfl, rfl⟩ | ⟨rfl, rfl, rfl⟩
    all_goals simp [insideL, okXs, okX, okPs, okP, okSs, okS, hasL, bareOK, isNth, freeL, anbOK, he.1, h0, h2]
    all_goals simpa using he.1
  unfold checkL
  rw [hq, number_inside, if_pos (by simp [insideL]), if_pos hn]
end Go.Sel
namespace Go.Proofs.YtpggiljgcckmoaaGreatDoor
open Go Go.Aw Go.Sel
set_option maxRecDepth 100000
theorem wX_lead (a : Int) (x : Cx) : wX (leadX a x) = wX x := by
  obtain ⟨l, ps, cs⟩ := x
  rw [leadX, wX, wX]
theorem wXs_lead (a : Int) (l : List Cx) : wXs (l.map (leadX a)) = wXs l := by
  cases l with
  | nil => rfl
  | cons x l =>
    rw [List.map_cons, wXs, wXs, wM_fold, wM_fold, List.map_map, wX_lead]
    congr 2
    funext y
    exact wX_lead a y
theorem wXs_inside (k : Int) (l : List Cx) (a : Int) (w : Bool) : wXs (insideL k l a w) = if k = 12 then w0 else if k = 1 then (1, 0, 0) else addW (kindW k) (wXs l) := by
  rw [insideL, wXs, wM, wX, wPs, wPs, wP, wSs, wSs, wS, wXs_lead]
  simp [addW_zero, tagW, zero_addW]
theorem a_idxO {m id off len : Nat} {x i : AV} {K : AV → Prop} {n : Nat} (ex : x = .own id off len m) (ei : i = int n) (hn : n < len) (q : K (.op id (off + n * m))) : iIdxP m x i K := by
  subst ex; subst ei
  exact ⟨rfl, ⟨by omega, by omega⟩, by simpa using q⟩
variable [Laid]
theorem con_MostI {l : List Cx} (hz : zXs l < 2 ^ 39) (h : checkL (insideL 14 l 1 false) = 0) (k a : Int) (w : Bool) (hk : k = 11 ∧ w = false ∧ a = 0 ∨ k = 12 ∧ w = false ∧ a = 0 ∨ k = 13 ∧ w = false ∧ a = 0 ∨ k = 14 ∧ w = false ∧ a = 2 ∨ k = 9 ∧ w = true ∧ a = 0) (r : Wt3) (hr : (if k = 12 then w0 else if k = 1 then (1, 0, 0) else addW (kindW k) (wXs l)) = r) : Con Tryz.prog 13 [.sl 3 (encXs (insideL k l a w))] (.tup [w3 r, int 0]) := by
  have := con_Most (insideL k l a w) (by rw [zXs_inside]; omega)
  rw [mostV, check_inside h k a w hk, if_pos rfl, wXs_inside, hr] at this
  exact this
set_option maxHeartbeats 4000000 in
theorem con_WeighInside (hal : Con Tryz.prog 12 [] (bool true)) (l : List Cx) (hz : zXs l < 2 ^ 39) : Con Tryz.prog 3 [.sl 3 (encXs l)] (bool true) := by
  refine (V3 _).gives (by simp [pureXs]) (by simp) ?_
  unfold W3
  by_cases c1 : checkL l = 0
  · by_cases c2 : checkL (insideL 14 l 1 false) = 0
    · have m1 : Con Tryz.prog 13 [.sl 3 (encXs l)] (.tup [w3 (wXs l), int 0]) := by
        have := con_Most l (by omega)
        rw [mostV, c1, if_pos rfl] at this
        exact this
      have m11 := con_MostI hz c2 11 0 false (by simp) (wXs l) (by simp [kindW, zero_addW])
      have m13 := con_MostI hz c2 13 0 false (by simp) (wXs l) (by simp [kindW, zero_addW])
      have m14 := con_MostI hz c2 14 2 false (by simp) (wXs l) (by simp [kindW, zero_addW])
      have m12 := con_MostI hz c2 12 0 false (by simp) w0 (by simp)
      have m9 := con_MostI hz c2 9 0 true (by simp) (addW (0, 1, 0) (wXs l)) (by simp [kindW])
      have hR := con_rCheck l (by omega)
      rw [c1] at hR
      have hI := con_rCheck (insideL 14 l 1 false) (by rw [zXs_inside]; omega)
      rw [c2] at hI
      have hin : inI ((wXs l).2.1 + 1) := by have := wXs_bd l; unfold bdW at this; unfold inI; omega
      have pr := leadR_pure 0 l
      repeat' (first
        | (with_reducible apply w_let)
        | (with_reducible apply w_and)
        | (with_reducible refine And.intro True.intro ?_)
        | ((with_reducible apply a_lss); rfl; rfl)
        | ((with_reducible apply a_leq); rfl; rfl)
        | ((with_reducible apply a_gtr); rfl; rfl)
        | ((with_reducible apply a_geq); rfl; rfl)
        | ((with_reducible apply a_eql); rfl; rfl)
        | ((with_reducible apply a_neq); rfl; rfl)
        | ((with_reducible apply a_eqlS); rfl; rfl)
        | ((with_reducible apply a_neqS); rfl; rfl)
        | ((with_reducible apply a_eqlB); rfl; rfl)
        | ((with_reducible apply a_neqB); rfl; rfl)
        | ((with_reducible apply w_add); rfl; rfl; first | assumption | (unfold inI; omega))
        | ((with_reducible apply w_sub); rfl; rfl; first | assumption | (unfold inI; omega))
        | ((with_reducible apply a_not); rfl)
        | ((with_reducible apply w_pick_t); rfl)
        | ((with_reducible apply w_pick_f); rfl)
        | ((with_reducible apply a_cond1); rfl; first | rfl | assumption)
        | ((with_reducible apply a_cond0); rfl; first | rfl | assumption)
        | ((with_reducible apply a_guard1); rfl; first | rfl | assumption)
        | ((with_reducible apply a_guard0); rfl; first | rfl | assumption)
        | ((with_reducible apply w_guard_u); rfl)
        | ((with_reducible apply a_pick1); rfl; first | rfl | assumption)
        | ((with_reducible apply a_pick0); rfl; first | rfl | assumption)
        | ((with_reducible apply a_pickN); rfl)
        | ((with_reducible apply a_condN); rfl)
        | ((with_reducible apply a_guardN); rfl)
        | ((with_reducible apply w_fad); rfl)
        | ((with_reducible apply a_fadI); rfl)
        | ((with_reducible apply w_load); rfl; rfl; rfl)
        | ((with_reducible apply w_loadI); rfl)
        | ((with_reducible apply w_loadA); rfl; rfl; first | exact Nat.le_refl _ | exact Nat.le_of_ble_eq_true rfl)
        | ((with_reducible apply a_eqA); rfl; rfl; rfl)
        | ((with_reducible apply a_loadAI); rfl; first | rfl | simp)
        | ((with_reducible apply w_new); first | rfl | simp)
        | ((with_reducible apply a_store); rfl; rfl; rfl; rfl; (first | exact Nat.le_refl _ | simp); (first | rfl | simp); (first | rfl | simp))
        | ((with_reducible apply a_lenS); rfl; intro _)
        | ((with_reducible apply a_len); rfl; (first | rfl | simp); intro _)
        | ((with_reducible apply a_build); rfl)
        | ((with_reducible apply a_extr); rfl; rfl)
        | (refine iCall_con (by kernel_rfl) (con_Great l (by omega)) ?_)
        | (refine iCall_con (by kernel_rfl) (hR) ?_)
        | (refine iCall_con (by kernel_rfl) (hI) ?_)
        | (refine iCall_con (by kernel_rfl) (hal) ?_)
        | (refine iCall_con (by kernel_rfl) (m1) ?_)
        | (refine iCall_con (by kernel_rfl) (m11) ?_)
        | (refine iCall_con (by kernel_rfl) (m13) ?_)
        | (refine iCall_con (by kernel_rfl) (m14) ?_)
        | (refine iCall_con (by kernel_rfl) (m12) ?_)
        | (refine iCall_con (by kernel_rfl) (con_inside 14 1 l (by omega)) ?_)
        | (refine iCall_con (by kernel_rfl) (con_inside 11 0 l (by omega)) ?_)
        | (refine iCall_con (by kernel_rfl) (con_inside 13 0 l (by omega)) ?_)
        | (refine iCall_con (by kernel_rfl) (con_inside 14 2 l (by omega)) ?_)
        | (refine iCall_con (by kernel_rfl) (con_inside 12 0 l (by omega)) ?_)
        | (refine con_inside5 9 0 l (by omega) _ _ _ _ _ (by simp [setAll, w3, w0]) (by simp [setAll, w3, w0]) (by simp [setAll, w3, w0]) (by simp [setAll, w3, w0]) (by simp [setAll, w3, w0]) ?_)
        | (refine a_idxO (n := 0) rfl rfl (by omega) ?_)
        | ((with_reducible apply a_cond); rfl)
        | ((with_reducible apply a_guard); rfl)
        | (with_reducible intro _))
      rotate_left
      · exact .pure (by simp) rfl
      refine iCall_borrowD (by kernel_rfl) m9 (by
        simp [tl, tlA, tlL, tlR, chunks, setAll, tlR_pure _ _ _ _ pr]
        exact .cons (by simpa [insideR] using inside_dle 9 l 0 true) .nil) (by simp [w3]) ?_
      repeat' (first
        | (with_reducible apply w_let)
        | (with_reducible apply w_and)
        | (with_reducible refine And.intro True.intro ?_)
        | ((with_reducible apply a_lss); rfl; rfl)
        | ((with_reducible apply a_leq); rfl; rfl)
        | ((with_reducible apply a_gtr); rfl; rfl)
        | ((with_reducible apply a_geq); rfl; rfl)
        | ((with_reducible apply a_eql); rfl; rfl)
        | ((with_reducible apply a_neq); rfl; rfl)
        | ((with_reducible apply a_eqlS); rfl; rfl)
        | ((with_reducible apply a_neqS); rfl; rfl)
        | ((with_reducible apply a_eqlB); rfl; rfl)
        | ((with_reducible apply a_neqB); rfl; rfl)
        | ((with_reducible apply w_add); rfl; rfl; first | assumption | (unfold inI; omega))
        | ((with_reducible apply w_sub); rfl; rfl; first | assumption | (unfold inI; omega))
        | ((with_reducible apply a_not); rfl)
        | ((with_reducible apply w_pick_t); rfl)
        | ((with_reducible apply w_pick_f); rfl)
        | ((with_reducible apply a_cond1); rfl; first | rfl | assumption)
        | ((with_reducible apply a_cond0); rfl; first | rfl | assumption)
        | ((with_reducible apply a_guard1); rfl; first | rfl | assumption)
        | ((with_reducible apply a_guard0); rfl; first | rfl | assumption)
        | ((with_reducible apply w_guard_u); rfl)
        | ((with_reducible apply a_pick1); rfl; first | rfl | assumption)
        | ((with_reducible apply a_pick0); rfl; first | rfl | assumption)
        | ((with_reducible apply a_pickN); rfl)
        | ((with_reducible apply a_condN); rfl)
        | ((with_reducible apply a_guardN); rfl)
        | ((with_reducible apply w_fad); rfl)
        | ((with_reducible apply a_fadI); rfl)
        | ((with_reducible apply w_load); rfl; rfl; rfl)
        | ((with_reducible apply w_loadI); rfl)
        | ((with_reducible apply w_loadA); rfl; rfl; first | exact Nat.le_refl _ | exact Nat.le_of_ble_eq_true rfl)
        | ((with_reducible apply a_eqA); rfl; rfl; rfl)
        | ((with_reducible apply a_loadAI); rfl; first | rfl | simp)
        | ((with_reducible apply w_new); first | rfl | simp)
        | ((with_reducible apply a_store); rfl; rfl; rfl; rfl; (first | exact Nat.le_refl _ | simp); (first | rfl | simp); (first | rfl | simp))
        | ((with_reducible apply a_lenS); rfl; intro _)
        | ((with_reducible apply a_len); rfl; (first | rfl | simp); intro _)
        | ((with_reducible apply a_build); rfl)
        | ((with_reducible apply a_extr); rfl; rfl)
        | (refine iCall_con (by kernel_rfl) (hal) ?_)
        | (refine a_idxQ (n := 0) rfl rfl (by omega) ?_)
        | (refine a_idxQ (n := 1) rfl rfl (by omega) ?_)
        | (refine a_idxQ (n := 2) rfl rfl (by omega) ?_)
        | ((with_reducible apply a_cond); rfl)
        | ((with_reducible apply a_guard); rfl)
        | (with_reducible intro _))
      all_goals first
        | exact .pure (by simp) rfl
        | (exfalso; grind [addW, w0])
        | (exfalso; grind)
    · have hR := con_rCheck l (by omega)
      rw [c1] at hR
      have hI := con_rCheck (insideL 14 l 1 false) (by rw [zXs_inside]; omega)
      repeat' (first
        | (with_reducible apply w_let)
        | (with_reducible apply w_and)
        | (with_reducible refine And.intro True.intro ?_)
        | ((with_reducible apply a_lss); rfl; rfl)
        | ((with_reducible apply a_leq); rfl; rfl)
        | ((with_reducible apply a_gtr); rfl; rfl)
        | ((with_reducible apply a_geq); rfl; rfl)
        | ((with_reducible apply a_eql); rfl; rfl)
        | ((with_reducible apply a_neq); rfl; rfl)
        | ((with_reducible apply a_eqlS); rfl; rfl)
        | ((with_reducible apply a_neqS); rfl; rfl)
        | ((with_reducible apply a_eqlB); rfl; rfl)
        | ((with_reducible apply a_neqB); rfl; rfl)
        | ((with_reducible apply w_add); rfl; rfl; first | assumption | (unfold inI; omega))
        | ((with_reducible apply w_sub); rfl; rfl; first | assumption | (unfold inI; omega))
        | ((with_reducible apply a_not); rfl)
        | ((with_reducible apply w_pick_t); rfl)
        | ((with_reducible apply w_pick_f); rfl)
        | ((with_reducible apply a_cond1); rfl; first | rfl | assumption)
        | ((with_reducible apply a_cond0); rfl; first | rfl | assumption)
        | ((with_reducible apply a_guard1); rfl; first | rfl | assumption)
        | ((with_reducible apply a_guard0); rfl; first | rfl | assumption)
        | ((with_reducible apply w_guard_u); rfl)
        | ((with_reducible apply a_pick1); rfl; first | rfl | assumption)
        | ((with_reducible apply a_pick0); rfl; first | rfl | assumption)
        | ((with_reducible apply a_pickN); rfl)
        | ((with_reducible apply a_condN); rfl)
        | ((with_reducible apply a_guardN); rfl)
        | ((with_reducible apply w_fad); rfl)
        | ((with_reducible apply a_fadI); rfl)
        | ((with_reducible apply w_load); rfl; rfl; rfl)
        | ((with_reducible apply w_loadI); rfl)
        | ((with_reducible apply w_loadA); rfl; rfl; first | exact Nat.le_refl _ | exact Nat.le_of_ble_eq_true rfl)
        | ((with_reducible apply a_eqA); rfl; rfl; rfl)
        | ((with_reducible apply a_loadAI); rfl; first | rfl | simp)
        | ((with_reducible apply w_new); first | rfl | simp)
        | ((with_reducible apply a_store); rfl; rfl; rfl; rfl; (first | exact Nat.le_refl _ | simp); (first | rfl | simp); (first | rfl | simp))
        | ((with_reducible apply a_lenS); rfl; intro _)
        | ((with_reducible apply a_len); rfl; (first | rfl | simp); intro _)
        | ((with_reducible apply a_build); rfl)
        | ((with_reducible apply a_extr); rfl; rfl)
        | (refine iCall_con (by kernel_rfl) (con_Great l (by omega)) ?_)
        | (refine iCall_con (by kernel_rfl) (hR) ?_)
        | (refine iCall_con (by kernel_rfl) (hI) ?_)
        | (refine iCall_con (by kernel_rfl) (hal) ?_)
        | (refine iCall_con (by kernel_rfl) (con_inside 14 1 l (by omega)) ?_)
        | ((with_reducible apply a_cond); rfl)
        | ((with_reducible apply a_guard); rfl)
        | (with_reducible intro _))
      all_goals first
        | exact .pure (by simp) rfl
        | (exfalso; grind)
  · have hR := con_rCheck l (by omega)
    repeat' (first
      | (with_reducible apply w_let)
      | (with_reducible apply w_and)
      | (with_reducible refine And.intro True.intro ?_)
      | ((with_reducible apply a_lss); rfl; rfl)
      | ((with_reducible apply a_leq); rfl; rfl)
      | ((with_reducible apply a_gtr); rfl; rfl)
      | ((with_reducible apply a_geq); rfl; rfl)
      | ((with_reducible apply a_eql); rfl; rfl)
      | ((with_reducible apply a_neq); rfl; rfl)
      | ((with_reducible apply a_eqlS); rfl; rfl)
      | ((with_reducible apply a_neqS); rfl; rfl)
      | ((with_reducible apply a_eqlB); rfl; rfl)
      | ((with_reducible apply a_neqB); rfl; rfl)
      | ((with_reducible apply w_add); rfl; rfl; first | assumption | (unfold inI; omega))
      | ((with_reducible apply w_sub); rfl; rfl; first | assumption | (unfold inI; omega))
      | ((with_reducible apply a_not); rfl)
      | ((with_reducible apply w_pick_t); rfl)
      | ((with_reducible apply w_pick_f); rfl)
      | ((with_reducible apply a_cond1); rfl; first | rfl | assumption)
      | ((with_reducible apply a_cond0); rfl; first | rfl | assumption)
      | ((with_reducible apply a_guard1); rfl; first | rfl | assumption)
      | ((with_reducible apply a_guard0); rfl; first | rfl | assumption)
      | ((with_reducible apply w_guard_u); rfl)
      | ((with_reducible apply a_pick1); rfl; first | rfl | assumption)
      | ((with_reducible apply a_pick0); rfl; first | rfl | assumption)
      | ((with_reducible apply a_pickN); rfl)
      | ((with_reducible apply a_condN); rfl)
      | ((with_reducible apply a_guardN); rfl)
      | ((with_reducible apply w_fad); rfl)
      | ((with_reducible apply a_fadI); rfl)
      | ((with_reducible apply w_load); rfl; rfl; rfl)
      | ((with_reducible apply w_loadI); rfl)
      | ((with_reducible apply w_loadA); rfl; rfl; first | exact Nat.le_refl _ | exact Nat.le_of_ble_eq_true rfl)
      | ((with_reducible apply a_eqA); rfl; rfl; rfl)
      | ((with_reducible apply a_loadAI); rfl; first | rfl | simp)
      | ((with_reducible apply w_new); first | rfl | simp)
      | ((with_reducible apply a_store); rfl; rfl; rfl; rfl; (first | exact Nat.le_refl _ | simp); (first | rfl | simp); (first | rfl | simp))
      | ((with_reducible apply a_lenS); rfl; intro _)
      | ((with_reducible apply a_len); rfl; (first | rfl | simp); intro _)
      | ((with_reducible apply a_build); rfl)
      | ((with_reducible apply a_extr); rfl; rfl)
      | (refine iCall_con (by kernel_rfl) (con_Great l (by omega)) ?_)
      | (refine iCall_con (by kernel_rfl) (hR) ?_)
      | (refine iCall_con (by kernel_rfl) (hal) ?_)
      | ((with_reducible apply a_cond); rfl)
      | ((with_reducible apply a_guard); rfl)
      | (with_reducible intro _))
    all_goals first
      | exact .pure (by simp) rfl
      | (exfalso; grind)
end Go.Proofs.YtpggiljgcckmoaaGreatDoor
end
