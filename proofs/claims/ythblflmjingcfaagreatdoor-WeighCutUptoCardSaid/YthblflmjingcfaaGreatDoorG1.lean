/-
  What selectors weigh: plain definitions and laws. What selectors weigh: the code's sums and the greatest. What a selector weighs: the code. The weights of a list, one by one: the code. Weights of lists put together, of selectors cut in two, of simple selectors in another order: plain laws. Selectors cut in two, simple selectors in another order, and more of them: what is valid, and what it weighs.
  No conditions.
-/
import Derived.Test.YthblflmjingcfaaGreatDoorWOrdC
import Derived.Test.YthblflmjingcfaaGreatDoorR2
import Derived.Test.YthblflmjingcfaaGreatDoorWWei
set_option linter.unusedVariables false
set_option linter.unusedSimpArgs false
section
namespace Go.Proofs.YthblflmjingcfaaGreatDoor
open Go Go.Aw Go.Sel
def w0 : Wt3 := (0, 0, 0)
def tagW (t : Str) : Wt3 := if t = [] ∨ t = [42] then w0 else (0, 0, 1)
def kindW (k : Int) : Wt3 := if k = 11 ∨ k = 13 ∨ k = 14 then w0 else (0, 1, 0)
def maxW (m w : Wt3) : Wt3 := if 0 < ordW w m then w else m
mutual
def wX : Cx → Wt3
  | .mk _ ps _ => wPs ps
def wPs : List Cp → Wt3
  | [] => w0
  | p :: l => addW (wP p) (wPs l)
def wP : Cp → Wt3
  | .mk t ss => addW (tagW t) (wSs ss)
def wSs : List Sm → Wt3
  | [] => w0
  | s :: l => addW (wS s) (wSs l)
def wS : Sm → Wt3
  | .mk k _ _ _ _ _ _ _ l => if k = 12 then w0 else if k = 1 then (1, 0, 0) else addW (kindW k) (wXs l)
def wXs : List Cx → Wt3
  | [] => w0
  | x :: l => wM (wX x) l
def wM (m : Wt3) : List Cx → Wt3
  | [] => m
  | x :: l => wM (maxW m (wX x)) l
end
theorem wM_fold : ∀ (l : List Cx) (m : Wt3), wM m l = (l.map wX).foldl maxW m
  | [], m => by simp [wM]
  | x :: l, m => by rw [wM, wM_fold l]; rfl
theorem addW_assoc (a b c : Wt3) : addW (addW a b) c = addW a (addW b c) := by
  simp only [addW, Prod.mk.injEq]; omega
theorem addW_zero (a : Wt3) : addW a w0 = a := by
  obtain ⟨x, y, z⟩ := a
  simp [addW, w0]
theorem zero_addW (a : Wt3) : addW w0 a = a := by
  obtain ⟨x, y, z⟩ := a
  simp [addW, w0]
theorem addW_comm (a b : Wt3) : addW a b = addW b a := by
  simp only [addW, Prod.mk.injEq]; omega
theorem wPs_append : ∀ a b : List Cp, wPs (a ++ b) = addW (wPs a) (wPs b)
  | [], b => by rw [List.nil_append, wPs, zero_addW]
  | x :: a, b => by rw [List.cons_append, wPs, wPs, wPs_append a b, addW_assoc]
theorem wSs_append : ∀ a b : List Sm, wSs (a ++ b) = addW (wSs a) (wSs b)
  | [], b => by rw [List.nil_append, wSs, zero_addW]
  | x :: a, b => by rw [List.cons_append, wSs, wSs, wSs_append a b, addW_assoc]
theorem wPs_take {l : List Cp} {k : Nat} {x : Cp} (h : l[k]? = some x) : wPs (l.take (k + 1)) = addW (wPs (l.take k)) (wP x) := by
  rw [List.take_add_one, h, wPs_append]
  simp [wPs, addW_zero]
theorem wSs_take {l : List Sm} {k : Nat} {x : Sm} (h : l[k]? = some x) : wSs (l.take (k + 1)) = addW (wSs (l.take k)) (wS x) := by
  rw [List.take_add_one, h, wSs_append]
  simp [wSs, addW_zero]
/-- Between nothing and a number. -/
def bdW (n : Nat) (w : Wt3) : Prop := (0 ≤ w.1 ∧ w.1 ≤ n) ∧ (0 ≤ w.2.1 ∧ w.2.1 ≤ n) ∧ (0 ≤ w.2.2 ∧ w.2.2 ≤ n)
theorem bdW.add {m n k : Nat} {a b : Wt3} (ha : bdW m a) (hb : bdW n b) (hk : m + n ≤ k) : bdW k (addW a b) := by
  unfold bdW addW at *; simp only; omega
theorem bdW.mono {m n : Nat} {a : Wt3} (ha : bdW m a) (h : m ≤ n) : bdW n a := by
  unfold bdW at *; omega
theorem bdW_zero (n : Nat) : bdW n w0 := by unfold bdW w0; simp
theorem bdW_tag (t : Str) : bdW 1 (tagW t) := by unfold tagW; split <;> simp [bdW, w0]
theorem bdW_kind (k : Int) : bdW 1 (kindW k) := by unfold kindW; split <;> simp [bdW, w0]
mutual
theorem wX_bd : ∀ x, bdW (zX x) (wX x)
  | .mk _ ps cs => by rw [wX, zX]; exact (wPs_bd ps).mono (by omega)
theorem wPs_bd : ∀ l, bdW (zPs l) (wPs l)
  | [] => by rw [wPs, zPs]; exact bdW_zero _
  | x :: l => by rw [wPs, zPs]; exact (wP_bd x).add (wPs_bd l) (Nat.le_refl _)
theorem wP_bd : ∀ x, bdW (zP x) (wP x)
  | .mk t ss => by rw [wP, zP]; exact (bdW_tag t).add (wSs_bd ss) (by omega)
theorem wSs_bd : ∀ l, bdW (zSs l) (wSs l)
  | [] => by rw [wSs, zSs]; exact bdW_zero _
  | x :: l => by rw [wSs, zSs]; exact (wS_bd x).add (wSs_bd l) (Nat.le_refl _)
theorem wS_bd : ∀ x, bdW (zS x) (wS x)
  | .mk k na _ v _ _ _ _ l => by
    rw [wS, zS]
    split
    · exact bdW_zero _
    · split
      · unfold bdW; simp; omega
      · exact (bdW_kind k).add (wXs_bd l) (by omega)
theorem wXs_bd : ∀ l, bdW (zXs l) (wXs l)
  | [] => by rw [wXs, zXs]; exact bdW_zero _
  | x :: l => by rw [wXs, zXs]; exact wM_bd (zX x + zXs l) (wX x) l ((wX_bd x).mono (by omega)) (by omega)
theorem wM_bd (n : Nat) (m : Wt3) : ∀ l, bdW n m → zXs l ≤ n → bdW n (wM m l)
  | [], h, _ => by rw [wM]; exact h
  | x :: l, h, hz => by
    rw [zXs] at hz
    rw [wM]
    have hx := (wX_bd x).mono (n := n) (by omega)
    refine wM_bd n _ l ?_ (by omega)
    unfold maxW
    split
    · exact hx
    · exact h
end
end Go.Proofs.YthblflmjingcfaaGreatDoor
end

section
namespace Go.Proofs.YthblflmjingcfaaGreatDoor
open Go Go.Aw Go.Sel
set_option maxRecDepth 100000
variable [Laid]
/-- weigh.add behind two blocks and ahead of two. -/
theorem con_add5 (a b : Wt3) (hin : inW (addW a b)) (B0 B1 B3 B4 : Blk) (p0 : PureL B0.cells) (p1 : PureL B1.cells) (p3 : PureL B3.cells) (p4 : PureL B4.cells) {K : AV → Heap → Prop} (k : K (.tup []) [.blk B0, .blk B1, .blk ⟨44, [int (a.1 + b.1), int (a.2.1 + b.2.1), int (a.2.2 + b.2.2)], true⟩, .blk B3, .blk B4]) :
    iCall Tryz.prog (.fn (.func 30) [] []) [.op 2 0, w3 b] [.blk B0, .blk B1, .blk ⟨44, [int a.1, int a.2.1, int a.2.2], true⟩, .blk B3, .blk B4] K := by
  refine ⟨by kernel_rfl, ?_⟩
  simp only [List.nil_append, List.append_nil]
  refine (V30 _ _).acall ?_
  unfold W30
  obtain ⟨h0, h1, h2⟩ := hin
  simp only [addW] at h0 h1 h2
  simp [w3]
  refine iLoop_of (α := Nat) (fun k => k ≤ 3) (fun k => [int k]) (fun k => [.blk B0, .blk B1, .blk ⟨44, [int (if 0 < k then a.1 + b.1 else a.1), int (if 1 < k then a.2.1 + b.2.1 else a.2.1), int (if 2 < k then a.2.2 + b.2.2 else a.2.2)], true⟩, .blk B3, .blk B4, .blk ⟨44, [int b.1, int b.2.1, int b.2.2], true⟩]) (fun k => 3 - k) 0 (by simp) (Wk.refl _ _ _ (by simp)) ?_
  rintro j hk
  obtain rfl | rfl | rfl | rfl : j = 0 ∨ j = 1 ∨ j = 2 ∨ j = 3 := by omega
  all_goals simp
  · exact ⟨h0, by simp [inI], 1, by omega, Wk.refl _ _ _ (by simp), by omega⟩
  · exact ⟨h1, by simp [inI], 2, by omega, Wk.refl _ _ _ (by simp), by omega⟩
  · exact ⟨h2, by simp [inI], 3, by omega, Wk.refl _ _ _ (by simp), by omega⟩
  · exact ⟨_, _, Wk.back (n := 5) (M := 5) (by simp) (by simp) rfl rfl (by simp [entB]; exact ⟨BdL_pure _ _ p0, BdL_pure _ _ p1, BdL_pure _ _ (by simp), BdL_pure _ _ p3, BdL_pure _ _ p4⟩) (by simp [Bd, BdL]), k⟩
def w3c (w : Wt3) : List AV := [int w.1, int w.2.1, int w.2.2]
omit [Laid] in
theorem w3c_pure : ∀ l : List Wt3, PureR (l.map w3c)
  | [] => by simp [PureR]
  | w :: l => by simp [PureR, PureL, w3c, Aw.Pure, w3c_pure l]
/-- The first of the greatest. -/
theorem con_maxFunc (w : Wt3) (ws : List Wt3) : Con Tryz.prog 48 [.sl 3 ((w :: ws).map w3c), .fn (.func 49) [] []] (w3 (ws.foldl maxW w)) := by
  refine (V48 _ _).gives (by simp [PureL, PureR, w3c, Aw.Pure, w3c_pure ws]) (by simp) ?_
  unfold W48
  refine w_new (by simp) ?_
  refine w_let ?_
  refine a_len (n := ws.length + 1) rfl (by simp) fun hm => ?_
  refine a_lss rfl rfl ?_
  refine a_cond0 rfl (by simp; omega) ?_
  refine w_and ?_
  refine a_idx (l := w :: ws) rfl rfl (n := 0) rfl (a := w) rfl ?_
  refine a_loadAI rfl (by simp [w3c]) ?_
  refine w_new (by simp) ?_
  refine a_store (cs := w3c w) rfl rfl rfl rfl (by simp [w3c]) (by simp [w3c]) (by simp [w3c]) ?_
  refine iLoop_of (α := Nat) (fun k => 1 ≤ k ∧ k ≤ ws.length + 1) (fun k => [int k]) (fun k => [.blk ⟨44, [int 0, int 0, int 0], true⟩, .blk ⟨44, w3c ((ws.take (k - 1)).foldl maxW w), true⟩]) (fun k => ws.length + 1 - k) 1 (by simp) (Wk.refl _ _ _ (by simp)) ?_
  rintro k ⟨hk1, hk⟩
  refine a_len (n := ws.length + 1) rfl (by simp) fun hm => ?_
  refine a_lss rfl rfl ?_
  rcases Nat.lt_or_ge k (ws.length + 1) with q | q
  · obtain ⟨v, hv⟩ : ∃ v, ws[k - 1]? = some v := ⟨ws[k - 1], List.getElem?_eq_getElem (by omega)⟩
    have hx : (w :: ws)[k]? = some v := by
      obtain ⟨j, rfl⟩ : ∃ j, k = j + 1 := ⟨k - 1, by omega⟩
      simpa using hv
    have nxt : (ws.take (k + 1 - 1)).foldl maxW w = maxW ((ws.take (k - 1)).foldl maxW w) v := by
      rw [show k + 1 - 1 = k - 1 + 1 by omega, List.take_add_one, hv, List.foldl_append]; rfl
    have hin : inI ((k : Int) + 1) := by unfold maxLen at hm; unfold inI; omega
    refine a_cond1 rfl (by simp; omega) ?_
    refine w_let ?_
    refine a_idx rfl rfl rfl hx ?_
    refine a_loadAI rfl (by simp [w3c]) ?_
    refine w_loadA rfl rfl (by simp [w3c]) ?_
    refine w_callQ (by simp [w3c, w3]) (by kernel_rfl) (con_compare v ((ws.take (k - 1)).foldl maxW w)) ?_
    refine a_gtr rfl rfl ?_
    refine a_cond rfl (fun hc => ?_) (fun hc => ?_)
    · refine a_idx rfl rfl rfl hx ?_
      refine a_loadAI rfl (by simp [w3c]) ?_
      refine a_store (cs := w3c v) rfl rfl rfl rfl (by simp [w3c]) (by simp [w3c]) (by simp [w3c]) ?_
      refine w_and ?_
      refine w_add rfl rfl hin ?_
      refine w_and ?_
      refine ⟨k + 1, by omega, ?_, by omega⟩
      rw [nxt, maxW, if_pos (by simpa using hc)]
      exact Wk.refl _ _ _ (by simp)
    · refine w_and ?_
      refine w_add rfl rfl hin ?_
      refine w_and ?_
      refine ⟨k + 1, by omega, ?_, by omega⟩
      rw [nxt, maxW, if_neg (by simpa using hc)]
      exact Wk.refl _ _ _ (by simp)
  · obtain rfl : k = ws.length + 1 := by omega
    refine a_cond0 rfl (by simp) ?_
    refine w_loadA rfl rfl (by simp [w3c]) ?_
    refine a_store (cs := w3c (ws.foldl maxW w)) rfl rfl rfl (by simp [w3c]) (by simp [w3c]) (by simp [w3c]) (by simp [w3c]) ?_
    refine w_loadA rfl rfl (by simp [w3c]) ?_
    exact .pure (by simp [w3c]) (by simp [w3c, w3])
def WgX (n : Nat) : Prop := ∀ x : Cx, zX x ≤ n → Con Tryz.prog 45 [.agg (encX x)] (w3 (wX x))
def WgM (n : Nat) : Prop := ∀ l : List Cx, zXs l ≤ n → Con Tryz.prog 31 [.sl 3 (encXs l)] (w3 (wXs l))
theorem con_each {n : Nat} (hn : n < 2 ^ 40) (hX : WgX n) (l : List Cx) (hz : zXs l ≤ n) : Con Tryz.prog 28 [.sl 3 (encXs l)] (.sl 3 ((l.map wX).map w3c)) := by
  refine (V28 _).gives (by simp [pureXs]) (by rw [Aw.Pure]; exact w3c_pure _) ?_
  unfold W28
  have hlen : (encXs l).length = l.length := by simp [encXs_map]
  have hxl := zXs_len l
  refine a_len (n := l.length) rfl hlen fun _ => ?_
  refine iLoop_of (α := Nat) (fun k => k ≤ l.length) (fun k => [.sb 0 3 (((l.take k).map wX).map w3c), int k]) (fun k => [.tok 44 3 k]) (fun k => l.length - k) 0 (by simp) ?_ ?_
  · have a := Wk.nil (n := 0) (s := [.v (.slice none 0 0), int 0]) (h := []) (by simp) 0 rfl
    have b := Wk.tok (n := 0) (s := [.emp, int 0]) (h := []) (by simp) 0 44 3 rfl
    exact a.trans b
  · intro k hk
    refine a_lss rfl rfl ?_
    rcases Nat.lt_or_ge k l.length with q | q
    · obtain ⟨x, hx⟩ : ∃ s, l[k]? = some s := ⟨l[k], List.getElem?_eq_getElem q⟩
      have hin : inI ((k : Int) + 1) := by unfold inI; omega
      have hzs : zX x ≤ n := by have := zXs_mem (List.mem_of_getElem? hx); omega
      have nxt : ((l.take (k + 1)).map wX).map w3c = ((l.take k).map wX).map w3c ++ [w3c (wX x)] := by
        rw [List.take_add_one, hx]; simp
      have hlk : (((l.take k).map wX).map w3c).length = k := by simp; omega
      have e : List.take k (List.map (w3c ∘ wX) l) ++ [[int (wX x).1, int (wX x).2.1, int (wX x).2.2]] = List.take (k + 1) (List.map (w3c ∘ wX) l) := by
        rw [List.take_add_one, List.getElem?_map, hx]; rfl
      have pr : PureR (List.take (k + 1) (List.map (w3c ∘ wX) l)) := by
        have := w3c_pure ((l.take (k + 1)).map wX)
        simpa using this
      have hr : roomA 24 (k + 1) := by unfold roomA maxLen; omega
      refine a_cond1 rfl (by simpa using q) ?_
      refine a_idx rfl (encXs_map l) rfl hx ?_
      refine a_loadAI rfl (by simp [encX_eq]) ?_
      refine w_new (by simp) ?_
      refine a_store (cs := encX x) rfl rfl rfl rfl (by simp [encX_eq]) (by simp [encX_eq]) (by simp [encX_eq]) ?_
      have hset : setAll (vcells (.agg [(u8 0), (.v (.slice none 0 0)), (.v (.slice none 0 0))])) 0 (encX x) = encX x := by rw [encX_eq]; rfl
      rw [hset]
      refine w_loadA rfl rfl (by simp [encX_eq]) ?_
      refine w_call (by simp [encX_eq]) (by kernel_rfl) (hX x hzs) ?_
      simp [w3, chunks, hr, hin, hlk]
      refine ⟨by omega, k + 1, q, ?_, by omega⟩
      rw [e]
      exact Wk.back (n := 0) (M := 1) (by simp) (by simp) rfl rfl (by simp [entB]) (by
        have hb := Bd_pure 1 (.sl 3 (List.take (k + 1) (List.map (w3c ∘ wX) l))) (by rw [Aw.Pure]; exact pr)
        rw [Bd] at hb
        simp [Bd, hb])
    · obtain rfl : k = l.length := by omega
      refine a_cond0 rfl (by simp) ?_
      refine Gives.of ?_
      have pr : PureR (List.map (w3c ∘ wX) l) := by
        have := w3c_pure (l.map wX)
        simpa using this
      simp [tl, tlA]
      rw [tlR_pure _ _ _ _ pr]
theorem wgM_step {n : Nat} (hn : n < 2 ^ 40) (hX : WgX n) : WgM n := by
  intro l hz
  refine (V31 _).gives (by simp [pureXs]) (by simp) ?_
  unfold W31
  have hlen : (encXs l).length = l.length := by simp [encXs_map]
  refine w_new (by simp) ?_
  refine a_len (n := l.length) rfl hlen fun _ => ?_
  refine a_eql rfl rfl ?_
  cases l with
  | nil =>
    refine a_cond1 rfl (by simp) ?_
    refine a_build rfl ?_
    refine a_store (cs := [int 0, int 0, int 0]) rfl rfl rfl rfl (by simp) (by simp) (by simp) ?_
    refine w_loadA rfl rfl (by simp) ?_
    exact .pure (by simp) (by rw [wXs]; rfl)
  | cons x l =>
    refine a_cond0 rfl (by simp; omega) ?_
    refine w_call rfl (by kernel_rfl) (con_each hn hX (x :: l) hz) ?_
    refine w_call rfl (by kernel_rfl) (con_maxFunc (wX x) (l.map wX)) ?_
    refine a_store (cs := w3c ((l.map wX).foldl maxW (wX x))) rfl rfl rfl (by simp [w3c, w3]) (by simp [w3c]) (by simp [w3c]) (by simp [w3c]) ?_
    refine w_loadA rfl rfl (by simp [w3c]) ?_
    exact .pure (by simp [w3c]) (by rw [wXs, wM_fold]; simp [w3c, w3])
end Go.Proofs.YthblflmjingcfaaGreatDoor
end

section
namespace Go.Sel
open Go Go.Aw
theorem zPs_take_le (l : List Cp) (k : Nat) : zPs (l.take k) ≤ zPs l := by
  induction l generalizing k with
  | nil => simp
  | cons y l ih => cases k with
    | zero => simp [zPs]
    | succ k => rw [List.take_succ_cons, zPs, zPs]; have := ih k; omega
theorem zSs_take_le (l : List Sm) (k : Nat) : zSs (l.take k) ≤ zSs l := by
  induction l generalizing k with
  | nil => simp
  | cons y l ih => cases k with
    | zero => simp [zSs]
    | succ k => rw [List.take_succ_cons, zSs, zSs]; have := ih k; omega
end Go.Sel
namespace Go.Proofs.YthblflmjingcfaaGreatDoor
open Go Go.Aw Go.Sel
set_option maxRecDepth 100000
theorem a_idxQ {len sz id o : Nat} {x i : AV} {K : AV → Prop} {n : Nat} (ex : x = .op id o) (ei : i = int n) (hn : n < len) (q : K (.op id (o + n * sz))) : iIdxQ len sz x i K := by
  subst ex; subst ei
  exact ⟨⟨by omega, by omega⟩, by simpa using q⟩
variable [Laid]
set_option maxHeartbeats 8000000 in
theorem wgX_step {n : Nat} (hn : n < 2 ^ 40) (hM : WgM n) : WgX (n + 1) := by
  rintro ⟨l, ps, cs⟩ hz
  rw [zX] at hz
  refine (V45 _).gives (by simp [pureX]) (by simp) ?_
  unfold W45
  rw [encX, wX]
  have hlen : (encPs ps).length = ps.length := by simp [encPs_map]
  have hpl := zPs_len ps
  refine w_new (by simp) ?_
  refine w_new (by simp) ?_
  refine w_new (by simp) ?_
  refine w_fad rfl ?_
  refine w_load rfl rfl rfl ?_
  refine a_len (n := ps.length) rfl hlen fun _ => ?_
  refine iLoop_of (α := Nat) (fun k => k ≤ ps.length) (fun k => [int k]) (fun k => [.blk ⟨42, [u1 l, .sl 2 (encPs ps), .sl 1 (cs.map fun c => [u1 c])], true⟩, .blk ⟨44, [int 0, int 0, int 0], true⟩, .blk ⟨44, w3c (wPs (ps.take k)), true⟩]) (fun k => ps.length - k) 0 (by simp) (by simpa [wPs, w0, w3c] using Wk.refl _ _ _ (by simp)) ?_
  intro k hk
  refine a_lss rfl rfl ?_
  rcases Nat.lt_or_ge k ps.length with q | q
  · obtain ⟨⟨t, ss⟩, hx⟩ : ∃ x, ps[k]? = some x := ⟨ps[k], List.getElem?_eq_getElem q⟩
    have hin : inI ((k : Int) + 1) := by unfold inI; omega
    have hzp := zPs_mem (List.mem_of_getElem? hx)
    rw [zP] at hzp
    have nxt := wPs_take hx
    rw [wP] at nxt
    have hslen : (encSs ss).length = ss.length := by simp [encSs_map]
    have hsl := zSs_len ss
    have bP := (wPs_bd (ps.take k)).mono (n := 2 ^ 40) (by have := zPs_take_le ps k; omega)
    refine a_cond1 rfl (by simpa using q) ?_
    refine a_idx rfl (encPs_map ps) rfl hx ?_
    refine a_loadAI rfl (by simp [encP_eq]) ?_
    refine w_new rfl ?_
    rw [encP]
    refine a_store (cs := [.str t, .sl 9 (encSs ss)]) rfl rfl rfl rfl (Nat.le_refl _) rfl rfl ?_
    have hi2 : inI ((wPs (ps.take k)).2.2 + 1) := by unfold bdW at bP; unfold inI; omega
    repeat' (first | (with_reducible first | apply w_let | apply w_and | refine And.intro True.intro ?_) | ((with_reducible first | apply a_lss | apply a_leq | apply a_gtr | apply a_geq | apply a_eql | apply a_neq); rfl; rfl) | ((with_reducible first | apply a_eqlS | apply a_neqS | apply a_eqlB | apply a_neqB); rfl; rfl) | ((with_reducible apply w_add); rfl; rfl; first | assumption | (unfold inI; omega)) | ((with_reducible apply w_sub); rfl; rfl; first | assumption | (unfold inI; omega)) | ((with_reducible apply a_not); rfl) | ((with_reducible apply w_pick_t); rfl) | ((with_reducible apply w_pick_f); rfl) | ((with_reducible apply a_cond1); rfl; first | rfl | assumption) | ((with_reducible apply a_cond0); rfl; first | rfl | assumption) | ((with_reducible apply a_guard1); rfl; first | rfl | assumption) | ((with_reducible apply a_guard0); rfl; first | rfl | assumption) | ((with_reducible apply w_guard_u); rfl) | ((with_reducible apply a_pick1); rfl; first | rfl | assumption) | ((with_reducible apply a_pick0); rfl; first | rfl | assumption) | ((with_reducible apply a_pickN); rfl) | ((with_reducible apply a_condN); rfl) | ((with_reducible apply a_guardN); rfl) | ((with_reducible apply w_fad); rfl) | ((with_reducible apply a_fadI); rfl) | ((with_reducible apply w_load); rfl; rfl; rfl) | ((with_reducible apply w_loadI); rfl) | ((with_reducible apply w_loadA); rfl; rfl; first | exact Nat.le_refl _ | exact Nat.le_of_ble_eq_true rfl) | ((with_reducible apply a_eqA); rfl; rfl; rfl) | ((with_reducible apply a_loadAI); rfl; first | rfl | simp) | ((with_reducible apply w_new); first | rfl | simp) | ((with_reducible apply a_store); rfl; rfl; rfl; rfl; (first | exact Nat.le_refl _ | simp); (first | rfl | simp); (first | rfl | simp)) | ((with_reducible apply a_lenS); rfl; intro _) | ((with_reducible apply a_len); rfl; (first | rfl | simp); intro _) | ((with_reducible apply a_build); rfl) | ((with_reducible apply a_extr); rfl; rfl) | (refine a_idxQ (n := 2) rfl rfl (by omega) ?_) | ((with_reducible apply a_store); rfl; rfl; rfl; rfl; (simp [w3c]); rfl; rfl) | ((with_reducible apply a_cond); rfl) | ((with_reducible apply a_guard); rfl) | (with_reducible intro _))
    all_goals
      obtain ⟨A, hA⟩ : ∃ A, addW (wPs (ps.take k)) (tagW t) = A := ⟨_, rfl⟩
      have bA : bdW (2 ^ 41) A := by rw [← hA]; exact bP.add (bdW_tag t) (by omega)
      rw [← addW_assoc, hA] at nxt
      refine iLoop_of (α := Nat) (fun j => j ≤ ss.length) (fun j => [int j]) (fun j => [.blk ⟨42, [u1 l, .sl 2 (encPs ps), .sl 1 (cs.map fun c => [u1 c])], true⟩, .blk ⟨44, [int 0, int 0, int 0], true⟩, .blk ⟨44, w3c (addW A (wSs (ss.take j))), true⟩, .blk ⟨49, [.str t, .sl 9 (encSs ss)], true⟩]) (fun j => ss.length - j) 0 (by simp) (Wk.back (M := 4) (by simp) (by simp) (by
        rw [← hA, List.take_zero, wSs, addW_zero]
        unfold tagW
        first
          | (rw [if_pos (by grind)]; simp [setAll, w3c, addW, w0]; done)
          | (rw [if_neg (by grind)]; simp [setAll, w3c, addW, w0]; done)) rfl (by simp [entB]; exact ⟨BdL_pure _ _ (by simp [purePs, pureC]), BdL_pure _ _ (by simp), BdL_pure _ _ (by simp [w3c]), BdL_pure _ _ (by simp [pureSs])⟩) (by simp [Bd])) ?_
      intro j hj
      obtain ⟨W, hW⟩ : ∃ W, addW A (wSs (ss.take j)) = W := ⟨_, rfl⟩
      rw [hW]
      have bW : bdW (2 ^ 42) W := by rw [← hW]; exact bA.add ((wSs_bd (ss.take j)).mono (n := 2 ^ 40) (by have := zSs_take_le ss j; omega)) (by omega)
      refine a_lss rfl rfl ?_
      rcases Nat.lt_or_ge j ss.length with q3 | q3
      · obtain ⟨⟨kd, na, o, v, f, a, b, w, l2⟩, hs⟩ : ∃ x, ss[j]? = some x := ⟨ss[j], List.getElem?_eq_getElem q3⟩
        have hin3 : inI ((j : Int) + 1) := by unfold inI; omega
        have hzs := zSs_mem (List.mem_of_getElem? hs)
        rw [zS] at hzs
        have nxs : addW A (wSs (ss.take (j + 1))) = addW W (wS (.mk kd na o v f a b w l2)) := by rw [wSs_take hs, ← addW_assoc, hW]
        have bL := (wXs_bd l2).mono (n := 2 ^ 40) (by omega)
        have hi0 : inI (W.1 + 1) := by unfold bdW at bW; unfold inI; omega
        have hi1 : inI (W.2.1 + 1) := by unfold bdW at bW; unfold inI; omega
        have hwA : inW (addW W (wXs l2)) := by unfold bdW at bW bL; unfold inW addW inI; simp only; omega
        have hwB : inW (addW (W.1, W.2.1 + 1, W.2.2) (wXs l2)) := by unfold bdW at bW bL; unfold inW addW inI; simp only; omega
        have hmost := hM l2 (by omega)
        refine a_cond1 rfl (by rw [decide_eq_true_eq]; omega) ?_
        refine w_let ?_
        refine a_idx rfl (encSs_map ss) rfl hs ?_
        refine a_loadAI rfl (by simp [encS_eq]) ?_
        refine w_new rfl ?_
        rw [encS]
        refine a_store (cs := [u1 kd, .str na, u1 o, .str v, bool f, int a, int b, bool w, .sl 3 (encXs l2)]) rfl rfl rfl rfl (Nat.le_refl _) rfl rfl ?_
        rcases (by omega : kd = 12 ∨ kd = 1 ∨ kd = 11 ∨ kd = 13 ∨ kd = 14 ∨ (kd ≠ 12 ∧ kd ≠ 1 ∧ kd ≠ 11 ∧ kd ≠ 13 ∧ kd ≠ 14)) with rfl | rfl | rfl | rfl | rfl | ⟨f12, f1, f11, f13, f14⟩
        · rw [wS, if_pos rfl, addW_zero] at nxs
          repeat' (first | (with_reducible first | apply w_let | apply w_and | refine And.intro True.intro ?_) | ((with_reducible first | apply a_lss | apply a_leq | apply a_gtr | apply a_geq | apply a_eql | apply a_neq); rfl; rfl) | ((with_reducible first | apply a_eqlS | apply a_neqS | apply a_eqlB | apply a_neqB); rfl; rfl) | ((with_reducible apply w_add); rfl; rfl; first | assumption | (unfold inI; omega)) | ((with_reducible apply w_sub); rfl; rfl; first | assumption | (unfold inI; omega)) | ((with_reducible apply a_not); rfl) | ((with_reducible apply w_pick_t); rfl) | ((with_reducible apply w_pick_f); rfl) | ((with_reducible apply a_cond1); rfl; first | rfl | assumption) | ((with_reducible apply a_cond0); rfl; first | rfl | assumption) | ((with_reducible apply a_guard1); rfl; first | rfl | assumption) | ((with_reducible apply a_guard0); rfl; first | rfl | assumption) | ((with_reducible apply w_guard_u); rfl) | ((with_reducible apply a_pick1); rfl; first | rfl | assumption) | ((with_reducible apply a_pick0); rfl; first | rfl | assumption) | ((with_reducible apply a_pickN); rfl) | ((with_reducible apply a_condN); rfl) | ((with_reducible apply a_guardN); rfl) | ((with_reducible apply w_fad); rfl) | ((with_reducible apply a_fadI); rfl) | ((with_reducible apply w_load); rfl; rfl; rfl) | ((with_reducible apply w_loadI); rfl) | ((with_reducible apply w_loadA); rfl; rfl; first | exact Nat.le_refl _ | exact Nat.le_of_ble_eq_true rfl) | ((with_reducible apply a_eqA); rfl; rfl; rfl) | ((with_reducible apply a_loadAI); rfl; first | rfl | simp) | ((with_reducible apply w_new); first | rfl | simp) | ((with_reducible apply a_store); rfl; rfl; rfl; rfl; (first | exact Nat.le_refl _ | simp); (first | rfl | simp); (first | rfl | simp)) | ((with_reducible apply a_lenS); rfl; intro _) | ((with_reducible apply a_len); rfl; (first | rfl | simp); intro _) | ((with_reducible apply a_build); rfl) | ((with_reducible apply a_extr); rfl; rfl) | ((with_reducible apply a_cond); rfl) | ((with_reducible apply a_guard); rfl) | (with_reducible intro _))
          exact ⟨j + 1, q3, Wk.back (M := 4) (by simp) (by simp) (by rw [nxs]; rfl) rfl (by simp [entB]; exact ⟨BdL_pure _ _ (by simp [purePs, pureC]), BdL_pure _ _ (by simp), BdL_pure _ _ (by simp [w3c]), BdL_pure _ _ (by simp [pureSs])⟩) (by simp [Bd]), by omega⟩
        · rw [wS, if_neg (by omega), if_pos rfl] at nxs
          repeat' (first | (with_reducible first | apply w_let | apply w_and | refine And.intro True.intro ?_) | ((with_reducible first | apply a_lss | apply a_leq | apply a_gtr | apply a_geq | apply a_eql | apply a_neq); rfl; rfl) | ((with_reducible first | apply a_eqlS | apply a_neqS | apply a_eqlB | apply a_neqB); rfl; rfl) | ((with_reducible apply w_add); rfl; rfl; first | assumption | (unfold inI; omega)) | ((with_reducible apply w_sub); rfl; rfl; first | assumption | (unfold inI; omega)) | ((with_reducible apply a_not); rfl) | ((with_reducible apply w_pick_t); rfl) | ((with_reducible apply w_pick_f); rfl) | ((with_reducible apply a_cond1); rfl; first | rfl | assumption) | ((with_reducible apply a_cond0); rfl; first | rfl | assumption) | ((with_reducible apply a_guard1); rfl; first | rfl | assumption) | ((with_reducible apply a_guard0); rfl; first | rfl | assumption) | ((with_reducible apply w_guard_u); rfl) | ((with_reducible apply a_pick1); rfl; first | rfl | assumption) | ((with_reducible apply a_pick0); rfl; first | rfl | assumption) | ((with_reducible apply a_pickN); rfl) | ((with_reducible apply a_condN); rfl) | ((with_reducible apply a_guardN); rfl) | ((with_reducible apply w_fad); rfl) | ((with_reducible apply a_fadI); rfl) | ((with_reducible apply w_load); rfl; rfl; rfl) | ((with_reducible apply w_loadI); rfl) | ((with_reducible apply w_loadA); rfl; rfl; first | exact Nat.le_refl _ | exact Nat.le_of_ble_eq_true rfl) | ((with_reducible apply a_eqA); rfl; rfl; rfl) | ((with_reducible apply a_loadAI); rfl; first | rfl | simp) | ((with_reducible apply w_new); first | rfl | simp) | ((with_reducible apply a_store); rfl; rfl; rfl; rfl; (first | exact Nat.le_refl _ | simp); (first | rfl | simp); (first | rfl | simp)) | ((with_reducible apply a_lenS); rfl; intro _) | ((with_reducible apply a_len); rfl; (first | rfl | simp); intro _) | ((with_reducible apply a_build); rfl) | ((with_reducible apply a_extr); rfl; rfl) | (refine a_idxQ (n := 0) rfl rfl (by omega) ?_) | ((with_reducible apply a_store); rfl; rfl; rfl; rfl; (simp [w3c]); rfl; rfl) | ((with_reducible apply a_cond); rfl) | ((with_reducible apply a_guard); rfl) | (with_reducible intro _))
          exact ⟨j + 1, q3, Wk.back (M := 4) (by simp) (by simp) (by rw [nxs]; simp [w3c, addW, setAll]) rfl (by simp [entB]; exact ⟨BdL_pure _ _ (by simp [purePs, pureC]), BdL_pure _ _ (by simp), BdL_pure _ _ (by simp [w3c]), BdL_pure _ _ (by simp [pureSs])⟩) (by simp [Bd]), by omega⟩
        iterate 3
          · rw [wS, if_neg (by omega), if_neg (by omega), kindW, if_pos (by omega), zero_addW] at nxs
            repeat' (first | (with_reducible first | apply w_let | apply w_and | refine And.intro True.intro ?_) | ((with_reducible first | apply a_lss | apply a_leq | apply a_gtr | apply a_geq | apply a_eql | apply a_neq); rfl; rfl) | ((with_reducible first | apply a_eqlS | apply a_neqS | apply a_eqlB | apply a_neqB); rfl; rfl) | ((with_reducible apply w_add); rfl; rfl; first | assumption | (unfold inI; omega)) | ((with_reducible apply w_sub); rfl; rfl; first | assumption | (unfold inI; omega)) | ((with_reducible apply a_not); rfl) | ((with_reducible apply w_pick_t); rfl) | ((with_reducible apply w_pick_f); rfl) | ((with_reducible apply a_cond1); rfl; first | rfl | assumption) | ((with_reducible apply a_cond0); rfl; first | rfl | assumption) | ((with_reducible apply a_guard1); rfl; first | rfl | assumption) | ((with_reducible apply a_guard0); rfl; first | rfl | assumption) | ((with_reducible apply w_guard_u); rfl) | ((with_reducible apply a_pick1); rfl; first | rfl | assumption) | ((with_reducible apply a_pick0); rfl; first | rfl | assumption) | ((with_reducible apply a_pickN); rfl) | ((with_reducible apply a_condN); rfl) | ((with_reducible apply a_guardN); rfl) | ((with_reducible apply w_fad); rfl) | ((with_reducible apply a_fadI); rfl) | ((with_reducible apply w_load); rfl; rfl; rfl) | ((with_reducible apply w_loadI); rfl) | ((with_reducible apply w_loadA); rfl; rfl; first | exact Nat.le_refl _ | exact Nat.le_of_ble_eq_true rfl) | ((with_reducible apply a_eqA); rfl; rfl; rfl) | ((with_reducible apply a_loadAI); rfl; first | rfl | simp) | ((with_reducible apply w_new); first | rfl | simp) | ((with_reducible apply a_store); rfl; rfl; rfl; rfl; (first | exact Nat.le_refl _ | simp); (first | rfl | simp); (first | rfl | simp)) | ((with_reducible apply a_lenS); rfl; intro _) | ((with_reducible apply a_len); rfl; (first | rfl | simp); intro _) | ((with_reducible apply a_build); rfl) | ((with_reducible apply a_extr); rfl; rfl) | (refine iCall_con (by kernel_rfl) (hmost) ?_) | (refine con_add5 W _ hwA _ _ _ _ (by simp [purePs, pureC]) (by simp) (by simp [pureSs]) (by simp [setAll, pureXs]) ?_) | ((with_reducible apply a_cond); rfl) | ((with_reducible apply a_guard); rfl) | (with_reducible intro _))
            exact ⟨j + 1, q3, Wk.back (M := 4) (by simp) (by simp) (by rw [nxs]; simp [w3c, addW]) rfl (by simp [entB]; exact ⟨BdL_pure _ _ (by simp [purePs, pureC]), BdL_pure _ _ (by simp), BdL_pure _ _ (by simp [w3c]), BdL_pure _ _ (by simp [pureSs])⟩) (by simp [Bd]), by omega⟩
        · rw [wS, if_neg f12, if_neg f1, kindW, if_neg (by omega), ← addW_assoc] at nxs
          have g12 : decide (kd = 12) = false := by simpa using f12
          have g1 : decide (kd = 1) = false := by simpa using f1
          have g11 : decide (kd = 11) = false := by simpa using f11
          have g13 : decide (kd = 13) = false := by simpa using f13
          have g14 : decide (kd = 14) = false := by simpa using f14
          repeat' (first | (with_reducible first | apply w_let | apply w_and | refine And.intro True.intro ?_) | ((with_reducible first | apply a_lss | apply a_leq | apply a_gtr | apply a_geq | apply a_eql | apply a_neq); rfl; rfl) | ((with_reducible first | apply a_eqlS | apply a_neqS | apply a_eqlB | apply a_neqB); rfl; rfl) | ((with_reducible apply w_add); rfl; rfl; first | assumption | (unfold inI; omega)) | ((with_reducible apply w_sub); rfl; rfl; first | assumption | (unfold inI; omega)) | ((with_reducible apply a_not); rfl) | ((with_reducible apply w_pick_t); rfl) | ((with_reducible apply w_pick_f); rfl) | ((with_reducible apply a_cond1); rfl; first | rfl | assumption) | ((with_reducible apply a_cond0); rfl; first | rfl | assumption) | ((with_reducible apply a_guard1); rfl; first | rfl | assumption) | ((with_reducible apply a_guard0); rfl; first | rfl | assumption) | ((with_reducible apply w_guard_u); rfl) | ((with_reducible apply a_pick1); rfl; first | rfl | assumption) | ((with_reducible apply a_pick0); rfl; first | rfl | assumption) | ((with_reducible apply a_pickN); rfl) | ((with_reducible apply a_condN); rfl) | ((with_reducible apply a_guardN); rfl) | ((with_reducible apply w_fad); rfl) | ((with_reducible apply a_fadI); rfl) | ((with_reducible apply w_load); rfl; rfl; rfl) | ((with_reducible apply w_loadI); rfl) | ((with_reducible apply w_loadA); rfl; rfl; first | exact Nat.le_refl _ | exact Nat.le_of_ble_eq_true rfl) | ((with_reducible apply a_eqA); rfl; rfl; rfl) | ((with_reducible apply a_loadAI); rfl; first | rfl | simp) | ((with_reducible apply w_new); first | rfl | simp) | ((with_reducible apply a_store); rfl; rfl; rfl; rfl; (first | exact Nat.le_refl _ | simp); (first | rfl | simp); (first | rfl | simp)) | ((with_reducible apply a_lenS); rfl; intro _) | ((with_reducible apply a_len); rfl; (first | rfl | simp); intro _) | ((with_reducible apply a_build); rfl) | ((with_reducible apply a_extr); rfl; rfl) | (refine iCall_con (by kernel_rfl) (hmost) ?_) | (refine a_idxQ (n := 1) rfl rfl (by omega) ?_) | ((with_reducible apply a_store); rfl; rfl; rfl; rfl; (simp [w3c]); rfl; rfl) | (refine con_add5 (W.1, W.2.1 + 1, W.2.2) _ hwB _ _ _ _ (by simp [purePs, pureC]) (by simp) (by simp [pureSs]) (by simp [setAll, pureXs]) ?_) | ((with_reducible apply a_cond); rfl) | ((with_reducible apply a_guard); rfl) | (with_reducible intro _))
          exact ⟨j + 1, q3, Wk.back (M := 4) (by simp) (by simp) (by rw [nxs]; simp [w3c, addW]) rfl (by simp [entB]; exact ⟨BdL_pure _ _ (by simp [purePs, pureC]), BdL_pure _ _ (by simp), BdL_pure _ _ (by simp [w3c]), BdL_pure _ _ (by simp [pureSs])⟩) (by simp [Bd]), by omega⟩
      · have hj : j = ss.length := by omega
        subst hj
        rw [List.take_length] at hW
        rw [hW] at nxt
        refine a_cond0 rfl (by simp [hslen]) ?_
        refine w_add rfl rfl hin ?_
        refine w_and ?_
        exact ⟨k + 1, q, Wk.back (M := 3) (by simp) (by simp) (by rw [nxt]; rfl) rfl (by simp [entB]; exact ⟨BdL_pure _ _ (by simp [purePs, pureC]), BdL_pure _ _ (by simp), BdL_pure _ _ (by simp [w3c])⟩) (by simp [Bd]), by omega⟩
  · have hk : k = ps.length := by omega
    subst hk
    rw [List.take_length]
    refine a_cond0 rfl (by simp) ?_
    refine w_loadA rfl rfl (by simp [w3c]) ?_
    refine a_store (cs := w3c (wPs ps)) rfl rfl rfl (by simp [w3c]) (by simp [w3c]) (by simp [w3c]) (by simp [w3c]) ?_
    refine w_loadA rfl rfl (by simp [w3c]) ?_
    exact .pure (by simp [w3c]) (by simp [w3c, w3])
theorem wg_all : ∀ n, n < 2 ^ 40 → WgX n ∧ WgM n
  | 0, hn => by
    have h : WgX 0 := fun x hz => by have := zX_pos x; omega
    exact ⟨h, wgM_step hn h⟩
  | n + 1, hn => by
    have h := wgX_step (by omega) (wg_all n (by omega)).2
    exact ⟨h, wgM_step hn h⟩
theorem con_most (l : List Cx) (hz : zXs l < 2 ^ 40) : Con Tryz.prog 31 [.sl 3 (encXs l)] (w3 (wXs l)) :=
  (wg_all (zXs l) hz).2 l (Nat.le_refl _)
def mostV (l : List Cx) : Wt3 := if checkL l = 0 then wXs l else w0
theorem con_Most (l : List Cx) (hz : zXs l < 2 ^ 40) : Con Tryz.prog 16 [.sl 3 (encXs l)] (.tup [w3 (mostV l), int (checkL l)]) := by
  refine (V16 _).gives (by simp [pureXs]) (by simp) ?_
  unfold W16
  refine w_new (by simp) ?_
  refine w_call rfl (by kernel_rfl) (con_Check l (by omega)) ?_
  refine a_neq rfl rfl ?_
  by_cases hc : checkL l = 0
  · refine a_cond0 rfl (by simp [hc]) ?_
    refine w_call rfl (by kernel_rfl) (con_most l hz) ?_
    refine a_store (cs := w3c (wXs l)) rfl rfl rfl (by simp [w3c, w3]) (by simp [w3c]) (by simp [w3c]) (by simp [w3c]) ?_
    refine w_loadA rfl rfl (by simp [w3c]) ?_
    exact .pure (by simp [w3c]) (by simp [w3c, w3, mostV, hc])
  · refine a_cond1 rfl (by simp [hc]) ?_
    refine a_build rfl ?_
    refine a_store (cs := [int 0, int 0, int 0]) rfl rfl rfl rfl (by simp) (by simp) (by simp) ?_
    refine w_loadA rfl rfl (by simp) ?_
    exact .pure (by simp) (by simp [w3, mostV, hc, w0])
end Go.Proofs.YthblflmjingcfaaGreatDoor
end

section
namespace Go.Proofs.YthblflmjingcfaaGreatDoor
open Go Go.Aw Go.Sel
set_option maxRecDepth 100000
variable [Laid]
def eachV (l : List Cx) : AV := if checkL l = 0 then .sl 3 ((l.map wX).map w3c) else .v (.slice none 0 0)
omit [Laid] in
theorem eachV_pure (l : List Cx) : Aw.Pure (eachV l) := by
  unfold eachV
  split
  · rw [Aw.Pure]; exact w3c_pure _
  · simp
theorem con_Each (l : List Cx) (hz : zXs l < 2 ^ 40) : Con Tryz.prog 14 [.sl 3 (encXs l)] (.tup [eachV l, int (checkL l)]) := by
  refine (V14 _).gives (by simp [pureXs]) (by simp [eachV_pure]) ?_
  unfold W14
  refine w_call rfl (by kernel_rfl) (con_Check l (by omega)) ?_
  refine a_neq rfl rfl ?_
  by_cases hc : checkL l = 0
  · refine a_cond0 rfl (by simp [hc]) ?_
    refine w_call rfl (by kernel_rfl) (con_each hz (wg_all (zXs l) hz).1 l (Nat.le_refl _)) ?_
    exact .pure (by have p := w3c_pure (l.map wX); simp at p ⊢; exact p) (by simp [eachV, hc])
  · refine a_cond1 rfl (by simp [hc]) ?_
    exact .pure (by simp) (by simp [eachV, hc])
end Go.Proofs.YthblflmjingcfaaGreatDoor
end

section
namespace Go.Proofs.YthblflmjingcfaaGreatDoor
open Go Go.Aw Go.Sel
theorem ordW_eq {a b : Wt3} (h : ordW a b = 0) : a = b := by
  obtain ⟨x, y, z⟩ := a
  obtain ⟨u, v, w⟩ := b
  simp only [ordW, cmpI] at h
  simp only [Prod.mk.injEq]
  grind
theorem ordW_self (a : Wt3) : ordW a a = 0 := by simp [ordW, cmpI]
theorem ordW_anti (a b : Wt3) : ordW a b = - ordW b a := by
  simp only [ordW, cmpI]
  grind
theorem ordW_le (a b : Wt3) : ordW a b ≤ 0 ↔ a.1 < b.1 ∨ a.1 = b.1 ∧ (a.2.1 < b.2.1 ∨ a.2.1 = b.2.1 ∧ a.2.2 ≤ b.2.2) := by
  obtain ⟨x, y, z⟩ := a
  obtain ⟨u, v, w⟩ := b
  simp only [ordW, cmpI]
  rcases Int.lt_trichotomy x u with h | h | h
  · simp [h]
  · rcases Int.lt_trichotomy y v with h2 | h2 | h2
    · simp [h, h2]
    · rcases Int.lt_trichotomy z w with h3 | h3 | h3
      · simp [h, h2, h3]; omega
      · simp [h, h2, h3]
      · simp [h, h2, h3]; omega
    · simp [h, h2]; omega
  · simp [h]; omega
theorem ordW_trans {a b c : Wt3} (h1 : ordW a b ≤ 0) (h2 : ordW b c ≤ 0) : ordW a c ≤ 0 := by
  rw [ordW_le] at *
  omega
/-- More in each kind is not less. -/
theorem ordW_add {a b : Wt3} (hb : 0 ≤ b.1 ∧ 0 ≤ b.2.1 ∧ 0 ≤ b.2.2) : ordW a (addW a b) ≤ 0 := by
  rw [ordW_le, addW]
  simp only
  omega
theorem maxW_le {m w t : Wt3} (h1 : ordW m t ≤ 0) (h2 : ordW w t ≤ 0) : ordW (maxW m w) t ≤ 0 := by
  unfold maxW; split <;> assumption
theorem le_maxW1 (m w : Wt3) : ordW m (maxW m w) ≤ 0 := by
  have := ordW_anti m w
  unfold maxW; split
  · omega
  · rw [ordW_self]; omega
theorem le_maxW2 (m w : Wt3) : ordW w (maxW m w) ≤ 0 := by
  unfold maxW; split
  · rw [ordW_self]; omega
  · omega
/-- The greatest is one of them, and none is greater. -/
theorem wM_le (t : Wt3) : ∀ (l : List Cx) (m : Wt3), ordW m t ≤ 0 → (∀ x ∈ l, ordW (wX x) t ≤ 0) → ordW (wM m l) t ≤ 0
  | [], m, h, _ => by rw [wM]; exact h
  | x :: l, m, h, hx => by
    rw [wM]
    exact wM_le t l _ (maxW_le h (hx x (by simp))) (fun y hy => hx y (by simp [hy]))
theorem le_wM : ∀ (l : List Cx) (m : Wt3), ordW m (wM m l) ≤ 0 ∧ ∀ x ∈ l, ordW (wX x) (wM m l) ≤ 0
  | [], m => by rw [wM, ordW_self]; simp
  | x :: l, m => by
    obtain ⟨h1, h2⟩ := le_wM l (maxW m (wX x))
    rw [wM]
    refine ⟨ordW_trans (le_maxW1 _ _) h1, fun y hy => ?_⟩
    rcases List.mem_cons.1 hy with rfl | hy
    · exact ordW_trans (le_maxW2 _ _) h1
    · exact h2 y hy
theorem le_wXs {l : List Cx} {x : Cx} (h : x ∈ l) : ordW (wX x) (wXs l) ≤ 0 := by
  cases l with
  | nil => cases h
  | cons y l =>
    rw [wXs]
    rcases List.mem_cons.1 h with rfl | h
    · exact (le_wM l _).1
    · exact (le_wM l _).2 x h
theorem wXs_le {l : List Cx} {t : Wt3} (hn : l ≠ []) (h : ∀ x ∈ l, ordW (wX x) t ≤ 0) : ordW (wXs l) t ≤ 0 := by
  cases l with
  | nil => exact absurd rfl hn
  | cons y l =>
    rw [wXs]
    exact wM_le t l _ (h y (by simp)) (fun x hx => h x (by simp [hx]))
/-- The greatest, begun with nothing. -/
theorem wM_zero (l : List Cx) : wM w0 l = wXs l := by
  cases l with
  | nil => rw [wM, wXs]
  | cons x l =>
    rw [wM, wXs]
    congr 1
    unfold maxW
    split
    · rfl
    · rename_i q
      have h := wX_bd x
      have h2 : ordW w0 (wX x) ≤ 0 := by
        have := ordW_add (a := w0) (b := wX x) ⟨h.1.1, h.2.1.1, h.2.2.1⟩
        rwa [zero_addW] at this
      have h3 := ordW_anti w0 (wX x)
      exact ordW_eq (by omega)
/-- The greatest of two lists together is the greater one. -/
theorem wXs_append {l m : List Cx} (hl : l ≠ []) (hm : m ≠ []) : wXs (l ++ m) = if 0 ≤ ordW (wXs l) (wXs m) then wXs l else wXs m := by
  have ha : ∀ t, ordW (wXs l) t ≤ 0 → ordW (wXs m) t ≤ 0 → ordW (wXs (l ++ m)) t ≤ 0 := fun t h1 h2 =>
    wXs_le (by simp [hl]) (fun x hx => by
      rcases List.mem_append.1 hx with hx | hx
      · exact ordW_trans (le_wXs hx) h1
      · exact ordW_trans (le_wXs hx) h2)
  have hb : ordW (wXs l) (wXs (l ++ m)) ≤ 0 := wXs_le hl fun x hx => le_wXs (List.mem_append.2 (.inl hx))
  have hc : ordW (wXs m) (wXs (l ++ m)) ≤ 0 := wXs_le hm fun x hx => le_wXs (List.mem_append.2 (.inr hx))
  have hs := ordW_self
  split
  · rename_i q
    have h1 := ha (wXs l) (by rw [hs]; omega) (by have := ordW_anti (wXs l) (wXs m); omega)
    have := ordW_anti (wXs l) (wXs (l ++ m))
    exact ordW_eq (by omega)
  · rename_i q
    have h1 := ha (wXs m) (by omega) (by rw [hs]; omega)
    have := ordW_anti (wXs m) (wXs (l ++ m))
    exact ordW_eq (by omega)
/-- Cut behind some compound. -/
theorem wX_cut (l a b : Int) (ps : List Cp) (cs ds es : List Int) (k : Nat) : wX (.mk l ps cs) = addW (wX (.mk a (ps.take k) ds)) (wX (.mk b (ps.drop k) es)) := by
  rw [wX, wX, wX, ← wPs_append, List.take_append_drop]
theorem wSs_reverse : ∀ l : List Sm, wSs l.reverse = wSs l
  | [] => rfl
  | s :: l => by
    rw [List.reverse_cons, wSs_append, wSs_reverse l, wSs, wSs, wSs, addW_zero, addW_comm]
theorem nSs_append : ∀ a b : List Sm, nSs (a ++ b) = nSs a + nSs b
  | [], b => by simp [nSs]
  | x :: a, b => by rw [List.cons_append, nSs, nSs, nSs_append a b]; omega
theorem nSs_reverse : ∀ l : List Sm, nSs l.reverse = nSs l
  | [] => rfl
  | s :: l => by rw [List.reverse_cons, nSs_append, nSs_reverse l, nSs, nSs, nSs]; omega
theorem nPs_append : ∀ a b : List Cp, nPs (a ++ b) = nPs a + nPs b
  | [], b => by simp [nPs]
  | x :: a, b => by rw [List.cons_append, nPs, nPs, nPs_append a b]; omega
theorem zSs_append : ∀ a b : List Sm, zSs (a ++ b) = zSs a + zSs b
  | [], b => by simp [zSs]
  | x :: a, b => by rw [List.cons_append, zSs, zSs, zSs_append a b]; omega
theorem zPs_append : ∀ a b : List Cp, zPs (a ++ b) = zPs a + zPs b
  | [], b => by simp [zPs]
  | x :: a, b => by rw [List.cons_append, zPs, zPs, zPs_append a b]; omega
theorem zXs_append : ∀ a b : List Cx, zXs (a ++ b) = zXs a + zXs b
  | [], b => by simp [zXs]
  | x :: a, b => by rw [List.cons_append, zXs, zXs, zXs_append a b]; omega
theorem nXs_append : ∀ a b : List Cx, nXs (a ++ b) = nXs a + nXs b
  | [], b => by simp [nXs]
  | x :: a, b => by rw [List.cons_append, nXs, nXs, nXs_append a b]; omega
theorem zSs_reverse : ∀ l : List Sm, zSs l.reverse = zSs l
  | [] => rfl
  | s :: l => by rw [List.reverse_cons, zSs_append, zSs_reverse l, zSs, zSs, zSs]; omega
theorem checkL_zero {l : List Cx} (h : checkL l = 0) : l ≠ [] ∧ okXs 0 false false l = true ∧ number l ≤ 64 := by
  unfold checkL at h
  split at h
  · rename_i q
    split at h
    · rename_i q2
      simp only [Bool.and_eq_true] at q
      refine ⟨?_, q.2, q2⟩
      rintro rfl
      simp at q
    · omega
  · omega
theorem checkL_of {l : List Cx} (h1 : l ≠ []) (h2 : okXs 0 false false l = true) (h3 : number l ≤ 64) : checkL l = 0 := by
  unfold checkL
  rw [if_pos (by rw [h2]; cases l <;> simp at *), if_pos h3]
end Go.Proofs.YthblflmjingcfaaGreatDoor
end

section
namespace Go.Sel
open Go Go.Aw
theorem all_take {α : Type} {p : α → Bool} {l : List α} (k : Nat) (h : l.all p = true) : (l.take k).all p = true := by
  rw [List.all_eq_true] at *
  exact fun x hx => h x (List.mem_of_mem_take hx)
theorem all_drop {α : Type} {p : α → Bool} {l : List α} (k : Nat) (h : l.all p = true) : (l.drop k).all p = true := by
  rw [List.all_eq_true] at *
  exact fun x hx => h x (List.mem_of_mem_drop hx)
def firstX (ps : List Cp) (cs : List Int) (k : Nat) : Cx := .mk 0 (ps.take k) (cs.take (k - 1))
def restX (ps : List Cp) (cs : List Int) (k : Nat) : Cx := .mk 0 (ps.drop k) (cs.drop k)
theorem okX_parts {d : Nat} {has rel : Bool} {l : Int} {ps : List Cp} {cs : List Int} (h : okX d has rel (.mk l ps cs) = true) : (rel == !decide (l = 0)) = true ∧ l ≤ 4 ∧ cs.length + 1 = ps.length ∧ ps.length ≤ 64 ∧ cs.all (fun c => decide (1 ≤ c ∧ c ≤ 4)) = true ∧ ps.all (okP d has) = true := by
  rw [okX, okPs_all] at h
  simp only [Bool.and_eq_true, decide_eq_true_eq] at h
  obtain ⟨⟨⟨⟨⟨a1, a2⟩, a3⟩, a4⟩, a5⟩, a6⟩ := h
  exact ⟨a1, a2, a3, a4, a5, a6⟩
theorem okX_of {d : Nat} {has rel : Bool} {l : Int} {ps : List Cp} {cs : List Int} (a1 : (rel == !decide (l = 0)) = true) (a2 : l ≤ 4) (a3 : cs.length + 1 = ps.length) (a4 : ps.length ≤ 64) (a5 : cs.all (fun c => decide (1 ≤ c ∧ c ≤ 4)) = true) (a6 : ps.all (okP d has) = true) : okX d has rel (.mk l ps cs) = true := by
  rw [okX, okPs_all, a1, a5, a6]
  simp [a2, a3, a4]
theorem okX_first {d : Nat} {has : Bool} {l : Int} {ps : List Cp} {cs : List Int} {k : Nat} (h : okX d has false (.mk l ps cs) = true) (h1 : 1 ≤ k) (h2 : k < ps.length) : okX d has false (firstX ps cs k) = true := by
  obtain ⟨_, _, a3, a4, a5, a6⟩ := okX_parts h
  exact okX_of (by simp) (by omega) (by rw [List.length_take, List.length_take]; omega) (by rw [List.length_take]; omega) (all_take _ a5) (all_take _ a6)
theorem okX_rest {d : Nat} {has : Bool} {l : Int} {ps : List Cp} {cs : List Int} {k : Nat} (h : okX d has false (.mk l ps cs) = true) (h1 : 1 ≤ k) (h2 : k < ps.length) : okX d has false (restX ps cs k) = true := by
  obtain ⟨_, _, a3, a4, a5, a6⟩ := okX_parts h
  exact okX_of (by simp) (by omega) (by rw [List.length_drop, List.length_drop]; omega) (by rw [List.length_drop]; omega) (all_drop _ a5) (all_drop _ a6)
theorem okP_reverse {d : Nat} {has : Bool} {t : Str} {ss : List Sm} (h : okP d has (.mk t ss) = true) : okP d has (.mk t ss.reverse) = true := by
  rw [okP, okSs_all] at *
  simpa using h
end Go.Sel
namespace Go.Proofs.YthblflmjingcfaaGreatDoor
open Go Go.Aw Go.Sel
/-- Both parts of the first selector that is cut: valid. -/
theorem check_cut {le : Int} {ps : List Cp} {cs : List Int} {t : List Cx} {k : Nat} (h : checkL (.mk le ps cs :: t) = 0) (hn : number (.mk le ps cs :: t) ≤ 63) (h1 : 1 ≤ k) (h2 : k < ps.length) : checkL [firstX ps cs k, restX ps cs k] = 0 := by
  obtain ⟨_, ho, _⟩ := checkL_zero h
  rw [okXs, Bool.and_eq_true] at ho
  have a := okX_first ho.1 h1 h2
  have b := okX_rest ho.1 h1 h2
  refine checkL_of (by simp) (by rw [okXs, okXs, okXs, a, b]; rfl) ?_
  have hp : nPs ps = nPs (ps.take k) + nPs (ps.drop k) := by rw [← nPs_append, List.take_append_drop]
  unfold number at *
  rw [nXs, nX] at hn
  rw [nXs, nXs, nXs, firstX, restX, nX, nX]
  simp only [List.length_cons, List.length_nil] at *
  omega
theorem wX_cut2 (le : Int) (ps : List Cp) (cs : List Int) (k : Nat) : wX (.mk le ps cs) = addW (wX (firstX ps cs k)) (wX (restX ps cs k)) := wX_cut _ _ _ _ _ _ _ _
/-- The first compound's simple selectors the other way round. -/
def turnX (t : Str) (ss : List Sm) (ps : List Cp) (cs : List Int) : Cx := .mk 0 (.mk t ss.reverse :: ps) cs
theorem wX_turn (le : Int) (t : Str) (ss : List Sm) (ps : List Cp) (cs : List Int) : wX (turnX t ss ps cs) = wX (.mk le (.mk t ss :: ps) cs) := by
  rw [turnX, wX, wX, wPs, wPs, wP, wP, wSs_reverse]
theorem check_turn {le : Int} {t : Str} {ss : List Sm} {ps : List Cp} {cs : List Int} {l : List Cx} (h : checkL (.mk le (.mk t ss :: ps) cs :: l) = 0) : checkL [turnX t ss ps cs] = 0 := by
  obtain ⟨_, ho, hn⟩ := checkL_zero h
  rw [okXs, Bool.and_eq_true] at ho
  obtain ⟨_, _, a3, a4, a5, a6⟩ := okX_parts ho.1
  rw [List.all_cons, Bool.and_eq_true] at a6
  have : okX 0 false false (turnX t ss ps cs) = true := okX_of (by simp) (by omega) a3 a4 a5 (by rw [List.all_cons, okP_reverse a6.1, a6.2]; rfl)
  refine checkL_of (by simp) (by rw [okXs, okXs, this]; rfl) ?_
  unfold number at *
  rw [nXs, nX, nPs, nP] at hn
  rw [nXs, nXs, turnX, nX, nPs, nP, nSs_reverse]
  simp only [List.length_cons, List.length_nil] at *
  omega
/-- Some simple selectors more in the first compound. -/
def moreX (le : Int) (t : Str) (ss ss' : List Sm) (ps : List Cp) (cs : List Int) : Cx := .mk le (.mk t (ss ++ ss') :: ps) cs
theorem wX_more (le : Int) (t : Str) (ss ss' : List Sm) (ps : List Cp) (cs : List Int) : wX (moreX le t ss ss' ps cs) = addW (wX (.mk le (.mk t ss :: ps) cs)) (wSs ss') := by
  rw [moreX, wX, wX, wPs, wPs, wP, wP, wSs_append, ← addW_assoc, addW_assoc, addW_comm (wSs ss'), ← addW_assoc]
theorem more_le (le : Int) (t : Str) (ss ss' : List Sm) (ps : List Cp) (cs : List Int) : ordW (wX (.mk le (.mk t ss :: ps) cs)) (wX (moreX le t ss ss' ps cs)) ≤ 0 := by
  rw [wX_more]
  have := wSs_bd ss'
  unfold bdW at this
  exact ordW_add ⟨this.1.1, this.2.1.1, this.2.2.1⟩
end Go.Proofs.YthblflmjingcfaaGreatDoor
end
