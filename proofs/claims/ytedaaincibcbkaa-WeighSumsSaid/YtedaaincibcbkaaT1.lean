/-
  Weights compared and added: what the functions hand back.
  No conditions: contracts.
-/
import Derived.Test.YtedaaincibcbkaaView
import Derived.Test.YtedaaincibcbkaaVc1
namespace Go.Proofs.Ytedaaincibcbkaa
open Go Go.Aw
abbrev W3 := Int × Int × Int
def w3 (a : W3) : AV := .agg [int a.1, int a.2.1, int a.2.2]
@[simp] theorem w3_pure (a : W3) : Pure (w3 a) := by simp [w3]
@[simp] theorem w3_flat (a : W3) : Flat (w3 a) := by simp [w3]
def inW (a : W3) : Prop := inI a.1 ∧ inI a.2.1 ∧ inI a.2.2
def addW (a b : W3) : W3 := (a.1 + b.1, a.2.1 + b.2.1, a.2.2 + b.2.2)
theorem add_con (a b : W3) (h : inW (addW a b)) : Con Try.prog 20 [w3 a, w3 b] (w3 (addW a b)) := by
  obtain ⟨h0, h1, h2⟩ := h
  simp only [addW] at h0 h1 h2
  refine con20 (by simp) (by simp) ?_
  rw [v20]
  simp [w3, h0, h1, h2, bq20_ret, addW]

def okI (n : Int) : Bool := decide (0 ≤ n ∧ n ≤ 4000)
def okW (a : W3) : Bool := okI a.1 && okI a.2.1 && okI a.2.2

theorem valid_con (a : W3) : Con Try.prog 17 [w3 a] (bool (okW a)) := by
  refine con17 (by simp) (by simp) ?_
  rw [v17]
  simp [w3]
  refine AW_loop (α := Nat) (fun k => k ≤ 3 ∧ (0 < k → okI a.1 = true) ∧ (1 < k → okI a.2.1 = true) ∧ (2 < k → okI a.2.2 = true)) (fun k => ⟨fr17_1 (.op 0 0) (int k) .any .any .any .any, [some ⟨23, [int a.1, int a.2.1, int a.2.2], true⟩]⟩) (fun k => 3 - k) 0 (by simp) (Weak.fr (by simp [fr17_1, weakL])) ?_
  rintro k ⟨hk, h0, h1, h2⟩
  refine sound_ivc _ _ _ ?_
  simp only [fr17_1]
  rw [v17_1]
  simp only [okI, decide_eq_true_eq] at h0 h1 h2
  obtain rfl | rfl | rfl | rfl : k = 0 ∨ k = 1 ∨ k = 2 ∨ k = 3 := by omega
  · simp [v17_3, v17_4, q17_0, q17_1, q17_2, q17_3, bq17_ret]
    refine ⟨fun p => ⟨fun q => by simp [okW, okI]; omega, fun q => ⟨by simp [inI], 1, ⟨by omega, by simp [okI]; omega, by omega, by omega⟩, Weak.fr (by simp [weakL]), by omega⟩⟩, fun p => by simp [okW, okI]; omega⟩
  · simp [v17_3, v17_4, q17_0, q17_1, q17_2, q17_3, bq17_ret]
    refine ⟨fun p => ⟨fun q => by simp [okW, okI]; omega, fun q => ⟨by simp [inI], 2, ⟨by omega, by simp [okI]; omega, by simp [okI]; omega, by omega⟩, Weak.fr (by simp [weakL]), by omega⟩⟩, fun p => by simp [okW, okI]; omega⟩
  · simp [v17_3, v17_4, q17_0, q17_1, q17_2, q17_3, bq17_ret]
    refine ⟨fun p => ⟨fun q => by simp [okW, okI]; omega, fun q => ⟨by simp [inI], 3, ⟨by omega, by simp [okI]; omega, by simp [okI]; omega, by simp [okI]; omega⟩, Weak.fr (by simp [weakL]), by omega⟩⟩, fun p => by simp [okW, okI]; omega⟩
  · simp [v17_2, q17_0, q17_1, bq17_ret]
    simp [okW, okI]; omega

/-- -1, 0 or 1. -/
def ordW (a b : W3) : Int :=
  if a.1 < b.1 then -1 else if b.1 < a.1 then 1 else if a.2.1 < b.2.1 then -1 else if b.2.1 < a.2.1 then 1 else if a.2.2 < b.2.2 then -1 else if b.2.2 < a.2.2 then 1 else 0

theorem order_con (a b : W3) : Con Try.prog 18 [w3 a, w3 b] (int (ordW a b)) := by
  refine con18 (by simp) (by simp) ?_
  rw [v18]
  simp [w3]
  refine AW_loop (α := Nat) (fun k => k ≤ 3 ∧ (0 < k → a.1 = b.1) ∧ (1 < k → a.2.1 = b.2.1) ∧ (2 < k → a.2.2 = b.2.2)) (fun k => ⟨fr18_1 (.op 0 0) (.op 1 0) (int k), [some ⟨23, [int a.1, int a.2.1, int a.2.2], true⟩, some ⟨23, [int b.1, int b.2.1, int b.2.2], true⟩]⟩) (fun k => 3 - k) 0 (by simp) (Weak.fr (by simp [fr18_1, weakL])) ?_
  rintro k ⟨hk, h0, h1, h2⟩
  refine sound_ivc _ _ _ ?_
  simp only [fr18_1]
  rw [v18_1]
  obtain rfl | rfl | rfl | rfl : k = 0 ∨ k = 1 ∨ k = 2 ∨ k = 3 := by omega
  · simp [q18_0, q18_1, bq18_ret, v18_2]
    refine ⟨fun p => by unfold ordW; rw [if_pos p], fun p => ⟨fun q => by unfold ordW; rw [if_neg (by omega), if_pos q], fun q => ⟨by simp [inI], 1, ⟨by omega, by omega, by omega, by omega⟩, Weak.fr (by simp [weakL]), by omega⟩⟩⟩
  · have e0 := h0 (by omega)
    simp [q18_0, q18_1, bq18_ret, v18_2]
    refine ⟨fun p => by unfold ordW; rw [if_neg (by omega), if_neg (by omega), if_pos p], fun p => ⟨fun q => by unfold ordW; rw [if_neg (by omega), if_neg (by omega), if_neg (by omega), if_pos q], fun q => ⟨by simp [inI], 2, ⟨by omega, by omega, by omega, by omega⟩, Weak.fr (by simp [weakL]), by omega⟩⟩⟩
  · have e0 := h0 (by omega); have e1 := h1 (by omega)
    simp [q18_0, q18_1, bq18_ret, v18_2]
    refine ⟨fun p => by unfold ordW; rw [if_neg (by omega), if_neg (by omega), if_neg (by omega), if_neg (by omega), if_pos p], fun p => ⟨fun q => by unfold ordW; rw [if_neg (by omega), if_neg (by omega), if_neg (by omega), if_neg (by omega), if_neg (by omega), if_pos q], fun q => ⟨by simp [inI], 3, ⟨by omega, by omega, by omega, by omega⟩, Weak.fr (by simp [weakL]), by omega⟩⟩⟩
  · have e0 := h0 (by omega); have e1 := h1 (by omega); have e2 := h2 (by omega)
    simp [q18_0, q18_1, bq18_ret, v18_2]
    unfold ordW; rw [if_neg (by omega), if_neg (by omega), if_neg (by omega), if_neg (by omega), if_neg (by omega), if_neg (by omega)]

/-! slices.Min, slices.Max, slices.Compare at three numbers -/
def ints (l : List Int) : AV := .sl 1 (l.map fun n => [int n])
theorem pureR_map {α : Type} (f : α → List AV) (h : ∀ x, PureL (f x)) : ∀ l : List α, PureR (l.map f)
  | [] => trivial
  | x :: l => ⟨h x, pureR_map f h l⟩
@[simp] theorem ints_pure (l : List Int) : Aw.Pure (ints l) := by unfold ints; rw [Aw.Pure]; exact pureR_map _ (by simp) l

def minL : List Int → Int
  | [] => 0
  | x :: l => l.foldl (fun m n => if n < m then n else m) x
def maxL : List Int → Int
  | [] => 0
  | x :: l => l.foldl (fun m n => if n > m then n else m) x
theorem minL_take (l : List Int) (k : Nat) (n : Int) (hk : 1 ≤ k) (hn : l[k]? = some n) : minL (l.take (k + 1)) = if n < minL (l.take k) then n else minL (l.take k) := by
  have hlt : k < l.length := (List.getElem?_eq_some_iff.1 hn).1
  rw [List.take_succ_eq_append_getElem hlt]
  have : l[k] = n := (List.getElem?_eq_some_iff.1 hn).2
  rw [this]
  cases h : l.take k with
  | nil => have q := congrArg List.length h; rw [List.length_take, List.length_nil] at q; omega
  | cons x r => simp only [minL, List.cons_append, List.foldl_append, List.foldl_cons, List.foldl_nil]; rfl
theorem maxL_take (l : List Int) (k : Nat) (n : Int) (hk : 1 ≤ k) (hn : l[k]? = some n) : maxL (l.take (k + 1)) = if n > maxL (l.take k) then n else maxL (l.take k) := by
  have hlt : k < l.length := (List.getElem?_eq_some_iff.1 hn).1
  rw [List.take_succ_eq_append_getElem hlt]
  have : l[k] = n := (List.getElem?_eq_some_iff.1 hn).2
  rw [this]
  cases h : l.take k with
  | nil => have q := congrArg List.length h; rw [List.length_take, List.length_nil] at q; omega
  | cons x r => simp only [maxL, List.cons_append, List.foldl_append, List.foldl_cons, List.foldl_nil]; rfl
theorem get_some {α : Type} (l : List α) (k : Nat) (h : k < l.length) : ∃ x, l[k]? = some x := ⟨_, List.getElem?_eq_getElem h⟩

theorem min_con (l : List Int) (h : 0 < l.length) : Con Try.prog 28 [ints l] (int (minL l)) := by
  obtain ⟨x, hx⟩ := get_some l 0 h
  refine con28 (by simp) (by simp) ?_
  rw [v28]
  simp [ints]
  intro hm
  refine ⟨by omega, fun _ => ?_⟩
  rw [v28_1]
  simp [hx]
  refine ⟨h, ?_⟩
  refine AW_loop (α := Nat) (fun k => 1 ≤ k ∧ k ≤ l.length) (fun k => ⟨fr28_2 (ints l) (int (minL (l.take k))) (int k), []⟩) (fun k => l.length - k) 1 (by omega) (Weak.fr (by
    have : minL (l.take 1) = x := by
      cases l with
      | nil => simp at h
      | cons y r => simp at hx; simp [minL, hx]
    simp [fr28_2, weakL, ints, this])) ?_
  rintro k ⟨hk1, hk2⟩
  refine sound_ivc _ _ _ ?_
  simp only [fr28_2]
  rw [v28_2]
  simp [ints]
  intro _
  refine ⟨fun hlt => ?_, fun hge => ?_⟩
  · obtain ⟨n, hn⟩ := get_some l k (by omega)
    simp [hn]
    unfold maxLen at hm
    exact ⟨hlt, ⟨by omega, by omega⟩, k + 1, by omega, Weak.fr (by simp [weakL, minL_take l k n hk1 hn]), by omega⟩
  · have : k = l.length := by omega
    subst this
    simp [q28_0, q28_1, v28_3, bq28_ret]

theorem max_con (l : List Int) (h : 0 < l.length) : Con Try.prog 29 [ints l] (int (maxL l)) := by
  obtain ⟨x, hx⟩ := get_some l 0 h
  refine con29 (by simp) (by simp) ?_
  rw [v29]
  simp [ints]
  intro hm
  refine ⟨by omega, fun _ => ?_⟩
  rw [v29_1]
  simp [hx]
  refine ⟨h, ?_⟩
  refine AW_loop (α := Nat) (fun k => 1 ≤ k ∧ k ≤ l.length) (fun k => ⟨fr29_2 (ints l) (int (maxL (l.take k))) (int k), []⟩) (fun k => l.length - k) 1 (by omega) (Weak.fr (by
    have : maxL (l.take 1) = x := by
      cases l with
      | nil => simp at h
      | cons y r => simp at hx; simp [maxL, hx]
    simp [fr29_2, weakL, ints, this])) ?_
  rintro k ⟨hk1, hk2⟩
  refine sound_ivc _ _ _ ?_
  simp only [fr29_2]
  rw [v29_2]
  simp [ints]
  intro _
  refine ⟨fun hlt => ?_, fun hge => ?_⟩
  · obtain ⟨n, hn⟩ := get_some l k (by omega)
    simp [hn]
    unfold maxLen at hm
    exact ⟨hlt, ⟨by omega, by omega⟩, k + 1, by omega, Weak.fr (by simp [weakL, maxL_take l k n hk1 hn]), by omega⟩
  · have : k = l.length := by omega
    subst this
    simp [q29_0, q29_1, v29_3, bq29_ret]

theorem minL3 (x y z : Int) : 0 ≤ minL [x, y, z] ↔ 0 ≤ x ∧ 0 ≤ y ∧ 0 ≤ z := by
  simp only [minL, List.foldl_cons, List.foldl_nil]
  split <;> split <;> omega
theorem maxL3 (x y z : Int) : maxL [x, y, z] ≤ 4000 ↔ x ≤ 4000 ∧ y ≤ 4000 ∧ z ≤ 4000 := by
  simp only [maxL, List.foldl_cons, List.foldl_nil]
  split <;> split <;> omega
/-- The three cells of a weight as a slice. -/
theorem fine_con (a : W3) : Con Try.prog 15 [w3 a] (bool (okW a)) := by
  refine con15 (by simp) (by simp) ?_
  rw [v15]
  simp [w3, maxLen]
  refine iCall_borrow [0] 2 hb28 (min_con [a.1, a.2.1, a.2.2] (by simp)) (by simp) (by simp [ints]) ?_
  simp [bq15_ret]
  refine ⟨fun p => ?_, fun p => ?_⟩
  · refine iCall_borrow [0] 2 hb29 (max_con [a.1, a.2.1, a.2.2] (by simp)) (by simp) (by simp [ints]) ?_
    simp
    have p' := (minL3 _ _ _).1 p
    rw [Bool.eq_iff_iff, decide_eq_true_eq, maxL3]
    simp only [okW, okI, Bool.and_eq_true, decide_eq_true_eq]
    omega
  · have p' := mt (minL3 a.1 a.2.1 a.2.2).2 (by omega)
    have e : okW a = false := by
      rw [Bool.eq_false_iff]
      simp only [okW, okI, ne_eq, Bool.and_eq_true, decide_eq_true_eq]
      omega
    rw [e]

theorem nan_con (n : Int) : Con Try.prog 46 [int n] (bool false) := by
  refine con46 (by simp) (by simp) ?_
  rw [v46]
  simp [bq46_ret]

def cmpI (a b : Int) : Int := if a < b then -1 else if a > b then 1 else 0
theorem cmp_con (a b : Int) : Con Try.prog 40 [int a, int b] (int (cmpI a b)) := by
  refine con40 (by simp) (by simp) ?_
  rw [v40]
  refine call46 (nan_con a) ?_
  refine call46 (nan_con b) ?_
  simp [bq40_ret]
  exact ⟨fun h => by unfold cmpI; rw [if_pos h], fun h => ⟨fun h2 => by unfold cmpI; rw [if_neg (by omega), if_pos h2], fun h2 => by unfold cmpI; rw [if_neg (by omega), if_neg (by omega)]⟩⟩

def lexL : List Int → List Int → Int
  | [], [] => 0
  | [], _ :: _ => -1
  | _ :: _, [] => 1
  | x :: a, y :: b => if cmpI x y ≠ 0 then cmpI x y else lexL a b
theorem lex_con (l r : List Int) : Con Try.prog 30 [ints l, ints r] (int (lexL l r)) := by
  refine con30 (by simp) (by simp) ?_
  rw [v30]
  simp [ints]
  intro hm
  refine AW_loop (α := Nat) (fun k => k ≤ l.length ∧ k ≤ r.length ∧ lexL l r = lexL (l.drop k) (r.drop k)) (fun k => ⟨fr30_1 (ints l) (ints r) (ints l) (int l.length) (int k), []⟩) (fun k => l.length - k) 0 (by simp) (Weak.fr (by simp [fr30_1, weakL, ints])) ?_
  rintro k ⟨hk1, hk2, hk3⟩
  refine sound_ivc _ _ _ ?_
  simp only [fr30_1]
  rw [v30_1]
  simp [ints]
  unfold maxLen at hm
  refine ⟨fun hlt => ?_, fun hge => ?_⟩
  · obtain ⟨n, hn⟩ := get_some l k (by omega)
    simp [hn]
    refine ⟨hlt, fun _ => ⟨fun hr => ?_, fun hr => ?_⟩⟩
    · simp [q30_0, bq30_ret]
      have : k = r.length := by omega
      subst this
      rw [hk3, List.drop_length, List.drop_eq_getElem_cons hlt]
      rfl
    · obtain ⟨n', hn'⟩ := get_some r k (by omega)
      simp [hn']
      refine ⟨hr, ?_⟩
      have e1 : l.drop k = n :: l.drop (k + 1) := by rw [List.drop_eq_getElem_cons hlt, (List.getElem?_eq_some_iff.1 hn).2]
      have e2 : r.drop k = n' :: r.drop (k + 1) := by rw [List.drop_eq_getElem_cons hr, (List.getElem?_eq_some_iff.1 hn').2]
      rw [e1, e2, lexL] at hk3
      refine call40 (cmp_con n n') ?_
      simp
      refine ⟨fun h => ?_, fun h => ?_⟩
      · simp [q30_0, q30_1, bq30_ret]
        rw [hk3, if_pos h]
      · rw [h] at hk3
        simp at hk3
        exact ⟨⟨by omega, by omega⟩, k + 1, ⟨by omega, by omega, hk3⟩, Weak.fr (by simp [weakL]), by omega⟩
  · have : k = l.length := by omega
    subst this
    simp [q30_0, q30_1, v30_2, bq30_ret]
    rw [hk3, List.drop_length]
    refine fun _ hm2 => ⟨fun h => ?_, fun h => ?_⟩
    · rw [List.drop_eq_getElem_cons h]; rfl
    · have : l.length = r.length := by omega
      rw [this, List.drop_length]; rfl

theorem lex3 (a b : W3) : lexL [a.1, a.2.1, a.2.2] [b.1, b.2.1, b.2.2] = ordW a b := by
  simp only [lexL, cmpI, ordW]
  repeat' split
  all_goals first | rfl | (exfalso; simp at *; omega) | omega
theorem compare_con (a b : W3) : Con Try.prog 16 [w3 a, w3 b] (int (ordW a b)) := by
  refine con16 (by simp) (by simp) ?_
  rw [v16]
  simp [w3, maxLen]
  refine ⟨_, iCall_borrow [0, 1] 2 hb30 (lex_con [a.1, a.2.1, a.2.2] [b.1, b.2.1, b.2.2]) (by simp) (by simp [ints]) ⟨rfl, rfl⟩, ?_⟩
  simp [bq16_ret, lex3]

/-- weigh.add, the sum written over the first weight. -/
theorem addTo_call (a b : W3) (h : inW (addW a b)) (B C : Option Blk) {K : AV → Heap → Prop}
    (k : K (.tup []) [some ⟨23, [int (a.1 + b.1), int (a.2.1 + b.2.1), int (a.2.2 + b.2.2)], true⟩, B, C, some ⟨23, [int b.1, int b.2.1, int b.2.2], true⟩]) :
    ACall Try.prog 19 [.op 0 0, w3 b] [some ⟨23, [int a.1, int a.2.1, int a.2.2], true⟩, B, C] K := by
  obtain ⟨h0, h1, h2⟩ := h
  simp only [addW] at h0 h1 h2
  refine acall19 ?_
  rw [v19]
  simp [w3]
  refine AW_loop (α := Nat) (fun k => k ≤ 3) (fun k => ⟨fr19_1 (.op 0 0) (.op 3 0) (int k), [some ⟨23, [int (if 0 < k then a.1 + b.1 else a.1), int (if 1 < k then a.2.1 + b.2.1 else a.2.1), int (if 2 < k then a.2.2 + b.2.2 else a.2.2)], true⟩, B, C, some ⟨23, [int b.1, int b.2.1, int b.2.2], true⟩]⟩) (fun k => 3 - k) 0 (by simp) (Weak.fr (by simp [fr19_1, weakL])) ?_
  rintro j hk
  refine sound_ivc _ _ _ ?_
  simp only [fr19_1]
  rw [v19_1]
  obtain rfl | rfl | rfl | rfl : j = 0 ∨ j = 1 ∨ j = 2 ∨ j = 3 := by omega
  · simp [q19_0, h0]
    exact ⟨by simp [inI], 1, by omega, Weak.fr (by simp [weakL]), by omega⟩
  · simp [q19_0, h1]
    exact ⟨by simp [inI], 2, by omega, Weak.fr (by simp [weakL]), by omega⟩
  · simp [q19_0, h2]
    exact ⟨by simp [inI], 3, by omega, Weak.fr (by simp [weakL]), by omega⟩
  · simp [q19_0, bq19_normal]
    exact k

def cmpV (a b : W3) : Int := if okW a && okW b then ordW a b else 0
def cmpE (a b : W3) : Int := if okW a && okW b then 0 else 8
def cmpW (a b : W3) : AV := .tup [int (cmpV a b), int (cmpE a b)]
theorem compareR_con (a b : W3) : Con Try.prog 6 [w3 a, w3 b] (cmpW a b) := by
  refine con6 (by simp) (by simp [cmpW]) ?_
  rw [v6]
  simp [w3]
  refine call17 (valid_con a) ?_
  cases ha : okW a
  · simp [v6_1, bq6_ret, cmpW, cmpV, cmpE, ha, q6_0]
  · simp
    refine call17 (valid_con b) ?_
    cases hb : okW b
    · simp [v6_1, bq6_ret, cmpW, cmpV, cmpE, ha, hb, q6_0]
    · simp [v6_1, cmpW, cmpV, cmpE, ha, hb, q6_0, v6_2]
      refine call18 (order_con a b) ?_
      simp [bq6_ret]
theorem compareI_con (a b : W3) : Con Try.prog 5 [w3 a, w3 b] (cmpW a b) := by
  refine con5 (by simp) (by simp [cmpW]) ?_
  rw [v5]
  simp [w3]
  refine call15 (fine_con a) ?_
  cases ha : okW a
  · simp [v5_1, bq5_ret, cmpW, cmpV, cmpE, ha, q5_0]
  · simp
    refine call15 (fine_con b) ?_
    cases hb : okW b
    · simp [v5_1, bq5_ret, cmpW, cmpV, cmpE, ha, hb, q5_0]
    · simp [v5_1, cmpW, cmpV, cmpE, ha, hb, q5_0, v5_2]
      refine call16 (compare_con a b) ?_
      simp [bq5_ret]

theorem okW_in (a b : W3) (ha : okW a = true) (hb : okW b = true) : inW (addW a b) := by
  simp only [okW, okI, Bool.and_eq_true, decide_eq_true_eq] at ha hb
  simp only [inW, addW, inI]
  omega
def sumV (a b : W3) : W3 := if okW a && okW b && okW (addW a b) then addW a b else (0, 0, 0)
def sumE (a b : W3) : Int := if okW a && okW b && okW (addW a b) then 0 else 8
def sumW (a b : W3) : AV := .tup [w3 (sumV a b), int (sumE a b)]
theorem sumR_con (a b : W3) : Con Try.prog 8 [w3 a, w3 b] (sumW a b) := by
  refine con8 (by simp) (by simp [sumW]) ?_
  rw [v8]
  simp [w3]
  refine call17 (valid_con a) ?_
  cases ha : okW a
  · simp [v8_1, bq8_ret, sumW, sumV, sumE, ha, q8_0, w3]
  · simp
    refine call17 (valid_con b) ?_
    cases hb : okW b
    · simp [v8_1, bq8_ret, sumW, sumV, sumE, ha, hb, q8_0, w3]
    · simp [v8_1, ha, hb, q8_0, v8_2]
      refine call20 (add_con a b (okW_in a b ha hb)) ?_
      simp [w3]
      refine call17 (valid_con (addW a b)) ?_
      cases hc : okW (addW a b)
      · simp [bq8_ret, sumW, sumV, sumE, ha, hb, hc, w3]
      · simp
        refine call20 (add_con a b (okW_in a b ha hb)) ?_
        simp [bq8_ret, sumW, sumV, sumE, ha, hb, hc, w3]
theorem sumI_con (a b : W3) : Con Try.prog 7 [w3 a, w3 b] (sumW a b) := by
  refine con7 (by simp) (by simp [sumW]) ?_
  rw [v7]
  simp [w3]
  refine call15 (fine_con a) ?_
  cases ha : okW a
  · simp [v7_1, bq7_ret, sumW, sumV, sumE, ha, q7_0, w3]
  · simp
    refine call15 (fine_con b) ?_
    cases hb : okW b
    · simp [v7_1, bq7_ret, sumW, sumV, sumE, ha, hb, q7_0, w3]
    · simp [v7_1, ha, hb, q7_0, v7_2]
      refine ⟨hb19, ?_⟩
      simp
      refine addTo_call a b (okW_in a b ha hb) _ _ ?_
      simp
      refine call15 (fine_con (addW a b)) ?_
      cases hc : okW (addW a b)
      · simp [bq7_ret, sumW, sumV, sumE, ha, hb, hc, w3]
      · simp
        simp [bq7_ret, sumW, sumV, sumE, ha, hb, hc, w3]
        simp [addW]
theorem law_con (a b : W3) : Con Try.prog 3 [w3 a, w3 b] (bool true) := by
  refine con3 (by simp) (by simp) ?_
  rw [v3]
  simp [w3]
  refine call5 (compareI_con a b) ?_
  simp only [cmpW]
  simp
  refine call6 (compareR_con a b) ?_
  simp [cmpW]
  refine call7 (sumI_con a b) ?_
  simp [sumW, w3]
  refine call8 (sumR_con a b) ?_
  simp [sumW, w3, bq3_ret]
end Go.Proofs.Ytedaaincibcbkaa
