/-
  Stable sorting by insertion, and merging: plain laws of lists. Two of a list change places; stretches of a list change places: plain laws of lists. Two sorted lists merged, where they are cut in two: plain laws of lists. The last one of a sorted list with a property: plain laws of lists. Indices in the order of what they point at: plain laws of lists.
  No conditions.
-/
import Derived.KernelRfl
set_option linter.unusedVariables false
set_option linter.unusedSimpArgs false
section
namespace Go.Stb
variable {α β : Type}
/-- Coming before is a weak order. -/
structure Wk (lt : α → α → Bool) : Prop where
  asy : ∀ x y, lt x y = true → lt y x = false
  ntr : ∀ x y z, lt x y = false → lt y z = false → lt x z = false
theorem Wk.tr {lt : α → α → Bool} (O : Wk lt) {x y z : α} (h : lt x y = true) (k : lt y z = true) : lt x z = true := by
  cases q : lt x z with
  | true => rfl
  | false =>
    have := O.ntr x z y q (O.asy _ _ k)
    rw [h] at this; cases this
/-- One is put ahead of the first that it comes before. -/
def ins (lt : α → α → Bool) (x : α) : List α → List α
  | [] => [x]
  | y :: r => if lt x y = true then x :: y :: r else y :: ins lt x r
def stab (lt : α → α → Bool) (l : List α) : List α := l.foldl (fun r x => ins lt x r) []
def Srt (lt : α → α → Bool) (l : List α) : Prop := l.Pairwise fun a b => lt b a = false
def mrg (lt : α → α → Bool) : List α → List α → List α
  | [], t => t
  | a :: s, t => go lt a (mrg lt s) s t
where
  go (lt : α → α → Bool) (a : α) (f : List α → List α) (s : List α) : List α → List α
    | [] => a :: s
    | b :: t => if lt b a = true then b :: go lt a f s t else a :: f (b :: t)
section
variable {lt : α → α → Bool}
theorem mrg_nil_l (t : List α) : mrg lt [] t = t := rfl
theorem mrg_nil_r (s : List α) : mrg lt s [] = s := by cases s <;> rfl
theorem mrg_cons (a : α) (s : List α) (b : α) (t : List α) : mrg lt (a :: s) (b :: t) = if lt b a = true then b :: mrg lt (a :: s) t else a :: mrg lt s (b :: t) := by
  show mrg.go lt a (mrg lt s) s (b :: t) = _
  rw [mrg.go]; rfl
theorem ins_split {x : α} : ∀ {p q : List α}, (∀ y ∈ p, lt x y = false) → (∀ y ∈ q, lt x y = true) → ins lt x (p ++ q) = p ++ x :: q
  | [], [], _, _ => rfl
  | [], y :: q, _, h => by simp [ins, h y (by simp)]
  | z :: p, q, h, k => by
    have := h z (by simp)
    simp [ins, this, ins_split (p := p) (q := q) (fun y hy => h y (by simp [hy])) k]
theorem ins_perm (x : α) : ∀ l, (ins lt x l).Perm (x :: l)
  | [] => .refl _
  | y :: r => by
    unfold ins
    split
    · exact .refl _
    · exact ((ins_perm x r).cons y).trans (.swap x y r)
theorem ins_srt (O : Wk lt) (x : α) : ∀ {l}, Srt lt l → Srt lt (ins lt x l)
  | [], _ => by simp [ins, Srt]
  | y :: r, h => by
    unfold ins Srt at *
    obtain ⟨h1, h2⟩ := List.pairwise_cons.1 h
    split
    · rename_i q
      refine List.pairwise_cons.2 ⟨fun z hz => ?_, h⟩
      rcases List.mem_cons.1 hz with rfl | hz
      · exact O.asy _ _ q
      · cases w : lt z x with
        | false => rfl
        | true => have := O.tr w q; rw [h1 z hz] at this; cases this
    · rename_i q
      refine List.pairwise_cons.2 ⟨fun z hz => ?_, ins_srt O x h2⟩
      rcases List.mem_cons.1 ((ins_perm x r).mem_iff.1 hz) with rfl | hz
      · simpa using q
      · exact h1 z hz
theorem foldl_srt (O : Wk lt) : ∀ (l r : List α), Srt lt r → Srt lt (l.foldl (fun r x => ins lt x r) r)
  | [], _, h => h
  | x :: l, _, h => foldl_srt O l _ (ins_srt O x h)
theorem stab_srt (O : Wk lt) (l : List α) : Srt lt (stab lt l) := foldl_srt O l [] List.Pairwise.nil
theorem foldl_perm : ∀ (l r : List α), (l.foldl (fun r x => ins lt x r) r).Perm (r ++ l)
  | [], r => by simp
  | x :: l, r => by
    refine (foldl_perm l _).trans ?_
    refine ((ins_perm x r).append_right l).trans ?_
    simpa using (List.perm_middle (a := x) (l₁ := r) (l₂ := l)).symm
theorem stab_perm (l : List α) : (stab lt l).Perm l := by
  have := foldl_perm (lt := lt) l []
  rwa [List.nil_append] at this
theorem stab_len (l : List α) : (stab lt l).length = l.length := (stab_perm l).length_eq
theorem stab_snoc (l : List α) (x : α) : stab lt (l ++ [x]) = ins lt x (stab lt l) := by simp [stab]
theorem mrg_ins (O : Wk lt) (x : α) : ∀ (s t : List α), mrg lt s (ins lt x t) = ins lt x (mrg lt s t)
  | [], t => by simp [mrg_nil_l]
  | a :: s, [] => by
    have ih := mrg_ins O x s []
    rw [mrg_nil_r] at ih
    simp only [ins, mrg_nil_r] at ih ⊢
    rw [mrg_cons]
    split
    · rw [mrg_nil_r]
    · rw [ih]
  | a :: s, b :: t => by
    have i1 := mrg_ins O x s (b :: t)
    have i2 := mrg_ins O x (a :: s) t
    by_cases xb : lt x b = true
    · have e : ins lt x (b :: t) = x :: b :: t := by simp [ins, xb]
      rw [e] at i1 ⊢
      rw [mrg_cons]
      by_cases xa : lt x a = true
      · rw [if_pos xa, mrg_cons]
        split
        · simp [ins, xb]
        · simp [ins, xa]
      · rw [if_neg xa, i1, mrg_cons]
        have ba : ¬ lt b a = true := fun q => xa (O.tr xb q)
        rw [if_neg ba]
        simp [ins, xa]
    · have e : ins lt x (b :: t) = b :: ins lt x t := by simp [ins, xb]
      rw [e] at i1 ⊢
      rw [mrg_cons, mrg_cons]
      by_cases ba : lt b a = true
      · rw [if_pos ba, if_pos ba, i2]
        simp [ins, xb]
      · rw [if_neg ba, if_neg ba, i1]
        have xa : lt x a = false := O.ntr x b a (by simpa using xb) (by simpa using ba)
        simp [ins, xa]
theorem mrg_foldl (O : Wk lt) (s : List α) : ∀ (l t : List α), mrg lt s (l.foldl (fun r x => ins lt x r) t) = l.foldl (fun r x => ins lt x r) (mrg lt s t)
  | [], t => rfl
  | x :: l, t => by
    simp only [List.foldl_cons]
    rw [mrg_foldl O s l (ins lt x t), mrg_ins O]
theorem mrg_stab (O : Wk lt) (a b : List α) : mrg lt (stab lt a) (stab lt b) = stab lt (a ++ b) := by
  unfold stab
  rw [mrg_foldl O, mrg_nil_r, List.foldl_append]
theorem mrg_split : ∀ (a1 a2 b1 b2 : List α), (∀ b ∈ b1, ∀ a ∈ a2, lt b a = true) → (∀ a ∈ a1, ∀ b ∈ b2, lt b a = false) → mrg lt (a1 ++ a2) (b1 ++ b2) = mrg lt a1 b1 ++ mrg lt a2 b2
  | [], a2, [], b2, _, _ => rfl
  | [], [], b :: t, b2, _, _ => rfl
  | [], a :: s, b :: t, b2, h, k => by
    have := mrg_split [] (a :: s) t b2 (fun y hy => h y (by simp [hy])) k
    simp only [List.nil_append, mrg_nil_l] at this ⊢
    rw [List.cons_append, mrg_cons, if_pos (h b (by simp) a (by simp)), this]; rfl
  | a :: s, a2, [], [], _, _ => by simp [mrg_nil_r]
  | a :: s, a2, [], b :: t, h, k => by
    have := mrg_split s a2 [] (b :: t) (fun y hy => by simp at hy) (fun x hx => k x (by simp [hx]))
    simp only [List.nil_append, mrg_nil_r] at this ⊢
    rw [List.cons_append, mrg_cons, if_neg (by simp [k a (by simp) b (by simp)]), this]; rfl
  | a :: s, a2, b :: t, b2, h, k => by
    have i1 := mrg_split (a :: s) a2 t b2 (fun y hy => h y (by simp [hy])) k
    have i2 := mrg_split s a2 (b :: t) b2 h (fun x hx => k x (by simp [hx]))
    simp only [List.cons_append] at i1 i2 ⊢
    rw [mrg_cons, mrg_cons]
    split
    · rw [i1]; rfl
    · rw [i2]; rfl
termination_by a1 a2 b1 b2 => a1.length + b1.length
theorem mrg_left (x : α) {b1 b2 : List α} (h : ∀ b ∈ b1, lt b x = true) (k : ∀ b ∈ b2, lt b x = false) : mrg lt [x] (b1 ++ b2) = b1 ++ x :: b2 := by
  have := mrg_split [] [x] b1 b2 (fun b hb a ha => by simp at ha; subst ha; exact h b hb) (fun a ha => by simp at ha)
  simp only [List.nil_append, mrg_nil_l] at this
  rw [this]
  cases b2 with
  | nil => rw [mrg_nil_r]
  | cons b t => rw [mrg_cons, if_neg (by simp [k b (by simp)]), mrg_nil_l]
theorem mrg_right (x : α) {a1 a2 : List α} (h : ∀ a ∈ a1, lt x a = false) (k : ∀ a ∈ a2, lt x a = true) : mrg lt (a1 ++ a2) [x] = a1 ++ x :: a2 := by
  have := mrg_split a1 a2 [] [x] (fun b hb => by simp at hb) (fun a ha b hb => by simp at hb; subst hb; exact h a ha)
  simp only [List.nil_append, mrg_nil_r] at this
  rw [this]
  cases a2 with
  | nil => rw [mrg_nil_l]
  | cons a s => rw [mrg_cons, if_pos (k a (by simp)), mrg_nil_r]
theorem Srt.at {l : List α} (h : Srt lt l) {i j : Nat} {x y : α} (hij : i < j) (hx : l[i]? = some x) (hy : l[j]? = some y) : lt y x = false := by
  obtain ⟨i1, rfl⟩ := List.getElem?_eq_some_iff.1 hx
  obtain ⟨j1, rfl⟩ := List.getElem?_eq_some_iff.1 hy
  exact List.pairwise_iff_getElem.1 h i j i1 j1 hij
theorem map_ins (f : α → β) (lb : β → β → Bool) (hl : ∀ x y, lt x y = lb (f x) (f y)) (x : α) : ∀ l, (ins lt x l).map f = ins lb (f x) (l.map f)
  | [] => rfl
  | y :: r => by
    unfold ins
    rw [hl]
    simp only [List.map_cons]
    split
    · rfl
    · simp [map_ins f lb hl x r]
theorem map_stab (f : α → β) (lb : β → β → Bool) (hl : ∀ x y, lt x y = lb (f x) (f y)) (l : List α) : (stab lt l).map f = stab lb (l.map f) := by
  unfold stab
  have : ∀ (l : List α) (r : List α), (l.foldl (fun r x => ins lt x r) r).map f = (l.map f).foldl (fun r x => ins lb x r) (r.map f) := by
    intro l
    induction l with
    | nil => intro r; rfl
    | cons x l ih => intro r; simp only [List.foldl_cons, List.map_cons]; rw [ih, map_ins f lb hl]
  exact this l []
end
end Go.Stb
end

section
namespace Go.Stb
variable {α : Type}
def swp (d : List α) (i j : Nat) : List α := match d[i]?, d[j]? with
  | some x, some y => (d.set i y).set j x
  | _, _ => d
theorem swp_eq {d : List α} {i j : Nat} {x y : α} (hx : d[i]? = some x) (hy : d[j]? = some y) : swp d i j = (d.set i y).set j x := by simp [swp, hx, hy]
theorem swp_len (d : List α) (i j : Nat) : (swp d i j).length = d.length := by unfold swp; split <;> simp
theorem swp_get {d : List α} {i j t : Nat} (hi : i < d.length) (hj : j < d.length) : (swp d i j)[t]? = if t = j then d[i]? else if t = i then d[j]? else d[t]? := by
  rw [swp_eq (List.getElem?_eq_getElem hi) (List.getElem?_eq_getElem hj), List.getElem?_set, List.getElem?_set]
  simp only [List.length_set]
  by_cases h1 : t = j
  · subst h1; simp [hj, hi]
  · by_cases h2 : t = i
    · subst h2; simp [h1, Ne.symm h1, hi, hj]
    · simp [h1, h2, Ne.symm h1, Ne.symm h2]
/-- Two neighbours. -/
theorem swp_up (P : List α) (x y : α) (R : List α) : swp (P ++ x :: y :: R) P.length (P.length + 1) = P ++ y :: x :: R := by
  rw [swp_eq (x := x) (y := y) (by simp) (by simp)]
  simp
theorem swp_down (P : List α) (x y : α) (R : List α) : swp (P ++ x :: y :: R) (P.length + 1) P.length = P ++ y :: x :: R := by
  rw [swp_eq (x := y) (y := x) (by simp) (by simp)]
  simp
def swR (d : List α) (a b : Nat) : Nat → List α
  | 0 => d
  | k + 1 => swp (swR d a b k) (a + k) (b + k)
theorem swR_len (d : List α) (a b : Nat) : ∀ k, (swR d a b k).length = d.length
  | 0 => rfl
  | k + 1 => by rw [swR, swp_len, swR_len d a b k]
theorem swR_get {d : List α} {a b n : Nat} (hab : a + n ≤ b) (hb : b + n ≤ d.length) : ∀ k t, k ≤ n → (swR d a b k)[t]? = if a ≤ t ∧ t < a + k then d[t - a + b]? else if b ≤ t ∧ t < b + k then d[t - b + a]? else d[t]?
  | 0, t, _ => by rw [swR, if_neg (by omega), if_neg (by omega)]
  | k + 1, t, h => by
    have ih := fun t => swR_get hab hb k t (by omega)
    rw [swR, swp_get (by rw [swR_len]; omega) (by rw [swR_len]; omega), ih, ih, ih]
    repeat' split
    all_goals first
      | rfl
      | (exfalso; omega)
      | (congr 1; omega)
theorem swR_app (P x Q y S : List α) (h : x.length = y.length) : swR (P ++ (x ++ (Q ++ (y ++ S)))) P.length (P.length + x.length + Q.length) x.length = P ++ (y ++ (Q ++ (x ++ S))) := by
  refine List.ext_getElem? fun t => ?_
  rw [swR_get (n := x.length) (by omega) (by simp only [List.length_append]; omega) _ _ (Nat.le_refl _)]
  simp only [List.getElem?_append]
  repeat' split
  all_goals first
    | rfl
    | (exfalso; omega)
    | (congr 1; omega)
end Go.Stb
end

section
namespace Go.Stb
variable {α : Type} {lt : α → α → Bool}
theorem Wk.irr (O : Wk lt) (x : α) : lt x x = false := by
  cases q : lt x x with
  | false => rfl
  | true => have := O.asy _ _ q; rw [q] at this; cases this
theorem Srt.le (O : Wk lt) {l : List α} (h : Srt lt l) {i j : Nat} {x y : α} (hij : i ≤ j) (hx : l[i]? = some x) (hy : l[j]? = some y) : lt y x = false := by
  rcases Nat.lt_or_ge i j with q | q
  · exact h.at q hx hy
  · obtain rfl : i = j := by omega
    rw [hx] at hy; cases hy; exact O.irr x
theorem mem_take {l : List α} {k : Nat} {x : α} (h : x ∈ l.take k) : ∃ i, i < k ∧ l[i]? = some x := by
  obtain ⟨i, hi, e⟩ := List.mem_iff_getElem.1 h
  rw [List.length_take] at hi
  refine ⟨i, by omega, ?_⟩
  rw [← e, List.getElem_take, List.getElem?_eq_getElem]
theorem mem_drop {l : List α} {k : Nat} {x : α} (h : x ∈ l.drop k) : ∃ i, k ≤ i ∧ l[i]? = some x := by
  obtain ⟨i, hi, e⟩ := List.mem_iff_getElem.1 h
  rw [List.length_drop] at hi
  refine ⟨k + i, by omega, ?_⟩
  rw [← e, List.getElem_drop, List.getElem?_eq_getElem]
theorem sym_mrg (O : Wk lt) {A B : List α} (sA : Srt lt A) (sB : Srt lt B) (k e : Nat)
    (h1 : k = 0 ∨ e = B.length ∨ ∃ x y, A[k - 1]? = some x ∧ B[e]? = some y ∧ lt y x = false)
    (h2 : e = 0 ∨ k = A.length ∨ ∃ x y, A[k]? = some x ∧ B[e - 1]? = some y ∧ lt y x = true) :
    mrg lt A B = mrg lt (A.take k) (B.take e) ++ mrg lt (A.drop k) (B.drop e) := by
  have := mrg_split (lt := lt) (A.take k) (A.drop k) (B.take e) (B.drop e) (fun b hb a ha => ?_) (fun a ha b hb => ?_)
  · rwa [List.take_append_drop, List.take_append_drop] at this
  · obtain ⟨j, hj, eb⟩ := mem_take hb
    obtain ⟨i, hi, ea⟩ := mem_drop ha
    rcases h2 with rfl | rfl | ⟨x, y, ex, ey, hl⟩
    · omega
    · have := (List.getElem?_eq_some_iff.1 ea).1; omega
    · cases q : lt b a with
      | true => rfl
      | false =>
        have u1 := sB.le O (show j ≤ e - 1 by omega) eb ey
        have u2 := sA.le O hi ex ea
        have := O.ntr _ _ _ (O.ntr _ _ _ u1 q) u2
        rw [hl] at this; cases this
  · obtain ⟨i, hi, ea⟩ := mem_take ha
    obtain ⟨j, hj, eb⟩ := mem_drop hb
    rcases h1 with rfl | rfl | ⟨x, y, ex, ey, hl⟩
    · omega
    · have := (List.getElem?_eq_some_iff.1 eb).1; omega
    · have u1 := sA.le O (show i ≤ k - 1 by omega) ea ex
      have u2 := sB.le O hj ey eb
      exact O.ntr _ _ _ (O.ntr _ _ _ u2 hl) u1
/-- One ahead of a sorted list. -/
theorem mrg_one_l (O : Wk lt) (x : α) {B : List α} (sB : Srt lt B) (e : Nat)
    (h1 : e = 0 ∨ ∃ y, B[e - 1]? = some y ∧ lt y x = true) (h2 : e = B.length ∨ ∃ y, B[e]? = some y ∧ lt y x = false) : mrg lt [x] B = B.take e ++ x :: B.drop e := by
  rw [sym_mrg O (A := [x]) (by simp [Srt]) sB 0 e (.inl rfl) (h1.imp id fun ⟨y, a, b⟩ => .inr ⟨x, y, rfl, a, b⟩)]
  simp only [List.take_zero, List.drop_zero, mrg_nil_l]
  congr 1
  rcases h2 with rfl | ⟨y, hy, hl⟩
  · simp [mrg_nil_r]
  · rw [List.drop_eq_getElem_cons (List.getElem?_eq_some_iff.1 hy).1, (List.getElem?_eq_some_iff.1 hy).2, mrg_cons, if_neg (by simp [hl]), mrg_nil_l]
/-- One behind a sorted list. -/
theorem mrg_one_r (O : Wk lt) (y : α) {A : List α} (sA : Srt lt A) (k : Nat)
    (h1 : k = 0 ∨ ∃ x, A[k - 1]? = some x ∧ lt y x = false) (h2 : k = A.length ∨ ∃ x, A[k]? = some x ∧ lt y x = true) : mrg lt A [y] = A.take k ++ y :: A.drop k := by
  rw [sym_mrg O sA (B := [y]) (by simp [Srt]) k 0 (h1.imp id fun ⟨x, a, b⟩ => .inr ⟨x, y, a, rfl, b⟩) (.inl rfl)]
  simp only [List.take_zero, List.drop_zero, mrg_nil_r]
  congr 1
  rcases h2 with rfl | ⟨x, hx, hl⟩
  · simp [mrg_nil_l]
  · rw [List.drop_eq_getElem_cons (List.getElem?_eq_some_iff.1 hx).1, (List.getElem?_eq_some_iff.1 hx).2, mrg_cons, if_pos hl, mrg_nil_r]
theorem mrg_len : ∀ (s t : List α), (mrg lt s t).length = s.length + t.length
  | [], t => by simp [mrg_nil_l]
  | a :: s, [] => by simp [mrg_nil_r]
  | a :: s, b :: t => by
    rw [mrg_cons]
    split
    · rw [List.length_cons, mrg_len (a :: s) t]; simp; omega
    · rw [List.length_cons, mrg_len s (b :: t)]; simp; omega
termination_by s t => s.length + t.length
end Go.Stb
end

section
namespace Go.Stb
variable {α : Type} {lt : α → α → Bool}
theorem ins_cut (O : Wk lt) (x : α) : ∀ {r : List α}, Srt lt r → ∃ p q, r = p ++ q ∧ ins lt x r = p ++ x :: q ∧ (∀ y ∈ p, lt x y = false) ∧ (∀ y ∈ q, lt x y = true)
  | [], _ => ⟨[], [], rfl, rfl, by simp, by simp⟩
  | y :: r, h => by
    unfold Srt at h
    obtain ⟨h1, h2⟩ := List.pairwise_cons.1 h
    cases q : lt x y with
    | true =>
      refine ⟨[], y :: r, rfl, by simp [ins, q], by simp, fun z hz => ?_⟩
      rcases List.mem_cons.1 hz with rfl | hz
      · exact q
      · cases w : lt x z with
        | true => rfl
        | false => have := O.ntr _ _ _ w (h1 z hz); rw [q] at this; cases this
    | false =>
      obtain ⟨p, s, e1, e2, e3, e4⟩ := ins_cut O x (r := r) h2
      refine ⟨y :: p, s, by rw [e1]; rfl, by simp [ins, q, e2], fun z hz => ?_, e4⟩
      rcases List.mem_cons.1 hz with rfl | hz
      · exact q
      · exact e3 z hz
/-- The last one with a property. -/
def lastP (p : α → Bool) (l : List α) : Option α := l.reverse.find? p
theorem lastP_app (p : α → Bool) (a b : List α) : lastP p (a ++ b) = (lastP p b).or (lastP p a) := by
  unfold lastP
  rw [List.reverse_append, List.find?_append]
theorem lastP_cons (p : α → Bool) (x : α) (l : List α) : lastP p (x :: l) = (lastP p l).or (if p x = true then some x else none) := by
  have := lastP_app p [x] l
  rw [List.singleton_append] at this
  rw [this]
  congr 1
  unfold lastP
  simp
theorem lastP_mem {p : α → Bool} {l : List α} {x : α} (h : lastP p l = some x) : x ∈ l ∧ p x = true := ⟨List.mem_reverse.1 (List.mem_of_find?_eq_some h), List.find?_some h⟩
/-- Put in its place, one is the last with a property, if it has it, and the last before does not come behind it. -/
theorem lastP_ins (O : Wk lt) (p : α → Bool) (x : α) {r : List α} (h : Srt lt r) : lastP p (ins lt x r) = match lastP p r with
    | some y => if p x = true ∧ lt x y = false then some x else some y
    | none => if p x = true then some x else none := by
  obtain ⟨a, b, e1, e2, e3, e4⟩ := ins_cut O x h
  rw [e2, e1, lastP_app, lastP_app, lastP_cons]
  cases hb : lastP p b with
  | some y =>
    have := e4 y (lastP_mem hb).1
    simp [this]
  | none =>
    cases ha : lastP p a with
    | some y =>
      have := e3 y (lastP_mem ha).1
      by_cases q : p x = true <;> simp [q, this]
    | none => by_cases q : p x = true <;> simp [q]
/-- The winner, as a loop finds it. -/
def winF (lt : α → α → Bool) (p : α → Bool) (w : Option α) (x : α) : Option α := if (p x && (match w with | some y => !lt x y | none => true)) = true then some x else w
theorem winF_last (O : Wk lt) (p : α → Bool) : ∀ (l r : List α), Srt lt r → l.foldl (winF lt p) (lastP p r) = lastP p (l.foldl (fun r x => ins lt x r) r)
  | [], _, _ => rfl
  | x :: l, r, h => by
    rw [List.foldl_cons, List.foldl_cons, ← winF_last O p l _ (ins_srt O x h), lastP_ins O p x h]
    congr 1
    unfold winF
    cases lastP p r with
    | some y => simp
    | none => simp
theorem winF_stab (O : Wk lt) (p : α → Bool) (l : List α) : l.foldl (winF lt p) none = lastP p (stab lt l) := by
  have := winF_last O p l [] List.Pairwise.nil
  exact this
end Go.Stb
end

section
namespace Go.Stb
variable {α : Type} (lt : α → α → Bool) (d0 : α) (l : List α)
def ltI (i j : Nat) : Bool := lt (l.getD i d0) (l.getD j d0)
variable {lt} in
theorem ltI_wk (O : Wk lt) : Wk (ltI lt d0 l) := ⟨fun _ _ h => O.asy _ _ h, fun _ _ _ h k => O.ntr _ _ _ h k⟩
def plcN (n : Nat) : List Nat := stab (ltI lt d0 l) (List.range n)
theorem plcN_succ (n : Nat) : plcN lt d0 l (n + 1) = ins (ltI lt d0 l) n (plcN lt d0 l n) := by
  unfold plcN
  rw [List.range_succ, stab_snoc]
theorem plcN_len (n : Nat) : (plcN lt d0 l n).length = n := by unfold plcN; rw [stab_len, List.length_range]
theorem plcN_mem {n i : Nat} (h : i ∈ plcN lt d0 l n) : i < n := List.mem_range.1 ((stab_perm _).mem_iff.1 h)
variable {lt} in
theorem plcN_srt (O : Wk lt) (n : Nat) : Srt (ltI lt d0 l) (plcN lt d0 l n) := stab_srt (ltI_wk d0 l O) _
theorem map_range : (List.range l.length).map (fun i => l.getD i d0) = l := by
  refine List.ext_getElem? fun t => ?_
  rw [List.getElem?_map]
  rcases Nat.lt_or_ge t l.length with q | q
  · simp [List.getElem?_range q, q]
  · rw [List.getElem?_eq_none (by simpa using q), List.getElem?_eq_none q]; rfl
theorem plc_map : (plcN lt d0 l l.length).map (fun i => l.getD i d0) = stab lt l := by
  unfold plcN
  rw [map_stab (lt := ltI lt d0 l) (fun i => l.getD i d0) lt (fun _ _ => rfl), map_range]
end Go.Stb
end
