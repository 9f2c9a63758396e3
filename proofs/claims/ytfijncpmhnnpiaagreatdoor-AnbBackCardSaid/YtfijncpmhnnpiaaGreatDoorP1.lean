/-
  Texts of progressions as digits and signs; the tokens of such a text. The text of a progression, and the same with other letters and spaces around the sign: both are read as the progression. Reading such texts; no two progressions have one text.
  No conditions.
-/
import Derived.Test.YtfijncpmhnnpiaaGreatDoorR1
import Derived.Lib.ItoaNum
set_option linter.unusedVariables false
set_option linter.unusedSimpArgs false
section
namespace Go.Proofs.YtfijncpmhnnpiaaGreatDoor
open Go Go.Aw Go.RowKit
set_option maxRecDepth 100000
/-! ### Digits -/
theorem dg_of (r : Nat) (h : r < 10) : (UInt8.ofNat (48 + r)).toNat = 48 + r := by
  have : ∀ n : Fin 10, (UInt8.ofNat (48 + n.val)).toNat = 48 + n.val := by decide
  exact this ⟨r, h⟩
theorem dec_ok : ∀ k : Nat, digs (Lib.decDigits k) ∧ valR (Lib.decDigits k) = k ∧ (∀ n, k < 10 ^ (n + 1) → (Lib.decDigits k).length ≤ n + 1) := by
  intro k
  induction k using Nat.strongRecOn with
  | _ k ih =>
    rw [Lib.decDigits]
    by_cases h : k < 10
    · rw [dif_pos h]
      refine ⟨⟨by simp, fun b hb => ?_⟩, ?_, fun n _ => by simp⟩
      · obtain rfl : b = UInt8.ofNat (48 + k) := by simpa using hb
        rw [dg_of k h]; omega
      · show 10 * 0 + dgV _ = k
        unfold dgV
        rw [dg_of k h]; omega
    · rw [dif_neg h]
      obtain ⟨⟨i1, i2⟩, i3, i4⟩ := ih (k / 10) (by omega)
      refine ⟨⟨by simp, fun b hb => ?_⟩, ?_, fun n hn => ?_⟩
      · rcases List.mem_append.1 hb with hb | hb
        · exact i2 b hb
        · obtain rfl : b = UInt8.ofNat (48 + k % 10) := by simpa using hb
          rw [dg_of _ (by omega)]; omega
      · rw [valR_snoc, i3]
        unfold dgV
        rw [dg_of _ (by omega)]; omega
      · cases n with
        | zero => omega
        | succ n =>
          have := i4 n (by rw [Nat.pow_succ] at hn; omega)
          rw [List.length_append]; simpa using this
theorem dec_digs (k : Nat) : digs (Lib.decDigits k) := (dec_ok k).1
theorem dec_val (k : Nat) : valR (Lib.decDigits k) = k := (dec_ok k).2.1
theorem dec_len (k : Nat) (h : k ≤ 1000000000) : (Lib.decDigits k).length ≤ 10 := (dec_ok k).2.2 9 (by omega)
theorem fold_ge : ∀ (l : Str) (a : Nat), a ≤ l.foldl (fun n b => 10 * n + dgV b) a
  | [], a => Nat.le_refl _
  | b :: l, a => by
    have := fold_ge l (10 * a + dgV b)
    rw [List.foldl_cons]; omega
theorem parse_fold : ∀ (l : Str) (a : Nat), (∀ b ∈ l, 48 ≤ b.toNat ∧ b.toNat ≤ 57) → l.foldl (fun n b => 10 * n + dgV b) a ≤ 1000000000 → Lib.parseUintM (2 ^ 64 - 1) a l = .ok (l.foldl (fun n b => 10 * n + dgV b) a)
  | [], a, _, _ => rfl
  | b :: l, a, hd, hv => by
    have hb := hd b (List.mem_cons_self ..)
    rw [List.foldl_cons] at hv ⊢
    have hg := fold_ge l (10 * a + dgV b)
    have e : a * 10 + (b.toNat - 48) = 10 * a + dgV b := by unfold dgV; omega
    rw [Lib.parseUintM, if_pos hb, if_neg (by omega), e, if_neg (by omega)]
    exact parse_fold l _ (fun x hx => hd x (List.mem_cons_of_mem _ hx)) hv
theorem parse_digs {d : Str} (hd : digs d) (hv : valR d ≤ 1000000000) : Lib.parseIntB 64 d = .ok (valR d) := by
  obtain ⟨hn, hd⟩ := hd
  cases d with
  | nil => exact absurd rfl hn
  | cons c r =>
    have hc := hd c (List.mem_cons_self ..)
    unfold Lib.parseIntB
    have h1 : ¬ (c.toNat = 43 ∨ c.toNat = 45) := by omega
    have h2 : ¬ c.toNat = 45 := by omega
    simp only [if_neg h1]
    unfold Lib.parseUintB
    rw [if_neg hn, parse_fold (c :: r) 0 hd hv]
    have h3 : valR (c :: r) < 2 ^ (64 - 1) := by omega
    have h4 : (c :: r).foldl (fun n b => 10 * n + dgV b) 0 = valR (c :: r) := rfl
    simp only [h2, h4]
    simp
    omega
theorem digit_mem {b : UInt8} (h : 48 ≤ b.toNat ∧ b.toNat ≤ 57) : ([48, 49, 50, 51, 52, 53, 54, 55, 56, 57] : Str).contains b = true := by
  have : ∀ n : Fin 10, ([48, 49, 50, 51, 52, 53, 54, 55, 56, 57] : Str).contains (UInt8.ofNat (48 + n.val)) = true := by decide
  have := this ⟨b.toNat - 48, by omega⟩
  simp only [show 48 + (b.toNat - 48) = b.toNat by omega] at this
  simpa using this
theorem drop_all {p : UInt8 → Bool} : ∀ {l : Str}, (∀ b ∈ l, p b = true) → l.dropWhile p = []
  | [], _ => rfl
  | b :: l, h => by rw [List.dropWhile_cons_of_pos (h b (List.mem_cons_self ..))]; exact drop_all fun x hx => h x (List.mem_cons_of_mem _ hx)
theorem trim_digs {d : Str} (hd : digs d) : Lib.trimS d [48, 49, 50, 51, 52, 53, 54, 55, 56, 57] = [] := by
  unfold Lib.trimS Lib.trimRightS Lib.trimLeftS
  rw [drop_all (fun b hb => digit_mem (hd.2 b (List.mem_reverse.1 hb)))]
  rfl
/-- A minus, if it is one. -/
def ng (n : Int) : Str := if n < 0 then [45] else []
theorem itoa_parts (n : Int) : Lib.itoa n = ng n ++ Lib.decDigits n.natAbs := by
  unfold Lib.itoa ng
  split
  · rfl
  · rw [List.nil_append]; congr 1; omega
theorem ng_sg (n : Int) : isSg (ng n) := by unfold ng isSg; split <;> simp
theorem ng_val (n : Int) : sgI (ng n) * (n.natAbs : Int) = n := by unfold ng sgI; split <;> simp <;> omega
/-! ### Paths of tokens by what is left of the text -/
/-- The tokens of what is left. -/
def Tks (r : Str) (l : List Tok) : Prop := ∀ (_ : MaxL) (s : Str) (a : Nat), s.length ≤ 4000 → a ≤ s.length → s.drop a = r → Tk s a l
theorem tks_nil : Tks [] [] := by
  intro _ s a _ ha e
  have : a = s.length := by have := congrArg List.length e; simp at this; omega
  subst this; exact .nil
theorem pk_of {s r : Str} {a : Nat} (e : s.drop a = r) (i : Nat) : pk s (a + i) = pk r i := by rw [← e, ← pk_drop]
theorem numP_of {s r : Str} {a : Nat} (e : s.drop a = r) : numP s a = numP r 0 := by
  have h0 := pk_of e 0
  unfold numP
  simp only [Nat.add_zero, Nat.zero_add] at h0 ⊢
  rw [h0]
  generalize (if pk r 0 = 43 ∨ pk r 0 = 45 then 1 else 0) = n
  rw [pk_of e n]
  generalize (if pk r n = 46 then n + 1 else n) = m
  rw [pk_of e m]
theorem namP_of {s r : Str} {a : Nat} (e : s.drop a = r) : namP s a = namP r 0 := by
  have h0 := pk_of e 0
  have h1 := pk_of e 1
  have h2 := pk_of e 2
  simp only [Nat.add_zero] at h0
  simp only [namP, escP, h0, h1, Nat.add_assoc, h2, Nat.zero_add, Nat.reduceAdd]
theorem tks_S {r : Str} {l : List Tok} (hr : spaceI (pk r 0) = false) (h47 : pk r 0 ≠ 47) (t : Tks r l) : Tks (32 :: r) (⟨13, [], 0, [], false⟩ :: l) := by
  intro _ s a hs ha e
  have e' : s.drop a = [32] ++ r := e
  have e1 := drop_app e'
  have hl := drop_len e' (.inl (by simp))
  simp only [List.length_cons, List.length_nil, Nat.zero_add] at e1 hl
  refine .cons (b := a + 1) ⟨by omega, by omega, by rw [show pk s (a + 1) = pk r 0 by have := pk_of e1 0; simpa using this]; exact h47, fun id h K sc k => ?_⟩ (t inferInstance s (a + 1) hs (by omega) e1)
  exact k_nextS (w := [32]) (r := r) sc rfl (by omega) e' (by simp) (by simp) hr k
theorem tks_N {g d u r : Str} {l : List Tok} {A : Int} (hg : isSg g) (hd : digs d) (hv : valR d ≤ 1000000000) (hA : sgI g * (valR d : Int) = A)
    (h1 : inB (pk (u ++ r) 0) 48 57 = false) (h2 : pk (u ++ r) 0 ≠ 46) (h3 : pk (u ++ r) 0 ≠ 101) (h4 : pk (u ++ r) 0 ≠ 69) (h5 : pk (u ++ r) 0 ≠ 37)
    (hN : namP (u ++ r) 0 = !u.isEmpty) (hw : ∀ b ∈ u, letP (b.toNat : Int) = true) (hr : letP (pk r 0) = false) (hq : pk r 0 ≠ 92) (h47 : pk r 0 ≠ 47) (t : Tks r l) :
    Tks (g ++ (d ++ (u ++ r))) (⟨if u.isEmpty then 10 else 12, [], 1000 * A, u, true⟩ :: l) := by
  intro _ s a hs ha e
  have e' : s.drop a = (g ++ d ++ u) ++ r := by rw [e]; simp
  have hne : g ++ d ++ u ≠ [] := by simp [hd.1]
  have e1 := drop_app e'
  have hl := drop_len e' (.inl hne)
  have hp : 0 < (g ++ d ++ u).length := List.length_pos_iff.2 hne
  have hA2 : sgI g * (1000 * (valR d : Int)) = 1000 * A := by rw [← hA]; ac_rfl
  refine .cons (b := a + (g ++ d ++ u).length) ⟨by omega, by omega, by rw [show pk s (a + (g ++ d ++ u).length) = pk r 0 by have := pk_of e1 0; simpa using this]; exact h47, fun id h K sc k => ?_⟩ (t inferInstance s _ hs (by omega) e1)
  refine k_nextN (g := g) (l := d) (u := u) (r := r) sc rfl (by omega) e hg hd hv h1 h2 h3 h4 h5 hN hw hr hq ?_
  rw [hA2]
  exact k
theorem tks_I {u r : Str} {l : List Tok} (hu : u ≠ []) (hw : ∀ b ∈ u, letP (b.toNat : Int) = true) (hr : letP (pk r 0) = false) (hq : pk r 0 ≠ 92) (hp : pk r 0 ≠ 40) (hnum : numP (u ++ r) 0 = false) (hnam : namP (u ++ r) 0 = true)
    (hp0 : pk (u ++ r) 0 = 45 ∨ pk (u ++ r) 0 = 78 ∨ pk (u ++ r) 0 = 110) (hcd : u.take 2 ≠ [45, 45]) (hr2 : u.length = 1 → pk r 0 ≠ 45) (h47 : pk r 0 ≠ 47) (t : Tks r l) : Tks (u ++ r) (⟨1, u, 0, [], false⟩ :: l) := by
  intro _ s a hs ha e
  have e1 := drop_app e
  have hl := drop_len e (.inl hu)
  have hpu : 0 < u.length := List.length_pos_iff.2 hu
  have e0 : pk s a = pk (u ++ r) 0 := by have := pk_of e 0; simpa using this
  refine .cons (b := a + u.length) ⟨by omega, by omega, by rw [show pk s (a + u.length) = pk r 0 by have := pk_of e1 0; simpa using this]; exact h47, fun id h K sc k => ?_⟩ (t inferInstance s _ hs (by omega) e1)
  exact k_nextI sc rfl (by omega) hu e hw hr hq hp (by rw [numP_of e]; exact hnum) (by rw [namP_of e]; exact hnam) (by rw [e0]; exact hp0) hcd hr2 k
theorem tks_D {c : UInt8} {r : Str} {l : List Tok} (hc : c = 43 ∨ c = 45) (hr : pk r 0 = 32) (t : Tks r l) : Tks (c :: r) (⟨9, [c], 0, [], false⟩ :: l) := by
  intro _ s a hs ha e
  have e' : s.drop a = [c] ++ r := e
  have e1 := drop_app e'
  have hl := drop_len e' (.inl (by simp))
  simp only [List.length_cons, List.length_nil, Nat.zero_add] at e1 hl
  refine .cons (b := a + 1) ⟨by omega, by omega, by rw [show pk s (a + 1) = pk r 0 by have := pk_of e1 0; simpa using this]; omega, fun id h K sc k => ?_⟩ (t inferInstance s (a + 1) hs (by omega) e1)
  exact k_nextD sc rfl (by omega) e hc hr k
/-- What is behind a word: the end, a space, a plus. -/
def Rr (r : Str) : Prop := pk r 0 = -1 ∨ pk r 0 = 32 ∨ pk r 0 = 43
theorem Rr.let' {r : Str} (h : Rr r) : letP (pk r 0) = false := by rcases h with h | h | h <;> rw [h] <;> decide
theorem Rr.nam {r : Str} (h : Rr r) : namP r 0 = false := by
  unfold namP escP
  rcases h with h | h | h <;> rw [h] <;> simp [show firstI (-1) = false by decide, show firstI 32 = false by decide, show firstI 43 = false by decide]
theorem tks_N1 {g d r : Str} {l : List Tok} {A : Int} (hg : isSg g) (hd : digs d) (hv : valR d ≤ 1000000000) (hA : sgI g * (valR d : Int) = A) (hr : Rr r) (t : Tks r l) : Tks (g ++ (d ++ r)) (⟨10, [], 1000 * A, [], true⟩ :: l) := by
  have hp : pk r 0 ≠ 46 ∧ pk r 0 ≠ 101 ∧ pk r 0 ≠ 69 ∧ pk r 0 ≠ 37 ∧ pk r 0 ≠ 92 ∧ pk r 0 ≠ 47 := by rcases hr with h | h | h <;> rw [h] <;> decide
  have hi : inB (pk r 0) 48 57 = false := by rcases hr with h | h | h <;> rw [h] <;> decide
  exact tks_N (u := []) hg hd hv hA hi hp.1 hp.2.1 hp.2.2.1 hp.2.2.2.1 (by rw [List.nil_append, hr.nam]; rfl) (by simp) hr.let' hp.2.2.2.2.1 hp.2.2.2.2.2 t
theorem let_n {c : UInt8} (hc : c = 78 ∨ c = 110) : letP (c.toNat : Int) = true ∧ firstI (c.toNat : Int) = true ∧ inB (c.toNat : Int) 48 57 = false := by rcases hc with rfl | rfl <;> decide
theorem tks_N2 {g d u r : Str} {c : UInt8} {l : List Tok} {A : Int} (hg : isSg g) (hd : digs d) (hv : valR d ≤ 1000000000) (hA : sgI g * (valR d : Int) = A) (hc : c = 78 ∨ c = 110) (hu : ∀ b ∈ u, letP (b.toNat : Int) = true) (hr : Rr r) (t : Tks r l) :
    Tks (g ++ (d ++ (c :: u ++ r))) (⟨12, [], 1000 * A, c :: u, true⟩ :: l) := by
  have hp : pk r 0 ≠ 92 ∧ pk r 0 ≠ 47 := by rcases hr with h | h | h <;> rw [h] <;> decide
  have h0 : pk (c :: u ++ r) 0 = (c.toNat : Int) := rfl
  have hcn : (c.toNat : Int) = 78 ∨ (c.toNat : Int) = 110 := by rcases hc with rfl | rfl <;> decide
  have hl := let_n hc
  refine tks_N (u := c :: u) hg hd hv hA (by rw [h0]; exact hl.2.2) (by rw [h0]; omega) (by rw [h0]; omega) (by rw [h0]; omega) (by rw [h0]; omega) ?_ (fun b hb => ?_) hr.let' hp.1 hp.2 t
  · unfold namP
    rw [h0, if_neg (by omega), hl.2.1]; rfl
  · rcases List.mem_cons.1 hb with rfl | hb
    · exact hl.1
    · exact hu b hb
/-- A name: the letter, with a minus ahead or none. -/
theorem tks_I2 {m u r : Str} {c : UInt8} {l : List Tok} (hm : m = [] ∨ m = [45]) (hc : c = 78 ∨ c = 110) (hu : ∀ b ∈ u, letP (b.toNat : Int) = true) (hr : Rr r) (t : Tks r l) : Tks (m ++ c :: u ++ r) (⟨1, m ++ c :: u, 0, [], false⟩ :: l) := by
  have hp : pk r 0 ≠ 92 ∧ pk r 0 ≠ 47 ∧ pk r 0 ≠ 40 ∧ pk r 0 ≠ 45 := by rcases hr with h | h | h <;> rw [h] <;> decide
  have hcn : (c.toNat : Int) = 78 ∨ (c.toNat : Int) = 110 := by rcases hc with rfl | rfl <;> decide
  have hl := let_n hc
  have hw : ∀ b ∈ c :: u, letP (b.toNat : Int) = true := fun b hb => by
    rcases List.mem_cons.1 hb with rfl | hb
    · exact hl.1
    · exact hu b hb
  rcases hm with rfl | rfl
  · have h0 : pk (([] : Str) ++ c :: u ++ r) 0 = (c.toNat : Int) := rfl
    refine tks_I (u := [] ++ c :: u) (by simp) hw hr.let' hp.1 hp.2.2.1 ?_ ?_ (by rw [h0]; omega) ?_ (fun _ => hp.2.2.2) hp.2.1 t
    · unfold numP
      have q : ¬ ((c.toNat : Int) = 43 ∨ (c.toNat : Int) = 45) := by omega
      have q2 : ¬ (c.toNat : Int) = 46 := by omega
      simp only [h0, if_neg q, Nat.add_zero, if_neg q2]
      exact hl.2.2
    · unfold namP
      rw [h0, if_neg (by omega), hl.2.1]; rfl
    · intro q
      have : c = 45 := by simp at q; exact q.1
      rw [this] at hcn; simp at hcn
  · have h0 : pk (([45] : Str) ++ c :: u ++ r) 0 = 45 := rfl
    have h1 : pk (([45] : Str) ++ c :: u ++ r) 1 = (c.toNat : Int) := rfl
    refine tks_I (u := [45] ++ c :: u) (by simp) (fun b hb => ?_) hr.let' hp.1 hp.2.2.1 ?_ ?_ (by rw [h0]; omega) ?_ (fun _ => hp.2.2.2) hp.2.1 t
    · rcases List.mem_cons.1 hb with rfl | hb
      · decide
      · exact hw b hb
    · unfold numP
      have q2 : ¬ (c.toNat : Int) = 46 := by omega
      have q3 : (if pk (([45] : Str) ++ c :: u ++ r) 0 = 43 ∨ pk (([45] : Str) ++ c :: u ++ r) 0 = 45 then 1 else 0) = 1 := if_pos (.inr h0)
      simp only [q3, Nat.zero_add, h1, if_neg q2]
      exact hl.2.2
    · unfold namP
      rw [h0, if_pos rfl, h1, hl.2.1]; rfl
    · intro q
      have : c = 45 := by simp at q; exact q
      rw [this] at hcn; simp at hcn
end Go.Proofs.YtfijncpmhnnpiaaGreatDoor
end

section
namespace Go.Proofs.YtfijncpmhnnpiaaGreatDoor
open Go Go.Aw Go.RowKit
set_option maxRecDepth 100000
abbrev spT : Tok := ⟨13, [], 0, [], false⟩
theorem okI_is {n : Int} (h : okI n = true) : -1000000000 ≤ n ∧ n ≤ 1000000000 := by simpa [okI] using h
/-! ### Bytes of such texts -/
def cls (b : UInt8) : Prop := b = 32 ∨ b = 43 ∨ b = 45 ∨ (48 ≤ b.toNat ∧ b.toNat ≤ 57) ∨ b = 78 ∨ b = 110
def clsL (l : Str) : Prop := ∀ b ∈ l, cls b
theorem cls_ok {b : UInt8} (h : cls b) : okB b = true := by
  have key : ∀ n : Nat, n ≠ 0 → n ≠ 12 → n ≠ 13 → (match n with | 0 => false | 12 => false | 13 => false | _ => true) = true := by
    intro n h1 h2 h3
    split <;> first | rfl | contradiction
  unfold okB
  rcases h with rfl | rfl | rfl | h | rfl | rfl
  · rfl
  · rfl
  · rfl
  · exact key _ (by omega) (by omega) (by omega)
  · rfl
  · rfl
theorem clsL.nil : clsL [] := fun _ h => by cases h
theorem clsL.cons {b : UInt8} {l : Str} (h : cls b) (k : clsL l) : clsL (b :: l) := fun x hx => by
  rcases List.mem_cons.1 hx with rfl | hx
  · exact h
  · exact k x hx
theorem clsL.app {a b : Str} (h : clsL a) (k : clsL b) : clsL (a ++ b) := fun x hx => (List.mem_append.1 hx).elim (h x) (k x)
theorem cls_dec (k : Nat) : clsL (Lib.decDigits k) := fun b hb => .inr (.inr (.inr (.inl ((dec_digs k).2 b hb))))
theorem cls_ng (n : Int) : clsL (ng n) := by
  unfold ng
  split
  · exact .cons (.inr (.inr (.inl rfl))) .nil
  · exact .nil
theorem cls_pk {r : Str} (h : clsL r) : pk r 0 ≠ 47 := by
  cases r with
  | nil => simp [pk]
  | cons b r =>
    have hb := h b (List.mem_cons_self ..)
    have e : pk (b :: r) 0 = (b.toNat : Int) := rfl
    rw [e]
    rcases hb with rfl | rfl | rfl | hb | rfl | rfl <;> first | decide | omega
theorem dec_let (k : Nat) : ∀ b ∈ Lib.decDigits k, letP (b.toNat : Int) = true := fun b hb => by
  unfold letP
  rw [(dec_digs k).inB b hb]; simp
theorem dec_low (k : Nat) : (Lib.decDigits k).map lowB = Lib.decDigits k := by
  have : ∀ l : Str, (∀ b ∈ l, 48 ≤ b.toNat ∧ b.toNat ≤ 57) → l.map lowB = l := by
    intro l
    induction l with
    | nil => intro _; rfl
    | cons b l ih =>
      intro h
      have hb := h b (List.mem_cons_self ..)
      rw [List.map_cons, ih fun x hx => h x (List.mem_cons_of_mem _ hx), low_id b (by omega)]
  exact this _ (dec_digs k).2
/-! ### What is behind the letter -/
def tailN (B : Int) : Str := if 0 < B then 43 :: Lib.decDigits B.natAbs else if B < 0 then 45 :: Lib.decDigits B.natAbs else []
def tailW (B : Int) : Str := if 0 < B then [32, 43, 32] ++ Lib.decDigits B.natAbs else if B < 0 then [32, 45, 32] ++ Lib.decDigits B.natAbs else []
theorem nat_le {B : Int} (hB : okI B = true) : B.natAbs ≤ 1000000000 := by have := okI_is hB; omega
/-- How the rest is read. -/
structure Tl (t : Str) (B : Int) where
  u : Str
  r : Str
  l : List Tok
  sq : List Tok
  e : t = u ++ r
  hu : ∀ b ∈ u, letP (b.toNat : Int) = true
  hul : u.length ≤ 20
  low : u.map lowB = u
  rr : Rr r
  tk : Tks r l
  hl : l.length ≤ 6
  bh : Bh u l B sq
  hs : ∀ t ∈ sq, t.k = 13
  hsl : sq.length ≤ 3
theorem tl_n {B : Int} (hB : okI B = true) : Nonempty (Tl (tailN B) B) := by
  have hb := okI_is hB
  have hn := nat_le hB
  unfold tailN
  by_cases h1 : 0 < B
  · rw [if_pos h1]
    refine ⟨⟨[], 43 :: Lib.decDigits B.natAbs, [⟨10, [], 1000 * B, [], true⟩], [], rfl, by simp, by simp, rfl, .inr (.inr rfl), ?_, by simp, bh_num (by omega) (by simp), by simp, by simp⟩⟩
    have t := tks_N1 (g := [43]) (d := Lib.decDigits B.natAbs) (r := []) (A := B) (.inr (.inl rfl)) (dec_digs _) (by rw [dec_val]; exact hn) (by rw [dec_val]; simp [sgI]; omega) (.inl rfl) tks_nil
    rwa [List.append_nil] at t
  · rw [if_neg h1]
    by_cases h2 : B < 0
    · rw [if_pos h2]
      refine ⟨⟨45 :: Lib.decDigits B.natAbs, [], [], [], by simp, fun b hb => ?_, by have := dec_len _ hn; simp; omega, by rw [List.map_cons, dec_low]; rfl, .inl rfl, tks_nil, by simp, ?_, by simp, by simp⟩⟩
      · rcases List.mem_cons.1 hb with rfl | hb
        · decide
        · exact dec_let _ b hb
      · have hv : valR (Lib.decDigits B.natAbs) ≤ 1000000000 := by rw [dec_val]; exact hn
        have := bh_dig (l := []) (dec_digs B.natAbs) (by have := dec_len _ hn; omega) hv (parse_digs (dec_digs _) hv) (trim_digs (dec_digs _))
        rw [dec_val] at this
        have e : -((B.natAbs : Nat) : Int) = B := by omega
        rwa [e] at this
    · rw [if_neg h2]
      obtain rfl : B = 0 := by omega
      exact ⟨⟨[], [], [], [], rfl, by simp, by simp, rfl, .inl rfl, tks_nil, by simp, bh_none (sp := []) (by simp) (by simp), by simp, by simp⟩⟩
theorem tl_w {B : Int} (hB : okI B = true) : Nonempty (Tl (tailW B ++ [32]) B) := by
  have hb := okI_is hB
  have hn := nat_le hB
  have t0 : Tks [32] [spT] := tks_S (by decide) (by decide) tks_nil
  have h32 : Rr [32] := .inr (.inl rfl)
  have sgn : ∀ c : UInt8, c = 43 ∨ c = 45 → Tks ([32, c, 32] ++ Lib.decDigits B.natAbs ++ [32]) [spT, ⟨9, [c], 0, [], false⟩, spT, ⟨10, [], 1000 * (B.natAbs : Int), [], true⟩, spT] := by
    intro c hc
    have t1 := tks_N1 (g := []) (d := Lib.decDigits B.natAbs) (r := [32]) (A := (B.natAbs : Int)) (.inl rfl) (dec_digs _) (by rw [dec_val]; exact hn) (by rw [dec_val]; simp [sgI]) h32 t0
    have hh := (dec_digs B.natAbs).head [32]
    have t2 := tks_S (r := [] ++ (Lib.decDigits B.natAbs ++ [32])) (by rw [List.nil_append]; unfold spaceI; simp; omega) (by rw [List.nil_append]; omega) t1
    have t3 := tks_D hc rfl t2
    refine tks_S ?_ ?_ t3
    · rcases hc with rfl | rfl
      · exact (by decide : spaceI 43 = false)
      · exact (by decide : spaceI 45 = false)
    · rcases hc with rfl | rfl
      · exact (by decide : (43 : Int) ≠ 47)
      · exact (by decide : (45 : Int) ≠ 47)
  have sp1 : ∀ t ∈ [spT], t.k = 13 := by simp
  unfold tailW
  by_cases h1 : 0 < B
  · rw [if_pos h1]
    refine ⟨⟨[], _, _, [spT], rfl, by simp, by simp, rfl, .inr (.inl rfl), sgn 43 (.inl rfl), by simp, ?_, sp1, by simp⟩⟩
    have := bh_sign (c := 43) (n := 0) (u := []) (w := []) (v := []) (f := false) (B := (B.natAbs : Int)) (sp := [spT]) (sq := [spT]) (l := [spT]) sp1 sp1 (.inl rfl) (by omega) (by simp)
    have e : (if (43 : UInt8) = 43 then (1 : Int) else -1) * (B.natAbs : Int) = B := by simp; omega
    rwa [e] at this
  · rw [if_neg h1]
    by_cases h2 : B < 0
    · rw [if_pos h2]
      refine ⟨⟨[], _, _, [spT], rfl, by simp, by simp, rfl, .inr (.inl rfl), sgn 45 (.inr rfl), by simp, ?_, sp1, by simp⟩⟩
      have := bh_sign (c := 45) (n := 0) (u := []) (w := []) (v := []) (f := false) (B := (B.natAbs : Int)) (sp := [spT]) (sq := [spT]) (l := [spT]) sp1 sp1 (.inr rfl) (by omega) (by simp)
      have e : (if (45 : UInt8) = 43 then (1 : Int) else -1) * (B.natAbs : Int) = B := by simp; omega
      rwa [e] at this
    · rw [if_neg h2]
      obtain rfl : B = 0 := by omega
      exact ⟨⟨[], [32], [spT], [], rfl, by simp, by simp, rfl, h32, t0, by simp, bh_none sp1 (by simp), by simp, by simp⟩⟩
/-! ### Whole texts -/
def preA (A : Int) : Str := if A = 1 then [] else if A = -1 then [45] else Lib.itoa A
/-- A text that is read as a progression. -/
structure Txt (t : Str) (A B : Int) where
  sp : List Tok
  l : List Tok
  sq : List Tok
  tk : Tks t (sp ++ l)
  hs : ∀ t ∈ sp, t.k = 13
  hq : ∀ t ∈ sq, t.k = 13
  hl : noK 13 l
  ne : l ≠ []
  hn : sp.length ≤ 3 ∧ l.length ≤ 10 ∧ sq.length ≤ 3
  rd : Rdd l A B sq
theorem head_ok {A B : Int} {t : Str} {c : UInt8} (hA : okI A = true) (h0 : A ≠ 0) (hc : c = 78 ∨ c = 110) (q : Tl t B) : ∃ q : Txt (preA A ++ [c] ++ t) A B, q.sp = [] := by
  obtain ⟨u, r, l, sq, rfl, hu, hul, low, rr, tk, hl, bh, hs, hsl⟩ := q
  have ha := okI_is hA
  have hlc : lowB c = 110 := by rcases hc with rfl | rfl <;> decide
  have hu2 : (c :: u).map lowB = 110 :: u := by rw [List.map_cons, hlc, low]
  unfold preA
  by_cases h1 : A = 1
  · rw [if_pos h1]
    refine ⟨⟨[], ⟨1, [] ++ c :: u, 0, [], false⟩ :: l, sq, ?_, by simp, hs, (by decide : (1 : Int) ≠ 13), by simp, by simp; omega, rdd_ident (.inl ⟨h1, hu2⟩) (by simp; omega) (by omega) bh⟩, rfl⟩
    have := tks_I2 (m := []) (.inl rfl) hc hu rr tk
    simpa using this
  · rw [if_neg h1]
    by_cases h2 : A = -1
    · rw [if_pos h2]
      refine ⟨⟨[], ⟨1, [45] ++ c :: u, 0, [], false⟩ :: l, sq, ?_, by simp, hs, (by decide : (1 : Int) ≠ 13), by simp, by simp; omega, rdd_ident (.inr ⟨h2, by rw [List.map_append, hu2]; rfl⟩) (by simp; omega) (by omega) bh⟩, rfl⟩
      have := tks_I2 (m := [45]) (.inr rfl) hc hu rr tk
      simpa using this
    · rw [if_neg h2, itoa_parts]
      refine ⟨⟨[], ⟨12, [], 1000 * A, c :: u, true⟩ :: l, sq, ?_, by simp, hs, (by decide : (12 : Int) ≠ 13), by simp, by simp; omega, rdd_dim (by omega) hu2 (by simp; omega) (by omega) bh⟩, rfl⟩
      have := tks_N2 (g := ng A) (d := Lib.decDigits A.natAbs) (A := A) (ng_sg A) (dec_digs _) (by rw [dec_val]; exact nat_le hA) (by rw [dec_val]; exact ng_val A) hc hu rr tk
      simpa using this
theorem whole_ok {B : Int} {r : Str} {sq : List Tok} (hB : okI B = true) (rr : Rr r) (tk : Tks r sq) (hq : ∀ t ∈ sq, t.k = 13) (hn : sq.length ≤ 3) : ∃ q : Txt (Lib.itoa B ++ r) 0 B, q.sp = [] := by
  have hb := okI_is hB
  rw [itoa_parts]
  refine ⟨⟨[], ⟨10, [], 1000 * B, [], true⟩ :: sq, sq, ?_, by simp, hq, (by decide : (10 : Int) ≠ 13), by simp, by simp; omega, rdd_whole (by omega) (by omega)⟩, rfl⟩
  have := tks_N1 (g := ng B) (d := Lib.decDigits B.natAbs) (A := B) (ng_sg B) (dec_digs _) (by rw [dec_val]; exact nat_le hB) (by rw [dec_val]; exact ng_val B) rr tk
  simpa using this
/-- A space ahead. -/
theorem Txt.space {t : Str} {A B : Int} (q : Txt t A B) (h1 : spaceI (pk t 0) = false) (h2 : pk t 0 ≠ 47) (h3 : q.sp = []) : Nonempty (Txt (32 :: t) A B) := by
  obtain ⟨sp, l, sq, tk, hs, hq, hl, ne, hn, rd⟩ := q
  obtain rfl : sp = [] := h3
  exact ⟨⟨[spT], l, sq, tks_S h1 h2 tk, by simp, hq, hl, ne, by simp; omega, rd⟩⟩
def anbT (A B : Int) : Str := if A = 0 then Lib.itoa B else preA A ++ [110] ++ tailN B
def wideT (A B : Int) : Str := 32 :: ((if A = 0 then Lib.itoa B else preA A ++ [78] ++ tailW B) ++ [32])
end Go.Proofs.YtfijncpmhnnpiaaGreatDoor
end

section
namespace Go.Proofs.YtfijncpmhnnpiaaGreatDoor
open Go Go.Aw Go.RowKit
set_option maxRecDepth 100000
theorem itoa_cls (n : Int) : clsL (Lib.itoa n) := by rw [itoa_parts]; exact (cls_ng n).app (cls_dec _)
theorem itoa_len {n : Int} (h : okI n = true) : (Lib.itoa n).length ≤ 11 := by
  rw [itoa_parts, List.length_append]
  have := dec_len _ (nat_le h)
  have : (ng n).length ≤ 1 := by unfold ng; split <;> simp
  omega
theorem preA_cls (A : Int) : clsL (preA A) := by
  unfold preA
  split
  · exact .nil
  · split
    · exact .cons (.inr (.inr (.inl rfl))) .nil
    · exact itoa_cls A
theorem preA_len {A : Int} (h : okI A = true) : (preA A).length ≤ 11 := by
  unfold preA
  split
  · simp
  · split
    · simp
    · exact itoa_len h
theorem tailN_cls (B : Int) : clsL (tailN B) := by
  unfold tailN
  split
  · exact .cons (.inr (.inl rfl)) (cls_dec _)
  · split
    · exact .cons (.inr (.inr (.inl rfl))) (cls_dec _)
    · exact .nil
theorem tailN_len {B : Int} (h : okI B = true) : (tailN B).length ≤ 11 := by
  have := dec_len _ (nat_le h)
  unfold tailN
  split
  · simp; omega
  · split
    · simp; omega
    · simp
theorem tailW_cls (B : Int) : clsL (tailW B) := by
  unfold tailW
  split
  · exact .app (.cons (.inl rfl) (.cons (.inr (.inl rfl)) (.cons (.inl rfl) .nil))) (cls_dec _)
  · split
    · exact .app (.cons (.inl rfl) (.cons (.inr (.inr (.inl rfl))) (.cons (.inl rfl) .nil))) (cls_dec _)
    · exact .nil
theorem tailW_len {B : Int} (h : okI B = true) : (tailW B).length ≤ 13 := by
  have := dec_len _ (nat_le h)
  unfold tailW
  split
  · simp; omega
  · split
    · simp; omega
    · simp
theorem anbT_cls (A B : Int) : clsL (anbT A B) := by
  unfold anbT
  split
  · exact itoa_cls B
  · exact .app (.app (preA_cls A) (.cons (.inr (.inr (.inr (.inr (.inr rfl))))) .nil)) (tailN_cls B)
theorem anbT_len {A B : Int} (hA : okI A = true) (hB : okI B = true) : (anbT A B).length ≤ 40 := by
  have := itoa_len hB
  have := preA_len hA
  have := tailN_len hB
  unfold anbT
  split
  · omega
  · simp; omega
theorem wideT_cls (A B : Int) : clsL (wideT A B) := by
  unfold wideT
  refine .cons (.inl rfl) (.app ?_ (.cons (.inl rfl) .nil))
  split
  · exact itoa_cls B
  · exact .app (.app (preA_cls A) (.cons (.inr (.inr (.inr (.inr (.inl rfl))))) .nil)) (tailW_cls B)
theorem wideT_len {A B : Int} (hA : okI A = true) (hB : okI B = true) : (wideT A B).length ≤ 40 := by
  have := itoa_len hB
  have := preA_len hA
  have := tailW_len hB
  unfold wideT
  split
  · simp; omega
  · simp; omega
theorem anbT_txt {A B : Int} (hA : okI A = true) (hB : okI B = true) : Nonempty (Txt (anbT A B) A B) := by
  unfold anbT
  by_cases h0 : A = 0
  · rw [if_pos h0]
    subst h0
    obtain ⟨q, _⟩ := whole_ok (r := []) (sq := []) hB (.inl rfl) tks_nil (by simp) (by simp)
    have : Nonempty (Txt (Lib.itoa B ++ []) 0 B) := ⟨q⟩
    rwa [List.append_nil] at this
  · rw [if_neg h0]
    obtain ⟨q⟩ := tl_n hB
    obtain ⟨q, _⟩ := head_ok hA h0 (.inr rfl) q
    exact ⟨q⟩
/-- The head of a text: no space. -/
theorem pk_head {t : Str} (h : clsL t) (hn : t ≠ []) (h2 : t.head? ≠ some 32) : spaceI (pk t 0) = false := by
  cases t with
  | nil => exact absurd rfl hn
  | cons b t =>
    have hb := h b (List.mem_cons_self ..)
    have e : pk (b :: t) 0 = (b.toNat : Int) := rfl
    rw [e]
    rcases hb with rfl | rfl | rfl | hb | rfl | rfl
    · exact absurd rfl h2
    · decide
    · decide
    · unfold spaceI; simp; omega
    · decide
    · decide
theorem dec_cons (k : Nat) : ∃ b l, Lib.decDigits k = b :: l ∧ 48 ≤ b.toNat ∧ b.toNat ≤ 57 := by
  have h := dec_digs k
  cases hd : Lib.decDigits k with
  | nil => exact absurd hd h.1
  | cons b l => exact ⟨b, l, rfl, h.2 b (by rw [hd]; exact List.mem_cons_self ..)⟩
theorem itoa_head (n : Int) : ∃ b l, Lib.itoa n = b :: l ∧ b ≠ 32 ∧ b ≠ 110 := by
  rw [itoa_parts]
  unfold ng
  split
  · exact ⟨45, _, rfl, by decide, by decide⟩
  · obtain ⟨b, l, e, h1, h2⟩ := dec_cons n.natAbs
    exact ⟨b, l, by rw [e]; rfl, fun q => by subst q; simp at h1, fun q => by subst q; simp at h2⟩
theorem wideT_txt {A B : Int} (hA : okI A = true) (hB : okI B = true) : Nonempty (Txt (wideT A B) A B) := by
  have t0 : Tks [32] [spT] := tks_S (by decide) (by decide) tks_nil
  have hc := wideT_cls A B
  unfold wideT at hc ⊢
  have hc2 : clsL ((if A = 0 then Lib.itoa B else preA A ++ [78] ++ tailW B) ++ [32]) := fun x hx => hc x (List.mem_cons_of_mem _ hx)
  by_cases h0 : A = 0
  · rw [if_pos h0] at hc2 ⊢
    obtain ⟨b, l, e, hb, _⟩ := itoa_head B
    subst h0
    obtain ⟨q, hq⟩ := whole_ok (r := [32]) (sq := [spT]) hB (.inr (.inl rfl)) t0 (by simp) (by simp)
    exact q.space (pk_head hc2 (by simp) (by rw [e]; simp [hb])) (cls_pk hc2) hq
  · rw [if_neg h0] at hc2 ⊢
    obtain ⟨q⟩ := tl_w hB
    have q2 := head_ok hA h0 (.inl rfl) q
    have hh : ((preA A ++ [78] ++ tailW B ++ [32]) : Str).head? ≠ some 32 := by
      unfold preA
      split
      · simp
      · split
        · simp
        · obtain ⟨b, l, e, hb, _⟩ := itoa_head A
          rw [e]; simp [hb]
    have h1 := pk_head hc2 (by simp) hh
    have e : preA A ++ [78] ++ (tailW B ++ [32]) = preA A ++ [78] ++ tailW B ++ [32] := by simp
    rw [e] at q2
    obtain ⟨q2, hsp⟩ := q2
    exact q2.space h1 (cls_pk hc2) hsp
/-! ### Reading -/
variable [MaxL]
theorem txt_read {t : Str} {A B : Int} (q : Txt t A B) (hc : clsL t) (hl : t.length ≤ 100) (hA : okI A = true) (hB : okI B = true) :
    ∃ l : List Tok, Con Tryz.prog 8 [.str t] (.tup [.sl 5 (rowsT l), int 0]) ∧ Con Tryz.prog 9 [.sl 5 (rowsT l)] (.tup [.agg [int A, int B], int 0]) := by
  obtain ⟨sp, l, sq, tk, hs, hq, hl13, ne, hn, rd⟩ := q
  refine ⟨sp ++ l, con_Tokens (fun x hx => cls_ok (hc x hx)) (by omega) (tk inferInstance t 0 (by omega) (Nat.zero_le _) rfl) (cls_pk hc) (by rw [List.length_append]; omega) (by simp [ne]), con_Of hs hq hl13 (by omega) rd hA hB⟩
theorem con_Read {t : Str} {A B : Int} (q : Txt t A B) (hc : clsL t) (hl : t.length ≤ 100) (hA : okI A = true) (hB : okI B = true) : Con Tryz.prog 7 [.str t] (.tup [.agg [int A, int B], int 0]) := by
  obtain ⟨l, c1, c2⟩ := txt_read q hc hl hA hB
  refine (V7 _).gives (by simp) (by simp [PureL]) ?_
  unfold W7
  refine n_new (cs := [int 0, int 0]) (n := 0) (h' := [anC 0 0]) rfl (by simp [scal]) rfl rfl ?_
  refine iCall_con (by kernel_rfl) c1 ?_
  refine w_extr rfl rfl ?_
  refine w_extr rfl rfl ?_
  refine a_neq rfl rfl ?_
  refine a_cond0 rfl rfl ?_
  refine iCall_con (by kernel_rfl) c2 ?_
  refine w_extr rfl rfl ?_
  refine w_extr rfl rfl ?_
  refine k_ret2 (A := A) (B := B) (K := fun r9 g8 => Gives (.tup [.agg [int A, int B], int 0]) (.tup [r9, int 0]) g8) (A0 := 0) (B0 := 0) rfl ?_
  exact .pure (by simp [PureL]) rfl
end Go.Proofs.YtfijncpmhnnpiaaGreatDoor
end
