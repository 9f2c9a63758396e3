/-
  A scanner in the call's own memory: what its small functions come to. Words and figures, read by a scanner. Library functions on texts, as contracts; the value of a number. The value of a number: a sign and digits.
  No conditions.
-/
import Derived.Test.YtfijncpmhnnpiaaGreatDoorWTk
import Derived.Test.YtfijncpmhnnpiaaGreatDoorC1
import Derived.Test.YtfijncpmhnnpiaaGreatDoorL5
import Derived.Test.YtfijncpmhnnpiaaGreatDoorShelfB
import Derived.Test.YtfijncpmhnnpiaaGreatDoorCfg
import Derived.Lib.AtoiAll
import Derived.Lib.AtoiErrMem
set_option linter.unusedVariables false
set_option linter.unusedSimpArgs false
section
namespace Go.Proofs.YtfijncpmhnnpiaaGreatDoor
open Go Go.Aw Go.RowKit
set_option maxRecDepth 100000
abbrev Str := List UInt8
/-- The byte at a place, or -1. -/
def pk (s : Str) (i : Nat) : Int := match s[i]? with | some b => (b.toNat : Int) | none => -1
abbrev scB (s : Str) (a : Nat) : Ent := .blk ⟨57, [.str s, int a], true⟩
/-- A scanner. -/
def Sc (id : Nat) (h : Heap) (s : Str) (a : Nat) : Prop := h[id]? = some (scB s a)
theorem pk_some {s : Str} {i : Nat} {b : UInt8} (h : s[i]? = some b) : pk s i = (b.toNat : Int) := by unfold pk; rw [h]
theorem pk_none {s : Str} {i : Nat} (h : s.length ≤ i) : pk s i = -1 := by unfold pk; rw [List.getElem?_eq_none h]
theorem pk_lt (s : Str) (i : Nat) : pk s i < 256 := by
  unfold pk
  split
  · rename_i b _; have := b.toNat_lt; omega
  · omega
theorem pk_ge (s : Str) (i : Nat) : -1 ≤ pk s i := by
  unfold pk
  split <;> omega
theorem Sc.lt {id : Nat} {h : Heap} {s : Str} {a : Nat} (sc : Sc id h s a) : id < h.length := (List.getElem?_eq_some_iff.1 sc).1
theorem Sc.set {id : Nat} {h : Heap} {s : Str} {a : Nat} (sc : Sc id h s a) (b : Nat) : Sc id (h.set id (scB s b)) s b := List.getElem?_set_self sc.lt
theorem Sc.app {id : Nat} {h : Heap} {s : Str} {a : Nat} (sc : Sc id h s a) (j : Heap) : Sc id (h ++ j) s a := by
  unfold Sc; rw [List.getElem?_append_left sc.lt]; exact sc
/-- The scanner has gone on; behind the heap lies what is let go. -/
def Mv (id : Nat) (s : Str) (a : Nat) (h h' : Heap) : Prop := ∃ j, h' = h.set id (scB s a) ++ j
theorem Mv.len {id a : Nat} {s : Str} {h h' : Heap} (g : Mv id s a h h') : h.length ≤ h'.length := by obtain ⟨j, rfl⟩ := g; simp
theorem Mv.sc {id a a0 : Nat} {s : Str} {h h' : Heap} (sc : Sc id h s a0) (g : Mv id s a h h') : Sc id h' s a := by
  obtain ⟨j, rfl⟩ := g
  exact (sc.set a).app j
theorem Mv.trans {id a b : Nat} {s : Str} {h h' h'' : Heap} (hl : id < h.length) (x : Mv id s a h h') (y : Mv id s b h' h'') : Mv id s b h h'' := by
  obtain ⟨j, rfl⟩ := x
  obtain ⟨k, rfl⟩ := y
  exact ⟨j ++ k, by rw [List.set_append_left _ _ (by simpa using hl), List.set_set, List.append_assoc]⟩
theorem Mv.other {id a : Nat} {s : Str} {h h' : Heap} (g : Mv id s a h h') {i : Nat} (hi : i < h.length) (hne : i ≠ id) : h'[i]? = h[i]? := by
  obtain ⟨j, rfl⟩ := g
  rw [List.getElem?_append_left (by simpa using hi), List.getElem?_set_ne (Ne.symm hne)]
theorem Mv.set (id : Nat) (s : Str) (a : Nat) (h : Heap) : Mv id s a h (h.set id (scB s a)) := ⟨[], by simp⟩
theorem Mv.tail {id a : Nat} {s : Str} {h h' : Heap} (g : Mv id s a h h') (k : Heap) : Mv id s a h (h' ++ k) := by
  obtain ⟨j, rfl⟩ := g
  exact ⟨j ++ k, by rw [List.append_assoc]⟩
theorem Mv.refl {id a : Nat} {s : Str} {h : Heap} (sc : Sc id h s a) : Mv id s a h h := ⟨[], by rw [set_same sc]; simp⟩
theorem a_lenSQ {x : AV} {l : Str} {K : AV → Prop} (e : x = .str l) (q : K (int l.length)) : iLenSQ x K := by subst e; exact q
theorem a_conv {k k' : IntKind} {x : AV} {n m : Int} {K : AV → Prop} (e : x = .v (.int k' n)) (hm : k.wrap n = m) (q : K (.v (.int k m))) : iConv k x K := by subst hm; exact ⟨k', n, e, q⟩
theorem wrap_byte (b : UInt8) : IntKind.i64.wrap (b.toNat : Int) = (b.toNat : Int) := by rw [IntKind.wrap_i64]; have := b.toNat_lt; omega
variable [Laid]
theorem a_acall {P : Program} {f : FuncId} {args args' : List AV} {h : Heap} {K0 K : AV → Heap → Prop} (hb : hasBody P f = true) (e : args = args') (c : ACall P f args' h K0) (k : ∀ r h', K0 r h' → K r h') : iCall P (.fn (.func f) [] []) args h K := by
  subst e
  exact ⟨hb, by simpa using c.mono k⟩
theorem acc_peek {id : Nat} {h : Heap} {s : Str} {a : Nat} (sc : Sc id h s a) (n : Nat) (hn : a + n ≤ 2 ^ 40) : ACall Tryz.prog 41 [.op id 0, int n] h fun r h' => r = int (pk s (a + n)) ∧ h' = h := by
  refine (V41 _ _).acall ?_
  unfold W41
  have hin : inI ((a : Int) + (n : Int)) := by unfold inI; omega
  rw [iNilF_o]
  refine w_fad rfl ?_
  refine w_load rfl sc rfl ?_
  refine w_add rfl rfl hin ?_
  rw [iNilF_o]
  refine w_fad rfl ?_
  refine w_load rfl sc rfl ?_
  refine a_lenSQ rfl ?_
  refine a_lss rfl rfl ?_
  refine a_cond rfl (fun q => ?_) fun q => ?_
  · have q : a + n < s.length := by have := of_decide_eq_true q; omega
    rw [iNilF_o]
    refine w_fad rfl ?_
    refine w_load rfl sc rfl ?_
    rw [iNilF_o]
    refine w_fad rfl ?_
    refine w_load rfl sc rfl ?_
    refine w_add rfl rfl hin ?_
    refine a_idxS (n := a + n) rfl (by simp) (List.getElem?_eq_getElem q) ?_
    refine a_conv rfl (wrap_byte _) ?_
    exact ⟨_, _, Wk.refl _ _ _ (Nat.le_refl _), by rw [pk_some (List.getElem?_eq_getElem q)], rfl⟩
  · have q : s.length ≤ a + n := by have := of_decide_eq_false q; omega
    exact ⟨_, _, Wk.refl _ _ _ (Nat.le_refl _), by rw [pk_none q], rfl⟩
theorem k_peek {id : Nat} {h : Heap} {s : Str} {a : Nat} {x : AV} {m : Int} {K : AV → Heap → Prop} (n : Nat) (sc : Sc id h s a) (ex : x = .op id 0) (hm : m = (n : Int)) (hn : a + n ≤ 2 ^ 40) (k : K (int (pk s (a + n))) h) : iCall Tryz.prog (.fn (.func 41) [] []) [x, int m] h K := by
  subst ex; subst hm
  refine a_acall (by kernel_rfl) rfl (acc_peek sc n hn) ?_
  rintro _ _ ⟨rfl, rfl⟩
  exact k
/-- An escape is here. -/
def escP (s : Str) (i : Nat) : Bool := decide (pk s i = 92) && !decide (pk s (i + 1) = 10)
theorem k_esc {id : Nat} {h : Heap} {s : Str} {a : Nat} {x : AV} {m : Int} {K : AV → Heap → Prop} (n : Nat) (sc : Sc id h s a) (ex : x = .op id 0) (hm : m = (n : Int)) (hn : a + n < 2 ^ 40) (k : K (bool (escP s (a + n))) h) : iCall Tryz.prog (.fn (.func 46) [] []) [x, int m] h K := by
  subst ex; subst hm
  refine a_acall (by kernel_rfl) rfl (K0 := fun r h' => r = bool (escP s (a + n)) ∧ h' = h) ?_ ?_
  · refine (V46 _ _).acall ?_
    unfold W46
    refine k_peek n sc rfl rfl (by omega) ?_
    refine a_eql rfl rfl ?_
    refine w_let ?_
    refine a_guard rfl (fun q => ?_) fun q => ?_
    · refine w_add rfl rfl (by unfold inI; omega) ?_
      refine k_peek (n + 1) sc rfl (by simp) (by omega) ?_
      refine a_neq rfl rfl ?_
      refine w_pick_t rfl ?_
      exact ⟨_, _, Wk.refl _ _ _ (Nat.le_refl _), by unfold escP; rw [q]; rfl, rfl⟩
    · refine w_pick_f rfl ?_
      exact ⟨_, _, Wk.refl _ _ _ (Nat.le_refl _), by unfold escP; rw [q]; rfl, rfl⟩
  · rintro _ _ ⟨rfl, rfl⟩
    exact k
/-- A name begins here. -/
def namP (s : Str) (i : Nat) : Bool := if pk s i = 45 then firstI (pk s (i + 1)) || decide (pk s (i + 1) = 45) || escP s (i + 1) else firstI (pk s i) || escP s i
theorem k_name {id : Nat} {h : Heap} {s : Str} {a : Nat} {x : AV} {m : Int} {K : AV → Heap → Prop} (n : Nat) (sc : Sc id h s a) (ex : x = .op id 0) (hm : m = (n : Int)) (hn : a + n < 2 ^ 39) (k : K (bool (namP s (a + n))) h) : iCall Tryz.prog (.fn (.func 47) [] []) [x, int m] h K := by
  subst ex; subst hm
  refine a_acall (by kernel_rfl) rfl (K0 := fun r h' => r = bool (namP s (a + n)) ∧ h' = h) ?_ ?_
  · refine (V47 _ _).acall ?_
    unfold W47
    have hin : inI ((n : Int) + 1) := by unfold inI; omega
    refine k_peek n sc rfl rfl (by omega) ?_
    refine a_neq rfl rfl ?_
    refine a_cond rfl (fun q => ?_) fun q => ?_
    · have q : ¬ pk s (a + n) = 45 := by simpa using q
      refine k_peek n sc rfl rfl (by omega) ?_
      refine iCall_con (by kernel_rfl) (con_first _) ?_
      refine w_let ?_
      refine a_guard rfl (fun q1 => ?_) fun q1 => ?_
      · refine k_esc n sc rfl rfl (by omega) ?_
        refine w_pick_f rfl ?_
        exact ⟨_, _, Wk.refl _ _ _ (Nat.le_refl _), by unfold namP; rw [if_neg q, q1]; rfl, rfl⟩
      · refine w_pick_t rfl ?_
        exact ⟨_, _, Wk.refl _ _ _ (Nat.le_refl _), by unfold namP; rw [if_neg q, q1]; rfl, rfl⟩
    · have q : pk s (a + n) = 45 := by simpa using q
      refine w_add rfl rfl hin ?_
      refine k_peek (n + 1) sc rfl (by simp) (by omega) ?_
      refine iCall_con (by kernel_rfl) (con_first _) ?_
      refine w_let ?_
      have rest : ∀ (c : Bool), c = (firstI (pk s (a + (n + 1))) || decide (pk s (a + (n + 1)) = 45)) → iLet (fun J27 => iGuard (bool c) false (iBin .add (int n) (int 1) fun v28 => iCall Tryz.prog (.fn (.func 46) [] []) [(.op id 0), v28] h fun v29 g30 => J27 [ff, v29] g30) (J27 [(negA false (bool c)), un] h)) fun s31 g32 => iPick (nx s31 0) tt (nx s31 1) fun v33 => ∃ r' h'', Wk h.length [v33] g32 [r'] h'' ∧ r' = bool (namP s (a + n)) ∧ h'' = h := by
        intro c hc
        refine w_let ?_
        refine a_guard rfl (fun q1 => ?_) fun q1 => ?_
        · refine w_add rfl rfl hin ?_
          refine k_esc (n + 1) sc rfl (by simp) (by omega) ?_
          refine w_pick_f rfl ?_
          exact ⟨_, _, Wk.refl _ _ _ (Nat.le_refl _), by unfold namP; rw [if_pos q, Nat.add_assoc, ← hc, q1]; rfl, rfl⟩
        · refine w_pick_t rfl ?_
          exact ⟨_, _, Wk.refl _ _ _ (Nat.le_refl _), by unfold namP; rw [if_pos q, Nat.add_assoc, ← hc, q1]; rfl, rfl⟩
      refine a_guard rfl (fun q1 => ?_) fun q1 => ?_
      · refine w_add rfl rfl hin ?_
        refine k_peek (n + 1) sc rfl (by simp) (by omega) ?_
        refine a_eql rfl rfl ?_
        refine w_and ?_
        refine w_pick_f rfl ?_
        exact rest _ (by rw [q1]; rfl)
      · refine w_and ?_
        refine w_pick_t rfl ?_
        exact rest true (by rw [q1]; rfl)
  · rintro _ _ ⟨rfl, rfl⟩
    exact k
/-- How many bytes of a kind are here. -/
def runL (p : Int → Bool) (s : Str) (a : Nat) : Nat := ((s.drop a).takeWhile fun b => p (b.toNat : Int)).length
omit [Laid] in
theorem run_lt {p : Int → Bool} {s : Str} {a k : Nat} (hk : k < runL p s a) : a + k < s.length ∧ p (pk s (a + k)) = true := by
  have key : ∀ (l : Str) (k : Nat), k < (l.takeWhile fun b => p (b.toNat : Int)).length → k < l.length ∧ p (pk l k) = true := by
    intro l
    induction l with
    | nil => intro k hk; simp at hk
    | cons b l ih =>
      intro k hk
      by_cases hb : p (b.toNat : Int) = true
      · have e : (b :: l).takeWhile (fun b => p (b.toNat : Int)) = b :: l.takeWhile (fun b => p (b.toNat : Int)) := List.takeWhile_cons_of_pos hb
        rw [e] at hk
        match k, hk with
        | 0, _ => exact ⟨by simp, by simpa [pk] using hb⟩
        | k + 1, hk =>
          have ⟨h1, h2⟩ := ih k (by simpa using hk)
          exact ⟨by simpa using h1, by simpa [pk] using h2⟩
      · have e : (b :: l).takeWhile (fun b => p (b.toNat : Int)) = [] := List.takeWhile_cons_of_neg hb
        rw [e] at hk
        simp at hk
  have ⟨h1, h2⟩ := key (s.drop a) k hk
  refine ⟨by rw [List.length_drop] at h1; omega, ?_⟩
  unfold pk at h2 ⊢
  rwa [List.getElem?_drop] at h2
omit [Laid] in
theorem run_end {p : Int → Bool} (hp : p (-1) = false) (s : Str) (a : Nat) : p (pk s (a + runL p s a)) = false := by
  unfold runL
  have key : ∀ l : Str, p (pk l ((l.takeWhile fun b => p (b.toNat : Int)).length)) = false := by
    intro l
    induction l with
    | nil => simpa [pk] using hp
    | cons b l ih =>
      by_cases hb : p (b.toNat : Int) = true
      · have e : (b :: l).takeWhile (fun b => p (b.toNat : Int)) = b :: l.takeWhile (fun b => p (b.toNat : Int)) := List.takeWhile_cons_of_pos hb
        rw [e, List.length_cons]
        simpa [pk] using ih
      · have e : (b :: l).takeWhile (fun b => p (b.toNat : Int)) = [] := List.takeWhile_cons_of_neg hb
        rw [e]
        simpa [pk] using hb
  have := key (s.drop a)
  unfold pk at this ⊢
  rwa [List.getElem?_drop] at this
omit [Laid] in
theorem run_le (p : Int → Bool) (s : Str) (a : Nat) : runL p s a ≤ s.length - a := by
  unfold runL
  have hle : ((s.drop a).takeWhile fun b => p (b.toNat : Int)).length ≤ (s.drop a).length := (List.takeWhile_prefix _).length_le
  simpa using hle
theorem k_while {id : Nat} {h : Heap} {s : Str} {a : Nat} {x : AV} {f : FuncId} {p : Int → Bool} {K : AV → Heap → Prop} (sc : Sc id h s a) (ex : x = .op id 0) (hb : hasBody Tryz.prog f = true) (hc : ∀ n, Con Tryz.prog f [int n] (bool (p n))) (hp : p (-1) = false) (ha : a ≤ s.length) (hl : s.length ≤ 2 ^ 32)
    (k : K (.tup []) (h.set id (scB s (a + runL p s a)))) : iCall Tryz.prog (.fn (.func 43) [] []) [x, .fn (.func f) [] []] h K := by
  subst ex
  refine a_acall (by kernel_rfl) rfl (K0 := fun r h' => r = .tup [] ∧ h' = h.set id (scB s (a + runL p s a))) ?_ ?_
  · refine (V43 _ _).acall ?_
    unfold W43
    have hr := run_le p s a
    refine iLoop_of (α := Nat) (fun k => k ≤ runL p s a) (fun _ => []) (fun k => h.set id (scB s (a + k))) (fun k => runL p s a - k) 0 (Nat.zero_le _) (by rw [Nat.add_zero, set_same sc]; exact Wk.refl _ _ _ (Nat.le_refl _)) ?_
    intro k hk
    have sc' := sc.set (a + k)
    refine k_peek 0 sc' rfl rfl (by omega) ?_
    refine iCall_con hb (hc _) ?_
    rw [Nat.add_zero]
    by_cases q : k < runL p s a
    · have ⟨q1, q2⟩ := run_lt q
      refine a_cond1 rfl q2 ?_
      rw [iNilF_o]
      refine w_fad rfl ?_
      refine w_load rfl sc' rfl ?_
      refine w_add rfl rfl (by unfold inI; omega) ?_
      rw [iNilF_o]
      refine w_fad rfl ?_
      refine n_store (cs := [int ((a + k : Nat) + 1 : Int)]) (h' := h.set id (scB s (a + (k + 1)))) rfl sc' rfl rfl (by simp) rfl rfl ?_ ?_
      · rw [List.set_set]
        have e : ((a + k : Nat) : Int) + 1 = ((a + (k + 1) : Nat) : Int) := by omega
        show _ = List.set h id (.blk ⟨57, [.str s, int ((a + (k + 1) : Nat) : Int)], true⟩)
        rw [← e]; rfl
      · refine w_and ⟨k + 1, by omega, Wk.refl _ _ _ (by simp), by omega⟩
    · obtain rfl : k = runL p s a := by omega
      refine a_cond0 rfl (run_end hp s a) ?_
      exact ⟨_, _, Wk.refl _ _ _ (by simp), rfl, rfl⟩
  · rintro _ _ ⟨rfl, rfl⟩
    exact k
/-- A number begins here. -/
def numP (s : Str) (a : Nat) : Bool :=
  let n := if pk s a = 43 ∨ pk s a = 45 then 1 else 0
  let m := if pk s (a + n) = 46 then n + 1 else n
  inB (pk s (a + m)) 48 57
theorem k_number {id : Nat} {h : Heap} {s : Str} {a : Nat} {x : AV} {K : AV → Heap → Prop} (sc : Sc id h s a) (ex : x = .op id 0) (hn : a < 2 ^ 39) (k : K (bool (numP s a)) h) : iCall Tryz.prog (.fn (.func 49) [] []) [x] h K := by
  subst ex
  refine a_acall (by kernel_rfl) rfl (K0 := fun r h' => r = bool (numP s a) ∧ h' = h) ?_ ?_
  · refine (V49 _).acall ?_
    unfold W49
    refine w_join [int ((if pk s a = 43 ∨ pk s a = 45 then 1 else 0 : Nat) : Int)] h ?_ fun F hF => ?_
    · have hle : (if pk s a = 43 ∨ pk s a = 45 then 1 else 0 : Nat) ≤ 1 := by split <;> omega
      generalize hnn : (if pk s a = 43 ∨ pk s a = 45 then 1 else 0 : Nat) = n at hle
      refine w_join [int ((if pk s (a + n) = 46 then n + 1 else n : Nat) : Int)] h ?_ fun F hF => ?_
      · have hle2 : (if pk s (a + n) = 46 then n + 1 else n : Nat) ≤ 2 := by split <;> omega
        refine k_peek (if pk s (a + n) = 46 then n + 1 else n) sc rfl rfl (by omega) ?_
        refine iCall_con (by kernel_rfl) (con_digit _) ?_
        exact ⟨_, _, Wk.refl _ _ _ (Nat.le_refl _), by unfold numP; rw [hnn], rfl⟩
      · refine k_peek n sc rfl rfl (by omega) ?_
        refine a_eql rfl rfl ?_
        refine a_cond rfl (fun q => ?_) fun q => ?_
        · have q : pk s (a + n) = 46 := of_decide_eq_true q
          refine w_add rfl rfl (by unfold inI; omega) ?_
          refine w_and ?_
          rw [if_pos q] at hF
          exact hF
        · have q : ¬ pk s (a + n) = 46 := of_decide_eq_false q
          refine w_and ?_
          rw [if_neg q] at hF
          exact hF
    · refine k_peek 0 sc rfl rfl (by omega) ?_
      rw [Nat.add_zero]
      refine a_eql rfl rfl ?_
      have fin : ∀ c : Bool, (c = true ↔ (pk s a = 43 ∨ pk s a = 45)) → iCond (bool c) (iBin .add (int 0) (int 1) fun v10 => [AV.op id 0] = [AV.op id 0] ∧ F [v10] h) ([AV.op id 0] = [AV.op id 0] ∧ F [(int 0)] h) := by
        intro c hc
        refine a_cond rfl (fun q => ?_) fun q => ?_
        · refine w_add rfl rfl (by unfold inI; omega) ?_
          refine w_and ?_
          rw [if_pos (hc.1 q)] at hF
          exact hF
        · refine w_and ?_
          rw [if_neg (fun z => by rw [hc.2 z] at q; cases q)] at hF
          exact hF
      refine w_let ?_
      refine a_guard rfl (fun q1 => ?_) fun q1 => ?_
      · have q1 : ¬ pk s a = 43 := of_decide_eq_false q1
        refine a_eql rfl rfl ?_
        refine w_and ?_
        refine w_pick_f rfl ?_
        exact fin _ (by simp [q1])
      · have q1 : pk s a = 43 := by simpa using q1
        refine w_and ?_
        refine w_pick_t rfl ?_
        exact fin true (by simp [q1])
  · rintro _ _ ⟨rfl, rfl⟩
    exact k
end Go.Proofs.YtfijncpmhnnpiaaGreatDoor
end

section
namespace Go.Proofs.YtfijncpmhnnpiaaGreatDoor
open Go Go.Aw Go.RowKit
set_option maxRecDepth 100000
abbrev byR (l : List UInt8) : List (List AV) := l.map fun b => [byteA b]
theorem byR_ok (l : List UInt8) : (byR l).all (rowOK 1) = true := rows_ok (f := fun b => [byteA b]) (fun _ => ⟨rfl, rfl⟩) l
theorem a_mkP1 {x : Int} {K : AV → Prop} (q : K (.sl 1 [[u8 x]])) : iMkSlP 1 1 (u8 0) [(0, 1, u8 x)] K := by
  have e : bfill (rep0 1 (vcells (u8 0))) [(0, 1, u8 x)] = some [u8 x] := by simp [bfill, rep0, vcells, setAll, scal]
  unfold iMkSlP; rw [e]; exact q
theorem g_app {own : Bool} {h h' : Heap} {tid : Nat} {x y : AV} {l : List UInt8} {b : UInt8} {K : AV → Heap → Prop} (ex : x = .sb tid 1 (byR l)) (ey : y = .sl 1 [[byteA b]]) (ht : h[tid]? = some (.tok 5 1 l.length)) (hr : l.length ≤ 2 ^ 40)
    (hh : h.set tid (.tok 5 1 (l.length + 1)) = h') (q : K (.sb tid 1 (byR (l ++ [b]))) h') : iApp own 5 1 1 x y h K := by
  subst ey; subst hh
  refine n_appB (rows := byR [b]) (k := l.length) ex ht (by simp) srcR_sl (byR_ok _) ⟨by unfold maxLen; simp; omega, by simp; omega⟩ rfl ?_
  simpa using q
theorem a_ofSb {K : AV → Prop} {h : Heap} {id : Nat} {x : AV} {l : List UInt8} (e : x = .sb id 1 (byR l)) (q : K (.str l)) : iOfBytes x h K := by
  subst e
  have h2 : ∀ l : List UInt8, (byR l).flatten = l.map byteA := by
    intro l
    induction l with
    | nil => rfl
    | cons b l ih => show byteA b :: (byR l).flatten = _; rw [ih]; rfl
  unfold iOfBytes
  rw [srcR_b]
  simp only [Option.bind_some]
  rw [h2, unB_bytes]
  exact q
def letP (n : Int) : Bool := firstI n || inB n 48 57 || decide (n = 45)
theorem letP_end : letP (-1) = false := by decide
theorem pk_drop (s : Str) (a i : Nat) : pk s (a + i) = pk (s.drop a) i := by unfold pk; rw [List.getElem?_drop]
theorem pk_app_l {w r : Str} {i : Nat} {b : UInt8} (h : w[i]? = some b) : pk (w ++ r) i = (b.toNat : Int) := by
  have hl := (List.getElem?_eq_some_iff.1 h).1
  exact pk_some (by rw [List.getElem?_append_left hl]; exact h)
theorem pk_app_r (w r : Str) (i : Nat) : pk (w ++ r) (w.length + i) = pk r i := by unfold pk; rw [List.getElem?_append_right (by omega)]; simp
theorem run_app {p : Int → Bool} {s w r : Str} {a : Nat} (e : s.drop a = w ++ r) (hw : ∀ b ∈ w, p (b.toNat : Int) = true) (hr : p (pk r 0) = false) (hp : p (-1) = false) : runL p s a = w.length := by
  unfold runL
  rw [e]
  have : (w ++ r).takeWhile (fun b => p (b.toNat : Int)) = w := by
    induction w generalizing s a with
    | nil =>
      cases r with
      | nil => rfl
      | cons c r =>
        have : p (c.toNat : Int) = false := by simpa [pk] using hr
        exact List.takeWhile_cons_of_neg (by simp [this])
    | cons b w ih =>
      have h1 := ih (s := w ++ r) (a := 0) rfl (fun x hx => hw x (List.mem_cons_of_mem _ hx))
      rw [List.cons_append, List.takeWhile_cons_of_pos (p := fun b : UInt8 => p (b.toNat : Int)) (hw b (List.mem_cons_self ..)), h1]
  rw [this]
theorem drop_app {s w r : Str} {a : Nat} (e : s.drop a = w ++ r) : s.drop (a + w.length) = r := by
  rw [← List.drop_drop, e]; simp
theorem take_app {s w r : Str} {a : Nat} (e : s.drop a = w ++ r) : (s.take (a + w.length)).drop a = w := by
  rw [List.drop_take, e]; simp
theorem drop_len {s w r : Str} {a : Nat} (e : s.drop a = w ++ r) (hn : w ≠ [] ∨ a ≤ s.length) : a + w.length + r.length = s.length := by
  have := congrArg List.length e
  rw [List.length_drop, List.length_append] at this
  rcases hn with hn | hn
  · have : 0 < w.length := List.length_pos_iff.2 hn
    omega
  · omega
variable [Laid]
theorem k_word {id : Nat} {h : Heap} {s w r : Str} {a : Nat} {x : AV} {K : AV → Heap → Prop} (sc : Sc id h s a) (ex : x = .op id 0) (hl : s.length ≤ 2 ^ 32) (ha : a ≤ s.length) (e : s.drop a = w ++ r) (hw : ∀ b ∈ w, letP (b.toNat : Int) = true) (hr : letP (pk r 0) = false) (hq : pk r 0 ≠ 92)
    (k : ∀ H, Mv id s (a + w.length) h H → K (.str w) H) : iCall Tryz.prog (.fn (.func 48) [] []) [x] h K := by
  subst ex
  have hlen := drop_len e (.inr ha)
  refine a_acall (by kernel_rfl) rfl (K0 := fun v h' => v = .str w ∧ Mv id s (a + w.length) h h') ?_ ?_
  · refine (V48 _).acall ?_
    unfold W48
    refine iLoop_of (α := Nat) (fun k => k ≤ w.length) (fun k => [.sb h.length 1 (byR (w.take k))]) (fun k => h.set id (scB s (a + k)) ++ [.tok 5 1 k]) (fun k => w.length - k) 0 (Nat.zero_le _) ?_ ?_
    · rw [Nat.add_zero, set_same sc]
      exact (Wk.nil (Nat.le_refl _) 0 rfl).trans (Wk.tok (Nat.le_refl _) 0 5 1 rfl)
    · intro k hk
      have sc' : Sc id (h.set id (scB s (a + k)) ++ [.tok 5 1 k]) s (a + k) := (sc.set (a + k)).app _
      have hlt := sc.lt
      refine k_peek 0 sc' rfl rfl (by omega) ?_
      rw [Nat.add_zero]
      refine iCall_con (by kernel_rfl) (con_letter _) ?_
      by_cases q : k < w.length
      · have hb : w[k]? = some w[k] := List.getElem?_eq_getElem q
        have hp : pk s (a + k) = (w[k].toNat : Int) := by rw [pk_drop, e, pk_app_l hb]
        have hlet := hw _ (List.getElem_mem q)
        rw [hp]
        refine a_cond1 rfl hlet ?_
        refine a_conv (m := (w[k].toNat : Int)) rfl (by rw [IntKind.wrap_u8]; have := w[k].toNat_lt; omega) ?_
        refine a_mkP1 ?_
        refine g_app (l := w.take k) (b := w[k]) (h' := h.set id (scB s (a + k)) ++ [.tok 5 1 (k + 1)]) rfl rfl ?_ (by simp; omega) ?_ ?_
        · rw [List.getElem?_append_right (by simp)]
          simp; omega
        · rw [List.set_append_right _ _ (by simp)]
          simp; omega
        · have sc2 : Sc id (h.set id (scB s (a + k)) ++ [.tok 5 1 (k + 1)]) s (a + k) := (sc.set (a + k)).app _
          rw [iNilF_o]
          refine w_fad rfl ?_
          refine w_load rfl sc2 rfl ?_
          refine w_add rfl rfl (by unfold inI; omega) ?_
          rw [iNilF_o]
          refine w_fad rfl ?_
          refine n_store (cs := [int ((a + k : Nat) + 1 : Int)]) (h' := h.set id (scB s (a + (k + 1))) ++ [.tok 5 1 (k + 1)]) rfl sc2 rfl rfl (by simp) rfl rfl ?_ ?_
          · rw [List.set_append_left _ _ (by simpa using hlt), List.set_set]
            have e : ((a + k : Nat) : Int) + 1 = ((a + (k + 1) : Nat) : Int) := by omega
            show _ = List.set h id (.blk ⟨57, [.str s, int ((a + (k + 1) : Nat) : Int)], true⟩) ++ _
            rw [← e]; rfl
          · refine w_and ⟨k + 1, by omega, ?_, by omega⟩
            rw [List.take_succ_eq_append_getElem q]
            exact Wk.refl _ _ _ (by simp)
      · obtain rfl : k = w.length := by omega
        have hp : pk s (a + w.length) = pk r 0 := by rw [pk_drop, e]; exact pk_app_r w r 0
        rw [hp]
        refine a_cond0 rfl hr ?_
        have fin : ∀ t : AV, t = .v (.bool false) → iCond t (iCall Tryz.prog (.fn (.func 66) [] []) [AV.op id 0, .sb h.length 1 (byR (w.take w.length))] (h.set id (scB s (a + w.length)) ++ [.tok 5 1 w.length]) fun v27 g28 => [AV.op id 0] = [AV.op id 0] ∧ ∃ y, y ≤ w.length ∧ Wk h.length [v27] g28 [.sb h.length 1 (byR (w.take y))] (h.set id (scB s (a + y)) ++ [.tok 5 1 y]) ∧ w.length - y < w.length - w.length)
            (iOfBytes (.sb h.length 1 (byR (w.take w.length))) (h.set id (scB s (a + w.length)) ++ [.tok 5 1 w.length]) fun v29 => ∃ r' h'', Wk h.length [v29] (h.set id (scB s (a + w.length)) ++ [.tok 5 1 w.length]) [r'] h'' ∧ r' = .str w ∧ Mv id s (a + w.length) h h'') := by
          rintro t rfl
          refine a_cond0 rfl rfl ?_
          refine a_ofSb rfl ?_
          exact ⟨_, _, Wk.refl _ _ _ (by simp), by rw [List.take_length], ⟨_, rfl⟩⟩
        refine a_neq rfl rfl ?_
        refine w_let ?_
        refine a_guard rfl (fun q1 => ?_) fun q1 => ?_
        · refine k_esc 0 sc' rfl rfl (by omega) ?_
          refine w_and ?_
          refine w_pick_t rfl ?_
          refine fin _ ?_
          have : escP s (a + w.length) = false := by unfold escP; rw [hp]; simp [hq]
          rw [Nat.add_zero, nx_one, this]
        · refine w_and ?_
          refine w_pick_f rfl ?_
          exact fin _ rfl
  · rintro _ H ⟨rfl, g⟩
    exact k H g
/-- A sign, or none. -/
def isSg (g : Str) : Prop := g = [] ∨ g = [43] ∨ g = [45]
def digs (l : Str) : Prop := l ≠ [] ∧ ∀ b ∈ l, 48 ≤ b.toNat ∧ b.toNat ≤ 57
omit [Laid] in
theorem digs.inB {l : Str} (d : digs l) : ∀ b ∈ l, inB (b.toNat : Int) 48 57 = true := fun b hb => by
  have := d.2 b hb
  simp [Go.Proofs.YtfijncpmhnnpiaaGreatDoor.inB]
  omega
omit [Laid] in
theorem digs.head {l : Str} (d : digs l) (r : Str) : 48 ≤ pk (l ++ r) 0 ∧ pk (l ++ r) 0 ≤ 57 := by
  obtain ⟨hn, hd⟩ := d
  cases l with
  | nil => exact absurd rfl hn
  | cons b l =>
    have := hd b (List.mem_cons_self ..)
    have e : pk (b :: l ++ r) 0 = (b.toNat : Int) := rfl
    rw [e]; omega
theorem k_fig {id : Nat} {h : Heap} {s g l r : Str} {a : Nat} {x : AV} {K : AV → Heap → Prop} (sc : Sc id h s a) (ex : x = .op id 0) (hl : s.length ≤ 2 ^ 32) (e : s.drop a = g ++ (l ++ r)) (hg : isSg g) (hd : digs l)
    (h1 : inB (pk r 0) 48 57 = false) (h2 : pk r 0 ≠ 46) (h3 : pk r 0 ≠ 101) (h4 : pk r 0 ≠ 69)
    (k : K tt (h.set id (scB s (a + (g ++ l).length)))) : iCall Tryz.prog (.fn (.func 69) [] []) [x] h K := by
  subst ex
  have hn : g ++ l ≠ [] := by simp [hd.1]
  have hlen := drop_len (w := g ++ l) (r := r) (by rw [e, List.append_assoc]) (.inl hn)
  rw [List.length_append] at hlen
  have hh := hd.head r
  refine a_acall (by kernel_rfl) rfl (K0 := fun v h' => v = tt ∧ h' = h.set id (scB s (a + (g ++ l).length))) ?_ ?_
  · refine (V69 _).acall ?_
    unfold W69
    have e2 : s.drop (a + g.length) = l ++ r := drop_app e
    have sc2 := sc.set (a + g.length)
    refine w_join [] (h.set id (scB s (a + g.length))) ?_ fun F hF => ?_
    · have hru : runL (fun n => inB n 48 57) s (a + g.length) = l.length := run_app e2 hd.inB h1 (by decide)
      refine k_while (f := 68) sc2 rfl (by kernel_rfl) con_digit (by decide) (by omega) hl ?_
      rw [hru, List.set_set]
      have hpe : pk s (a + g.length + l.length) = pk r 0 := by
        rw [pk_drop, e2]; exact pk_app_r l r 0
      have sc3 := sc.set (a + g.length + l.length)
      refine w_join [tt] (h.set id (scB s (a + g.length + l.length))) ?_ fun F hF => ?_
      · refine k_peek 0 sc3 rfl rfl (by omega) ?_
        rw [Nat.add_zero, hpe]
        refine a_eql rfl rfl ?_
        refine w_let ?_
        refine a_guard1 rfl (decide_eq_false h3) ?_
        refine k_peek 0 sc3 rfl rfl (by omega) ?_
        rw [Nat.add_zero, hpe]
        refine a_eql rfl rfl ?_
        refine w_and ?_
        refine w_pick_f rfl ?_
        refine a_cond0 rfl (decide_eq_false h4) ?_
        exact ⟨_, _, Wk.refl _ _ _ (by simp), rfl, by rw [List.length_append, Nat.add_assoc]⟩
      · refine k_peek 0 sc3 rfl rfl (by omega) ?_
        rw [Nat.add_zero, hpe]
        refine a_eql rfl rfl ?_
        refine w_let ?_
        refine a_guard0 rfl (decide_eq_false h2) ?_
        refine w_and ?_
        refine w_pick_f (by rw [nx_zero, decide_eq_false h2]; rfl) ?_
        refine a_cond0 rfl rfl ?_
        refine w_and ?_
        exact hF
    · refine k_peek 0 sc rfl rfl (by omega) ?_
      rw [Nat.add_zero]
      refine a_eql rfl rfl ?_
      have step : g ≠ [] → (iNilF Tryz.prog (.op id 0) fun v10 => iFad 1 v10 fun v11 => iLoad false 1 v11 h fun v12 => iBin .add v12 (int 1) fun v13 => iNilF Tryz.prog (.op id 0) fun v14 => iFad 1 v14 fun v15 => iStore 1 v15 v13 h fun g16 => [AV.op id 0] = [AV.op id 0] ∧ F [] g16) := by
        intro hg0
        have hg1 : g.length = 1 := by rcases hg with rfl | rfl | rfl <;> simp_all
        rw [iNilF_o]
        refine w_fad rfl ?_
        refine w_load rfl sc rfl ?_
        refine w_add rfl rfl (by unfold inI; omega) ?_
        rw [iNilF_o]
        refine w_fad rfl ?_
        refine n_store (cs := [int ((a : Nat) + 1 : Int)]) (h' := h.set id (scB s (a + g.length))) rfl sc rfl rfl (by simp) rfl rfl ?_ ?_
        · rw [hg1]; rfl
        · exact w_and hF
      have h0 : pk s a = pk (g ++ (l ++ r)) 0 := by rw [← e, ← pk_drop, Nat.add_zero]
      refine w_let ?_
      rcases hg with rfl | rfl | rfl
      · rw [List.nil_append] at h0
        refine a_guard1 rfl (decide_eq_false (by omega)) ?_
        refine a_eql rfl rfl ?_
        refine w_and ?_
        refine w_pick_f rfl ?_
        refine a_cond0 rfl (decide_eq_false (by omega)) ?_
        refine w_and ?_
        rw [List.length_nil, Nat.add_zero, set_same sc] at hF
        exact hF
      · have h0 : pk s a = 43 := h0
        refine a_guard0 rfl (decide_eq_true h0) ?_
        refine w_and ?_
        refine w_pick_t rfl ?_
        refine a_cond1 rfl rfl ?_
        exact step (by simp)
      · have h0 : pk s a = 45 := h0
        refine a_guard1 rfl (decide_eq_false (by omega)) ?_
        refine a_eql rfl rfl ?_
        refine w_and ?_
        refine w_pick_f rfl ?_
        refine a_cond1 rfl (decide_eq_true h0) ?_
        exact step (by simp)
  · rintro _ _ ⟨rfl, rfl⟩
    exact k
end Go.Proofs.YtfijncpmhnnpiaaGreatDoor
end

section
namespace Go.Proofs.YtfijncpmhnnpiaaGreatDoor
open Go Go.Aw Go.RowKit
set_option maxRecDepth 100000
def ascii (l : Str) : Prop := ∀ b ∈ l, b.toNat < 128
theorem ascii_at {l : Str} (h : ascii l) : ∀ (j : Nat) b, l[j]? = some b → b.toNat < 128 := fun j b hb => h b (List.mem_of_getElem? hb)
variable [MaxL]
omit [MaxL] in
theorem con_trimL [Laid] (l m : Str) (hl : l.length ≤ 2 ^ 31) (hm : m.length ≤ 2 ^ 31) (am : ascii m) : Con Tryz.prog 94 [.str l, .str m] (.str (Lib.trimLeftS l m)) := by
  have hle : (Lib.trimLeftS l m).length ≤ l.length := (List.dropWhile_suffix _).length_le
  refine con_below (v := .string ⟨(Lib.trimLeftS l m).toArray⟩) (by simp [PureL]) (by simp) (by simp) (fun w => by simp [maxLen]; omega) ?_
  intro ι S w vs h1 hg
  match vs, h1 with
  | [], h1 => simp at h1
  | [v], h1 => simp at h1
  | v :: u :: x :: vs, h1 => simp at h1
  | [v, u], h1 =>
    simp only [RepL_cons, RepL_nil, and_true, Rep_str] at h1
    obtain ⟨⟨rfl, _⟩, rfl, _⟩ := h1
    refine (Any.strings_TrimLeft_laid lays161 (by kernel_rfl) ⟨l.toArray⟩ ⟨m.toArray⟩ w (by simp [ByteArray.size]; omega) (fun j b hb => ascii_at am j b (by simpa using hb))).mono fun e w' q => by simpa using q
omit [MaxL] in
theorem con_trim [Laid] (l m : Str) (hl : l.length ≤ 2 ^ 31) (hm : m.length ≤ 2 ^ 31) (am : ascii m) (hle : (Lib.trimS l m).length ≤ 2 ^ 31) : Con Tryz.prog 54 [.str l, .str m] (.str (Lib.trimS l m)) := by
  refine con_below (v := .string ⟨(Lib.trimS l m).toArray⟩) (by simp [PureL]) (by simp) (by simp) (fun w => by simp [maxLen]; omega) ?_
  intro ι S w vs h1 hg
  match vs, h1 with
  | [], h1 => simp at h1
  | [v], h1 => simp at h1
  | v :: u :: x :: vs, h1 => simp at h1
  | [v, u], h1 =>
    simp only [RepL_cons, RepL_nil, and_true, Rep_str] at h1
    obtain ⟨⟨rfl, _⟩, rfl, _⟩ := h1
    refine (Any.strings_Trim_laid lays160 (by kernel_rfl) ⟨l.toArray⟩ ⟨m.toArray⟩ w (by simp [ByteArray.size]; omega) (by simp [ByteArray.size]; omega) (fun j b hb => ascii_at am j b (by simpa using hb))).mono fun e w' q => by simpa using q
omit [MaxL] in
theorem con_indexAny [Laid] (l m : Str) (hl : l.length ≤ 2 ^ 31) (hm : m.length ≤ 2 ^ 31) (al : ascii l) (am : ascii m) : Con Tryz.prog 95 [.str l, .str m] (int (Lib.indexAny l m)) := by
  refine con_below (v := .int .i64 (Lib.indexAny l m)) (by simp [PureL]) (by simp) (by simp) (fun w => by simp) ?_
  intro ι S w vs h1 hg
  match vs, h1 with
  | [], h1 => simp at h1
  | [v], h1 => simp at h1
  | v :: u :: x :: vs, h1 => simp at h1
  | [v, u], h1 =>
    simp only [RepL_cons, RepL_nil, and_true, Rep_str] at h1
    obtain ⟨⟨rfl, _⟩, rfl, _⟩ := h1
    refine (indexAny_laid ⟨l.toArray⟩ ⟨m.toArray⟩ w (by simp [ByteArray.size]; omega) (by simp [ByteArray.size]; omega) (fun j b hb => ascii_at al j b (by simpa using hb)) (fun j b hb => ascii_at am j b (by simpa using hb))).mono fun e w' q => by simpa using q
/-- A text that is not parted. -/
theorem con_cut0 (l m : Str) (hl : l.length ≤ 2 ^ 31) (hm : Lib.index l m < 0) : Con Tryz.prog 96 [.str l, .str m] (.tup [.str l, .str [], ff]) := by
  refine con_below (v := .tuple #[.string ⟨l.toArray⟩, .string ⟨#[]⟩, .bool false]) (by simp [PureL]) (by simp) (by simp [PureL]) (fun w => by rw [Rep]; exact ⟨[.string ⟨l.toArray⟩, .string ⟨#[]⟩, .bool false], rfl, by simp [maxLen]; omega⟩) ?_
  intro ι S w vs h1 hg
  have hg := (hg 1 [int MaxL.m] rfl).1.get 0 (int MaxL.m) rfl
  obtain ⟨u, hu, _, hr⟩ := hg
  rw [Rep_v] at hr
  subst hr
  rw [Nat.zero_add] at hu
  match vs, h1 with
  | [], h1 => simp at h1
  | [v], h1 => simp at h1
  | v :: u :: x :: vs, h1 => simp at h1
  | [v, u], h1 =>
    simp only [RepL_cons, RepL_nil, and_true, Rep_str] at h1
    obtain ⟨⟨rfl, _⟩, rfl, _⟩ := h1
    refine (Any.strings_Cut lays145 ⟨l.toArray⟩ ⟨m.toArray⟩ MaxL.m w (by simp [ByteArray.size]; omega) hu).mono ?_
    rintro e w' ⟨rfl, n, rfl⟩
    have e : Lib.cut l m = (l, [], false) := by unfold Lib.cut; rw [if_neg (by omega)]
    exact ⟨by simp [e], (Below.refl _ _).trans ⟨rfl, rfl, rfl, Nat.le_refl _, fun _ _ => rfl⟩⟩
omit [MaxL] in
theorem con_cutP [Laid] (l m : Str) (hl : l.length ≤ 2 ^ 31) : Con Tryz.prog 28 [.str l, .str m] (.tup [.str (Lib.trimPrefix l m), bool (Lib.hasPrefix l m)]) := by
  have hle : (Lib.trimPrefix l m).length ≤ l.length := by unfold Lib.trimPrefix; split <;> simp
  refine con_below (v := .tuple #[.string ⟨(Lib.trimPrefix l m).toArray⟩, .bool (Lib.hasPrefix l m)]) (by simp [PureL]) (by simp) (by simp [PureL]) (fun w => by rw [Rep]; exact ⟨[.string ⟨(Lib.trimPrefix l m).toArray⟩, .bool (Lib.hasPrefix l m)], rfl, by simp [maxLen]; omega⟩) ?_
  intro ι S w vs h1 hg
  match vs, h1 with
  | [], h1 => simp at h1
  | [v], h1 => simp at h1
  | v :: u :: x :: vs, h1 => simp at h1
  | [v, u], h1 =>
    simp only [RepL_cons, RepL_nil, and_true, Rep_str] at h1
    obtain ⟨⟨rfl, _⟩, rfl, _⟩ := h1
    refine (Any.strings_CutPrefix lays103 ⟨l.toArray⟩ ⟨m.toArray⟩ w).mono ?_
    rintro e w' ⟨rfl, rfl⟩
    exact ⟨rfl, Below.refl _ _⟩
omit [MaxL] in
theorem con_parseInt [Laid] (l : Str) (v : Int) (hl : l.length ≤ 2 ^ 31) (h : Lib.parseIntB 64 l = .ok v) : Con Tryz.prog 55 [.str l, int 10, int 64] (.tup [int v, .v .nilIface]) := by
  refine con_below (v := .tuple #[.int .i64 v, .nilIface]) (by simp [PureL]) (by simp) (by simp [PureL]) (fun w => by rw [Rep]; exact ⟨[.int .i64 v, .nilIface], rfl, by simp⟩) ?_
  intro ι S w vs h1 hg
  match vs, h1 with
  | [], h1 => simp at h1
  | [v], h1 => simp at h1
  | [v, u], h1 => simp at h1
  | v :: u :: x :: y :: vs, h1 => simp at h1
  | [v, u, x], h1 =>
    simp only [RepL_cons, RepL_nil, and_true, Rep_str, Rep_v] at h1
    obtain ⟨⟨rfl, _⟩, rfl, rfl⟩ := h1
    refine (Any.strconv_ParseInt_10_at64_ok laysC174 ⟨l.toArray⟩ (by simp [ByteArray.size]; omega) _ (by simpa using h) w).mono ?_
    rintro e w' ⟨rfl, rfl | ⟨t, rfl⟩⟩
    · exact ⟨rfl, Below.refl _ _⟩
    · exact ⟨rfl, Lib.bytesWorld_below _ _ _⟩
end Go.Proofs.YtfijncpmhnnpiaaGreatDoor
end

section
namespace Go.Proofs.YtfijncpmhnnpiaaGreatDoor
open Go Go.Aw Go.RowKit
set_option maxRecDepth 100000
/-! ### Plain -/
def dgV (b : UInt8) : Nat := b.toNat - 48
def valR (l : Str) : Nat := l.foldl (fun n b => 10 * n + dgV b) 0
theorem valR_snoc (l : Str) (b : UInt8) : valR (l ++ [b]) = 10 * valR l + dgV b := by unfold valR; rw [List.foldl_append]; rfl
theorem valR_take_le (l : Str) : ∀ k, valR (l.take k) ≤ valR l := by
  have key : ∀ (m p : Str), valR p ≤ valR (p ++ m) := by
    intro m
    induction m with
    | nil => intro p; simp
    | cons b m ih =>
      intro p
      have h1 := ih (p ++ [b])
      rw [valR_snoc, List.append_assoc] at h1
      have h2 : p ++ ([b] ++ m) = p ++ b :: m := rfl
      rw [h2] at h1
      omega
  intro k
  have := key (l.drop k) (l.take k)
  rwa [List.take_append_drop] at this
theorem valR_succ {l : Str} {k : Nat} (h : k < l.length) : valR (l.take (k + 1)) = 10 * valR (l.take k) + dgV l[k] := by
  rw [List.take_succ_eq_append_getElem h, valR_snoc]
theorem trim_sg {g l : Str} (hg : isSg g) (hd : digs l) : Lib.trimLeftS (g ++ l) [43, 45] = l := by
  obtain ⟨hn, hd⟩ := hd
  have h0 : Lib.trimLeftS l [43, 45] = l := by
    cases l with
    | nil => exact absurd rfl hn
    | cons b l =>
      have := hd b (List.mem_cons_self ..)
      unfold Lib.trimLeftS
      refine List.dropWhile_cons_of_neg ?_
      intro hc
      have : b = 43 ∨ b = 45 := by simpa using hc
      rcases this with rfl | rfl <;> simp at *
  unfold Lib.trimLeftS at *
  rcases hg with rfl | rfl | rfl
  · exact h0
  · rw [List.cons_append, List.dropWhile_cons_of_pos (by decide)]; exact h0
  · rw [List.cons_append, List.dropWhile_cons_of_pos (by decide)]; exact h0
theorem indexAny_no {l m : Str} (h : ∀ b ∈ l, m.contains b = false) : Lib.indexAny l m = -1 := by
  induction l with
  | nil => rfl
  | cons b l ih =>
    have h1 := ih fun x hx => h x (List.mem_cons_of_mem _ hx)
    unfold Lib.indexAny
    rw [h b (List.mem_cons_self ..), h1]
    rfl
theorem index_no {l : Str} {c : UInt8} (h : ∀ b ∈ l, b ≠ c) : Lib.index l [c] = -1 := by
  induction l with
  | nil => rfl
  | cons b l ih =>
    have h1 := ih fun x hx => h x (List.mem_cons_of_mem _ hx)
    have h2 := h b (List.mem_cons_self ..)
    unfold Lib.index
    rw [h1]
    have : ([c] : Str).isPrefixOf (b :: l) = false := by simp [List.isPrefixOf]; exact fun e => h2 e.symm
    rw [this]
    rfl
def sgI (g : Str) : Int := if g = [45] then -1 else 1
/-! ### The walk -/
theorem w_mul {K : AV → Prop} {x y : AV} {a b : Int} (ex : x = int a) (ey : y = int b) (c : inI (a * b)) (q : K (int (a * b))) : iBin .mul x y K := by subst ex; subst ey; simpa using ⟨c, q⟩
theorem a_subU {K : AV → Prop} {k : IntKind} {x y : AV} {a b c : Int} (hk : k ≠ .i64) (ex : x = .v (.int k a)) (ey : y = .v (.int k b)) (hc : k.wrap (a - b) = c) (q : K (.v (.int k c))) : iBin .sub x y K := by
  subst ex; subst ey; subst hc
  refine ⟨rfl, ?_⟩
  unfold iInt iWr
  cases k <;> first | exact q | exact absurd rfl hk
theorem a_min {K : AV → Prop} {x y : AV} {a b : Int} (ex : x = int a) (ey : y = int b) (h : a ≤ b) (q : K (int a)) : iMin x y K := by
  subst ex; subst ey
  rw [iMin_i, if_neg (by omega)]; exact q
theorem a_catS {K : AV → Prop} {x y : AV} {a b : Str} (ex : x = .str a) (ey : y = .str b) (h : a.length + b.length ≤ 2 ^ 40) (q : K (.str (a ++ b))) : iBin .add x y K := by
  subst ex; subst ey
  rw [iBin_ss]
  exact ⟨by unfold maxLen; omega, q⟩
theorem a_toB {e : Nat} {x : AV} {l : Str} {h : Heap} {KH : AV → Heap → Prop} (ex : x = .str l) (q : KH (.own h.length 0 l.length 1) (h ++ [.blk ⟨e, l.map byteA, true⟩])) : iToBytes e x h KH := by subst ex; exact q
theorem a_lenO {K : AV → Prop} {x : AV} {id off len sz : Nat} (ex : x = .own id off len sz) (q : K (int len)) : iLen x K := by subst ex; rw [iLen_o]; exact fun _ => q
theorem dg_le {l : Str} (hd : digs l) {k : Nat} (hk : k < l.length) : 48 ≤ l[k].toNat ∧ l[k].toNat ≤ 57 := hd.2 _ (List.getElem_mem hk)
variable [MaxL]
theorem con_thou (g l : Str) (hg : isSg g) (hd : digs l) (hl : l.length ≤ 2 ^ 20) (hv : valR l ≤ 1000000000) : Con Tryz.prog 70 [.str (g ++ l)] (int (sgI g * (1000 * (valR l : Int)))) := by
  have hgl : g.length ≤ 1 := by rcases hg with rfl | rfl | rfl <;> simp
  have al : ascii l := fun b hb => by have := hd.2 b hb; omega
  have hne : ∀ c : UInt8, (c.toNat < 48 ∨ 57 < c.toNat) → ∀ b ∈ l, b ≠ c := fun c hc b hb e => by have := hd.2 b hb; rw [e] at this; omega
  refine (V70 _).gives (by simp) (by simp) ?_
  unfold W70
  obtain ⟨b0, hb0, hb1⟩ : ∃ b0, (g ++ l)[0]? = some b0 ∧ ((b0.toNat : Int) = 45 ↔ g = [45]) := by
    obtain ⟨hn, hd2⟩ := hd
    rcases hg with rfl | rfl | rfl
    · cases l with
      | nil => exact absurd rfl hn
      | cons b l =>
        have := hd2 b (List.mem_cons_self ..)
        exact ⟨b, rfl, by simp; omega⟩
    · exact ⟨43, rfl, by decide⟩
    · exact ⟨45, rfl, by decide⟩
  refine a_idxS (n := 0) rfl rfl hb0 ?_
  refine a_eql rfl rfl ?_
  have hdec : decide ((b0.toNat : Int) = 45) = decide (g = [45]) := by
    by_cases q : g = [45]
    · rw [decide_eq_true q, decide_eq_true (hb1.2 q)]
    · rw [decide_eq_false q, decide_eq_false (fun z => q (hb1.1 z))]
  rw [hdec]
  refine iCall_con (by kernel_rfl) (con_trimL (g ++ l) [43, 45] (by simp; omega) (by decide) (fun b hb => by simp at hb; rcases hb with rfl | rfl <;> decide)) ?_
  rw [trim_sg hg hd]
  refine w_let ?_
  refine iCall_con (by kernel_rfl) (con_indexAny l [101, 69] (by omega) (by decide) al (fun b hb => by simp at hb; rcases hb with rfl | rfl <;> decide)) ?_
  rw [indexAny_no (fun b hb => by
    have h1 := hne 101 (.inr (by decide)) b hb
    have h2 := hne 69 (.inr (by decide)) b hb
    simp [h1, h2])]
  refine a_geq rfl rfl ?_
  refine a_cond0 rfl rfl ?_
  refine w_and ?_
  refine iCall_con (by kernel_rfl) (con_cut0 l [46] (by omega) (by rw [index_no (hne 46 (.inl (by decide)))]; decide)) ?_
  refine w_extr rfl rfl ?_
  refine w_extr rfl rfl ?_
  refine w_extr rfl rfl ?_
  refine a_lenS rfl fun _ => ?_
  refine w_sub rfl rfl (by unfold inI; decide) ?_
  refine a_catS rfl rfl (by simp; omega) ?_
  rw [List.append_nil]
  refine w_let ?_
  refine a_lss rfl rfl ?_
  refine a_cond0 rfl (by decide) ?_
  refine w_and ?_
  refine a_toB rfl ?_
  refine a_lenO rfl ?_
  have hblk : ([] ++ [Ent.blk ⟨5, l.map byteA, true⟩] : Heap)[([] : Heap).length]? = some (.blk ⟨5, l.map byteA, true⟩) := rfl
  refine iLoop_of (α := Nat) (fun k => k ≤ l.length) (fun k => [int (valR (l.take k)), int k]) (fun _ => [] ++ [Ent.blk ⟨5, l.map byteA, true⟩]) (fun k => l.length - k) 0 (Nat.zero_le _) (Wk.refl _ _ _ (by simp)) ?_
  intro k hk
  refine a_lss rfl rfl ?_
  by_cases q : k < l.length
  · refine a_cond1 rfl (decide_eq_true (by omega)) ?_
    have hdk := dg_le hd q
    have hvk := valR_take_le l (k + 1)
    have hvs := valR_succ q
    have hvd : (dgV l[k] : Int) = (l[k].toNat : Int) - 48 := by unfold dgV; omega
    refine a_idxOw rfl rfl q ?_
    refine w_load (c := byteA l[k]) rfl hblk (by simp [List.getElem?_eq_getElem q]) ?_
    refine w_mul rfl rfl (by unfold inI; omega) ?_
    refine a_subU (c := (l[k].toNat : Int) - 48) (by decide) rfl rfl (by rw [IntKind.wrap_u8]; omega) ?_
    refine a_conv (m := (l[k].toNat : Int) - 48) rfl (by rw [IntKind.wrap_i64]; omega) ?_
    refine w_add rfl rfl (by unfold inI; omega) ?_
    refine a_min rfl rfl (by omega) ?_
    refine w_add rfl rfl (by unfold inI; omega) ?_
    refine w_and ⟨k + 1, by omega, ?_, by omega⟩
    have e1 : (10 : Int) * (valR (l.take k) : Int) + ((l[k].toNat : Int) - 48) = ((valR (l.take (k + 1)) : Nat) : Int) := by omega
    rw [e1]
    exact Wk.refl _ _ _ (by simp)
  · obtain rfl : k = l.length := by omega
    refine a_cond0 rfl (decide_eq_false (by omega)) ?_
    rw [List.take_length]
    by_cases hz : valR l = 0
    · rw [hz]
      refine iLoop_of (α := Unit) (fun _ => True) (fun _ => [int 3, int 0]) (fun _ => [] ++ [Ent.blk ⟨5, l.map byteA, true⟩]) (fun _ => 0) () trivial (Wk.refl _ _ _ (by simp)) ?_
      intro _ _
      refine a_gtr rfl rfl ?_
      refine w_let ?_
      refine a_guard1 rfl rfl ?_
      refine a_gtr rfl rfl ?_
      refine w_and ?_
      refine w_pick_t rfl ?_
      refine w_let ?_
      refine a_guard0 rfl rfl ?_
      refine w_and ?_
      refine w_pick_f rfl ?_
      refine a_cond0 rfl rfl ?_
      refine a_cond rfl (fun _ => ?_) fun _ => ?_
      · rw [nx_one, iNeg_i]
        exact ⟨by unfold inI; decide, .pure (by simp) (by simp)⟩
      · exact .pure (by simp) (by simp)
    · refine iLoop_of (α := Nat) (fun j => j ≤ 3) (fun j => [int (3 - (j : Int)), int ((valR l : Int) * 10 ^ j)]) (fun _ => [] ++ [Ent.blk ⟨5, l.map byteA, true⟩]) (fun j => 3 - j) 0 (by omega) (by simpa using Wk.refl _ _ _ (by simp)) ?_
      intro j hj
      by_cases q3 : j < 3
      · have hp : (1 : Int) ≤ 10 ^ j ∧ (10 : Int) ^ j ≤ 100 := by
          rcases (by omega : j = 0 ∨ j = 1 ∨ j = 2) with rfl | rfl | rfl <;> decide
        have hm1 : 0 < (valR l : Int) * 10 ^ j := Int.mul_pos (by omega) (by omega)
        have hm2 : (valR l : Int) * 10 ^ j ≤ 1000000000 * 100 := Int.mul_le_mul (by omega) hp.2 (by omega) (by omega)
        refine a_gtr rfl rfl ?_
        refine w_let ?_
        refine a_guard1 rfl (decide_eq_true (by omega)) ?_
        refine a_gtr rfl rfl ?_
        refine w_and ?_
        refine w_pick_t rfl ?_
        refine w_let ?_
        refine a_guard1 rfl (decide_eq_true hm1) ?_
        refine a_lss rfl rfl ?_
        refine w_and ?_
        refine w_pick_t rfl ?_
        refine a_cond1 rfl (decide_eq_true (by omega)) ?_
        refine w_mul rfl rfl (by unfold inI; omega) ?_
        refine a_min rfl rfl (by omega) ?_
        refine w_sub rfl rfl (by unfold inI; omega) ?_
        refine w_and ⟨j + 1, by omega, ?_, by omega⟩
        have e1 : (10 : Int) * ((valR l : Int) * 10 ^ j) = (valR l : Int) * 10 ^ (j + 1) := by rw [Int.pow_succ]; ac_rfl
        have e2 : (3 : Int) - (j : Int) - 1 = 3 - ((j + 1 : Nat) : Int) := by omega
        rw [e1, e2]
        exact Wk.refl _ _ _ (by simp)
      · obtain rfl : j = 3 := by omega
        refine a_gtr rfl rfl ?_
        refine w_let ?_
        refine a_guard0 rfl rfl ?_
        refine w_and ?_
        refine w_pick_f rfl ?_
        refine w_let ?_
        refine a_guard0 rfl rfl ?_
        refine w_and ?_
        refine w_pick_f rfl ?_
        refine a_cond0 rfl rfl ?_
        refine a_cond rfl (fun e => ?_) fun e => ?_
        · have e : g = [45] := of_decide_eq_true e
          rw [nx_one, iNeg_i]
          refine ⟨by unfold inI; omega, .pure (by simp) ?_⟩
          unfold sgI
          rw [if_pos e]
          have e3 : (0 : Int) - (valR l : Int) * 10 ^ 3 = -1 * (1000 * (valR l : Int)) := by omega
          rw [e3]
        · have e : ¬ g = [45] := of_decide_eq_false e
          refine .pure (by simp) ?_
          unfold sgI
          rw [if_neg e, nx_one]
          have e3 : (valR l : Int) * 10 ^ 3 = 1 * (1000 * (valR l : Int)) := by omega
          rw [e3]
end Go.Proofs.YtfijncpmhnnpiaaGreatDoor
end
