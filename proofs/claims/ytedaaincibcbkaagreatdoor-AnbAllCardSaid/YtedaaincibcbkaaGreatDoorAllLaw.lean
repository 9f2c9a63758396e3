/-
  All places: contracts of the code. The steps are printed by a program.
  No conditions: for every progression and number.
-/
import Derived.Test.YtedaaincibcbkaaGreatDoorSum
import Derived.Test.YtedaaincibcbkaaGreatDoorStepLaw
import Derived.Test.YtedaaincibcbkaaGreatDoorCuts
namespace Go.Proofs.YtedaaincibcbkaaGreatDoor
open Go Go.Aw Go.AnbLaw
set_option maxRecDepth 100000
variable [Laid]
def rowsOf (l : List Int) : List (List AV) := l.map fun n => [int n]
omit [Laid] in
theorem rowsOf_pure (l : List Int) : PureR (rowsOf l) := by
  induction l with
  | nil => simp [rowsOf]
  | cons n l ih => simp [rowsOf] at ih ⊢; exact ih
omit [Laid] in
theorem rowsOf_tl (f : AV → AV) (L : Nat) (h : Heap) (l : List Int) : tlR f L h (rowsOf l) = rowsOf l := by
  induction l with
  | nil => simp [rowsOf, tlR]
  | cons n l ih => simp [rowsOf, tlR, tlL, tlA] at ih ⊢; exact ih
omit [Laid] in
theorem rowsOf_bd (M : Nat) (l : List Int) : BdR M (rowsOf l) := by
  induction l with
  | nil => simp [rowsOf, BdR]
  | cons n l ih => simp [rowsOf, BdR, BdL, Bd] at ih ⊢; exact ih
/-- The heap at a round's start. -/
def hAll (A B : Int) (n : Nat) : Heap := [.blk ⟨36, [int A, int B], true⟩, .tok 3 1 n]
theorem con24 (A B m : Int) (hA : okN A = true) (hB : okN B = true) (h1 : 0 ≤ m) (h2 : m ≤ 64) : Con Tryz.prog 24 [anbA A B, int m] (.tup [.sl 1 (rowsOf (places A B m.toNat)), int 0]) := by
  refine (V24 _ _).gives (by simp) (by simp [rowsOf_pure]) ?_
  unfold W24
  have hc : ckA A B = 0 := by simp [ckA, hA, hB]
  have n1 : ¬ m < 0 := by omega
  have n2 : ¬ 64 < m := by omega
  refine w_new (by simp [anbA]) ?_
  refine w_loadA rfl rfl (Nat.le_refl 2) ?_
  refine w_call rfl (by kernel_rfl) (con25 A B) ?_
  rw [hc]
  refine w_neq false rfl rfl rfl ?_
  refine w_cond_f rfl ?_
  refine w_lss false rfl rfl (decide_eq_false n1) ?_
  refine w_let ?_
  refine w_guard_y rfl ?_
  refine w_gtr false rfl rfl (decide_eq_false n2) ?_
  refine w_and ?_
  refine w_pick_f rfl ?_
  refine w_cond_f rfl ?_
  refine iLoop_of (α := Nat) (fun n => (n : Int) ≤ m) (fun n => [.sb 1 1 (rowsOf (places A B n)), int n]) (fun n => hAll A B (places A B n).length) (fun n => m.toNat - n) 0 (by simpa using h1) ?_ ?_
  · have a := Wk.nil (n := 1) (s := [.v (.slice none 0 0), int 0]) (h := [.blk ⟨36, [int A, int B], true⟩]) (by simp) 0 rfl
    have b := Wk.tok (n := 1) (s := [.emp, int 0]) (h := [.blk ⟨36, [int A, int B], true⟩]) (by simp) 0 3 1 rfl
    exact a.trans b
  · intro n hn
    have hin : inI ((n : Int) + 1) := by unfold inI; omega
    rcases Int.lt_or_le (n : Int) m with q | q
    · refine w_lss true rfl rfl (decide_eq_true q) ?_
      refine w_cond_t rfl ?_
      refine w_let ?_
      refine w_loadA rfl rfl (Nat.le_refl 2) ?_
      refine w_add rfl rfl hin ?_
      refine w_call rfl (by kernel_rfl) (con43 A B ((n : Int) + 1) hB (by simp [okN]; omega)) ?_
      cases hh : hasP A B ((n : Int) + 1)
      · refine w_cond_f rfl ?_
        refine w_and ?_
        refine w_add rfl rfl hin ?_
        refine w_and ?_
        have e : places A B (n + 1) = places A B n := by rw [places, hh]; rfl
        exact ⟨n + 1, by omega, by rw [e]; exact Wk.refl _ _ _ (by simp [hAll]), by omega⟩
      · refine w_cond_t rfl ?_
        refine w_add rfl rfl hin ?_
        have hpl := places_length A B n
        have e : places A B (n + 1) = places A B n ++ [(n : Int) + 1] := by rw [places, hh]; rfl
        have hr : roomA 8 ((places A B n).length + 1) := by unfold roomA maxLen; omega
        simp [hAll, rowsOf, chunks, hr, hin]
        refine ⟨n + 1, by omega, ?_, by omega⟩
        have k := Wk.cutL (L := 1) (M := 2) (h := [.blk ⟨36, [int A, int B], true⟩, .tok 3 1 ((places A B n).length + 1), .blk ⟨3, [int ((n : Int) + 1)], true⟩]) (s := [.sb 1 1 (rowsOf (places A B (n + 1))), int ((n + 1 : Nat) : Int)]) (by omega) (by simp) (by simp [entB, BdL, Bd]) (by
          intro a ha
          simp at ha
          rcases ha with rfl | rfl
          · rw [Bd]
            exact ⟨by omega, rowsOf_bd _ _⟩
          · simp [Bd])
        rw [e] at k ⊢
        simpa [rowsOf] using k
    · obtain rfl : m = (n : Int) := by omega
      refine w_lss false rfl rfl (decide_eq_false (by omega)) ?_
      refine w_cond_f rfl ?_
      refine Gives.of ?_
      simp [tl, tlA, tlL]
      exact rowsOf_tl _ _ _ _

omit [Laid] in
theorem rowsOf_len (l : List Int) : (rowsOf l).length = l.length := by simp [rowsOf]
omit [Laid] in
theorem w_idxS {m : Nat} {x i : AV} {rows : List (List AV)} {n : Nat} {K : AV → Prop} (ex : x = .sl m rows) (ei : i = int n) (hn : n < rows.length) (q : K (.ip (rows.getD n []))) : iIdxP m x i K := by
  subst ex; subst ei
  rw [iIdxP_s]
  exact ⟨rfl, ⟨by omega, by omega⟩, by simpa using q⟩
omit [Laid] in
theorem w_loadI {x c : AV} {r : List AV} {h : Heap} {K : AV → Prop} (e : x = .ip (c :: r)) (q : K c) : iLoad false 1 x h K := by subst e; exact q
omit [Laid] in
theorem w_lenS {x : AV} {sz : Nat} {rows : List (List AV)} {K : AV → Prop} (e : x = .sl sz rows) (q : K (int rows.length)) : iLen x K := by subst e; rw [iLen_s]; exact fun _ => q
set_option maxHeartbeats 2000000 in
/-- All places. -/
theorem con8 (h17 : Con Tryz.prog 17 [] (bool true)) (A B m : Int) : Con Tryz.prog 8 [anbA A B, int m] (bool true) := by
  refine (V8 _ _).gives (by simp) (by simp) ?_
  unfold W8
  have alive : ∀ {h : Heap} {K : AV → Heap → Prop}, K (bool true) h → iCall Tryz.prog (.fn (.func 17) [] []) [] h K := fun k => iCall_con (by kernel_rfl) h17 k
  have fin : ∀ {h : Heap}, Gives (bool true) (bool true) h := .pure (by simp) rfl
  have b23 : hasBody Tryz.prog 23 = true := by kernel_rfl
  refine w_new (by simp [anbA]) ?_
  repeat first
    | (with_reducible apply w_let)
    | (with_reducible apply w_and)
    | (with_reducible apply w_guard_y
       rfl)
    | (with_reducible apply w_guard_n
       rfl)
    | (with_reducible apply w_guard_u
       rfl)
    | (with_reducible apply w_pick_t
       rfl)
    | (with_reducible apply w_pick_f
       rfl)
    | (with_reducible apply w_cond_t
       rfl)
    | (with_reducible apply w_cond_f
       rfl)
    | (with_reducible apply w_not_t
       rfl)
    | (with_reducible apply w_not_f
       rfl)
    | (with_reducible apply w_lss true
       rfl
       rfl
       exact decide_eq_true (by omega))
    | (with_reducible apply w_lss false
       rfl
       rfl
       exact decide_eq_false (by omega))
    | (with_reducible apply w_leq true
       rfl
       rfl
       exact decide_eq_true (by omega))
    | (with_reducible apply w_leq false
       rfl
       rfl
       exact decide_eq_false (by omega))
    | (with_reducible apply w_gtr true
       rfl
       rfl
       exact decide_eq_true (by omega))
    | (with_reducible apply w_gtr false
       rfl
       rfl
       exact decide_eq_false (by omega))
    | (with_reducible apply w_geq true
       rfl
       rfl
       exact decide_eq_true (by omega))
    | (with_reducible apply w_geq false
       rfl
       rfl
       exact decide_eq_false (by omega))
    | (with_reducible apply w_eql true
       rfl
       rfl
       exact decide_eq_true (by omega))
    | (with_reducible apply w_eql false
       rfl
       rfl
       exact decide_eq_false (by omega))
    | (with_reducible apply w_neq false
       rfl
       rfl
       rw [decide_eq_true (by omega)]; rfl)
    | (with_reducible apply w_neq true
       rfl
       rfl
       rw [decide_eq_false (by omega)]; rfl)
    | (with_reducible apply w_add
       rfl
       rfl
       unfold inI; omega)
    | (with_reducible apply w_fad
       rfl)
    | (with_reducible apply w_load
       rfl
       rfl
       rfl)
    | (with_reducible apply w_loadA
       rfl
       rfl
       exact Nat.le_refl 2)
    | (with_reducible apply w_extr
       rfl
       rfl)
  refine w_call rfl (by kernel_rfl) (con16 A B) ?_
  cases hv : (okN A && okN B)
  · repeat first
      | (with_reducible apply w_let)
      | (with_reducible apply w_and)
      | (with_reducible apply w_guard_y
         rfl)
      | (with_reducible apply w_guard_n
         rfl)
      | (with_reducible apply w_guard_u
         rfl)
      | (with_reducible apply w_pick_t
         rfl)
      | (with_reducible apply w_pick_f
         rfl)
      | (with_reducible apply w_cond_t
         rfl)
      | (with_reducible apply w_cond_f
         rfl)
      | (with_reducible apply w_not_t
         rfl)
      | (with_reducible apply w_not_f
         rfl)
      | (with_reducible apply w_lss true
         rfl
         rfl
         exact decide_eq_true (by omega))
      | (with_reducible apply w_lss false
         rfl
         rfl
         exact decide_eq_false (by omega))
      | (with_reducible apply w_leq true
         rfl
         rfl
         exact decide_eq_true (by omega))
      | (with_reducible apply w_leq false
         rfl
         rfl
         exact decide_eq_false (by omega))
      | (with_reducible apply w_gtr true
         rfl
         rfl
         exact decide_eq_true (by omega))
      | (with_reducible apply w_gtr false
         rfl
         rfl
         exact decide_eq_false (by omega))
      | (with_reducible apply w_geq true
         rfl
         rfl
         exact decide_eq_true (by omega))
      | (with_reducible apply w_geq false
         rfl
         rfl
         exact decide_eq_false (by omega))
      | (with_reducible apply w_eql true
         rfl
         rfl
         exact decide_eq_true (by omega))
      | (with_reducible apply w_eql false
         rfl
         rfl
         exact decide_eq_false (by omega))
      | (with_reducible apply w_neq false
         rfl
         rfl
         rw [decide_eq_true (by omega)]; rfl)
      | (with_reducible apply w_neq true
         rfl
         rfl
         rw [decide_eq_false (by omega)]; rfl)
      | (with_reducible apply w_add
         rfl
         rfl
         unfold inI; omega)
      | (with_reducible apply w_fad
         rfl)
      | (with_reducible apply w_load
         rfl
         rfl
         rfl)
      | (with_reducible apply w_loadA
         rfl
         rfl
         exact Nat.le_refl 2)
      | (with_reducible apply w_extr
         rfl
         rfl)
    exact alive fin
  · obtain ⟨a1, a2, c1, c2⟩ := (valid_iff A B).1 hv
    have oA := okN_of a1 a2
    have oB := okN_of c1 c2
    by_cases h5 : 0 ≤ m
    · by_cases h6 : m ≤ 64
      · repeat first
          | (with_reducible apply w_let)
          | (with_reducible apply w_and)
          | (with_reducible apply w_guard_y
             rfl)
          | (with_reducible apply w_guard_n
             rfl)
          | (with_reducible apply w_guard_u
             rfl)
          | (with_reducible apply w_pick_t
             rfl)
          | (with_reducible apply w_pick_f
             rfl)
          | (with_reducible apply w_cond_t
             rfl)
          | (with_reducible apply w_cond_f
             rfl)
          | (with_reducible apply w_not_t
             rfl)
          | (with_reducible apply w_not_f
             rfl)
          | (with_reducible apply w_lss true
             rfl
             rfl
             exact decide_eq_true (by omega))
          | (with_reducible apply w_lss false
             rfl
             rfl
             exact decide_eq_false (by omega))
          | (with_reducible apply w_leq true
             rfl
             rfl
             exact decide_eq_true (by omega))
          | (with_reducible apply w_leq false
             rfl
             rfl
             exact decide_eq_false (by omega))
          | (with_reducible apply w_gtr true
             rfl
             rfl
             exact decide_eq_true (by omega))
          | (with_reducible apply w_gtr false
             rfl
             rfl
             exact decide_eq_false (by omega))
          | (with_reducible apply w_geq true
             rfl
             rfl
             exact decide_eq_true (by omega))
          | (with_reducible apply w_geq false
             rfl
             rfl
             exact decide_eq_false (by omega))
          | (with_reducible apply w_eql true
             rfl
             rfl
             exact decide_eq_true (by omega))
          | (with_reducible apply w_eql false
             rfl
             rfl
             exact decide_eq_false (by omega))
          | (with_reducible apply w_neq false
             rfl
             rfl
             rw [decide_eq_true (by omega)]; rfl)
          | (with_reducible apply w_neq true
             rfl
             rfl
             rw [decide_eq_false (by omega)]; rfl)
          | (with_reducible apply w_add
             rfl
             rfl
             unfold inI; omega)
          | (with_reducible apply w_fad
             rfl)
          | (with_reducible apply w_load
             rfl
             rfl
             rfl)
          | (with_reducible apply w_loadA
             rfl
             rfl
             exact Nat.le_refl 2)
          | (with_reducible apply w_extr
             rfl
             rfl)
        refine w_call rfl (by kernel_rfl) (con24 A B m oA oB h5 h6) ?_
        repeat first
          | (with_reducible apply w_let)
          | (with_reducible apply w_and)
          | (with_reducible apply w_guard_y
             rfl)
          | (with_reducible apply w_guard_n
             rfl)
          | (with_reducible apply w_guard_u
             rfl)
          | (with_reducible apply w_pick_t
             rfl)
          | (with_reducible apply w_pick_f
             rfl)
          | (with_reducible apply w_cond_t
             rfl)
          | (with_reducible apply w_cond_f
             rfl)
          | (with_reducible apply w_not_t
             rfl)
          | (with_reducible apply w_not_f
             rfl)
          | (with_reducible apply w_lss true
             rfl
             rfl
             exact decide_eq_true (by omega))
          | (with_reducible apply w_lss false
             rfl
             rfl
             exact decide_eq_false (by omega))
          | (with_reducible apply w_leq true
             rfl
             rfl
             exact decide_eq_true (by omega))
          | (with_reducible apply w_leq false
             rfl
             rfl
             exact decide_eq_false (by omega))
          | (with_reducible apply w_gtr true
             rfl
             rfl
             exact decide_eq_true (by omega))
          | (with_reducible apply w_gtr false
             rfl
             rfl
             exact decide_eq_false (by omega))
          | (with_reducible apply w_geq true
             rfl
             rfl
             exact decide_eq_true (by omega))
          | (with_reducible apply w_geq false
             rfl
             rfl
             exact decide_eq_false (by omega))
          | (with_reducible apply w_eql true
             rfl
             rfl
             exact decide_eq_true (by omega))
          | (with_reducible apply w_eql false
             rfl
             rfl
             exact decide_eq_false (by omega))
          | (with_reducible apply w_neq false
             rfl
             rfl
             rw [decide_eq_true (by omega)]; rfl)
          | (with_reducible apply w_neq true
             rfl
             rfl
             rw [decide_eq_false (by omega)]; rfl)
          | (with_reducible apply w_add
             rfl
             rfl
             unfold inI; omega)
          | (with_reducible apply w_fad
             rfl)
          | (with_reducible apply w_load
             rfl
             rfl
             rfl)
          | (with_reducible apply w_loadA
             rfl
             rfl
             exact Nat.le_refl 2)
          | (with_reducible apply w_extr
             rfl
             rfl)
        refine iLoop_of (α := Nat) (fun n => (n : Int) ≤ m) (fun n => [int ((places A B n).length : Nat), int ((n + 1 : Nat) : Int)]) (fun _ => [.blk ⟨36, [int A, int B], true⟩]) (fun n => m.toNat - n) 0 (by simpa using h5) (Wk.refl _ _ _ (by simp)) ?_
        intro n hn
        have hin : inI (((n + 1 : Nat) : Int) + 1) := by unfold inI; omega
        have hpl := places_length A B n
        rcases Int.lt_or_le (n : Int) m with q | q
        · repeat first
            | (with_reducible apply w_let)
            | (with_reducible apply w_and)
            | (with_reducible apply w_guard_y
               rfl)
            | (with_reducible apply w_guard_n
               rfl)
            | (with_reducible apply w_guard_u
               rfl)
            | (with_reducible apply w_pick_t
               rfl)
            | (with_reducible apply w_pick_f
               rfl)
            | (with_reducible apply w_cond_t
               rfl)
            | (with_reducible apply w_cond_f
               rfl)
            | (with_reducible apply w_not_t
               rfl)
            | (with_reducible apply w_not_f
               rfl)
            | (with_reducible apply w_lss true
               rfl
               rfl
               exact decide_eq_true (by omega))
            | (with_reducible apply w_lss false
               rfl
               rfl
               exact decide_eq_false (by omega))
            | (with_reducible apply w_leq true
               rfl
               rfl
               exact decide_eq_true (by omega))
            | (with_reducible apply w_leq false
               rfl
               rfl
               exact decide_eq_false (by omega))
            | (with_reducible apply w_gtr true
               rfl
               rfl
               exact decide_eq_true (by omega))
            | (with_reducible apply w_gtr false
               rfl
               rfl
               exact decide_eq_false (by omega))
            | (with_reducible apply w_geq true
               rfl
               rfl
               exact decide_eq_true (by omega))
            | (with_reducible apply w_geq false
               rfl
               rfl
               exact decide_eq_false (by omega))
            | (with_reducible apply w_eql true
               rfl
               rfl
               exact decide_eq_true (by omega))
            | (with_reducible apply w_eql false
               rfl
               rfl
               exact decide_eq_false (by omega))
            | (with_reducible apply w_neq false
               rfl
               rfl
               rw [decide_eq_true (by omega)]; rfl)
            | (with_reducible apply w_neq true
               rfl
               rfl
               rw [decide_eq_false (by omega)]; rfl)
            | (with_reducible apply w_add
               rfl
               rfl
               unfold inI; omega)
            | (with_reducible apply w_fad
               rfl)
            | (with_reducible apply w_load
               rfl
               rfl
               rfl)
            | (with_reducible apply w_loadA
               rfl
               rfl
               exact Nat.le_refl 2)
            | (with_reducible apply w_extr
               rfl
               rfl)
          refine w_call rfl b23 (con23 A B ((n + 1 : Nat) : Int) oA oB (by omega) (by omega)) ?_
          cases hh : hasP A B ((n + 1 : Nat) : Int)
          · repeat first
              | (with_reducible apply w_let)
              | (with_reducible apply w_and)
              | (with_reducible apply w_guard_y
                 rfl)
              | (with_reducible apply w_guard_n
                 rfl)
              | (with_reducible apply w_guard_u
                 rfl)
              | (with_reducible apply w_pick_t
                 rfl)
              | (with_reducible apply w_pick_f
                 rfl)
              | (with_reducible apply w_cond_t
                 rfl)
              | (with_reducible apply w_cond_f
                 rfl)
              | (with_reducible apply w_not_t
                 rfl)
              | (with_reducible apply w_not_f
                 rfl)
              | (with_reducible apply w_lss true
                 rfl
                 rfl
                 exact decide_eq_true (by omega))
              | (with_reducible apply w_lss false
                 rfl
                 rfl
                 exact decide_eq_false (by omega))
              | (with_reducible apply w_leq true
                 rfl
                 rfl
                 exact decide_eq_true (by omega))
              | (with_reducible apply w_leq false
                 rfl
                 rfl
                 exact decide_eq_false (by omega))
              | (with_reducible apply w_gtr true
                 rfl
                 rfl
                 exact decide_eq_true (by omega))
              | (with_reducible apply w_gtr false
                 rfl
                 rfl
                 exact decide_eq_false (by omega))
              | (with_reducible apply w_geq true
                 rfl
                 rfl
                 exact decide_eq_true (by omega))
              | (with_reducible apply w_geq false
                 rfl
                 rfl
                 exact decide_eq_false (by omega))
              | (with_reducible apply w_eql true
                 rfl
                 rfl
                 exact decide_eq_true (by omega))
              | (with_reducible apply w_eql false
                 rfl
                 rfl
                 exact decide_eq_false (by omega))
              | (with_reducible apply w_neq false
                 rfl
                 rfl
                 rw [decide_eq_true (by omega)]; rfl)
              | (with_reducible apply w_neq true
                 rfl
                 rfl
                 rw [decide_eq_false (by omega)]; rfl)
              | (with_reducible apply w_add
                 rfl
                 rfl
                 unfold inI; omega)
              | (with_reducible apply w_fad
                 rfl)
              | (with_reducible apply w_load
                 rfl
                 rfl
                 rfl)
              | (with_reducible apply w_loadA
                 rfl
                 rfl
                 exact Nat.le_refl 2)
              | (with_reducible apply w_extr
                 rfl
                 rfl)
            have e : places A B (n + 1) = places A B n := by rw [places, show (n : Int) + 1 = ((n + 1 : Nat) : Int) by omega, hh]; rfl
            exact ⟨n + 1, by omega, by rw [e]; exact Wk.refl _ _ _ (by simp), by omega⟩
          · have hat := places_at A B (n := n) (m := m.toNat) (by omega) (by rw [show (n : Int) + 1 = ((n + 1 : Nat) : Int) by omega]; exact hh)
            have hlt := (List.getElem?_eq_some_iff.1 hat).1
            have hlt' : (places A B n).length < (rowsOf (places A B m.toNat)).length := by rw [rowsOf_len]; exact hlt
            have hlt2 : ((places A B n).length : Int) < ((rowsOf (places A B m.toNat)).length : Int) := by omega
            have hrow : (rowsOf (places A B m.toNat)).getD (places A B n).length [] = [int ((n + 1 : Nat) : Int)] := by
              rw [List.getD_eq_getElem?_getD, rowsOf, List.getElem?_map, hat]; simp
            repeat first
              | (with_reducible apply w_let)
              | (with_reducible apply w_and)
              | (with_reducible apply w_guard_y
                 rfl)
              | (with_reducible apply w_guard_n
                 rfl)
              | (with_reducible apply w_guard_u
                 rfl)
              | (with_reducible apply w_pick_t
                 rfl)
              | (with_reducible apply w_pick_f
                 rfl)
              | (with_reducible apply w_cond_t
                 rfl)
              | (with_reducible apply w_cond_f
                 rfl)
              | (with_reducible apply w_not_t
                 rfl)
              | (with_reducible apply w_not_f
                 rfl)
              | (with_reducible apply w_lss true
                 rfl
                 rfl
                 exact decide_eq_true (by omega))
              | (with_reducible apply w_lss false
                 rfl
                 rfl
                 exact decide_eq_false (by omega))
              | (with_reducible apply w_leq true
                 rfl
                 rfl
                 exact decide_eq_true (by omega))
              | (with_reducible apply w_leq false
                 rfl
                 rfl
                 exact decide_eq_false (by omega))
              | (with_reducible apply w_gtr true
                 rfl
                 rfl
                 exact decide_eq_true (by omega))
              | (with_reducible apply w_gtr false
                 rfl
                 rfl
                 exact decide_eq_false (by omega))
              | (with_reducible apply w_geq true
                 rfl
                 rfl
                 exact decide_eq_true (by omega))
              | (with_reducible apply w_geq false
                 rfl
                 rfl
                 exact decide_eq_false (by omega))
              | (with_reducible apply w_eql true
                 rfl
                 rfl
                 exact decide_eq_true (by omega))
              | (with_reducible apply w_eql false
                 rfl
                 rfl
                 exact decide_eq_false (by omega))
              | (with_reducible apply w_neq false
                 rfl
                 rfl
                 rw [decide_eq_true (by omega)]; rfl)
              | (with_reducible apply w_neq true
                 rfl
                 rfl
                 rw [decide_eq_false (by omega)]; rfl)
              | (with_reducible apply w_add
                 rfl
                 rfl
                 unfold inI; omega)
              | (with_reducible apply w_fad
                 rfl)
              | (with_reducible apply w_load
                 rfl
                 rfl
                 rfl)
              | (with_reducible apply w_loadA
                 rfl
                 rfl
                 exact Nat.le_refl 2)
              | (with_reducible apply w_extr
                 rfl
                 rfl)
            refine w_lenS rfl ?_
            repeat first
              | (with_reducible apply w_let)
              | (with_reducible apply w_and)
              | (with_reducible apply w_guard_y
                 rfl)
              | (with_reducible apply w_guard_n
                 rfl)
              | (with_reducible apply w_guard_u
                 rfl)
              | (with_reducible apply w_pick_t
                 rfl)
              | (with_reducible apply w_pick_f
                 rfl)
              | (with_reducible apply w_cond_t
                 rfl)
              | (with_reducible apply w_cond_f
                 rfl)
              | (with_reducible apply w_not_t
                 rfl)
              | (with_reducible apply w_not_f
                 rfl)
              | (with_reducible apply w_lss true
                 rfl
                 rfl
                 exact decide_eq_true (by omega))
              | (with_reducible apply w_lss false
                 rfl
                 rfl
                 exact decide_eq_false (by omega))
              | (with_reducible apply w_leq true
                 rfl
                 rfl
                 exact decide_eq_true (by omega))
              | (with_reducible apply w_leq false
                 rfl
                 rfl
                 exact decide_eq_false (by omega))
              | (with_reducible apply w_gtr true
                 rfl
                 rfl
                 exact decide_eq_true (by omega))
              | (with_reducible apply w_gtr false
                 rfl
                 rfl
                 exact decide_eq_false (by omega))
              | (with_reducible apply w_geq true
                 rfl
                 rfl
                 exact decide_eq_true (by omega))
              | (with_reducible apply w_geq false
                 rfl
                 rfl
                 exact decide_eq_false (by omega))
              | (with_reducible apply w_eql true
                 rfl
                 rfl
                 exact decide_eq_true (by omega))
              | (with_reducible apply w_eql false
                 rfl
                 rfl
                 exact decide_eq_false (by omega))
              | (with_reducible apply w_neq false
                 rfl
                 rfl
                 rw [decide_eq_true (by omega)]; rfl)
              | (with_reducible apply w_neq true
                 rfl
                 rfl
                 rw [decide_eq_false (by omega)]; rfl)
              | (with_reducible apply w_add
                 rfl
                 rfl
                 unfold inI; omega)
              | (with_reducible apply w_fad
                 rfl)
              | (with_reducible apply w_load
                 rfl
                 rfl
                 rfl)
              | (with_reducible apply w_loadA
                 rfl
                 rfl
                 exact Nat.le_refl 2)
              | (with_reducible apply w_extr
                 rfl
                 rfl)
            refine w_idxS rfl rfl hlt' ?_
            rw [hrow]
            refine w_loadI rfl ?_
            repeat first
              | (with_reducible apply w_let)
              | (with_reducible apply w_and)
              | (with_reducible apply w_guard_y
                 rfl)
              | (with_reducible apply w_guard_n
                 rfl)
              | (with_reducible apply w_guard_u
                 rfl)
              | (with_reducible apply w_pick_t
                 rfl)
              | (with_reducible apply w_pick_f
                 rfl)
              | (with_reducible apply w_cond_t
                 rfl)
              | (with_reducible apply w_cond_f
                 rfl)
              | (with_reducible apply w_not_t
                 rfl)
              | (with_reducible apply w_not_f
                 rfl)
              | (with_reducible apply w_lss true
                 rfl
                 rfl
                 exact decide_eq_true (by omega))
              | (with_reducible apply w_lss false
                 rfl
                 rfl
                 exact decide_eq_false (by omega))
              | (with_reducible apply w_leq true
                 rfl
                 rfl
                 exact decide_eq_true (by omega))
              | (with_reducible apply w_leq false
                 rfl
                 rfl
                 exact decide_eq_false (by omega))
              | (with_reducible apply w_gtr true
                 rfl
                 rfl
                 exact decide_eq_true (by omega))
              | (with_reducible apply w_gtr false
                 rfl
                 rfl
                 exact decide_eq_false (by omega))
              | (with_reducible apply w_geq true
                 rfl
                 rfl
                 exact decide_eq_true (by omega))
              | (with_reducible apply w_geq false
                 rfl
                 rfl
                 exact decide_eq_false (by omega))
              | (with_reducible apply w_eql true
                 rfl
                 rfl
                 exact decide_eq_true (by omega))
              | (with_reducible apply w_eql false
                 rfl
                 rfl
                 exact decide_eq_false (by omega))
              | (with_reducible apply w_neq false
                 rfl
                 rfl
                 rw [decide_eq_true (by omega)]; rfl)
              | (with_reducible apply w_neq true
                 rfl
                 rfl
                 rw [decide_eq_false (by omega)]; rfl)
              | (with_reducible apply w_add
                 rfl
                 rfl
                 unfold inI; omega)
              | (with_reducible apply w_fad
                 rfl)
              | (with_reducible apply w_load
                 rfl
                 rfl
                 rfl)
              | (with_reducible apply w_loadA
                 rfl
                 rfl
                 exact Nat.le_refl 2)
              | (with_reducible apply w_extr
                 rfl
                 rfl)
            have e : places A B (n + 1) = places A B n ++ [((n + 1 : Nat) : Int)] := by rw [places, show (n : Int) + 1 = ((n + 1 : Nat) : Int) by omega, hh]; rfl
            exact ⟨n + 1, by omega, by rw [e]; simpa using Wk.refl _ _ _ (by simp), by omega⟩
        · obtain rfl : m = (n : Int) := by omega
          repeat first
            | (with_reducible apply w_let)
            | (with_reducible apply w_and)
            | (with_reducible apply w_guard_y
               rfl)
            | (with_reducible apply w_guard_n
               rfl)
            | (with_reducible apply w_guard_u
               rfl)
            | (with_reducible apply w_pick_t
               rfl)
            | (with_reducible apply w_pick_f
               rfl)
            | (with_reducible apply w_cond_t
               rfl)
            | (with_reducible apply w_cond_f
               rfl)
            | (with_reducible apply w_not_t
               rfl)
            | (with_reducible apply w_not_f
               rfl)
            | (with_reducible apply w_lss true
               rfl
               rfl
               exact decide_eq_true (by omega))
            | (with_reducible apply w_lss false
               rfl
               rfl
               exact decide_eq_false (by omega))
            | (with_reducible apply w_leq true
               rfl
               rfl
               exact decide_eq_true (by omega))
            | (with_reducible apply w_leq false
               rfl
               rfl
               exact decide_eq_false (by omega))
            | (with_reducible apply w_gtr true
               rfl
               rfl
               exact decide_eq_true (by omega))
            | (with_reducible apply w_gtr false
               rfl
               rfl
               exact decide_eq_false (by omega))
            | (with_reducible apply w_geq true
               rfl
               rfl
               exact decide_eq_true (by omega))
            | (with_reducible apply w_geq false
               rfl
               rfl
               exact decide_eq_false (by omega))
            | (with_reducible apply w_eql true
               rfl
               rfl
               exact decide_eq_true (by omega))
            | (with_reducible apply w_eql false
               rfl
               rfl
               exact decide_eq_false (by omega))
            | (with_reducible apply w_neq false
               rfl
               rfl
               rw [decide_eq_true (by omega)]; rfl)
            | (with_reducible apply w_neq true
               rfl
               rfl
               rw [decide_eq_false (by omega)]; rfl)
            | (with_reducible apply w_add
               rfl
               rfl
               unfold inI; omega)
            | (with_reducible apply w_fad
               rfl)
            | (with_reducible apply w_load
               rfl
               rfl
               rfl)
            | (with_reducible apply w_loadA
               rfl
               rfl
               exact Nat.le_refl 2)
            | (with_reducible apply w_extr
               rfl
               rfl)
          refine w_lenS rfl ?_
          have hl : ((places A B n).length : Int) = ((rowsOf (places A B (n : Int).toNat)).length : Int) := by rw [rowsOf_len]; simp
          repeat first
            | (with_reducible apply w_let)
            | (with_reducible apply w_and)
            | (with_reducible apply w_guard_y
               rfl)
            | (with_reducible apply w_guard_n
               rfl)
            | (with_reducible apply w_guard_u
               rfl)
            | (with_reducible apply w_pick_t
               rfl)
            | (with_reducible apply w_pick_f
               rfl)
            | (with_reducible apply w_cond_t
               rfl)
            | (with_reducible apply w_cond_f
               rfl)
            | (with_reducible apply w_not_t
               rfl)
            | (with_reducible apply w_not_f
               rfl)
            | (with_reducible apply w_lss true
               rfl
               rfl
               exact decide_eq_true (by omega))
            | (with_reducible apply w_lss false
               rfl
               rfl
               exact decide_eq_false (by omega))
            | (with_reducible apply w_leq true
               rfl
               rfl
               exact decide_eq_true (by omega))
            | (with_reducible apply w_leq false
               rfl
               rfl
               exact decide_eq_false (by omega))
            | (with_reducible apply w_gtr true
               rfl
               rfl
               exact decide_eq_true (by omega))
            | (with_reducible apply w_gtr false
               rfl
               rfl
               exact decide_eq_false (by omega))
            | (with_reducible apply w_geq true
               rfl
               rfl
               exact decide_eq_true (by omega))
            | (with_reducible apply w_geq false
               rfl
               rfl
               exact decide_eq_false (by omega))
            | (with_reducible apply w_eql true
               rfl
               rfl
               exact decide_eq_true (by omega))
            | (with_reducible apply w_eql false
               rfl
               rfl
               exact decide_eq_false (by omega))
            | (with_reducible apply w_neq false
               rfl
               rfl
               rw [decide_eq_true (by omega)]; rfl)
            | (with_reducible apply w_neq true
               rfl
               rfl
               rw [decide_eq_false (by omega)]; rfl)
            | (with_reducible apply w_add
               rfl
               rfl
               unfold inI; omega)
            | (with_reducible apply w_fad
               rfl)
            | (with_reducible apply w_load
               rfl
               rfl
               rfl)
            | (with_reducible apply w_loadA
               rfl
               rfl
               exact Nat.le_refl 2)
            | (with_reducible apply w_extr
               rfl
               rfl)
          refine alive ?_
          repeat first
            | (with_reducible apply w_let)
            | (with_reducible apply w_and)
            | (with_reducible apply w_guard_y
               rfl)
            | (with_reducible apply w_guard_n
               rfl)
            | (with_reducible apply w_guard_u
               rfl)
            | (with_reducible apply w_pick_t
               rfl)
            | (with_reducible apply w_pick_f
               rfl)
            | (with_reducible apply w_cond_t
               rfl)
            | (with_reducible apply w_cond_f
               rfl)
            | (with_reducible apply w_not_t
               rfl)
            | (with_reducible apply w_not_f
               rfl)
            | (with_reducible apply w_lss true
               rfl
               rfl
               exact decide_eq_true (by omega))
            | (with_reducible apply w_lss false
               rfl
               rfl
               exact decide_eq_false (by omega))
            | (with_reducible apply w_leq true
               rfl
               rfl
               exact decide_eq_true (by omega))
            | (with_reducible apply w_leq false
               rfl
               rfl
               exact decide_eq_false (by omega))
            | (with_reducible apply w_gtr true
               rfl
               rfl
               exact decide_eq_true (by omega))
            | (with_reducible apply w_gtr false
               rfl
               rfl
               exact decide_eq_false (by omega))
            | (with_reducible apply w_geq true
               rfl
               rfl
               exact decide_eq_true (by omega))
            | (with_reducible apply w_geq false
               rfl
               rfl
               exact decide_eq_false (by omega))
            | (with_reducible apply w_eql true
               rfl
               rfl
               exact decide_eq_true (by omega))
            | (with_reducible apply w_eql false
               rfl
               rfl
               exact decide_eq_false (by omega))
            | (with_reducible apply w_neq false
               rfl
               rfl
               rw [decide_eq_true (by omega)]; rfl)
            | (with_reducible apply w_neq true
               rfl
               rfl
               rw [decide_eq_false (by omega)]; rfl)
            | (with_reducible apply w_add
               rfl
               rfl
               unfold inI; omega)
            | (with_reducible apply w_fad
               rfl)
            | (with_reducible apply w_load
               rfl
               rfl
               rfl)
            | (with_reducible apply w_loadA
               rfl
               rfl
               exact Nat.le_refl 2)
            | (with_reducible apply w_extr
               rfl
               rfl)
          exact fin
      · repeat first
          | (with_reducible apply w_let)
          | (with_reducible apply w_and)
          | (with_reducible apply w_guard_y
             rfl)
          | (with_reducible apply w_guard_n
             rfl)
          | (with_reducible apply w_guard_u
             rfl)
          | (with_reducible apply w_pick_t
             rfl)
          | (with_reducible apply w_pick_f
             rfl)
          | (with_reducible apply w_cond_t
             rfl)
          | (with_reducible apply w_cond_f
             rfl)
          | (with_reducible apply w_not_t
             rfl)
          | (with_reducible apply w_not_f
             rfl)
          | (with_reducible apply w_lss true
             rfl
             rfl
             exact decide_eq_true (by omega))
          | (with_reducible apply w_lss false
             rfl
             rfl
             exact decide_eq_false (by omega))
          | (with_reducible apply w_leq true
             rfl
             rfl
             exact decide_eq_true (by omega))
          | (with_reducible apply w_leq false
             rfl
             rfl
             exact decide_eq_false (by omega))
          | (with_reducible apply w_gtr true
             rfl
             rfl
             exact decide_eq_true (by omega))
          | (with_reducible apply w_gtr false
             rfl
             rfl
             exact decide_eq_false (by omega))
          | (with_reducible apply w_geq true
             rfl
             rfl
             exact decide_eq_true (by omega))
          | (with_reducible apply w_geq false
             rfl
             rfl
             exact decide_eq_false (by omega))
          | (with_reducible apply w_eql true
             rfl
             rfl
             exact decide_eq_true (by omega))
          | (with_reducible apply w_eql false
             rfl
             rfl
             exact decide_eq_false (by omega))
          | (with_reducible apply w_neq false
             rfl
             rfl
             rw [decide_eq_true (by omega)]; rfl)
          | (with_reducible apply w_neq true
             rfl
             rfl
             rw [decide_eq_false (by omega)]; rfl)
          | (with_reducible apply w_add
             rfl
             rfl
             unfold inI; omega)
          | (with_reducible apply w_fad
             rfl)
          | (with_reducible apply w_load
             rfl
             rfl
             rfl)
          | (with_reducible apply w_loadA
             rfl
             rfl
             exact Nat.le_refl 2)
          | (with_reducible apply w_extr
             rfl
             rfl)
        exact alive fin
    · repeat first
        | (with_reducible apply w_let)
        | (with_reducible apply w_and)
        | (with_reducible apply w_guard_y
           rfl)
        | (with_reducible apply w_guard_n
           rfl)
        | (with_reducible apply w_guard_u
           rfl)
        | (with_reducible apply w_pick_t
           rfl)
        | (with_reducible apply w_pick_f
           rfl)
        | (with_reducible apply w_cond_t
           rfl)
        | (with_reducible apply w_cond_f
           rfl)
        | (with_reducible apply w_not_t
           rfl)
        | (with_reducible apply w_not_f
           rfl)
        | (with_reducible apply w_lss true
           rfl
           rfl
           exact decide_eq_true (by omega))
        | (with_reducible apply w_lss false
           rfl
           rfl
           exact decide_eq_false (by omega))
        | (with_reducible apply w_leq true
           rfl
           rfl
           exact decide_eq_true (by omega))
        | (with_reducible apply w_leq false
           rfl
           rfl
           exact decide_eq_false (by omega))
        | (with_reducible apply w_gtr true
           rfl
           rfl
           exact decide_eq_true (by omega))
        | (with_reducible apply w_gtr false
           rfl
           rfl
           exact decide_eq_false (by omega))
        | (with_reducible apply w_geq true
           rfl
           rfl
           exact decide_eq_true (by omega))
        | (with_reducible apply w_geq false
           rfl
           rfl
           exact decide_eq_false (by omega))
        | (with_reducible apply w_eql true
           rfl
           rfl
           exact decide_eq_true (by omega))
        | (with_reducible apply w_eql false
           rfl
           rfl
           exact decide_eq_false (by omega))
        | (with_reducible apply w_neq false
           rfl
           rfl
           rw [decide_eq_true (by omega)]; rfl)
        | (with_reducible apply w_neq true
           rfl
           rfl
           rw [decide_eq_false (by omega)]; rfl)
        | (with_reducible apply w_add
           rfl
           rfl
           unfold inI; omega)
        | (with_reducible apply w_fad
           rfl)
        | (with_reducible apply w_load
           rfl
           rfl
           rfl)
        | (with_reducible apply w_loadA
           rfl
           rfl
           exact Nat.le_refl 2)
        | (with_reducible apply w_extr
           rfl
           rfl)
      exact alive fin
end Go.Proofs.YtedaaincibcbkaaGreatDoor
