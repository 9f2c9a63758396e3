/-
  From place to place: the contract of the statement's code. The steps are printed by a program.
  No conditions: for every progression and number.
-/
import Derived.Test.YtedaaincibcbkaaGreatDoorSum
import Derived.Test.YtedaaincibcbkaaGreatDoorWalk
namespace Go.Proofs.YtedaaincibcbkaaGreatDoor
open Go Go.Aw Go.AnbLaw
set_option maxRecDepth 100000
theorem valid_iff (A B : Int) : (okN A && okN B) = true ↔ -1000000000 ≤ A ∧ A ≤ 1000000000 ∧ -1000000000 ≤ B ∧ B ≤ 1000000000 := by simp [okN, and_assoc]
theorem okN_of {n : Int} (h1 : -1000000000 ≤ n) (h2 : n ≤ 1000000000) : okN n = true := by simp [okN]; omega
variable [Laid]
set_option maxHeartbeats 2000000 in
/-- From place to place. -/
theorem con7 (h17 : Con Tryz.prog 17 [] (bool true)) (A B p : Int) : Con Tryz.prog 7 [anbA A B, int p] (bool true) := by
  refine (V7 _ _).gives (by simp) (by simp) ?_
  unfold W7
  have alive : ∀ {h : Heap} {K : AV → Heap → Prop}, K (bool true) h → iCall Tryz.prog (.fn (.func 17) [] []) [] h K := fun k => iCall_con (by kernel_rfl) h17 k
  have fin : ∀ {h : Heap}, Gives (bool true) (bool true) h := .pure (by simp) rfl
  have b23 : hasBody Tryz.prog 23 = true := by kernel_rfl
  refine w_new (by simp [anbA]) ?_
  repeat first
    | (with_reducible apply w_let)
    | (with_reducible apply w_and)
    | (with_reducible apply w_guard_y
       rfl)
    | (with_reducible apply w_guard_n
       rfl)
    | (with_reducible apply w_guard_u
       rfl)
    | (with_reducible apply w_pick_t
       rfl)
    | (with_reducible apply w_pick_f
       rfl)
    | (with_reducible apply w_cond_t
       rfl)
    | (with_reducible apply w_cond_f
       rfl)
    | (with_reducible apply w_not_t
       rfl)
    | (with_reducible apply w_not_f
       rfl)
    | (with_reducible apply w_lss true
       rfl
       rfl
       exact decide_eq_true (by omega))
    | (with_reducible apply w_lss false
       rfl
       rfl
       exact decide_eq_false (by omega))
    | (with_reducible apply w_leq true
       rfl
       rfl
       exact decide_eq_true (by omega))
    | (with_reducible apply w_leq false
       rfl
       rfl
       exact decide_eq_false (by omega))
    | (with_reducible apply w_gtr true
       rfl
       rfl
       exact decide_eq_true (by omega))
    | (with_reducible apply w_gtr false
       rfl
       rfl
       exact decide_eq_false (by omega))
    | (with_reducible apply w_geq true
       rfl
       rfl
       exact decide_eq_true (by omega))
    | (with_reducible apply w_geq false
       rfl
       rfl
       exact decide_eq_false (by omega))
    | (with_reducible apply w_eql true
       rfl
       rfl
       exact decide_eq_true (by omega))
    | (with_reducible apply w_eql false
       rfl
       rfl
       exact decide_eq_false (by omega))
    | (with_reducible apply w_neq false
       rfl
       rfl
       rw [decide_eq_true (by omega)]; rfl)
    | (with_reducible apply w_neq true
       rfl
       rfl
       rw [decide_eq_false (by omega)]; rfl)
    | (with_reducible apply w_add
       rfl
       rfl
       unfold inI; omega)
    | (with_reducible apply w_fad
       rfl)
    | (with_reducible apply w_load
       rfl
       rfl
       rfl)
    | (with_reducible apply w_loadA
       rfl
       rfl
       exact Nat.le_refl 2)
    | (with_reducible apply w_extr
       rfl
       rfl)
  refine w_call rfl (by kernel_rfl) (con16 A B) ?_
  cases hv : (okN A && okN B)
  · repeat first
      | (with_reducible apply w_let)
      | (with_reducible apply w_and)
      | (with_reducible apply w_guard_y
         rfl)
      | (with_reducible apply w_guard_n
         rfl)
      | (with_reducible apply w_guard_u
         rfl)
      | (with_reducible apply w_pick_t
         rfl)
      | (with_reducible apply w_pick_f
         rfl)
      | (with_reducible apply w_cond_t
         rfl)
      | (with_reducible apply w_cond_f
         rfl)
      | (with_reducible apply w_not_t
         rfl)
      | (with_reducible apply w_not_f
         rfl)
      | (with_reducible apply w_lss true
         rfl
         rfl
         exact decide_eq_true (by omega))
      | (with_reducible apply w_lss false
         rfl
         rfl
         exact decide_eq_false (by omega))
      | (with_reducible apply w_leq true
         rfl
         rfl
         exact decide_eq_true (by omega))
      | (with_reducible apply w_leq false
         rfl
         rfl
         exact decide_eq_false (by omega))
      | (with_reducible apply w_gtr true
         rfl
         rfl
         exact decide_eq_true (by omega))
      | (with_reducible apply w_gtr false
         rfl
         rfl
         exact decide_eq_false (by omega))
      | (with_reducible apply w_geq true
         rfl
         rfl
         exact decide_eq_true (by omega))
      | (with_reducible apply w_geq false
         rfl
         rfl
         exact decide_eq_false (by omega))
      | (with_reducible apply w_eql true
         rfl
         rfl
         exact decide_eq_true (by omega))
      | (with_reducible apply w_eql false
         rfl
         rfl
         exact decide_eq_false (by omega))
      | (with_reducible apply w_neq false
         rfl
         rfl
         rw [decide_eq_true (by omega)]; rfl)
      | (with_reducible apply w_neq true
         rfl
         rfl
         rw [decide_eq_false (by omega)]; rfl)
      | (with_reducible apply w_add
         rfl
         rfl
         unfold inI; omega)
      | (with_reducible apply w_fad
         rfl)
      | (with_reducible apply w_load
         rfl
         rfl
         rfl)
      | (with_reducible apply w_loadA
         rfl
         rfl
         exact Nat.le_refl 2)
      | (with_reducible apply w_extr
         rfl
         rfl)
    exact alive fin
  · obtain ⟨a1, a2, c1, c2⟩ := (valid_iff A B).1 hv
    have oA := okN_of a1 a2
    have oB := okN_of c1 c2
    by_cases h5 : 1 ≤ p
    · by_cases h6 : p ≤ 1000000000
      · repeat first
          | (with_reducible apply w_let)
          | (with_reducible apply w_and)
          | (with_reducible apply w_guard_y
             rfl)
          | (with_reducible apply w_guard_n
             rfl)
          | (with_reducible apply w_guard_u
             rfl)
          | (with_reducible apply w_pick_t
             rfl)
          | (with_reducible apply w_pick_f
             rfl)
          | (with_reducible apply w_cond_t
             rfl)
          | (with_reducible apply w_cond_f
             rfl)
          | (with_reducible apply w_not_t
             rfl)
          | (with_reducible apply w_not_f
             rfl)
          | (with_reducible apply w_lss true
             rfl
             rfl
             exact decide_eq_true (by omega))
          | (with_reducible apply w_lss false
             rfl
             rfl
             exact decide_eq_false (by omega))
          | (with_reducible apply w_leq true
             rfl
             rfl
             exact decide_eq_true (by omega))
          | (with_reducible apply w_leq false
             rfl
             rfl
             exact decide_eq_false (by omega))
          | (with_reducible apply w_gtr true
             rfl
             rfl
             exact decide_eq_true (by omega))
          | (with_reducible apply w_gtr false
             rfl
             rfl
             exact decide_eq_false (by omega))
          | (with_reducible apply w_geq true
             rfl
             rfl
             exact decide_eq_true (by omega))
          | (with_reducible apply w_geq false
             rfl
             rfl
             exact decide_eq_false (by omega))
          | (with_reducible apply w_eql true
             rfl
             rfl
             exact decide_eq_true (by omega))
          | (with_reducible apply w_eql false
             rfl
             rfl
             exact decide_eq_false (by omega))
          | (with_reducible apply w_neq false
             rfl
             rfl
             rw [decide_eq_true (by omega)]; rfl)
          | (with_reducible apply w_neq true
             rfl
             rfl
             rw [decide_eq_false (by omega)]; rfl)
          | (with_reducible apply w_add
             rfl
             rfl
             unfold inI; omega)
          | (with_reducible apply w_fad
             rfl)
          | (with_reducible apply w_load
             rfl
             rfl
             rfl)
          | (with_reducible apply w_loadA
             rfl
             rfl
             exact Nat.le_refl 2)
          | (with_reducible apply w_extr
             rfl
             rfl)
        refine w_call rfl b23 (con23 A B p oA oB h5 h6) ?_
        cases hh : hasP A B p
        · by_cases hb : 1 ≤ B
          · first
              | (exfalso; omega)
              | (repeat first
                   | (with_reducible apply w_let)
                   | (with_reducible apply w_and)
                   | (with_reducible apply w_guard_y
                      rfl)
                   | (with_reducible apply w_guard_n
                      rfl)
                   | (with_reducible apply w_guard_u
                      rfl)
                   | (with_reducible apply w_pick_t
                      rfl)
                   | (with_reducible apply w_pick_f
                      rfl)
                   | (with_reducible apply w_cond_t
                      rfl)
                   | (with_reducible apply w_cond_f
                      rfl)
                   | (with_reducible apply w_not_t
                      rfl)
                   | (with_reducible apply w_not_f
                      rfl)
                   | (with_reducible apply w_lss true
                      rfl
                      rfl
                      exact decide_eq_true (by omega))
                   | (with_reducible apply w_lss false
                      rfl
                      rfl
                      exact decide_eq_false (by omega))
                   | (with_reducible apply w_leq true
                      rfl
                      rfl
                      exact decide_eq_true (by omega))
                   | (with_reducible apply w_leq false
                      rfl
                      rfl
                      exact decide_eq_false (by omega))
                   | (with_reducible apply w_gtr true
                      rfl
                      rfl
                      exact decide_eq_true (by omega))
                   | (with_reducible apply w_gtr false
                      rfl
                      rfl
                      exact decide_eq_false (by omega))
                   | (with_reducible apply w_geq true
                      rfl
                      rfl
                      exact decide_eq_true (by omega))
                   | (with_reducible apply w_geq false
                      rfl
                      rfl
                      exact decide_eq_false (by omega))
                   | (with_reducible apply w_eql true
                      rfl
                      rfl
                      exact decide_eq_true (by omega))
                   | (with_reducible apply w_eql false
                      rfl
                      rfl
                      exact decide_eq_false (by omega))
                   | (with_reducible apply w_neq false
                      rfl
                      rfl
                      rw [decide_eq_true (by omega)]; rfl)
                   | (with_reducible apply w_neq true
                      rfl
                      rfl
                      rw [decide_eq_false (by omega)]; rfl)
                   | (with_reducible apply w_add
                      rfl
                      rfl
                      unfold inI; omega)
                   | (with_reducible apply w_fad
                      rfl)
                   | (with_reducible apply w_load
                      rfl
                      rfl
                      rfl)
                   | (with_reducible apply w_loadA
                      rfl
                      rfl
                      exact Nat.le_refl 2)
                   | (with_reducible apply w_extr
                      rfl
                      rfl)
                 refine w_call rfl b23 (con23 A B B oA oB hb c2) ?_
                 rw [step_first]
                 repeat first
                   | (with_reducible apply w_let)
                   | (with_reducible apply w_and)
                   | (with_reducible apply w_guard_y
                      rfl)
                   | (with_reducible apply w_guard_n
                      rfl)
                   | (with_reducible apply w_guard_u
                      rfl)
                   | (with_reducible apply w_pick_t
                      rfl)
                   | (with_reducible apply w_pick_f
                      rfl)
                   | (with_reducible apply w_cond_t
                      rfl)
                   | (with_reducible apply w_cond_f
                      rfl)
                   | (with_reducible apply w_not_t
                      rfl)
                   | (with_reducible apply w_not_f
                      rfl)
                   | (with_reducible apply w_lss true
                      rfl
                      rfl
                      exact decide_eq_true (by omega))
                   | (with_reducible apply w_lss false
                      rfl
                      rfl
                      exact decide_eq_false (by omega))
                   | (with_reducible apply w_leq true
                      rfl
                      rfl
                      exact decide_eq_true (by omega))
                   | (with_reducible apply w_leq false
                      rfl
                      rfl
                      exact decide_eq_false (by omega))
                   | (with_reducible apply w_gtr true
                      rfl
                      rfl
                      exact decide_eq_true (by omega))
                   | (with_reducible apply w_gtr false
                      rfl
                      rfl
                      exact decide_eq_false (by omega))
                   | (with_reducible apply w_geq true
                      rfl
                      rfl
                      exact decide_eq_true (by omega))
                   | (with_reducible apply w_geq false
                      rfl
                      rfl
                      exact decide_eq_false (by omega))
                   | (with_reducible apply w_eql true
                      rfl
                      rfl
                      exact decide_eq_true (by omega))
                   | (with_reducible apply w_eql false
                      rfl
                      rfl
                      exact decide_eq_false (by omega))
                   | (with_reducible apply w_neq false
                      rfl
                      rfl
                      rw [decide_eq_true (by omega)]; rfl)
                   | (with_reducible apply w_neq true
                      rfl
                      rfl
                      rw [decide_eq_false (by omega)]; rfl)
                   | (with_reducible apply w_add
                      rfl
                      rfl
                      unfold inI; omega)
                   | (with_reducible apply w_fad
                      rfl)
                   | (with_reducible apply w_load
                      rfl
                      rfl
                      rfl)
                   | (with_reducible apply w_loadA
                      rfl
                      rfl
                      exact Nat.le_refl 2)
                   | (with_reducible apply w_extr
                      rfl
                      rfl)
                 exact alive fin)
          · first
              | (exfalso; omega)
              | (repeat first
                   | (with_reducible apply w_let)
                   | (with_reducible apply w_and)
                   | (with_reducible apply w_guard_y
                      rfl)
                   | (with_reducible apply w_guard_n
                      rfl)
                   | (with_reducible apply w_guard_u
                      rfl)
                   | (with_reducible apply w_pick_t
                      rfl)
                   | (with_reducible apply w_pick_f
                      rfl)
                   | (with_reducible apply w_cond_t
                      rfl)
                   | (with_reducible apply w_cond_f
                      rfl)
                   | (with_reducible apply w_not_t
                      rfl)
                   | (with_reducible apply w_not_f
                      rfl)
                   | (with_reducible apply w_lss true
                      rfl
                      rfl
                      exact decide_eq_true (by omega))
                   | (with_reducible apply w_lss false
                      rfl
                      rfl
                      exact decide_eq_false (by omega))
                   | (with_reducible apply w_leq true
                      rfl
                      rfl
                      exact decide_eq_true (by omega))
                   | (with_reducible apply w_leq false
                      rfl
                      rfl
                      exact decide_eq_false (by omega))
                   | (with_reducible apply w_gtr true
                      rfl
                      rfl
                      exact decide_eq_true (by omega))
                   | (with_reducible apply w_gtr false
                      rfl
                      rfl
                      exact decide_eq_false (by omega))
                   | (with_reducible apply w_geq true
                      rfl
                      rfl
                      exact decide_eq_true (by omega))
                   | (with_reducible apply w_geq false
                      rfl
                      rfl
                      exact decide_eq_false (by omega))
                   | (with_reducible apply w_eql true
                      rfl
                      rfl
                      exact decide_eq_true (by omega))
                   | (with_reducible apply w_eql false
                      rfl
                      rfl
                      exact decide_eq_false (by omega))
                   | (with_reducible apply w_neq false
                      rfl
                      rfl
                      rw [decide_eq_true (by omega)]; rfl)
                   | (with_reducible apply w_neq true
                      rfl
                      rfl
                      rw [decide_eq_false (by omega)]; rfl)
                   | (with_reducible apply w_add
                      rfl
                      rfl
                      unfold inI; omega)
                   | (with_reducible apply w_fad
                      rfl)
                   | (with_reducible apply w_load
                      rfl
                      rfl
                      rfl)
                   | (with_reducible apply w_loadA
                      rfl
                      rfl
                      exact Nat.le_refl 2)
                   | (with_reducible apply w_extr
                      rfl
                      rfl)
                 exact alive fin)
        · have hs := step_at hh
          rcases Int.lt_trichotomy A 0 with hA | hA | hA
          · by_cases hb : 1 ≤ B
            · first
                | (exfalso; omega)
                | (repeat first
                     | (with_reducible apply w_let)
                     | (with_reducible apply w_and)
                     | (with_reducible apply w_guard_y
                        rfl)
                     | (with_reducible apply w_guard_n
                        rfl)
                     | (with_reducible apply w_guard_u
                        rfl)
                     | (with_reducible apply w_pick_t
                        rfl)
                     | (with_reducible apply w_pick_f
                        rfl)
                     | (with_reducible apply w_cond_t
                        rfl)
                     | (with_reducible apply w_cond_f
                        rfl)
                     | (with_reducible apply w_not_t
                        rfl)
                     | (with_reducible apply w_not_f
                        rfl)
                     | (with_reducible apply w_lss true
                        rfl
                        rfl
                        exact decide_eq_true (by omega))
                     | (with_reducible apply w_lss false
                        rfl
                        rfl
                        exact decide_eq_false (by omega))
                     | (with_reducible apply w_leq true
                        rfl
                        rfl
                        exact decide_eq_true (by omega))
                     | (with_reducible apply w_leq false
                        rfl
                        rfl
                        exact decide_eq_false (by omega))
                     | (with_reducible apply w_gtr true
                        rfl
                        rfl
                        exact decide_eq_true (by omega))
                     | (with_reducible apply w_gtr false
                        rfl
                        rfl
                        exact decide_eq_false (by omega))
                     | (with_reducible apply w_geq true
                        rfl
                        rfl
                        exact decide_eq_true (by omega))
                     | (with_reducible apply w_geq false
                        rfl
                        rfl
                        exact decide_eq_false (by omega))
                     | (with_reducible apply w_eql true
                        rfl
                        rfl
                        exact decide_eq_true (by omega))
                     | (with_reducible apply w_eql false
                        rfl
                        rfl
                        exact decide_eq_false (by omega))
                     | (with_reducible apply w_neq false
                        rfl
                        rfl
                        rw [decide_eq_true (by omega)]; rfl)
                     | (with_reducible apply w_neq true
                        rfl
                        rfl
                        rw [decide_eq_false (by omega)]; rfl)
                     | (with_reducible apply w_add
                        rfl
                        rfl
                        unfold inI; omega)
                     | (with_reducible apply w_fad
                        rfl)
                     | (with_reducible apply w_load
                        rfl
                        rfl
                        rfl)
                     | (with_reducible apply w_loadA
                        rfl
                        rfl
                        exact Nat.le_refl 2)
                     | (with_reducible apply w_extr
                        rfl
                        rfl)
                   refine w_call rfl b23 (con23 A B B oA oB hb c2) ?_
                   rw [step_first]
                   repeat first
                     | (with_reducible apply w_let)
                     | (with_reducible apply w_and)
                     | (with_reducible apply w_guard_y
                        rfl)
                     | (with_reducible apply w_guard_n
                        rfl)
                     | (with_reducible apply w_guard_u
                        rfl)
                     | (with_reducible apply w_pick_t
                        rfl)
                     | (with_reducible apply w_pick_f
                        rfl)
                     | (with_reducible apply w_cond_t
                        rfl)
                     | (with_reducible apply w_cond_f
                        rfl)
                     | (with_reducible apply w_not_t
                        rfl)
                     | (with_reducible apply w_not_f
                        rfl)
                     | (with_reducible apply w_lss true
                        rfl
                        rfl
                        exact decide_eq_true (by omega))
                     | (with_reducible apply w_lss false
                        rfl
                        rfl
                        exact decide_eq_false (by omega))
                     | (with_reducible apply w_leq true
                        rfl
                        rfl
                        exact decide_eq_true (by omega))
                     | (with_reducible apply w_leq false
                        rfl
                        rfl
                        exact decide_eq_false (by omega))
                     | (with_reducible apply w_gtr true
                        rfl
                        rfl
                        exact decide_eq_true (by omega))
                     | (with_reducible apply w_gtr false
                        rfl
                        rfl
                        exact decide_eq_false (by omega))
                     | (with_reducible apply w_geq true
                        rfl
                        rfl
                        exact decide_eq_true (by omega))
                     | (with_reducible apply w_geq false
                        rfl
                        rfl
                        exact decide_eq_false (by omega))
                     | (with_reducible apply w_eql true
                        rfl
                        rfl
                        exact decide_eq_true (by omega))
                     | (with_reducible apply w_eql false
                        rfl
                        rfl
                        exact decide_eq_false (by omega))
                     | (with_reducible apply w_neq false
                        rfl
                        rfl
                        rw [decide_eq_true (by omega)]; rfl)
                     | (with_reducible apply w_neq true
                        rfl
                        rfl
                        rw [decide_eq_false (by omega)]; rfl)
                     | (with_reducible apply w_add
                        rfl
                        rfl
                        unfold inI; omega)
                     | (with_reducible apply w_fad
                        rfl)
                     | (with_reducible apply w_load
                        rfl
                        rfl
                        rfl)
                     | (with_reducible apply w_loadA
                        rfl
                        rfl
                        exact Nat.le_refl 2)
                     | (with_reducible apply w_extr
                        rfl
                        rfl)
                   by_cases h7 : 1 ≤ p + A
                   · first
                       | (exfalso; omega)
                       | (by_cases h8 : p + A ≤ 1000000000
                          · first
                              | (exfalso; omega)
                              | (repeat first
                                   | (with_reducible apply w_let)
                                   | (with_reducible apply w_and)
                                   | (with_reducible apply w_guard_y
                                      rfl)
                                   | (with_reducible apply w_guard_n
                                      rfl)
                                   | (with_reducible apply w_guard_u
                                      rfl)
                                   | (with_reducible apply w_pick_t
                                      rfl)
                                   | (with_reducible apply w_pick_f
                                      rfl)
                                   | (with_reducible apply w_cond_t
                                      rfl)
                                   | (with_reducible apply w_cond_f
                                      rfl)
                                   | (with_reducible apply w_not_t
                                      rfl)
                                   | (with_reducible apply w_not_f
                                      rfl)
                                   | (with_reducible apply w_lss true
                                      rfl
                                      rfl
                                      exact decide_eq_true (by omega))
                                   | (with_reducible apply w_lss false
                                      rfl
                                      rfl
                                      exact decide_eq_false (by omega))
                                   | (with_reducible apply w_leq true
                                      rfl
                                      rfl
                                      exact decide_eq_true (by omega))
                                   | (with_reducible apply w_leq false
                                      rfl
                                      rfl
                                      exact decide_eq_false (by omega))
                                   | (with_reducible apply w_gtr true
                                      rfl
                                      rfl
                                      exact decide_eq_true (by omega))
                                   | (with_reducible apply w_gtr false
                                      rfl
                                      rfl
                                      exact decide_eq_false (by omega))
                                   | (with_reducible apply w_geq true
                                      rfl
                                      rfl
                                      exact decide_eq_true (by omega))
                                   | (with_reducible apply w_geq false
                                      rfl
                                      rfl
                                      exact decide_eq_false (by omega))
                                   | (with_reducible apply w_eql true
                                      rfl
                                      rfl
                                      exact decide_eq_true (by omega))
                                   | (with_reducible apply w_eql false
                                      rfl
                                      rfl
                                      exact decide_eq_false (by omega))
                                   | (with_reducible apply w_neq false
                                      rfl
                                      rfl
                                      rw [decide_eq_true (by omega)]; rfl)
                                   | (with_reducible apply w_neq true
                                      rfl
                                      rfl
                                      rw [decide_eq_false (by omega)]; rfl)
                                   | (with_reducible apply w_add
                                      rfl
                                      rfl
                                      unfold inI; omega)
                                   | (with_reducible apply w_fad
                                      rfl)
                                   | (with_reducible apply w_load
                                      rfl
                                      rfl
                                      rfl)
                                   | (with_reducible apply w_loadA
                                      rfl
                                      rfl
                                      exact Nat.le_refl 2)
                                   | (with_reducible apply w_extr
                                      rfl
                                      rfl)
                                 refine w_call rfl b23 (con23 A B (p + A) oA oB h7 h8) ?_
                                 rw [step_next hh]
                                 repeat first
                                   | (with_reducible apply w_let)
                                   | (with_reducible apply w_and)
                                   | (with_reducible apply w_guard_y
                                      rfl)
                                   | (with_reducible apply w_guard_n
                                      rfl)
                                   | (with_reducible apply w_guard_u
                                      rfl)
                                   | (with_reducible apply w_pick_t
                                      rfl)
                                   | (with_reducible apply w_pick_f
                                      rfl)
                                   | (with_reducible apply w_cond_t
                                      rfl)
                                   | (with_reducible apply w_cond_f
                                      rfl)
                                   | (with_reducible apply w_not_t
                                      rfl)
                                   | (with_reducible apply w_not_f
                                      rfl)
                                   | (with_reducible apply w_lss true
                                      rfl
                                      rfl
                                      exact decide_eq_true (by omega))
                                   | (with_reducible apply w_lss false
                                      rfl
                                      rfl
                                      exact decide_eq_false (by omega))
                                   | (with_reducible apply w_leq true
                                      rfl
                                      rfl
                                      exact decide_eq_true (by omega))
                                   | (with_reducible apply w_leq false
                                      rfl
                                      rfl
                                      exact decide_eq_false (by omega))
                                   | (with_reducible apply w_gtr true
                                      rfl
                                      rfl
                                      exact decide_eq_true (by omega))
                                   | (with_reducible apply w_gtr false
                                      rfl
                                      rfl
                                      exact decide_eq_false (by omega))
                                   | (with_reducible apply w_geq true
                                      rfl
                                      rfl
                                      exact decide_eq_true (by omega))
                                   | (with_reducible apply w_geq false
                                      rfl
                                      rfl
                                      exact decide_eq_false (by omega))
                                   | (with_reducible apply w_eql true
                                      rfl
                                      rfl
                                      exact decide_eq_true (by omega))
                                   | (with_reducible apply w_eql false
                                      rfl
                                      rfl
                                      exact decide_eq_false (by omega))
                                   | (with_reducible apply w_neq false
                                      rfl
                                      rfl
                                      rw [decide_eq_true (by omega)]; rfl)
                                   | (with_reducible apply w_neq true
                                      rfl
                                      rfl
                                      rw [decide_eq_false (by omega)]; rfl)
                                   | (with_reducible apply w_add
                                      rfl
                                      rfl
                                      unfold inI; omega)
                                   | (with_reducible apply w_fad
                                      rfl)
                                   | (with_reducible apply w_load
                                      rfl
                                      rfl
                                      rfl)
                                   | (with_reducible apply w_loadA
                                      rfl
                                      rfl
                                      exact Nat.le_refl 2)
                                   | (with_reducible apply w_extr
                                      rfl
                                      rfl)
                                 exact alive fin)
                          · first
                              | (exfalso; omega)
                              | (repeat first
                                   | (with_reducible apply w_let)
                                   | (with_reducible apply w_and)
                                   | (with_reducible apply w_guard_y
                                      rfl)
                                   | (with_reducible apply w_guard_n
                                      rfl)
                                   | (with_reducible apply w_guard_u
                                      rfl)
                                   | (with_reducible apply w_pick_t
                                      rfl)
                                   | (with_reducible apply w_pick_f
                                      rfl)
                                   | (with_reducible apply w_cond_t
                                      rfl)
                                   | (with_reducible apply w_cond_f
                                      rfl)
                                   | (with_reducible apply w_not_t
                                      rfl)
                                   | (with_reducible apply w_not_f
                                      rfl)
                                   | (with_reducible apply w_lss true
                                      rfl
                                      rfl
                                      exact decide_eq_true (by omega))
                                   | (with_reducible apply w_lss false
                                      rfl
                                      rfl
                                      exact decide_eq_false (by omega))
                                   | (with_reducible apply w_leq true
                                      rfl
                                      rfl
                                      exact decide_eq_true (by omega))
                                   | (with_reducible apply w_leq false
                                      rfl
                                      rfl
                                      exact decide_eq_false (by omega))
                                   | (with_reducible apply w_gtr true
                                      rfl
                                      rfl
                                      exact decide_eq_true (by omega))
                                   | (with_reducible apply w_gtr false
                                      rfl
                                      rfl
                                      exact decide_eq_false (by omega))
                                   | (with_reducible apply w_geq true
                                      rfl
                                      rfl
                                      exact decide_eq_true (by omega))
                                   | (with_reducible apply w_geq false
                                      rfl
                                      rfl
                                      exact decide_eq_false (by omega))
                                   | (with_reducible apply w_eql true
                                      rfl
                                      rfl
                                      exact decide_eq_true (by omega))
                                   | (with_reducible apply w_eql false
                                      rfl
                                      rfl
                                      exact decide_eq_false (by omega))
                                   | (with_reducible apply w_neq false
                                      rfl
                                      rfl
                                      rw [decide_eq_true (by omega)]; rfl)
                                   | (with_reducible apply w_neq true
                                      rfl
                                      rfl
                                      rw [decide_eq_false (by omega)]; rfl)
                                   | (with_reducible apply w_add
                                      rfl
                                      rfl
                                      unfold inI; omega)
                                   | (with_reducible apply w_fad
                                      rfl)
                                   | (with_reducible apply w_load
                                      rfl
                                      rfl
                                      rfl)
                                   | (with_reducible apply w_loadA
                                      rfl
                                      rfl
                                      exact Nat.le_refl 2)
                                   | (with_reducible apply w_extr
                                      rfl
                                      rfl)
                                 exact alive fin))
                   · first
                       | (exfalso; omega)
                       | (repeat first
                            | (with_reducible apply w_let)
                            | (with_reducible apply w_and)
                            | (with_reducible apply w_guard_y
                               rfl)
                            | (with_reducible apply w_guard_n
                               rfl)
                            | (with_reducible apply w_guard_u
                               rfl)
                            | (with_reducible apply w_pick_t
                               rfl)
                            | (with_reducible apply w_pick_f
                               rfl)
                            | (with_reducible apply w_cond_t
                               rfl)
                            | (with_reducible apply w_cond_f
                               rfl)
                            | (with_reducible apply w_not_t
                               rfl)
                            | (with_reducible apply w_not_f
                               rfl)
                            | (with_reducible apply w_lss true
                               rfl
                               rfl
                               exact decide_eq_true (by omega))
                            | (with_reducible apply w_lss false
                               rfl
                               rfl
                               exact decide_eq_false (by omega))
                            | (with_reducible apply w_leq true
                               rfl
                               rfl
                               exact decide_eq_true (by omega))
                            | (with_reducible apply w_leq false
                               rfl
                               rfl
                               exact decide_eq_false (by omega))
                            | (with_reducible apply w_gtr true
                               rfl
                               rfl
                               exact decide_eq_true (by omega))
                            | (with_reducible apply w_gtr false
                               rfl
                               rfl
                               exact decide_eq_false (by omega))
                            | (with_reducible apply w_geq true
                               rfl
                               rfl
                               exact decide_eq_true (by omega))
                            | (with_reducible apply w_geq false
                               rfl
                               rfl
                               exact decide_eq_false (by omega))
                            | (with_reducible apply w_eql true
                               rfl
                               rfl
                               exact decide_eq_true (by omega))
                            | (with_reducible apply w_eql false
                               rfl
                               rfl
                               exact decide_eq_false (by omega))
                            | (with_reducible apply w_neq false
                               rfl
                               rfl
                               rw [decide_eq_true (by omega)]; rfl)
                            | (with_reducible apply w_neq true
                               rfl
                               rfl
                               rw [decide_eq_false (by omega)]; rfl)
                            | (with_reducible apply w_add
                               rfl
                               rfl
                               unfold inI; omega)
                            | (with_reducible apply w_fad
                               rfl)
                            | (with_reducible apply w_load
                               rfl
                               rfl
                               rfl)
                            | (with_reducible apply w_loadA
                               rfl
                               rfl
                               exact Nat.le_refl 2)
                            | (with_reducible apply w_extr
                               rfl
                               rfl)
                          exact alive fin))
            · first
                | (exfalso; omega)
                | (repeat first
                     | (with_reducible apply w_let)
                     | (with_reducible apply w_and)
                     | (with_reducible apply w_guard_y
                        rfl)
                     | (with_reducible apply w_guard_n
                        rfl)
                     | (with_reducible apply w_guard_u
                        rfl)
                     | (with_reducible apply w_pick_t
                        rfl)
                     | (with_reducible apply w_pick_f
                        rfl)
                     | (with_reducible apply w_cond_t
                        rfl)
                     | (with_reducible apply w_cond_f
                        rfl)
                     | (with_reducible apply w_not_t
                        rfl)
                     | (with_reducible apply w_not_f
                        rfl)
                     | (with_reducible apply w_lss true
                        rfl
                        rfl
                        exact decide_eq_true (by omega))
                     | (with_reducible apply w_lss false
                        rfl
                        rfl
                        exact decide_eq_false (by omega))
                     | (with_reducible apply w_leq true
                        rfl
                        rfl
                        exact decide_eq_true (by omega))
                     | (with_reducible apply w_leq false
                        rfl
                        rfl
                        exact decide_eq_false (by omega))
                     | (with_reducible apply w_gtr true
                        rfl
                        rfl
                        exact decide_eq_true (by omega))
                     | (with_reducible apply w_gtr false
                        rfl
                        rfl
                        exact decide_eq_false (by omega))
                     | (with_reducible apply w_geq true
                        rfl
                        rfl
                        exact decide_eq_true (by omega))
                     | (with_reducible apply w_geq false
                        rfl
                        rfl
                        exact decide_eq_false (by omega))
                     | (with_reducible apply w_eql true
                        rfl
                        rfl
                        exact decide_eq_true (by omega))
                     | (with_reducible apply w_eql false
                        rfl
                        rfl
                        exact decide_eq_false (by omega))
                     | (with_reducible apply w_neq false
                        rfl
                        rfl
                        rw [decide_eq_true (by omega)]; rfl)
                     | (with_reducible apply w_neq true
                        rfl
                        rfl
                        rw [decide_eq_false (by omega)]; rfl)
                     | (with_reducible apply w_add
                        rfl
                        rfl
                        unfold inI; omega)
                     | (with_reducible apply w_fad
                        rfl)
                     | (with_reducible apply w_load
                        rfl
                        rfl
                        rfl)
                     | (with_reducible apply w_loadA
                        rfl
                        rfl
                        exact Nat.le_refl 2)
                     | (with_reducible apply w_extr
                        rfl
                        rfl)
                   by_cases h7 : 1 ≤ p + A
                   · first
                       | (exfalso; omega)
                       | (by_cases h8 : p + A ≤ 1000000000
                          · first
                              | (exfalso; omega)
                              | (repeat first
                                   | (with_reducible apply w_let)
                                   | (with_reducible apply w_and)
                                   | (with_reducible apply w_guard_y
                                      rfl)
                                   | (with_reducible apply w_guard_n
                                      rfl)
                                   | (with_reducible apply w_guard_u
                                      rfl)
                                   | (with_reducible apply w_pick_t
                                      rfl)
                                   | (with_reducible apply w_pick_f
                                      rfl)
                                   | (with_reducible apply w_cond_t
                                      rfl)
                                   | (with_reducible apply w_cond_f
                                      rfl)
                                   | (with_reducible apply w_not_t
                                      rfl)
                                   | (with_reducible apply w_not_f
                                      rfl)
                                   | (with_reducible apply w_lss true
                                      rfl
                                      rfl
                                      exact decide_eq_true (by omega))
                                   | (with_reducible apply w_lss false
                                      rfl
                                      rfl
                                      exact decide_eq_false (by omega))
                                   | (with_reducible apply w_leq true
                                      rfl
                                      rfl
                                      exact decide_eq_true (by omega))
                                   | (with_reducible apply w_leq false
                                      rfl
                                      rfl
                                      exact decide_eq_false (by omega))
                                   | (with_reducible apply w_gtr true
                                      rfl
                                      rfl
                                      exact decide_eq_true (by omega))
                                   | (with_reducible apply w_gtr false
                                      rfl
                                      rfl
                                      exact decide_eq_false (by omega))
                                   | (with_reducible apply w_geq true
                                      rfl
                                      rfl
                                      exact decide_eq_true (by omega))
                                   | (with_reducible apply w_geq false
                                      rfl
                                      rfl
                                      exact decide_eq_false (by omega))
                                   | (with_reducible apply w_eql true
                                      rfl
                                      rfl
                                      exact decide_eq_true (by omega))
                                   | (with_reducible apply w_eql false
                                      rfl
                                      rfl
                                      exact decide_eq_false (by omega))
                                   | (with_reducible apply w_neq false
                                      rfl
                                      rfl
                                      rw [decide_eq_true (by omega)]; rfl)
                                   | (with_reducible apply w_neq true
                                      rfl
                                      rfl
                                      rw [decide_eq_false (by omega)]; rfl)
                                   | (with_reducible apply w_add
                                      rfl
                                      rfl
                                      unfold inI; omega)
                                   | (with_reducible apply w_fad
                                      rfl)
                                   | (with_reducible apply w_load
                                      rfl
                                      rfl
                                      rfl)
                                   | (with_reducible apply w_loadA
                                      rfl
                                      rfl
                                      exact Nat.le_refl 2)
                                   | (with_reducible apply w_extr
                                      rfl
                                      rfl)
                                 refine w_call rfl b23 (con23 A B (p + A) oA oB h7 h8) ?_
                                 rw [step_next hh]
                                 repeat first
                                   | (with_reducible apply w_let)
                                   | (with_reducible apply w_and)
                                   | (with_reducible apply w_guard_y
                                      rfl)
                                   | (with_reducible apply w_guard_n
                                      rfl)
                                   | (with_reducible apply w_guard_u
                                      rfl)
                                   | (with_reducible apply w_pick_t
                                      rfl)
                                   | (with_reducible apply w_pick_f
                                      rfl)
                                   | (with_reducible apply w_cond_t
                                      rfl)
                                   | (with_reducible apply w_cond_f
                                      rfl)
                                   | (with_reducible apply w_not_t
                                      rfl)
                                   | (with_reducible apply w_not_f
                                      rfl)
                                   | (with_reducible apply w_lss true
                                      rfl
                                      rfl
                                      exact decide_eq_true (by omega))
                                   | (with_reducible apply w_lss false
                                      rfl
                                      rfl
                                      exact decide_eq_false (by omega))
                                   | (with_reducible apply w_leq true
                                      rfl
                                      rfl
                                      exact decide_eq_true (by omega))
                                   | (with_reducible apply w_leq false
                                      rfl
                                      rfl
                                      exact decide_eq_false (by omega))
                                   | (with_reducible apply w_gtr true
                                      rfl
                                      rfl
                                      exact decide_eq_true (by omega))
                                   | (with_reducible apply w_gtr false
                                      rfl
                                      rfl
                                      exact decide_eq_false (by omega))
                                   | (with_reducible apply w_geq true
                                      rfl
                                      rfl
                                      exact decide_eq_true (by omega))
                                   | (with_reducible apply w_geq false
                                      rfl
                                      rfl
                                      exact decide_eq_false (by omega))
                                   | (with_reducible apply w_eql true
                                      rfl
                                      rfl
                                      exact decide_eq_true (by omega))
                                   | (with_reducible apply w_eql false
                                      rfl
                                      rfl
                                      exact decide_eq_false (by omega))
                                   | (with_reducible apply w_neq false
                                      rfl
                                      rfl
                                      rw [decide_eq_true (by omega)]; rfl)
                                   | (with_reducible apply w_neq true
                                      rfl
                                      rfl
                                      rw [decide_eq_false (by omega)]; rfl)
                                   | (with_reducible apply w_add
                                      rfl
                                      rfl
                                      unfold inI; omega)
                                   | (with_reducible apply w_fad
                                      rfl)
                                   | (with_reducible apply w_load
                                      rfl
                                      rfl
                                      rfl)
                                   | (with_reducible apply w_loadA
                                      rfl
                                      rfl
                                      exact Nat.le_refl 2)
                                   | (with_reducible apply w_extr
                                      rfl
                                      rfl)
                                 exact alive fin)
                          · first
                              | (exfalso; omega)
                              | (repeat first
                                   | (with_reducible apply w_let)
                                   | (with_reducible apply w_and)
                                   | (with_reducible apply w_guard_y
                                      rfl)
                                   | (with_reducible apply w_guard_n
                                      rfl)
                                   | (with_reducible apply w_guard_u
                                      rfl)
                                   | (with_reducible apply w_pick_t
                                      rfl)
                                   | (with_reducible apply w_pick_f
                                      rfl)
                                   | (with_reducible apply w_cond_t
                                      rfl)
                                   | (with_reducible apply w_cond_f
                                      rfl)
                                   | (with_reducible apply w_not_t
                                      rfl)
                                   | (with_reducible apply w_not_f
                                      rfl)
                                   | (with_reducible apply w_lss true
                                      rfl
                                      rfl
                                      exact decide_eq_true (by omega))
                                   | (with_reducible apply w_lss false
                                      rfl
                                      rfl
                                      exact decide_eq_false (by omega))
                                   | (with_reducible apply w_leq true
                                      rfl
                                      rfl
                                      exact decide_eq_true (by omega))
                                   | (with_reducible apply w_leq false
                                      rfl
                                      rfl
                                      exact decide_eq_false (by omega))
                                   | (with_reducible apply w_gtr true
                                      rfl
                                      rfl
                                      exact decide_eq_true (by omega))
                                   | (with_reducible apply w_gtr false
                                      rfl
                                      rfl
                                      exact decide_eq_false (by omega))
                                   | (with_reducible apply w_geq true
                                      rfl
                                      rfl
                                      exact decide_eq_true (by omega))
                                   | (with_reducible apply w_geq false
                                      rfl
                                      rfl
                                      exact decide_eq_false (by omega))
                                   | (with_reducible apply w_eql true
                                      rfl
                                      rfl
                                      exact decide_eq_true (by omega))
                                   | (with_reducible apply w_eql false
                                      rfl
                                      rfl
                                      exact decide_eq_false (by omega))
                                   | (with_reducible apply w_neq false
                                      rfl
                                      rfl
                                      rw [decide_eq_true (by omega)]; rfl)
                                   | (with_reducible apply w_neq true
                                      rfl
                                      rfl
                                      rw [decide_eq_false (by omega)]; rfl)
                                   | (with_reducible apply w_add
                                      rfl
                                      rfl
                                      unfold inI; omega)
                                   | (with_reducible apply w_fad
                                      rfl)
                                   | (with_reducible apply w_load
                                      rfl
                                      rfl
                                      rfl)
                                   | (with_reducible apply w_loadA
                                      rfl
                                      rfl
                                      exact Nat.le_refl 2)
                                   | (with_reducible apply w_extr
                                      rfl
                                      rfl)
                                 exact alive fin))
                   · first
                       | (exfalso; omega)
                       | (repeat first
                            | (with_reducible apply w_let)
                            | (with_reducible apply w_and)
                            | (with_reducible apply w_guard_y
                               rfl)
                            | (with_reducible apply w_guard_n
                               rfl)
                            | (with_reducible apply w_guard_u
                               rfl)
                            | (with_reducible apply w_pick_t
                               rfl)
                            | (with_reducible apply w_pick_f
                               rfl)
                            | (with_reducible apply w_cond_t
                               rfl)
                            | (with_reducible apply w_cond_f
                               rfl)
                            | (with_reducible apply w_not_t
                               rfl)
                            | (with_reducible apply w_not_f
                               rfl)
                            | (with_reducible apply w_lss true
                               rfl
                               rfl
                               exact decide_eq_true (by omega))
                            | (with_reducible apply w_lss false
                               rfl
                               rfl
                               exact decide_eq_false (by omega))
                            | (with_reducible apply w_leq true
                               rfl
                               rfl
                               exact decide_eq_true (by omega))
                            | (with_reducible apply w_leq false
                               rfl
                               rfl
                               exact decide_eq_false (by omega))
                            | (with_reducible apply w_gtr true
                               rfl
                               rfl
                               exact decide_eq_true (by omega))
                            | (with_reducible apply w_gtr false
                               rfl
                               rfl
                               exact decide_eq_false (by omega))
                            | (with_reducible apply w_geq true
                               rfl
                               rfl
                               exact decide_eq_true (by omega))
                            | (with_reducible apply w_geq false
                               rfl
                               rfl
                               exact decide_eq_false (by omega))
                            | (with_reducible apply w_eql true
                               rfl
                               rfl
                               exact decide_eq_true (by omega))
                            | (with_reducible apply w_eql false
                               rfl
                               rfl
                               exact decide_eq_false (by omega))
                            | (with_reducible apply w_neq false
                               rfl
                               rfl
                               rw [decide_eq_true (by omega)]; rfl)
                            | (with_reducible apply w_neq true
                               rfl
                               rfl
                               rw [decide_eq_false (by omega)]; rfl)
                            | (with_reducible apply w_add
                               rfl
                               rfl
                               unfold inI; omega)
                            | (with_reducible apply w_fad
                               rfl)
                            | (with_reducible apply w_load
                               rfl
                               rfl
                               rfl)
                            | (with_reducible apply w_loadA
                               rfl
                               rfl
                               exact Nat.le_refl 2)
                            | (with_reducible apply w_extr
                               rfl
                               rfl)
                          exact alive fin))
          · by_cases hb : 1 ≤ B
            · first
                | (exfalso; omega)
                | (repeat first
                     | (with_reducible apply w_let)
                     | (with_reducible apply w_and)
                     | (with_reducible apply w_guard_y
                        rfl)
                     | (with_reducible apply w_guard_n
                        rfl)
                     | (with_reducible apply w_guard_u
                        rfl)
                     | (with_reducible apply w_pick_t
                        rfl)
                     | (with_reducible apply w_pick_f
                        rfl)
                     | (with_reducible apply w_cond_t
                        rfl)
                     | (with_reducible apply w_cond_f
                        rfl)
                     | (with_reducible apply w_not_t
                        rfl)
                     | (with_reducible apply w_not_f
                        rfl)
                     | (with_reducible apply w_lss true
                        rfl
                        rfl
                        exact decide_eq_true (by omega))
                     | (with_reducible apply w_lss false
                        rfl
                        rfl
                        exact decide_eq_false (by omega))
                     | (with_reducible apply w_leq true
                        rfl
                        rfl
                        exact decide_eq_true (by omega))
                     | (with_reducible apply w_leq false
                        rfl
                        rfl
                        exact decide_eq_false (by omega))
                     | (with_reducible apply w_gtr true
                        rfl
                        rfl
                        exact decide_eq_true (by omega))
                     | (with_reducible apply w_gtr false
                        rfl
                        rfl
                        exact decide_eq_false (by omega))
                     | (with_reducible apply w_geq true
                        rfl
                        rfl
                        exact decide_eq_true (by omega))
                     | (with_reducible apply w_geq false
                        rfl
                        rfl
                        exact decide_eq_false (by omega))
                     | (with_reducible apply w_eql true
                        rfl
                        rfl
                        exact decide_eq_true (by omega))
                     | (with_reducible apply w_eql false
                        rfl
                        rfl
                        exact decide_eq_false (by omega))
                     | (with_reducible apply w_neq false
                        rfl
                        rfl
                        rw [decide_eq_true (by omega)]; rfl)
                     | (with_reducible apply w_neq true
                        rfl
                        rfl
                        rw [decide_eq_false (by omega)]; rfl)
                     | (with_reducible apply w_add
                        rfl
                        rfl
                        unfold inI; omega)
                     | (with_reducible apply w_fad
                        rfl)
                     | (with_reducible apply w_load
                        rfl
                        rfl
                        rfl)
                     | (with_reducible apply w_loadA
                        rfl
                        rfl
                        exact Nat.le_refl 2)
                     | (with_reducible apply w_extr
                        rfl
                        rfl)
                   refine w_call rfl b23 (con23 A B B oA oB hb c2) ?_
                   rw [step_first]
                   repeat first
                     | (with_reducible apply w_let)
                     | (with_reducible apply w_and)
                     | (with_reducible apply w_guard_y
                        rfl)
                     | (with_reducible apply w_guard_n
                        rfl)
                     | (with_reducible apply w_guard_u
                        rfl)
                     | (with_reducible apply w_pick_t
                        rfl)
                     | (with_reducible apply w_pick_f
                        rfl)
                     | (with_reducible apply w_cond_t
                        rfl)
                     | (with_reducible apply w_cond_f
                        rfl)
                     | (with_reducible apply w_not_t
                        rfl)
                     | (with_reducible apply w_not_f
                        rfl)
                     | (with_reducible apply w_lss true
                        rfl
                        rfl
                        exact decide_eq_true (by omega))
                     | (with_reducible apply w_lss false
                        rfl
                        rfl
                        exact decide_eq_false (by omega))
                     | (with_reducible apply w_leq true
                        rfl
                        rfl
                        exact decide_eq_true (by omega))
                     | (with_reducible apply w_leq false
                        rfl
                        rfl
                        exact decide_eq_false (by omega))
                     | (with_reducible apply w_gtr true
                        rfl
                        rfl
                        exact decide_eq_true (by omega))
                     | (with_reducible apply w_gtr false
                        rfl
                        rfl
                        exact decide_eq_false (by omega))
                     | (with_reducible apply w_geq true
                        rfl
                        rfl
                        exact decide_eq_true (by omega))
                     | (with_reducible apply w_geq false
                        rfl
                        rfl
                        exact decide_eq_false (by omega))
                     | (with_reducible apply w_eql true
                        rfl
                        rfl
                        exact decide_eq_true (by omega))
                     | (with_reducible apply w_eql false
                        rfl
                        rfl
                        exact decide_eq_false (by omega))
                     | (with_reducible apply w_neq false
                        rfl
                        rfl
                        rw [decide_eq_true (by omega)]; rfl)
                     | (with_reducible apply w_neq true
                        rfl
                        rfl
                        rw [decide_eq_false (by omega)]; rfl)
                     | (with_reducible apply w_add
                        rfl
                        rfl
                        unfold inI; omega)
                     | (with_reducible apply w_fad
                        rfl)
                     | (with_reducible apply w_load
                        rfl
                        rfl
                        rfl)
                     | (with_reducible apply w_loadA
                        rfl
                        rfl
                        exact Nat.le_refl 2)
                     | (with_reducible apply w_extr
                        rfl
                        rfl)
                   by_cases h7 : 1 ≤ p + A
                   · first
                       | (exfalso; omega)
                       | (by_cases h8 : p + A ≤ 1000000000
                          · first
                              | (exfalso; omega)
                              | (repeat first
                                   | (with_reducible apply w_let)
                                   | (with_reducible apply w_and)
                                   | (with_reducible apply w_guard_y
                                      rfl)
                                   | (with_reducible apply w_guard_n
                                      rfl)
                                   | (with_reducible apply w_guard_u
                                      rfl)
                                   | (with_reducible apply w_pick_t
                                      rfl)
                                   | (with_reducible apply w_pick_f
                                      rfl)
                                   | (with_reducible apply w_cond_t
                                      rfl)
                                   | (with_reducible apply w_cond_f
                                      rfl)
                                   | (with_reducible apply w_not_t
                                      rfl)
                                   | (with_reducible apply w_not_f
                                      rfl)
                                   | (with_reducible apply w_lss true
                                      rfl
                                      rfl
                                      exact decide_eq_true (by omega))
                                   | (with_reducible apply w_lss false
                                      rfl
                                      rfl
                                      exact decide_eq_false (by omega))
                                   | (with_reducible apply w_leq true
                                      rfl
                                      rfl
                                      exact decide_eq_true (by omega))
                                   | (with_reducible apply w_leq false
                                      rfl
                                      rfl
                                      exact decide_eq_false (by omega))
                                   | (with_reducible apply w_gtr true
                                      rfl
                                      rfl
                                      exact decide_eq_true (by omega))
                                   | (with_reducible apply w_gtr false
                                      rfl
                                      rfl
                                      exact decide_eq_false (by omega))
                                   | (with_reducible apply w_geq true
                                      rfl
                                      rfl
                                      exact decide_eq_true (by omega))
                                   | (with_reducible apply w_geq false
                                      rfl
                                      rfl
                                      exact decide_eq_false (by omega))
                                   | (with_reducible apply w_eql true
                                      rfl
                                      rfl
                                      exact decide_eq_true (by omega))
                                   | (with_reducible apply w_eql false
                                      rfl
                                      rfl
                                      exact decide_eq_false (by omega))
                                   | (with_reducible apply w_neq false
                                      rfl
                                      rfl
                                      rw [decide_eq_true (by omega)]; rfl)
                                   | (with_reducible apply w_neq true
                                      rfl
                                      rfl
                                      rw [decide_eq_false (by omega)]; rfl)
                                   | (with_reducible apply w_add
                                      rfl
                                      rfl
                                      unfold inI; omega)
                                   | (with_reducible apply w_fad
                                      rfl)
                                   | (with_reducible apply w_load
                                      rfl
                                      rfl
                                      rfl)
                                   | (with_reducible apply w_loadA
                                      rfl
                                      rfl
                                      exact Nat.le_refl 2)
                                   | (with_reducible apply w_extr
                                      rfl
                                      rfl)
                                 refine w_call rfl b23 (con23 A B (p + A) oA oB h7 h8) ?_
                                 rw [step_next hh]
                                 repeat first
                                   | (with_reducible apply w_let)
                                   | (with_reducible apply w_and)
                                   | (with_reducible apply w_guard_y
                                      rfl)
                                   | (with_reducible apply w_guard_n
                                      rfl)
                                   | (with_reducible apply w_guard_u
                                      rfl)
                                   | (with_reducible apply w_pick_t
                                      rfl)
                                   | (with_reducible apply w_pick_f
                                      rfl)
                                   | (with_reducible apply w_cond_t
                                      rfl)
                                   | (with_reducible apply w_cond_f
                                      rfl)
                                   | (with_reducible apply w_not_t
                                      rfl)
                                   | (with_reducible apply w_not_f
                                      rfl)
                                   | (with_reducible apply w_lss true
                                      rfl
                                      rfl
                                      exact decide_eq_true (by omega))
                                   | (with_reducible apply w_lss false
                                      rfl
                                      rfl
                                      exact decide_eq_false (by omega))
                                   | (with_reducible apply w_leq true
                                      rfl
                                      rfl
                                      exact decide_eq_true (by omega))
                                   | (with_reducible apply w_leq false
                                      rfl
                                      rfl
                                      exact decide_eq_false (by omega))
                                   | (with_reducible apply w_gtr true
                                      rfl
                                      rfl
                                      exact decide_eq_true (by omega))
                                   | (with_reducible apply w_gtr false
                                      rfl
                                      rfl
                                      exact decide_eq_false (by omega))
                                   | (with_reducible apply w_geq true
                                      rfl
                                      rfl
                                      exact decide_eq_true (by omega))
                                   | (with_reducible apply w_geq false
                                      rfl
                                      rfl
                                      exact decide_eq_false (by omega))
                                   | (with_reducible apply w_eql true
                                      rfl
                                      rfl
                                      exact decide_eq_true (by omega))
                                   | (with_reducible apply w_eql false
                                      rfl
                                      rfl
                                      exact decide_eq_false (by omega))
                                   | (with_reducible apply w_neq false
                                      rfl
                                      rfl
                                      rw [decide_eq_true (by omega)]; rfl)
                                   | (with_reducible apply w_neq true
                                      rfl
                                      rfl
                                      rw [decide_eq_false (by omega)]; rfl)
                                   | (with_reducible apply w_add
                                      rfl
                                      rfl
                                      unfold inI; omega)
                                   | (with_reducible apply w_fad
                                      rfl)
                                   | (with_reducible apply w_load
                                      rfl
                                      rfl
                                      rfl)
                                   | (with_reducible apply w_loadA
                                      rfl
                                      rfl
                                      exact Nat.le_refl 2)
                                   | (with_reducible apply w_extr
                                      rfl
                                      rfl)
                                 exact alive fin)
                          · first
                              | (exfalso; omega)
                              | (repeat first
                                   | (with_reducible apply w_let)
                                   | (with_reducible apply w_and)
                                   | (with_reducible apply w_guard_y
                                      rfl)
                                   | (with_reducible apply w_guard_n
                                      rfl)
                                   | (with_reducible apply w_guard_u
                                      rfl)
                                   | (with_reducible apply w_pick_t
                                      rfl)
                                   | (with_reducible apply w_pick_f
                                      rfl)
                                   | (with_reducible apply w_cond_t
                                      rfl)
                                   | (with_reducible apply w_cond_f
                                      rfl)
                                   | (with_reducible apply w_not_t
                                      rfl)
                                   | (with_reducible apply w_not_f
                                      rfl)
                                   | (with_reducible apply w_lss true
                                      rfl
                                      rfl
                                      exact decide_eq_true (by omega))
                                   | (with_reducible apply w_lss false
                                      rfl
                                      rfl
                                      exact decide_eq_false (by omega))
                                   | (with_reducible apply w_leq true
                                      rfl
                                      rfl
                                      exact decide_eq_true (by omega))
                                   | (with_reducible apply w_leq false
                                      rfl
                                      rfl
                                      exact decide_eq_false (by omega))
                                   | (with_reducible apply w_gtr true
                                      rfl
                                      rfl
                                      exact decide_eq_true (by omega))
                                   | (with_reducible apply w_gtr false
                                      rfl
                                      rfl
                                      exact decide_eq_false (by omega))
                                   | (with_reducible apply w_geq true
                                      rfl
                                      rfl
                                      exact decide_eq_true (by omega))
                                   | (with_reducible apply w_geq false
                                      rfl
                                      rfl
                                      exact decide_eq_false (by omega))
                                   | (with_reducible apply w_eql true
                                      rfl
                                      rfl
                                      exact decide_eq_true (by omega))
                                   | (with_reducible apply w_eql false
                                      rfl
                                      rfl
                                      exact decide_eq_false (by omega))
                                   | (with_reducible apply w_neq false
                                      rfl
                                      rfl
                                      rw [decide_eq_true (by omega)]; rfl)
                                   | (with_reducible apply w_neq true
                                      rfl
                                      rfl
                                      rw [decide_eq_false (by omega)]; rfl)
                                   | (with_reducible apply w_add
                                      rfl
                                      rfl
                                      unfold inI; omega)
                                   | (with_reducible apply w_fad
                                      rfl)
                                   | (with_reducible apply w_load
                                      rfl
                                      rfl
                                      rfl)
                                   | (with_reducible apply w_loadA
                                      rfl
                                      rfl
                                      exact Nat.le_refl 2)
                                   | (with_reducible apply w_extr
                                      rfl
                                      rfl)
                                 exact alive fin))
                   · first
                       | (exfalso; omega)
                       | (repeat first
                            | (with_reducible apply w_let)
                            | (with_reducible apply w_and)
                            | (with_reducible apply w_guard_y
                               rfl)
                            | (with_reducible apply w_guard_n
                               rfl)
                            | (with_reducible apply w_guard_u
                               rfl)
                            | (with_reducible apply w_pick_t
                               rfl)
                            | (with_reducible apply w_pick_f
                               rfl)
                            | (with_reducible apply w_cond_t
                               rfl)
                            | (with_reducible apply w_cond_f
                               rfl)
                            | (with_reducible apply w_not_t
                               rfl)
                            | (with_reducible apply w_not_f
                               rfl)
                            | (with_reducible apply w_lss true
                               rfl
                               rfl
                               exact decide_eq_true (by omega))
                            | (with_reducible apply w_lss false
                               rfl
                               rfl
                               exact decide_eq_false (by omega))
                            | (with_reducible apply w_leq true
                               rfl
                               rfl
                               exact decide_eq_true (by omega))
                            | (with_reducible apply w_leq false
                               rfl
                               rfl
                               exact decide_eq_false (by omega))
                            | (with_reducible apply w_gtr true
                               rfl
                               rfl
                               exact decide_eq_true (by omega))
                            | (with_reducible apply w_gtr false
                               rfl
                               rfl
                               exact decide_eq_false (by omega))
                            | (with_reducible apply w_geq true
                               rfl
                               rfl
                               exact decide_eq_true (by omega))
                            | (with_reducible apply w_geq false
                               rfl
                               rfl
                               exact decide_eq_false (by omega))
                            | (with_reducible apply w_eql true
                               rfl
                               rfl
                               exact decide_eq_true (by omega))
                            | (with_reducible apply w_eql false
                               rfl
                               rfl
                               exact decide_eq_false (by omega))
                            | (with_reducible apply w_neq false
                               rfl
                               rfl
                               rw [decide_eq_true (by omega)]; rfl)
                            | (with_reducible apply w_neq true
                               rfl
                               rfl
                               rw [decide_eq_false (by omega)]; rfl)
                            | (with_reducible apply w_add
                               rfl
                               rfl
                               unfold inI; omega)
                            | (with_reducible apply w_fad
                               rfl)
                            | (with_reducible apply w_load
                               rfl
                               rfl
                               rfl)
                            | (with_reducible apply w_loadA
                               rfl
                               rfl
                               exact Nat.le_refl 2)
                            | (with_reducible apply w_extr
                               rfl
                               rfl)
                          exact alive fin))
            · first
                | (exfalso; omega)
                | (repeat first
                     | (with_reducible apply w_let)
                     | (with_reducible apply w_and)
                     | (with_reducible apply w_guard_y
                        rfl)
                     | (with_reducible apply w_guard_n
                        rfl)
                     | (with_reducible apply w_guard_u
                        rfl)
                     | (with_reducible apply w_pick_t
                        rfl)
                     | (with_reducible apply w_pick_f
                        rfl)
                     | (with_reducible apply w_cond_t
                        rfl)
                     | (with_reducible apply w_cond_f
                        rfl)
                     | (with_reducible apply w_not_t
                        rfl)
                     | (with_reducible apply w_not_f
                        rfl)
                     | (with_reducible apply w_lss true
                        rfl
                        rfl
                        exact decide_eq_true (by omega))
                     | (with_reducible apply w_lss false
                        rfl
                        rfl
                        exact decide_eq_false (by omega))
                     | (with_reducible apply w_leq true
                        rfl
                        rfl
                        exact decide_eq_true (by omega))
                     | (with_reducible apply w_leq false
                        rfl
                        rfl
                        exact decide_eq_false (by omega))
                     | (with_reducible apply w_gtr true
                        rfl
                        rfl
                        exact decide_eq_true (by omega))
                     | (with_reducible apply w_gtr false
                        rfl
                        rfl
                        exact decide_eq_false (by omega))
                     | (with_reducible apply w_geq true
                        rfl
                        rfl
                        exact decide_eq_true (by omega))
                     | (with_reducible apply w_geq false
                        rfl
                        rfl
                        exact decide_eq_false (by omega))
                     | (with_reducible apply w_eql true
                        rfl
                        rfl
                        exact decide_eq_true (by omega))
                     | (with_reducible apply w_eql false
                        rfl
                        rfl
                        exact decide_eq_false (by omega))
                     | (with_reducible apply w_neq false
                        rfl
                        rfl
                        rw [decide_eq_true (by omega)]; rfl)
                     | (with_reducible apply w_neq true
                        rfl
                        rfl
                        rw [decide_eq_false (by omega)]; rfl)
                     | (with_reducible apply w_add
                        rfl
                        rfl
                        unfold inI; omega)
                     | (with_reducible apply w_fad
                        rfl)
                     | (with_reducible apply w_load
                        rfl
                        rfl
                        rfl)
                     | (with_reducible apply w_loadA
                        rfl
                        rfl
                        exact Nat.le_refl 2)
                     | (with_reducible apply w_extr
                        rfl
                        rfl)
                   by_cases h7 : 1 ≤ p + A
                   · first
                       | (exfalso; omega)
                       | (by_cases h8 : p + A ≤ 1000000000
                          · first
                              | (exfalso; omega)
                              | (repeat first
                                   | (with_reducible apply w_let)
                                   | (with_reducible apply w_and)
                                   | (with_reducible apply w_guard_y
                                      rfl)
                                   | (with_reducible apply w_guard_n
                                      rfl)
                                   | (with_reducible apply w_guard_u
                                      rfl)
                                   | (with_reducible apply w_pick_t
                                      rfl)
                                   | (with_reducible apply w_pick_f
                                      rfl)
                                   | (with_reducible apply w_cond_t
                                      rfl)
                                   | (with_reducible apply w_cond_f
                                      rfl)
                                   | (with_reducible apply w_not_t
                                      rfl)
                                   | (with_reducible apply w_not_f
                                      rfl)
                                   | (with_reducible apply w_lss true
                                      rfl
                                      rfl
                                      exact decide_eq_true (by omega))
                                   | (with_reducible apply w_lss false
                                      rfl
                                      rfl
                                      exact decide_eq_false (by omega))
                                   | (with_reducible apply w_leq true
                                      rfl
                                      rfl
                                      exact decide_eq_true (by omega))
                                   | (with_reducible apply w_leq false
                                      rfl
                                      rfl
                                      exact decide_eq_false (by omega))
                                   | (with_reducible apply w_gtr true
                                      rfl
                                      rfl
                                      exact decide_eq_true (by omega))
                                   | (with_reducible apply w_gtr false
                                      rfl
                                      rfl
                                      exact decide_eq_false (by omega))
                                   | (with_reducible apply w_geq true
                                      rfl
                                      rfl
                                      exact decide_eq_true (by omega))
                                   | (with_reducible apply w_geq false
                                      rfl
                                      rfl
                                      exact decide_eq_false (by omega))
                                   | (with_reducible apply w_eql true
                                      rfl
                                      rfl
                                      exact decide_eq_true (by omega))
                                   | (with_reducible apply w_eql false
                                      rfl
                                      rfl
                                      exact decide_eq_false (by omega))
                                   | (with_reducible apply w_neq false
                                      rfl
                                      rfl
                                      rw [decide_eq_true (by omega)]; rfl)
                                   | (with_reducible apply w_neq true
                                      rfl
                                      rfl
                                      rw [decide_eq_false (by omega)]; rfl)
                                   | (with_reducible apply w_add
                                      rfl
                                      rfl
                                      unfold inI; omega)
                                   | (with_reducible apply w_fad
                                      rfl)
                                   | (with_reducible apply w_load
                                      rfl
                                      rfl
                                      rfl)
                                   | (with_reducible apply w_loadA
                                      rfl
                                      rfl
                                      exact Nat.le_refl 2)
                                   | (with_reducible apply w_extr
                                      rfl
                                      rfl)
                                 refine w_call rfl b23 (con23 A B (p + A) oA oB h7 h8) ?_
                                 rw [step_next hh]
                                 repeat first
                                   | (with_reducible apply w_let)
                                   | (with_reducible apply w_and)
                                   | (with_reducible apply w_guard_y
                                      rfl)
                                   | (with_reducible apply w_guard_n
                                      rfl)
                                   | (with_reducible apply w_guard_u
                                      rfl)
                                   | (with_reducible apply w_pick_t
                                      rfl)
                                   | (with_reducible apply w_pick_f
                                      rfl)
                                   | (with_reducible apply w_cond_t
                                      rfl)
                                   | (with_reducible apply w_cond_f
                                      rfl)
                                   | (with_reducible apply w_not_t
                                      rfl)
                                   | (with_reducible apply w_not_f
                                      rfl)
                                   | (with_reducible apply w_lss true
                                      rfl
                                      rfl
                                      exact decide_eq_true (by omega))
                                   | (with_reducible apply w_lss false
                                      rfl
                                      rfl
                                      exact decide_eq_false (by omega))
                                   | (with_reducible apply w_leq true
                                      rfl
                                      rfl
                                      exact decide_eq_true (by omega))
                                   | (with_reducible apply w_leq false
                                      rfl
                                      rfl
                                      exact decide_eq_false (by omega))
                                   | (with_reducible apply w_gtr true
                                      rfl
                                      rfl
                                      exact decide_eq_true (by omega))
                                   | (with_reducible apply w_gtr false
                                      rfl
                                      rfl
                                      exact decide_eq_false (by omega))
                                   | (with_reducible apply w_geq true
                                      rfl
                                      rfl
                                      exact decide_eq_true (by omega))
                                   | (with_reducible apply w_geq false
                                      rfl
                                      rfl
                                      exact decide_eq_false (by omega))
                                   | (with_reducible apply w_eql true
                                      rfl
                                      rfl
                                      exact decide_eq_true (by omega))
                                   | (with_reducible apply w_eql false
                                      rfl
                                      rfl
                                      exact decide_eq_false (by omega))
                                   | (with_reducible apply w_neq false
                                      rfl
                                      rfl
                                      rw [decide_eq_true (by omega)]; rfl)
                                   | (with_reducible apply w_neq true
                                      rfl
                                      rfl
                                      rw [decide_eq_false (by omega)]; rfl)
                                   | (with_reducible apply w_add
                                      rfl
                                      rfl
                                      unfold inI; omega)
                                   | (with_reducible apply w_fad
                                      rfl)
                                   | (with_reducible apply w_load
                                      rfl
                                      rfl
                                      rfl)
                                   | (with_reducible apply w_loadA
                                      rfl
                                      rfl
                                      exact Nat.le_refl 2)
                                   | (with_reducible apply w_extr
                                      rfl
                                      rfl)
                                 exact alive fin)
                          · first
                              | (exfalso; omega)
                              | (repeat first
                                   | (with_reducible apply w_let)
                                   | (with_reducible apply w_and)
                                   | (with_reducible apply w_guard_y
                                      rfl)
                                   | (with_reducible apply w_guard_n
                                      rfl)
                                   | (with_reducible apply w_guard_u
                                      rfl)
                                   | (with_reducible apply w_pick_t
                                      rfl)
                                   | (with_reducible apply w_pick_f
                                      rfl)
                                   | (with_reducible apply w_cond_t
                                      rfl)
                                   | (with_reducible apply w_cond_f
                                      rfl)
                                   | (with_reducible apply w_not_t
                                      rfl)
                                   | (with_reducible apply w_not_f
                                      rfl)
                                   | (with_reducible apply w_lss true
                                      rfl
                                      rfl
                                      exact decide_eq_true (by omega))
                                   | (with_reducible apply w_lss false
                                      rfl
                                      rfl
                                      exact decide_eq_false (by omega))
                                   | (with_reducible apply w_leq true
                                      rfl
                                      rfl
                                      exact decide_eq_true (by omega))
                                   | (with_reducible apply w_leq false
                                      rfl
                                      rfl
                                      exact decide_eq_false (by omega))
                                   | (with_reducible apply w_gtr true
                                      rfl
                                      rfl
                                      exact decide_eq_true (by omega))
                                   | (with_reducible apply w_gtr false
                                      rfl
                                      rfl
                                      exact decide_eq_false (by omega))
                                   | (with_reducible apply w_geq true
                                      rfl
                                      rfl
                                      exact decide_eq_true (by omega))
                                   | (with_reducible apply w_geq false
                                      rfl
                                      rfl
                                      exact decide_eq_false (by omega))
                                   | (with_reducible apply w_eql true
                                      rfl
                                      rfl
                                      exact decide_eq_true (by omega))
                                   | (with_reducible apply w_eql false
                                      rfl
                                      rfl
                                      exact decide_eq_false (by omega))
                                   | (with_reducible apply w_neq false
                                      rfl
                                      rfl
                                      rw [decide_eq_true (by omega)]; rfl)
                                   | (with_reducible apply w_neq true
                                      rfl
                                      rfl
                                      rw [decide_eq_false (by omega)]; rfl)
                                   | (with_reducible apply w_add
                                      rfl
                                      rfl
                                      unfold inI; omega)
                                   | (with_reducible apply w_fad
                                      rfl)
                                   | (with_reducible apply w_load
                                      rfl
                                      rfl
                                      rfl)
                                   | (with_reducible apply w_loadA
                                      rfl
                                      rfl
                                      exact Nat.le_refl 2)
                                   | (with_reducible apply w_extr
                                      rfl
                                      rfl)
                                 exact alive fin))
                   · first
                       | (exfalso; omega)
                       | (repeat first
                            | (with_reducible apply w_let)
                            | (with_reducible apply w_and)
                            | (with_reducible apply w_guard_y
                               rfl)
                            | (with_reducible apply w_guard_n
                               rfl)
                            | (with_reducible apply w_guard_u
                               rfl)
                            | (with_reducible apply w_pick_t
                               rfl)
                            | (with_reducible apply w_pick_f
                               rfl)
                            | (with_reducible apply w_cond_t
                               rfl)
                            | (with_reducible apply w_cond_f
                               rfl)
                            | (with_reducible apply w_not_t
                               rfl)
                            | (with_reducible apply w_not_f
                               rfl)
                            | (with_reducible apply w_lss true
                               rfl
                               rfl
                               exact decide_eq_true (by omega))
                            | (with_reducible apply w_lss false
                               rfl
                               rfl
                               exact decide_eq_false (by omega))
                            | (with_reducible apply w_leq true
                               rfl
                               rfl
                               exact decide_eq_true (by omega))
                            | (with_reducible apply w_leq false
                               rfl
                               rfl
                               exact decide_eq_false (by omega))
                            | (with_reducible apply w_gtr true
                               rfl
                               rfl
                               exact decide_eq_true (by omega))
                            | (with_reducible apply w_gtr false
                               rfl
                               rfl
                               exact decide_eq_false (by omega))
                            | (with_reducible apply w_geq true
                               rfl
                               rfl
                               exact decide_eq_true (by omega))
                            | (with_reducible apply w_geq false
                               rfl
                               rfl
                               exact decide_eq_false (by omega))
                            | (with_reducible apply w_eql true
                               rfl
                               rfl
                               exact decide_eq_true (by omega))
                            | (with_reducible apply w_eql false
                               rfl
                               rfl
                               exact decide_eq_false (by omega))
                            | (with_reducible apply w_neq false
                               rfl
                               rfl
                               rw [decide_eq_true (by omega)]; rfl)
                            | (with_reducible apply w_neq true
                               rfl
                               rfl
                               rw [decide_eq_false (by omega)]; rfl)
                            | (with_reducible apply w_add
                               rfl
                               rfl
                               unfold inI; omega)
                            | (with_reducible apply w_fad
                               rfl)
                            | (with_reducible apply w_load
                               rfl
                               rfl
                               rfl)
                            | (with_reducible apply w_loadA
                               rfl
                               rfl
                               exact Nat.le_refl 2)
                            | (with_reducible apply w_extr
                               rfl
                               rfl)
                          exact alive fin))
          · by_cases hb : 1 ≤ B
            · first
                | (exfalso; omega)
                | (repeat first
                     | (with_reducible apply w_let)
                     | (with_reducible apply w_and)
                     | (with_reducible apply w_guard_y
                        rfl)
                     | (with_reducible apply w_guard_n
                        rfl)
                     | (with_reducible apply w_guard_u
                        rfl)
                     | (with_reducible apply w_pick_t
                        rfl)
                     | (with_reducible apply w_pick_f
                        rfl)
                     | (with_reducible apply w_cond_t
                        rfl)
                     | (with_reducible apply w_cond_f
                        rfl)
                     | (with_reducible apply w_not_t
                        rfl)
                     | (with_reducible apply w_not_f
                        rfl)
                     | (with_reducible apply w_lss true
                        rfl
                        rfl
                        exact decide_eq_true (by omega))
                     | (with_reducible apply w_lss false
                        rfl
                        rfl
                        exact decide_eq_false (by omega))
                     | (with_reducible apply w_leq true
                        rfl
                        rfl
                        exact decide_eq_true (by omega))
                     | (with_reducible apply w_leq false
                        rfl
                        rfl
                        exact decide_eq_false (by omega))
                     | (with_reducible apply w_gtr true
                        rfl
                        rfl
                        exact decide_eq_true (by omega))
                     | (with_reducible apply w_gtr false
                        rfl
                        rfl
                        exact decide_eq_false (by omega))
                     | (with_reducible apply w_geq true
                        rfl
                        rfl
                        exact decide_eq_true (by omega))
                     | (with_reducible apply w_geq false
                        rfl
                        rfl
                        exact decide_eq_false (by omega))
                     | (with_reducible apply w_eql true
                        rfl
                        rfl
                        exact decide_eq_true (by omega))
                     | (with_reducible apply w_eql false
                        rfl
                        rfl
                        exact decide_eq_false (by omega))
                     | (with_reducible apply w_neq false
                        rfl
                        rfl
                        rw [decide_eq_true (by omega)]; rfl)
                     | (with_reducible apply w_neq true
                        rfl
                        rfl
                        rw [decide_eq_false (by omega)]; rfl)
                     | (with_reducible apply w_add
                        rfl
                        rfl
                        unfold inI; omega)
                     | (with_reducible apply w_fad
                        rfl)
                     | (with_reducible apply w_load
                        rfl
                        rfl
                        rfl)
                     | (with_reducible apply w_loadA
                        rfl
                        rfl
                        exact Nat.le_refl 2)
                     | (with_reducible apply w_extr
                        rfl
                        rfl)
                   refine w_call rfl b23 (con23 A B B oA oB hb c2) ?_
                   rw [step_first]
                   repeat first
                     | (with_reducible apply w_let)
                     | (with_reducible apply w_and)
                     | (with_reducible apply w_guard_y
                        rfl)
                     | (with_reducible apply w_guard_n
                        rfl)
                     | (with_reducible apply w_guard_u
                        rfl)
                     | (with_reducible apply w_pick_t
                        rfl)
                     | (with_reducible apply w_pick_f
                        rfl)
                     | (with_reducible apply w_cond_t
                        rfl)
                     | (with_reducible apply w_cond_f
                        rfl)
                     | (with_reducible apply w_not_t
                        rfl)
                     | (with_reducible apply w_not_f
                        rfl)
                     | (with_reducible apply w_lss true
                        rfl
                        rfl
                        exact decide_eq_true (by omega))
                     | (with_reducible apply w_lss false
                        rfl
                        rfl
                        exact decide_eq_false (by omega))
                     | (with_reducible apply w_leq true
                        rfl
                        rfl
                        exact decide_eq_true (by omega))
                     | (with_reducible apply w_leq false
                        rfl
                        rfl
                        exact decide_eq_false (by omega))
                     | (with_reducible apply w_gtr true
                        rfl
                        rfl
                        exact decide_eq_true (by omega))
                     | (with_reducible apply w_gtr false
                        rfl
                        rfl
                        exact decide_eq_false (by omega))
                     | (with_reducible apply w_geq true
                        rfl
                        rfl
                        exact decide_eq_true (by omega))
                     | (with_reducible apply w_geq false
                        rfl
                        rfl
                        exact decide_eq_false (by omega))
                     | (with_reducible apply w_eql true
                        rfl
                        rfl
                        exact decide_eq_true (by omega))
                     | (with_reducible apply w_eql false
                        rfl
                        rfl
                        exact decide_eq_false (by omega))
                     | (with_reducible apply w_neq false
                        rfl
                        rfl
                        rw [decide_eq_true (by omega)]; rfl)
                     | (with_reducible apply w_neq true
                        rfl
                        rfl
                        rw [decide_eq_false (by omega)]; rfl)
                     | (with_reducible apply w_add
                        rfl
                        rfl
                        unfold inI; omega)
                     | (with_reducible apply w_fad
                        rfl)
                     | (with_reducible apply w_load
                        rfl
                        rfl
                        rfl)
                     | (with_reducible apply w_loadA
                        rfl
                        rfl
                        exact Nat.le_refl 2)
                     | (with_reducible apply w_extr
                        rfl
                        rfl)
                   by_cases h7 : 1 ≤ p + A
                   · first
                       | (exfalso; omega)
                       | (by_cases h8 : p + A ≤ 1000000000
                          · first
                              | (exfalso; omega)
                              | (repeat first
                                   | (with_reducible apply w_let)
                                   | (with_reducible apply w_and)
                                   | (with_reducible apply w_guard_y
                                      rfl)
                                   | (with_reducible apply w_guard_n
                                      rfl)
                                   | (with_reducible apply w_guard_u
                                      rfl)
                                   | (with_reducible apply w_pick_t
                                      rfl)
                                   | (with_reducible apply w_pick_f
                                      rfl)
                                   | (with_reducible apply w_cond_t
                                      rfl)
                                   | (with_reducible apply w_cond_f
                                      rfl)
                                   | (with_reducible apply w_not_t
                                      rfl)
                                   | (with_reducible apply w_not_f
                                      rfl)
                                   | (with_reducible apply w_lss true
                                      rfl
                                      rfl
                                      exact decide_eq_true (by omega))
                                   | (with_reducible apply w_lss false
                                      rfl
                                      rfl
                                      exact decide_eq_false (by omega))
                                   | (with_reducible apply w_leq true
                                      rfl
                                      rfl
                                      exact decide_eq_true (by omega))
                                   | (with_reducible apply w_leq false
                                      rfl
                                      rfl
                                      exact decide_eq_false (by omega))
                                   | (with_reducible apply w_gtr true
                                      rfl
                                      rfl
                                      exact decide_eq_true (by omega))
                                   | (with_reducible apply w_gtr false
                                      rfl
                                      rfl
                                      exact decide_eq_false (by omega))
                                   | (with_reducible apply w_geq true
                                      rfl
                                      rfl
                                      exact decide_eq_true (by omega))
                                   | (with_reducible apply w_geq false
                                      rfl
                                      rfl
                                      exact decide_eq_false (by omega))
                                   | (with_reducible apply w_eql true
                                      rfl
                                      rfl
                                      exact decide_eq_true (by omega))
                                   | (with_reducible apply w_eql false
                                      rfl
                                      rfl
                                      exact decide_eq_false (by omega))
                                   | (with_reducible apply w_neq false
                                      rfl
                                      rfl
                                      rw [decide_eq_true (by omega)]; rfl)
                                   | (with_reducible apply w_neq true
                                      rfl
                                      rfl
                                      rw [decide_eq_false (by omega)]; rfl)
                                   | (with_reducible apply w_add
                                      rfl
                                      rfl
                                      unfold inI; omega)
                                   | (with_reducible apply w_fad
                                      rfl)
                                   | (with_reducible apply w_load
                                      rfl
                                      rfl
                                      rfl)
                                   | (with_reducible apply w_loadA
                                      rfl
                                      rfl
                                      exact Nat.le_refl 2)
                                   | (with_reducible apply w_extr
                                      rfl
                                      rfl)
                                 refine w_call rfl b23 (con23 A B (p + A) oA oB h7 h8) ?_
                                 rw [step_next hh]
                                 repeat first
                                   | (with_reducible apply w_let)
                                   | (with_reducible apply w_and)
                                   | (with_reducible apply w_guard_y
                                      rfl)
                                   | (with_reducible apply w_guard_n
                                      rfl)
                                   | (with_reducible apply w_guard_u
                                      rfl)
                                   | (with_reducible apply w_pick_t
                                      rfl)
                                   | (with_reducible apply w_pick_f
                                      rfl)
                                   | (with_reducible apply w_cond_t
                                      rfl)
                                   | (with_reducible apply w_cond_f
                                      rfl)
                                   | (with_reducible apply w_not_t
                                      rfl)
                                   | (with_reducible apply w_not_f
                                      rfl)
                                   | (with_reducible apply w_lss true
                                      rfl
                                      rfl
                                      exact decide_eq_true (by omega))
                                   | (with_reducible apply w_lss false
                                      rfl
                                      rfl
                                      exact decide_eq_false (by omega))
                                   | (with_reducible apply w_leq true
                                      rfl
                                      rfl
                                      exact decide_eq_true (by omega))
                                   | (with_reducible apply w_leq false
                                      rfl
                                      rfl
                                      exact decide_eq_false (by omega))
                                   | (with_reducible apply w_gtr true
                                      rfl
                                      rfl
                                      exact decide_eq_true (by omega))
                                   | (with_reducible apply w_gtr false
                                      rfl
                                      rfl
                                      exact decide_eq_false (by omega))
                                   | (with_reducible apply w_geq true
                                      rfl
                                      rfl
                                      exact decide_eq_true (by omega))
                                   | (with_reducible apply w_geq false
                                      rfl
                                      rfl
                                      exact decide_eq_false (by omega))
                                   | (with_reducible apply w_eql true
                                      rfl
                                      rfl
                                      exact decide_eq_true (by omega))
                                   | (with_reducible apply w_eql false
                                      rfl
                                      rfl
                                      exact decide_eq_false (by omega))
                                   | (with_reducible apply w_neq false
                                      rfl
                                      rfl
                                      rw [decide_eq_true (by omega)]; rfl)
                                   | (with_reducible apply w_neq true
                                      rfl
                                      rfl
                                      rw [decide_eq_false (by omega)]; rfl)
                                   | (with_reducible apply w_add
                                      rfl
                                      rfl
                                      unfold inI; omega)
                                   | (with_reducible apply w_fad
                                      rfl)
                                   | (with_reducible apply w_load
                                      rfl
                                      rfl
                                      rfl)
                                   | (with_reducible apply w_loadA
                                      rfl
                                      rfl
                                      exact Nat.le_refl 2)
                                   | (with_reducible apply w_extr
                                      rfl
                                      rfl)
                                 exact alive fin)
                          · first
                              | (exfalso; omega)
                              | (repeat first
                                   | (with_reducible apply w_let)
                                   | (with_reducible apply w_and)
                                   | (with_reducible apply w_guard_y
                                      rfl)
                                   | (with_reducible apply w_guard_n
                                      rfl)
                                   | (with_reducible apply w_guard_u
                                      rfl)
                                   | (with_reducible apply w_pick_t
                                      rfl)
                                   | (with_reducible apply w_pick_f
                                      rfl)
                                   | (with_reducible apply w_cond_t
                                      rfl)
                                   | (with_reducible apply w_cond_f
                                      rfl)
                                   | (with_reducible apply w_not_t
                                      rfl)
                                   | (with_reducible apply w_not_f
                                      rfl)
                                   | (with_reducible apply w_lss true
                                      rfl
                                      rfl
                                      exact decide_eq_true (by omega))
                                   | (with_reducible apply w_lss false
                                      rfl
                                      rfl
                                      exact decide_eq_false (by omega))
                                   | (with_reducible apply w_leq true
                                      rfl
                                      rfl
                                      exact decide_eq_true (by omega))
                                   | (with_reducible apply w_leq false
                                      rfl
                                      rfl
                                      exact decide_eq_false (by omega))
                                   | (with_reducible apply w_gtr true
                                      rfl
                                      rfl
                                      exact decide_eq_true (by omega))
                                   | (with_reducible apply w_gtr false
                                      rfl
                                      rfl
                                      exact decide_eq_false (by omega))
                                   | (with_reducible apply w_geq true
                                      rfl
                                      rfl
                                      exact decide_eq_true (by omega))
                                   | (with_reducible apply w_geq false
                                      rfl
                                      rfl
                                      exact decide_eq_false (by omega))
                                   | (with_reducible apply w_eql true
                                      rfl
                                      rfl
                                      exact decide_eq_true (by omega))
                                   | (with_reducible apply w_eql false
                                      rfl
                                      rfl
                                      exact decide_eq_false (by omega))
                                   | (with_reducible apply w_neq false
                                      rfl
                                      rfl
                                      rw [decide_eq_true (by omega)]; rfl)
                                   | (with_reducible apply w_neq true
                                      rfl
                                      rfl
                                      rw [decide_eq_false (by omega)]; rfl)
                                   | (with_reducible apply w_add
                                      rfl
                                      rfl
                                      unfold inI; omega)
                                   | (with_reducible apply w_fad
                                      rfl)
                                   | (with_reducible apply w_load
                                      rfl
                                      rfl
                                      rfl)
                                   | (with_reducible apply w_loadA
                                      rfl
                                      rfl
                                      exact Nat.le_refl 2)
                                   | (with_reducible apply w_extr
                                      rfl
                                      rfl)
                                 exact alive fin))
                   · first
                       | (exfalso; omega)
                       | (repeat first
                            | (with_reducible apply w_let)
                            | (with_reducible apply w_and)
                            | (with_reducible apply w_guard_y
                               rfl)
                            | (with_reducible apply w_guard_n
                               rfl)
                            | (with_reducible apply w_guard_u
                               rfl)
                            | (with_reducible apply w_pick_t
                               rfl)
                            | (with_reducible apply w_pick_f
                               rfl)
                            | (with_reducible apply w_cond_t
                               rfl)
                            | (with_reducible apply w_cond_f
                               rfl)
                            | (with_reducible apply w_not_t
                               rfl)
                            | (with_reducible apply w_not_f
                               rfl)
                            | (with_reducible apply w_lss true
                               rfl
                               rfl
                               exact decide_eq_true (by omega))
                            | (with_reducible apply w_lss false
                               rfl
                               rfl
                               exact decide_eq_false (by omega))
                            | (with_reducible apply w_leq true
                               rfl
                               rfl
                               exact decide_eq_true (by omega))
                            | (with_reducible apply w_leq false
                               rfl
                               rfl
                               exact decide_eq_false (by omega))
                            | (with_reducible apply w_gtr true
                               rfl
                               rfl
                               exact decide_eq_true (by omega))
                            | (with_reducible apply w_gtr false
                               rfl
                               rfl
                               exact decide_eq_false (by omega))
                            | (with_reducible apply w_geq true
                               rfl
                               rfl
                               exact decide_eq_true (by omega))
                            | (with_reducible apply w_geq false
                               rfl
                               rfl
                               exact decide_eq_false (by omega))
                            | (with_reducible apply w_eql true
                               rfl
                               rfl
                               exact decide_eq_true (by omega))
                            | (with_reducible apply w_eql false
                               rfl
                               rfl
                               exact decide_eq_false (by omega))
                            | (with_reducible apply w_neq false
                               rfl
                               rfl
                               rw [decide_eq_true (by omega)]; rfl)
                            | (with_reducible apply w_neq true
                               rfl
                               rfl
                               rw [decide_eq_false (by omega)]; rfl)
                            | (with_reducible apply w_add
                               rfl
                               rfl
                               unfold inI; omega)
                            | (with_reducible apply w_fad
                               rfl)
                            | (with_reducible apply w_load
                               rfl
                               rfl
                               rfl)
                            | (with_reducible apply w_loadA
                               rfl
                               rfl
                               exact Nat.le_refl 2)
                            | (with_reducible apply w_extr
                               rfl
                               rfl)
                          exact alive fin))
            · first
                | (exfalso; omega)
                | (repeat first
                     | (with_reducible apply w_let)
                     | (with_reducible apply w_and)
                     | (with_reducible apply w_guard_y
                        rfl)
                     | (with_reducible apply w_guard_n
                        rfl)
                     | (with_reducible apply w_guard_u
                        rfl)
                     | (with_reducible apply w_pick_t
                        rfl)
                     | (with_reducible apply w_pick_f
                        rfl)
                     | (with_reducible apply w_cond_t
                        rfl)
                     | (with_reducible apply w_cond_f
                        rfl)
                     | (with_reducible apply w_not_t
                        rfl)
                     | (with_reducible apply w_not_f
                        rfl)
                     | (with_reducible apply w_lss true
                        rfl
                        rfl
                        exact decide_eq_true (by omega))
                     | (with_reducible apply w_lss false
                        rfl
                        rfl
                        exact decide_eq_false (by omega))
                     | (with_reducible apply w_leq true
                        rfl
                        rfl
                        exact decide_eq_true (by omega))
                     | (with_reducible apply w_leq false
                        rfl
                        rfl
                        exact decide_eq_false (by omega))
                     | (with_reducible apply w_gtr true
                        rfl
                        rfl
                        exact decide_eq_true (by omega))
                     | (with_reducible apply w_gtr false
                        rfl
                        rfl
                        exact decide_eq_false (by omega))
                     | (with_reducible apply w_geq true
                        rfl
                        rfl
                        exact decide_eq_true (by omega))
                     | (with_reducible apply w_geq false
                        rfl
                        rfl
                        exact decide_eq_false (by omega))
                     | (with_reducible apply w_eql true
                        rfl
                        rfl
                        exact decide_eq_true (by omega))
                     | (with_reducible apply w_eql false
                        rfl
                        rfl
                        exact decide_eq_false (by omega))
                     | (with_reducible apply w_neq false
                        rfl
                        rfl
                        rw [decide_eq_true (by omega)]; rfl)
                     | (with_reducible apply w_neq true
                        rfl
                        rfl
                        rw [decide_eq_false (by omega)]; rfl)
                     | (with_reducible apply w_add
                        rfl
                        rfl
                        unfold inI; omega)
                     | (with_reducible apply w_fad
                        rfl)
                     | (with_reducible apply w_load
                        rfl
                        rfl
                        rfl)
                     | (with_reducible apply w_loadA
                        rfl
                        rfl
                        exact Nat.le_refl 2)
                     | (with_reducible apply w_extr
                        rfl
                        rfl)
                   by_cases h7 : 1 ≤ p + A
                   · first
                       | (exfalso; omega)
                       | (by_cases h8 : p + A ≤ 1000000000
                          · first
                              | (exfalso; omega)
                              | (repeat first
                                   | (with_reducible apply w_let)
                                   | (with_reducible apply w_and)
                                   | (with_reducible apply w_guard_y
                                      rfl)
                                   | (with_reducible apply w_guard_n
                                      rfl)
                                   | (with_reducible apply w_guard_u
                                      rfl)
                                   | (with_reducible apply w_pick_t
                                      rfl)
                                   | (with_reducible apply w_pick_f
                                      rfl)
                                   | (with_reducible apply w_cond_t
                                      rfl)
                                   | (with_reducible apply w_cond_f
                                      rfl)
                                   | (with_reducible apply w_not_t
                                      rfl)
                                   | (with_reducible apply w_not_f
                                      rfl)
                                   | (with_reducible apply w_lss true
                                      rfl
                                      rfl
                                      exact decide_eq_true (by omega))
                                   | (with_reducible apply w_lss false
                                      rfl
                                      rfl
                                      exact decide_eq_false (by omega))
                                   | (with_reducible apply w_leq true
                                      rfl
                                      rfl
                                      exact decide_eq_true (by omega))
                                   | (with_reducible apply w_leq false
                                      rfl
                                      rfl
                                      exact decide_eq_false (by omega))
                                   | (with_reducible apply w_gtr true
                                      rfl
                                      rfl
                                      exact decide_eq_true (by omega))
                                   | (with_reducible apply w_gtr false
                                      rfl
                                      rfl
                                      exact decide_eq_false (by omega))
                                   | (with_reducible apply w_geq true
                                      rfl
                                      rfl
                                      exact decide_eq_true (by omega))
                                   | (with_reducible apply w_geq false
                                      rfl
                                      rfl
                                      exact decide_eq_false (by omega))
                                   | (with_reducible apply w_eql true
                                      rfl
                                      rfl
                                      exact decide_eq_true (by omega))
                                   | (with_reducible apply w_eql false
                                      rfl
                                      rfl
                                      exact decide_eq_false (by omega))
                                   | (with_reducible apply w_neq false
                                      rfl
                                      rfl
                                      rw [decide_eq_true (by omega)]; rfl)
                                   | (with_reducible apply w_neq true
                                      rfl
                                      rfl
                                      rw [decide_eq_false (by omega)]; rfl)
                                   | (with_reducible apply w_add
                                      rfl
                                      rfl
                                      unfold inI; omega)
                                   | (with_reducible apply w_fad
                                      rfl)
                                   | (with_reducible apply w_load
                                      rfl
                                      rfl
                                      rfl)
                                   | (with_reducible apply w_loadA
                                      rfl
                                      rfl
                                      exact Nat.le_refl 2)
                                   | (with_reducible apply w_extr
                                      rfl
                                      rfl)
                                 refine w_call rfl b23 (con23 A B (p + A) oA oB h7 h8) ?_
                                 rw [step_next hh]
                                 repeat first
                                   | (with_reducible apply w_let)
                                   | (with_reducible apply w_and)
                                   | (with_reducible apply w_guard_y
                                      rfl)
                                   | (with_reducible apply w_guard_n
                                      rfl)
                                   | (with_reducible apply w_guard_u
                                      rfl)
                                   | (with_reducible apply w_pick_t
                                      rfl)
                                   | (with_reducible apply w_pick_f
                                      rfl)
                                   | (with_reducible apply w_cond_t
                                      rfl)
                                   | (with_reducible apply w_cond_f
                                      rfl)
                                   | (with_reducible apply w_not_t
                                      rfl)
                                   | (with_reducible apply w_not_f
                                      rfl)
                                   | (with_reducible apply w_lss true
                                      rfl
                                      rfl
                                      exact decide_eq_true (by omega))
                                   | (with_reducible apply w_lss false
                                      rfl
                                      rfl
                                      exact decide_eq_false (by omega))
                                   | (with_reducible apply w_leq true
                                      rfl
                                      rfl
                                      exact decide_eq_true (by omega))
                                   | (with_reducible apply w_leq false
                                      rfl
                                      rfl
                                      exact decide_eq_false (by omega))
                                   | (with_reducible apply w_gtr true
                                      rfl
                                      rfl
                                      exact decide_eq_true (by omega))
                                   | (with_reducible apply w_gtr false
                                      rfl
                                      rfl
                                      exact decide_eq_false (by omega))
                                   | (with_reducible apply w_geq true
                                      rfl
                                      rfl
                                      exact decide_eq_true (by omega))
                                   | (with_reducible apply w_geq false
                                      rfl
                                      rfl
                                      exact decide_eq_false (by omega))
                                   | (with_reducible apply w_eql true
                                      rfl
                                      rfl
                                      exact decide_eq_true (by omega))
                                   | (with_reducible apply w_eql false
                                      rfl
                                      rfl
                                      exact decide_eq_false (by omega))
                                   | (with_reducible apply w_neq false
                                      rfl
                                      rfl
                                      rw [decide_eq_true (by omega)]; rfl)
                                   | (with_reducible apply w_neq true
                                      rfl
                                      rfl
                                      rw [decide_eq_false (by omega)]; rfl)
                                   | (with_reducible apply w_add
                                      rfl
                                      rfl
                                      unfold inI; omega)
                                   | (with_reducible apply w_fad
                                      rfl)
                                   | (with_reducible apply w_load
                                      rfl
                                      rfl
                                      rfl)
                                   | (with_reducible apply w_loadA
                                      rfl
                                      rfl
                                      exact Nat.le_refl 2)
                                   | (with_reducible apply w_extr
                                      rfl
                                      rfl)
                                 exact alive fin)
                          · first
                              | (exfalso; omega)
                              | (repeat first
                                   | (with_reducible apply w_let)
                                   | (with_reducible apply w_and)
                                   | (with_reducible apply w_guard_y
                                      rfl)
                                   | (with_reducible apply w_guard_n
                                      rfl)
                                   | (with_reducible apply w_guard_u
                                      rfl)
                                   | (with_reducible apply w_pick_t
                                      rfl)
                                   | (with_reducible apply w_pick_f
                                      rfl)
                                   | (with_reducible apply w_cond_t
                                      rfl)
                                   | (with_reducible apply w_cond_f
                                      rfl)
                                   | (with_reducible apply w_not_t
                                      rfl)
                                   | (with_reducible apply w_not_f
                                      rfl)
                                   | (with_reducible apply w_lss true
                                      rfl
                                      rfl
                                      exact decide_eq_true (by omega))
                                   | (with_reducible apply w_lss false
                                      rfl
                                      rfl
                                      exact decide_eq_false (by omega))
                                   | (with_reducible apply w_leq true
                                      rfl
                                      rfl
                                      exact decide_eq_true (by omega))
                                   | (with_reducible apply w_leq false
                                      rfl
                                      rfl
                                      exact decide_eq_false (by omega))
                                   | (with_reducible apply w_gtr true
                                      rfl
                                      rfl
                                      exact decide_eq_true (by omega))
                                   | (with_reducible apply w_gtr false
                                      rfl
                                      rfl
                                      exact decide_eq_false (by omega))
                                   | (with_reducible apply w_geq true
                                      rfl
                                      rfl
                                      exact decide_eq_true (by omega))
                                   | (with_reducible apply w_geq false
                                      rfl
                                      rfl
                                      exact decide_eq_false (by omega))
                                   | (with_reducible apply w_eql true
                                      rfl
                                      rfl
                                      exact decide_eq_true (by omega))
                                   | (with_reducible apply w_eql false
                                      rfl
                                      rfl
                                      exact decide_eq_false (by omega))
                                   | (with_reducible apply w_neq false
                                      rfl
                                      rfl
                                      rw [decide_eq_true (by omega)]; rfl)
                                   | (with_reducible apply w_neq true
                                      rfl
                                      rfl
                                      rw [decide_eq_false (by omega)]; rfl)
                                   | (with_reducible apply w_add
                                      rfl
                                      rfl
                                      unfold inI; omega)
                                   | (with_reducible apply w_fad
                                      rfl)
                                   | (with_reducible apply w_load
                                      rfl
                                      rfl
                                      rfl)
                                   | (with_reducible apply w_loadA
                                      rfl
                                      rfl
                                      exact Nat.le_refl 2)
                                   | (with_reducible apply w_extr
                                      rfl
                                      rfl)
                                 exact alive fin))
                   · first
                       | (exfalso; omega)
                       | (repeat first
                            | (with_reducible apply w_let)
                            | (with_reducible apply w_and)
                            | (with_reducible apply w_guard_y
                               rfl)
                            | (with_reducible apply w_guard_n
                               rfl)
                            | (with_reducible apply w_guard_u
                               rfl)
                            | (with_reducible apply w_pick_t
                               rfl)
                            | (with_reducible apply w_pick_f
                               rfl)
                            | (with_reducible apply w_cond_t
                               rfl)
                            | (with_reducible apply w_cond_f
                               rfl)
                            | (with_reducible apply w_not_t
                               rfl)
                            | (with_reducible apply w_not_f
                               rfl)
                            | (with_reducible apply w_lss true
                               rfl
                               rfl
                               exact decide_eq_true (by omega))
                            | (with_reducible apply w_lss false
                               rfl
                               rfl
                               exact decide_eq_false (by omega))
                            | (with_reducible apply w_leq true
                               rfl
                               rfl
                               exact decide_eq_true (by omega))
                            | (with_reducible apply w_leq false
                               rfl
                               rfl
                               exact decide_eq_false (by omega))
                            | (with_reducible apply w_gtr true
                               rfl
                               rfl
                               exact decide_eq_true (by omega))
                            | (with_reducible apply w_gtr false
                               rfl
                               rfl
                               exact decide_eq_false (by omega))
                            | (with_reducible apply w_geq true
                               rfl
                               rfl
                               exact decide_eq_true (by omega))
                            | (with_reducible apply w_geq false
                               rfl
                               rfl
                               exact decide_eq_false (by omega))
                            | (with_reducible apply w_eql true
                               rfl
                               rfl
                               exact decide_eq_true (by omega))
                            | (with_reducible apply w_eql false
                               rfl
                               rfl
                               exact decide_eq_false (by omega))
                            | (with_reducible apply w_neq false
                               rfl
                               rfl
                               rw [decide_eq_true (by omega)]; rfl)
                            | (with_reducible apply w_neq true
                               rfl
                               rfl
                               rw [decide_eq_false (by omega)]; rfl)
                            | (with_reducible apply w_add
                               rfl
                               rfl
                               unfold inI; omega)
                            | (with_reducible apply w_fad
                               rfl)
                            | (with_reducible apply w_load
                               rfl
                               rfl
                               rfl)
                            | (with_reducible apply w_loadA
                               rfl
                               rfl
                               exact Nat.le_refl 2)
                            | (with_reducible apply w_extr
                               rfl
                               rfl)
                          exact alive fin))
      · repeat first
          | (with_reducible apply w_let)
          | (with_reducible apply w_and)
          | (with_reducible apply w_guard_y
             rfl)
          | (with_reducible apply w_guard_n
             rfl)
          | (with_reducible apply w_guard_u
             rfl)
          | (with_reducible apply w_pick_t
             rfl)
          | (with_reducible apply w_pick_f
             rfl)
          | (with_reducible apply w_cond_t
             rfl)
          | (with_reducible apply w_cond_f
             rfl)
          | (with_reducible apply w_not_t
             rfl)
          | (with_reducible apply w_not_f
             rfl)
          | (with_reducible apply w_lss true
             rfl
             rfl
             exact decide_eq_true (by omega))
          | (with_reducible apply w_lss false
             rfl
             rfl
             exact decide_eq_false (by omega))
          | (with_reducible apply w_leq true
             rfl
             rfl
             exact decide_eq_true (by omega))
          | (with_reducible apply w_leq false
             rfl
             rfl
             exact decide_eq_false (by omega))
          | (with_reducible apply w_gtr true
             rfl
             rfl
             exact decide_eq_true (by omega))
          | (with_reducible apply w_gtr false
             rfl
             rfl
             exact decide_eq_false (by omega))
          | (with_reducible apply w_geq true
             rfl
             rfl
             exact decide_eq_true (by omega))
          | (with_reducible apply w_geq false
             rfl
             rfl
             exact decide_eq_false (by omega))
          | (with_reducible apply w_eql true
             rfl
             rfl
             exact decide_eq_true (by omega))
          | (with_reducible apply w_eql false
             rfl
             rfl
             exact decide_eq_false (by omega))
          | (with_reducible apply w_neq false
             rfl
             rfl
             rw [decide_eq_true (by omega)]; rfl)
          | (with_reducible apply w_neq true
             rfl
             rfl
             rw [decide_eq_false (by omega)]; rfl)
          | (with_reducible apply w_add
             rfl
             rfl
             unfold inI; omega)
          | (with_reducible apply w_fad
             rfl)
          | (with_reducible apply w_load
             rfl
             rfl
             rfl)
          | (with_reducible apply w_loadA
             rfl
             rfl
             exact Nat.le_refl 2)
          | (with_reducible apply w_extr
             rfl
             rfl)
        exact alive fin
    · repeat first
        | (with_reducible apply w_let)
        | (with_reducible apply w_and)
        | (with_reducible apply w_guard_y
           rfl)
        | (with_reducible apply w_guard_n
           rfl)
        | (with_reducible apply w_guard_u
           rfl)
        | (with_reducible apply w_pick_t
           rfl)
        | (with_reducible apply w_pick_f
           rfl)
        | (with_reducible apply w_cond_t
           rfl)
        | (with_reducible apply w_cond_f
           rfl)
        | (with_reducible apply w_not_t
           rfl)
        | (with_reducible apply w_not_f
           rfl)
        | (with_reducible apply w_lss true
           rfl
           rfl
           exact decide_eq_true (by omega))
        | (with_reducible apply w_lss false
           rfl
           rfl
           exact decide_eq_false (by omega))
        | (with_reducible apply w_leq true
           rfl
           rfl
           exact decide_eq_true (by omega))
        | (with_reducible apply w_leq false
           rfl
           rfl
           exact decide_eq_false (by omega))
        | (with_reducible apply w_gtr true
           rfl
           rfl
           exact decide_eq_true (by omega))
        | (with_reducible apply w_gtr false
           rfl
           rfl
           exact decide_eq_false (by omega))
        | (with_reducible apply w_geq true
           rfl
           rfl
           exact decide_eq_true (by omega))
        | (with_reducible apply w_geq false
           rfl
           rfl
           exact decide_eq_false (by omega))
        | (with_reducible apply w_eql true
           rfl
           rfl
           exact decide_eq_true (by omega))
        | (with_reducible apply w_eql false
           rfl
           rfl
           exact decide_eq_false (by omega))
        | (with_reducible apply w_neq false
           rfl
           rfl
           rw [decide_eq_true (by omega)]; rfl)
        | (with_reducible apply w_neq true
           rfl
           rfl
           rw [decide_eq_false (by omega)]; rfl)
        | (with_reducible apply w_add
           rfl
           rfl
           unfold inI; omega)
        | (with_reducible apply w_fad
           rfl)
        | (with_reducible apply w_load
           rfl
           rfl
           rfl)
        | (with_reducible apply w_loadA
           rfl
           rfl
           exact Nat.le_refl 2)
        | (with_reducible apply w_extr
           rfl
           rfl)
      exact alive fin
end Go.Proofs.YtedaaincibcbkaaGreatDoor
