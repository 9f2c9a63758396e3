/-
  The tables of the replacer, read.
  No conditions.
-/
import Derived.Test.YtpggiljgcckmoaaGreatDoorClOnce
import Derived.Test.YtpggiljgcckmoaaGreatDoorUse
namespace Go.Proofs.YtpggiljgcckmoaaGreatDoor
open Go Go.Aw
set_option maxRecDepth 100000

theorem acall165 : ACall Tryz.prog 151 [.op 2 0] (Hb 0) fun r hh => r = bool false ∧ hh = Hb 0 := by
  intro base ι S w vs h1 h2
  match vs, h1 with
  | [], h1 => simp at h1
  | v :: u :: vs, h1 => simp at h1
  | [v], h1 =>
    simp only [RepL_cons, RepL_nil, and_true] at h1
    rw [Rep] at h1
    obtain ⟨b, hb, rfl⟩ := h1
    have hx : (Hb 0)[2]? = some (.blk (rpl 0 0 (.v .nilIface) keys)) := rfl
    obtain ⟨v0, g0, q0, z0⟩ := cell_of h2 hx hb (o := 0) (c := .v (.int .u32 0)) rfl
    rw [Rep_v] at q0
    subst q0
    refine (load_done _ w g0).mono ?_
    rintro e w' ⟨rfl, rfl⟩
    exact ⟨_, ι, S, bool false, _, rfl, Evo.refl _ _ _ _ _, by simp, h2, Nat.le_refl _, rfl, rfl⟩

theorem acall126 : ACall Tryz.prog 122 [.op 2 0, .fn (.func 123) [.op 2 0] []] (Hb 0) fun r hh => r = .tup [] ∧ hh = Ha 1 0 := by
  refine (V122 _ _).acall ?_
  unfold W122
  simp only [iNilF_o, iFad_o]
  refine ⟨by kernel_rfl, acall165.mono ?_⟩
  rintro r hh ⟨rfl, rfl⟩
  simp only [iNot_b, iCond_b]
  refine ⟨fun _ => ⟨by kernel_rfl, acall166.mono ?_⟩, fun q => by cases q⟩
  rintro r hh ⟨rfl, rfl⟩
  exact ⟨_, _, Wk.refl _ _ _ (by decide), rfl, rfl⟩

theorem rb_0 : rb.drop 1 = int 0 :: rb.drop 2 := by kernel_rfl
theorem rb_4 : rb.drop 4 = .own 4 0 4 1 :: rb.drop 5 := by kernel_rfl
theorem rb_5 : rb.drop 5 = int 4 :: rb.drop 6 := by kernel_rfl
theorem rb_len : rb.length = 262 := by kernel_rfl
theorem rb_m (n : Nat) (h : n < 256) : rb.drop (6 + n) = u8 (mapN.getD n 0) :: rb.drop (6 + n + 1) := by
  have hl : 6 + n < rb.length := by rw [rb_len]; omega
  rw [List.drop_eq_getElem_cons hl]
  congr 1
  have : mapN.length = 256 := by kernel_rfl
  simp [rb, show 6 + n = n + 1 + 1 + 1 + 1 + 1 + 1 by omega, this, h]
theorem map_ok (n : Nat) (h : n < 256) (h0 : n ≠ 0) (h1 : n ≠ 12) (h2 : n ≠ 13) : mapN.getD n 0 = 4 ∨ mapN.getD n 0 = 1 := by
  have := List.all_eq_true.1 (show ((List.range 256).all fun n => n == 0 || n == 12 || n == 13 || mapN.getD n 0 == 4 || mapN.getD n 0 == 1) = true by kernel_rfl) n (by simpa using h)
  simp only [Bool.or_eq_true, beq_iff_eq] at this
  omega
end Go.Proofs.YtpggiljgcckmoaaGreatDoor
