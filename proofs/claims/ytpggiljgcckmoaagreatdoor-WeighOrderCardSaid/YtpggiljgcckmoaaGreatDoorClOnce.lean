/-
  Once, on memory that is told.
  No conditions.
-/
import Derived.Test.YtpggiljgcckmoaaGreatDoorClRun
namespace Go.Proofs.YtpggiljgcckmoaaGreatDoor
open Go Go.Aw
set_option maxRecDepth 100000

theorem acall_of [Laid] {P : Program} {C : Cfg} {known : CallF} (hk : CallOK P known) {d : Nat} {f : FuncId} (hb : hasBody P f = true) {args : List AV} {h : Heap} {v : AV} {oh : Option Heap} (e : callD P C known d f args h = some (v, oh)) :
    ACall P f args h fun r hh => r = v ∧ hh = oh.getD h := by
  rcases callD_ok hk d f args h v oh e with ⟨_, hA⟩ | hA
  · exact hA
  · exact absurd hb (by rw [hA.1]; exact Bool.false_ne_true)

theorem acall86 : ACall Tryz.prog 81 [] [] fun r hh => r = .op 2 0 ∧ hh = Hb 0 := acall_of known0_ok (by kernel_rfl) run86
theorem acall127 : ACall Tryz.prog 123 [.op 2 0] (Hb 1) fun r hh => r = .tup [] ∧ hh = Ha 0 1 := acall_of known0_ok (by kernel_rfl) run127

/-- A told cell of a block of the call's own. -/
theorem cell_of [Laid] {base : Nat} {ι : List Ix} {S : Stab} {w : World} {h : Heap} (hh : HOK base ι S w h) {i b : Nat} {x : Blk} (e : h[i]? = some (.blk x)) (hi : ι[i]? = some (.blk b)) {o : Nat} {c : AV} (hc : x.cells[o]? = some c) :
    ∃ v, w.cell? ⟨b, o, none⟩ = some v ∧ Rep ι S w c v ∧ w.frozen? ⟨b, o, none⟩ = false := by
  obtain ⟨b', arr, fz, k1, k2, k3, k4, k5, k6, _⟩ := hh.live i x e
  rw [hi] at k1; cases k1
  obtain ⟨v, e1, r⟩ := k6 o c hc
  refine ⟨v, by rw [cell_at k3]; exact e1, r, ?_⟩
  have hlt : o < arr.size := (Array.getElem?_eq_some_iff.1 e1).1
  have := k4 o hlt
  rw [frozen_at k3]
  simpa using this

theorem acall166 : ACall Tryz.prog 152 [.op 2 0, .fn (.func 123) [.op 2 0] []] (Hb 0) fun r hh => r = .tup [] ∧ hh = Ha 1 0 := by
  intro base ι S w vs h1 h2
  match vs, h1 with
  | [], h1 => simp at h1
  | [v], h1 => simp at h1
  | v :: u :: x :: vs, h1 => simp at h1
  | [v, u], h1 =>
    simp only [RepL_cons, RepL_nil, and_true] at h1
    obtain ⟨r1, r2⟩ := h1
    rw [Rep] at r1
    rw [Rep] at r2
    obtain ⟨b, hb, rfl⟩ := r1
    obtain ⟨ps, qs, rfl, r3, r4⟩ := r2
    match ps, r3 with
    | [], r3 => simp at r3
    | p :: q :: ps, r3 => simp at r3
    | [p], r3 =>
      simp only [RepL_cons, RepL_nil, and_true] at r3
      rw [Rep] at r3
      obtain ⟨b', hb', rfl⟩ := r3
      rw [hb] at hb'; cases hb'
      simp only [RepL_nil] at r4
      subst r4
      have hx : (Hb 0)[2]? = some (.blk (rpl 0 0 (.v .nilIface) keys)) := rfl
      obtain ⟨v0, g0, q0, z0⟩ := cell_of h2 hx hb (o := 0) (c := .v (.int .u32 0)) rfl
      obtain ⟨v1, g1, q1, z1⟩ := cell_of h2 hx hb (o := 1) (c := .v (.int .i32 0)) rfl
      rw [Rep_v] at q0 q1
      subst q0; subst q1
      obtain ⟨hE1, hH1⟩ := h2.set hx rfl hb (o := 1) (by simp [rpl]) (c := .v (.int .i32 1)) (v := .int .i32 1) (by simp)
      have hH1' : HOK base ι S (w.setCell ⟨b, 1, none⟩ (.int .i32 1)) (Hb 1) := hH1
      have hl := h2.len
      have hf := acall127 base ι S _ [.pointer (some ⟨b, 0, none⟩)] (by simp only [RepL_cons, RepL_nil, and_true]; rw [Rep]; exact ⟨b, hb, rfl⟩) hH1'
      refine (slow_any b w (fun w' => ∃ ι' S', Evo 3 base ι S (w.setCell ⟨b, 1, none⟩ (.int .i32 1)) ι' S' w' ∧ HOK base ι' S' w' (Ha 0 1) ∧ ι'[2]? = some (.blk b)) g0 g1 z0 z1 (hf.mono ?_)).mono ?_
      · rintro e w' ⟨v, ι', S', r, h', rfl, k1, k2, k3, k4, rfl, rfl⟩
        rw [Rep] at k2
        obtain ⟨us, rfl, k2⟩ := k2
        simp only [RepL_nil] at k2
        subst k2
        have hx' : (Ha 0 1)[2]? = some (.blk (rpl 0 1 (.ifc 233 (.op 3 0)) (.v (.slice none 0 0)))) := rfl
        have hb2 : ι'[2]? = some (.blk b) := by
          obtain ⟨b', arr, fz, m1, _⟩ := k3.live 2 _ hx'
          have := k1.pre 2 (by decide)
          rw [hb, m1] at this
          rw [m1]
          simpa [IxLe] using this
        obtain ⟨v0, g0, q0, z0⟩ := cell_of k3 hx' hb2 (o := 0) (c := .v (.int .u32 0)) rfl
        obtain ⟨v1, g1, q1, z1⟩ := cell_of k3 hx' hb2 (o := 1) (c := .v (.int .i32 1)) rfl
        rw [Rep_v] at q1
        subst q1
        exact ⟨rfl, ⟨v0, g0⟩, g1, z0, z1, ι', S', k1, k3, hb2⟩
      · rintro e w'' ⟨rfl, w', ⟨ι', S', k1, k3, hb2⟩, rfl⟩
        obtain ⟨d1, d2⟩ := k3.drew
        have hx' : (Ha 0 1)[2]? = some (.blk (rpl 0 1 (.ifc 233 (.op 3 0)) (.v (.slice none 0 0)))) := rfl
        obtain ⟨s1, s2⟩ := d2.set hx' rfl hb2 (o := 0) (by simp [rpl]) (c := .v (.int .u32 1)) (v := .int .u32 1) (by simp)
        have s2' : HOK base ι' S' (w'.drew.setCell ⟨b, 0, none⟩ (.int .u32 1)) (Ha 1 1) := s2
        have hx2 : (Ha 1 1)[2]? = some (.blk (rpl 1 1 (.ifc 233 (.op 3 0)) (.v (.slice none 0 0)))) := rfl
        obtain ⟨t1, t2⟩ := s2'.set hx2 rfl hb2 (o := 1) (by simp [rpl]) (c := .v (.int .i32 0)) (v := .int .i32 0) (by simp)
        have t2' : HOK base ι' S' ((w'.drew.setCell ⟨b, 0, none⟩ (.int .u32 1)).setCell ⟨b, 1, none⟩ (.int .i32 0)) (Ha 1 0) := t2
        have hl3 : ι.length = 3 := hl
        have hl9 : 3 ≤ ι'.length := by rw [k3.len]; decide
        have E0 : Evo 3 base ι S w ι S (w.setCell ⟨b, 1, none⟩ (.int .i32 1)) := hE1.mono (by omega) (Nat.le_refl _)
        exact ⟨_, ι', S', .tup [], Ha 1 0, rfl, ((((E0.trans k1).trans (d1.mono hl9 (Nat.le_refl _))).trans (s1.mono hl9 (Nat.le_refl _))).trans (t1.mono hl9 (Nat.le_refl _))), by rw [Rep]; exact ⟨[], rfl, by simp⟩, t2', by decide, rfl, rfl⟩
end Go.Proofs.YtpggiljgcckmoaaGreatDoor
