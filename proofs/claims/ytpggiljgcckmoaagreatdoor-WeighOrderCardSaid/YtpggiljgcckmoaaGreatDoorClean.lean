/-
  A text without the bytes that are cleaned comes back as it is.
  No conditions.
-/
import Derived.Test.YtpggiljgcckmoaaGreatDoorClTab
namespace Go.Proofs.YtpggiljgcckmoaaGreatDoor
open Go Go.Aw
set_option maxRecDepth 100000

def G (x y : Ent) : Heap := e0 :: e1 :: .blk (rpl 1 0 (.ifc 233 (.op 3 0)) (.v (.slice none 0 0))) :: .blk ⟨273, rb, true⟩ :: .blk ⟨268, tb, true⟩ :: (tail5 ++ [x, y])
@[simp] theorem G_len (x y : Ent) : (G x y).length = 11 := rfl
@[simp] theorem G_3 (x y : Ent) : (G x y)[3]? = some (.blk ⟨273, rb, true⟩) := rfl
@[simp] theorem G_4 (x y : Ent) : (G x y)[4]? = some (.blk ⟨268, tb, true⟩) := rfl
@[simp] theorem G_9 (x y : Ent) : (G x y)[9]? = some x := rfl
@[simp] theorem G_10 (x y : Ent) : (G x y)[10]? = some y := rfl
@[simp] theorem G_s9 (x y z : Ent) : (G x y).set 9 z = G z y := rfl
@[simp] theorem G_s10 (x y z : Ent) : (G x y).set 10 z = G x z := rfl
theorem rb_t : rb.tail = int 0 :: rb.drop 2 := by kernel_rfl
@[simp] theorem G_k3 (x y : Ent) (l : Heap) : (G x y ++ l)[3]? = some (.blk ⟨273, rb, true⟩) := rfl
@[simp] theorem G_k10 (x y : Ent) (l : Heap) : (G x y ++ l)[10]? = some y := rfl
@[simp] theorem G_k11 (x y z : Ent) : (G x y ++ [z])[11]? = some z := rfl
@[simp] theorem G_ks10 (x y z : Ent) (l : Heap) : (G x y ++ l).set 10 z = G x z ++ l := rfl
theorem flat_bytes (s : List UInt8) : (s.map fun b => [byteA b]).flatten = s.map byteA := by
  induction s with
  | nil => rfl
  | cons b s ih => simp [ih]
theorem tb_t : tb.tail = .v (.pointer none) :: tb.drop 2 := by kernel_rfl
theorem mrow281 : mrow Tryz.prog "WriteString" 341 = some 302 := by kernel_rfl
theorem mrow267 : mrow Tryz.prog "Replace" 233 = some 286 := by kernel_rfl

theorem a269 (h : Heap) : ACall Tryz.prog 288 [.ifc 341 (.op 10 0)] h fun r hh => r = .ifc 341 (.op 10 0) ∧ hh = h := by
  refine (V288 _).acall ?_
  unfold W288
  have : hasM Tryz.prog 345 341 = true := by kernel_rfl
  simp [this]
  exact Wk.refl _ _ _ (Nat.le_refl _)

theorem a270 (x y : Ent) : ACall Tryz.prog 289 [.op 3 0, .str [], ff] (G x y) fun r hh => r = .tup [.str [], int 0, ff] ∧ hh = G x y := by
  refine (V289 _ _ _).acall ?_
  unfold W289
  simp only [iNilF_o, iFad_o]
  refine iLoop_of (α := Unit) (fun _ => True) (fun _ => [.str [], .str [], int 0, ff, int 0, .op 3 0, int 0]) (fun _ => G x y) (fun _ => 0) () trivial (Wk.refl _ _ _ (by simp)) ?_
  rintro - -
  simp [rb_t]
  exact Wk.refl _ _ _ (by simp)

theorem a281 (s : List UInt8) (hs : s ≠ []) (hl : s.length ≤ 4000) : ACall Tryz.prog 302 [.op 10 0, .str s] (G (.blk ⟨5, rep0 s.length [u8 0], true⟩) (.blk ⟨340, [.own 9 0 0 1], true⟩)) fun r hh => r = .tup [int s.length, .v .nilIface] ∧
    hh = G .dead (.blk ⟨340, [.own 11 0 s.length 1], true⟩) ++ [.blk ⟨5, s.map byteA, true⟩] := by
  refine (V302 _ _).acall ?_
  unfold W302
  have hp : 0 < s.length := List.length_pos_iff.2 hs
  simp only [iNilF_o, iLoad_o, G_10, ldP, List.drop_zero, iAppS_r, srcS, iAppTo_o, G_9, G_s9, G_len, iStore_o, G_k10, G_ks10, vcells, scal, setAll, iLenS_s, List.all_map, flat_bytes]
  simp [byteA, hp, roomA, maxLen, rowOK, scal]
  exact ⟨⟨by omega, by omega⟩, fun _ => Wk.refl _ _ _ (by simp)⟩

theorem okB_ne {x : UInt8} (h : okB x = true) : x.toNat ≠ 0 ∧ x.toNat ≠ 12 ∧ x.toNat ≠ 13 := by
  unfold okB at h
  refine ⟨fun e => ?_, fun e => ?_, fun e => ?_⟩ <;> rw [e] at h <;> cases h

theorem a268 (s : List UInt8) (hok : ∀ x ∈ s, okB x = true) (hl : s.length ≤ 4000) : ACall Tryz.prog 287 [.op 3 0, .ifc 341 (.op 10 0), .str s] (G (.blk ⟨5, rep0 s.length [u8 0], true⟩) (.blk ⟨340, [.own 9 0 0 1], true⟩)) fun r hh =>
    (s = [] ∧ hh = G (.blk ⟨5, rep0 s.length [u8 0], true⟩) (.blk ⟨340, [.own 9 0 0 1], true⟩)) ∨ (s ≠ [] ∧ hh = G .dead (.blk ⟨340, [.own 11 0 s.length 1], true⟩) ++ [.blk ⟨5, s.map byteA, true⟩]) := by
  refine (V287 _ _ _).acall ?_
  unfold W287
  generalize hg : G (.blk ⟨5, rep0 s.length [u8 0], true⟩) (.blk ⟨340, [.own 9 0 0 1], true⟩) = g
  have g3 : g[3]? = some (.blk ⟨273, rb, true⟩) := by rw [← hg]; rfl
  have g4 : g[4]? = some (.blk ⟨268, tb, true⟩) := by rw [← hg]; rfl
  have gl : g.length = 11 := by rw [← hg]; rfl
  have h270 : ACall Tryz.prog 289 [.op 3 0, .str [], ff] g fun r hh => r = .tup [.str [], int 0, ff] ∧ hh = g := by rw [← hg]; exact a270 _ _
  refine ⟨by kernel_rfl, (a269 g).mono ?_⟩
  rintro r hh ⟨rfl, rfl⟩
  refine iLoop_of (α := Nat) (fun k => k ≤ s.length + 1) (fun k => [int 0, .v .nilIface, int 0, ff, int k]) (fun _ => hh) (fun k => s.length + 1 - k) 0 (by omega) (Wk.refl _ _ _ (by simp)) ?_
  intro k hk
  have hk3 : k < s.length ∨ k = s.length ∨ k = s.length + 1 := by omega
  rcases hk3 with hk1 | rfl | rfl
  · have hne : k ≠ s.length := by omega
    have hle : k ≤ s.length := by omega
    have hni : ¬ (k : Int) = (s.length : Int) := by omega
    obtain ⟨o1, o2, o3⟩ := okB_ne (hok _ (List.getElem_mem hk1))
    have hlt : s[k].toNat < 256 := s[k].toNat_lt
    have hm := map_ok _ hlt o1 o2 o3
    have hr := rb_m _ hlt
    have hlti : (s[k].toNat : Int) < 256 := by omega
    have w4 : IntKind.i64.wrap 4 = 4 := by decide
    have w1 : IntKind.i64.wrap 1 = 1 := by decide
    have hin : inI ((k : Int) + 1) := by unfold inI; omega
    have fin : ∃ y, y ≤ s.length + 1 ∧ Wk (List.length hh) [int 0, AV.v Value.nilIface, int 0, ff, AV.v (Value.int IntKind.i64 (↑k + 1))] hh [int 0, AV.v Value.nilIface, int 0, ff, int ↑y] hh ∧ s.length + 1 - y < s.length + 1 - k :=
      ⟨k + 1, by omega, by simpa using Wk.refl _ _ _ (Nat.le_refl _), by omega⟩
    rcases hm with hm | hm
    · rw [hm] at hr
      simp [hne, hni, hle, hk1, g3, g4, rb_t, rb_4, rb_5, hr, hlti, w4]
      exact fun _ => ⟨hin, fin⟩
    · rw [hm] at hr
      simp [hne, hni, hle, hk1, g3, g4, rb_t, rb_4, rb_5, hr, hlti, w1, tb_t]
      exact fun _ => ⟨hin, fin⟩
  · have hin : inI ((s.length : Int) + 1) := by unfold inI; omega
    have hb : hasBody Tryz.prog 289 = true := by kernel_rfl
    simp [g3, g4, rb_t, rb_4, rb_5]
    intro _
    refine ⟨hb, h270.mono ?_⟩
    rintro r h' ⟨rfl, rfl⟩
    simp [hin]
    exact ⟨s.length + 1, Nat.le_refl _, by simpa using Wk.refl _ _ _ (Nat.le_refl _), by omega⟩
  · have hgt : ¬ ((s.length : Int) + 1 ≤ (s.length : Int)) := by omega
    have ms : mrow Tryz.prog "WriteString" 341 = some 302 := mrow281
    by_cases hs : s = []
    · subst hs
      simp
      exact ⟨_, Wk.refl _ _ _ (Nat.le_refl _)⟩
    · have hp : 0 < s.length := List.length_pos_iff.2 hs
      have hz : ¬ (0 : Int) = (s.length : Int) := by omega
      simp [hgt, hz, ms, hs]
      intro _
      subst hg
      refine (a281 s hs hl).mono ?_
      rintro r h' ⟨rfl, rfl⟩
      have hin : inI (s.length : Int) := by unfold inI; omega
      simp [hin]
      exact ⟨_, Wk.refl _ _ _ (by simp)⟩

theorem unB_bytes (s : List UInt8) : unB (s.map byteA) = some s := by
  induction s with
  | nil => rfl
  | cons b s ih => simp [unB, byteA] at ih ⊢; simp [ih]
theorem a267 (s : List UInt8) (hok : ∀ x ∈ s, okB x = true) (hl : s.length ≤ 4000) : ACall Tryz.prog 286 [.op 3 0, .str s] (Ha 1 0) fun r hh => r = .str s ∧ 9 ≤ hh.length := by
  refine (V286 _ _).acall ?_
  unfold W286
  have hb : hasBody Tryz.prog 287 = true := by kernel_rfl
  have hH : ∀ x y : Ent, Ha 1 0 ++ [x] ++ [y] = G x y := fun x y => rfl
  have hL : (Ha 1 0).length = 9 := rfl
  have hL1 : ∀ x : Ent, (Ha 1 0 ++ [x]).length = 10 := fun _ => rfl
  have hi : ∀ x y : Ent, (Ha 1 0 ++ [x] ++ [y])[10]? = some y := fun _ _ => rfl
  have hs : ∀ x y z : Ent, (Ha 1 0 ++ [x] ++ [y]).set 10 z = G x z := fun _ _ _ => rfl
  simp only [iLenS_s, iMake_i, iNew_r, vcells, iStore_o, iMkI_r, hL, hL1, hi, hs, setAll, List.set, Int.toNat_natCast, Int.toNat_zero]
  refine fun _ => ⟨⟨by omega, by omega, by omega, by omega⟩, by simp [scal], ⟨by simp [scal], hb, (a268 s hok hl).mono ?_⟩⟩
  rintro r h' (⟨rfl, rfl⟩ | ⟨hne, rfl⟩)
  · simp [iOfBytes, chunks, unB]
    exact ⟨_, _, Wk.refl _ _ _ (by simp), rfl, by simp⟩
  · have hc := chunks_flat 1 s.length (s.map byteA) (by simp)
    simp only [iLoad_o, G_k10, ldP, List.drop_zero, iOfBytes, srcR_o, G_k11, Nat.mul_one, Nat.zero_add, List.length_map, Nat.le_refl, and_self, if_true, Option.bind_some, hc.1]
    rw [List.take_of_length_le (by simp), unB_bytes]
    exact ⟨_, _, Wk.refl _ _ _ (by simp), rfl, by simp⟩

theorem a87 (s : List UInt8) (hok : ∀ x ∈ s, okB x = true) (hl : s.length ≤ 4000) : ACall Tryz.prog 82 [.op 2 0, .str s] (Hb 0) fun r hh => r = .str s := by
  refine (V82 _ _).acall ?_
  unfold W82
  simp only [iNilF_o, iFad_o]
  refine ⟨by kernel_rfl, acall126.mono ?_⟩
  rintro r hh ⟨rfl, rfl⟩
  have h2 : (Ha 1 0)[2]? = some (.blk (rpl 1 0 (.ifc 233 (.op 3 0)) (.v (.slice none 0 0)))) := rfl
  simp only [iLoad_o, h2, rpl, Nat.zero_add, List.drop_succ_cons, List.drop_zero, ldP, iInv_i, mrow267]
  refine (a267 s hok hl).mono ?_
  rintro r hh ⟨rfl, hq⟩
  exact ⟨_, _, Wk.refl _ _ _ (Nat.le_trans (by decide) hq), rfl⟩

theorem con59 (s : List UInt8) (hok : ∀ x ∈ s, okB x = true) (hl : s.length ≤ 4000) : Con Tryz.prog 66 [.str s] (.tup [.str s, int 0]) := by
  refine (V66 _).gives (by simp) (by simp) ?_
  unfold W66
  have hn : ¬ (4000 : Int) < (s.length : Int) := by omega
  simp [hn]
  refine fun _ => ⟨by kernel_rfl, acall86.mono ?_⟩
  rintro r hh ⟨rfl, rfl⟩
  refine ⟨by kernel_rfl, (a87 s hok hl).mono ?_⟩
  rintro r hh rfl
  exact .pure (by simp) rfl
theorem con59_long (s : List UInt8) (hl : 4000 < s.length) : Con Tryz.prog 66 [.str s] (.tup [.str [], int 28]) := by
  refine (V66 _).gives (by simp) (by simp) ?_
  unfold W66
  have hn : (4000 : Int) < (s.length : Int) := by omega
  simp [hn]
  exact fun _ => .pure (by simp) rfl
end Go.Proofs.YtpggiljgcckmoaaGreatDoor
