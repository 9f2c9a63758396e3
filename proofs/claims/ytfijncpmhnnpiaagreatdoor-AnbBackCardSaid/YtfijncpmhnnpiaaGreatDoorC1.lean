/-
  Once, on memory that is told. The tables of the replacer, read. A text without the bytes that are cleaned comes back as it is. Functions that are known: by contracts. Letters, spaces, digits and beginnings: small functions that are known by contracts.
  No conditions.
-/
import Derived.Test.YtfijncpmhnnpiaaGreatDoorClRun
import Derived.Test.YtfijncpmhnnpiaaGreatDoorL2
import Derived.Test.YtfijncpmhnnpiaaGreatDoorWTok
import Derived.Test.YtfijncpmhnnpiaaGreatDoorL5
set_option linter.unusedVariables false
set_option linter.unusedSimpArgs false
section
namespace Go.Proofs.YtfijncpmhnnpiaaGreatDoor
open Go Go.Aw
set_option maxRecDepth 100000
variable [MaxL]

omit [MaxL] in
theorem acall_of [Laid] {P : Program} {C : Cfg} {known : CallF} (hk : CallOK P known) {d : Nat} {f : FuncId} (hb : hasBody P f = true) {args : List AV} {h : Heap} {v : AV} {oh : Option Heap} (e : callD P C known d f args h = some (v, oh)) :
    ACall P f args h fun r hh => r = v ∧ hh = oh.getD h := by
  rcases callD_ok hk d f args h v oh e with ⟨_, hA⟩ | hA
  · exact hA
  · exact absurd hb (by rw [hA.1]; exact Bool.false_ne_true)

theorem acall86 : ACall Tryz.prog 37 [] [] fun r hh => r = .op 2 0 ∧ hh = Hb 0 := acall_of known0_ok (by kernel_rfl) run86
theorem acall127 : ACall Tryz.prog 63 [.op 2 0] (Hb 1) fun r hh => r = .tup [] ∧ hh = Ha 0 1 := acall_of known0_ok (by kernel_rfl) run127

omit [MaxL] in
/-- A told cell of a block of the call's own. -/
theorem cell_of [Laid] {base : Nat} {ι : List Ix} {S : Stab} {w : World} {h : Heap} (hh : HOK base ι S w h) {i b : Nat} {x : Blk} (e : h[i]? = some (.blk x)) (hi : ι[i]? = some (.blk b)) {o : Nat} {c : AV} (hc : x.cells[o]? = some c) :
    ∃ v, w.cell? ⟨b, o, none⟩ = some v ∧ Rep ι S w c v ∧ w.frozen? ⟨b, o, none⟩ = false := by
  obtain ⟨b', arr, fz, k1, k2, k3, k4, k5, k6, _⟩ := hh.live i x e
  rw [hi] at k1; cases k1
  obtain ⟨v, e1, r⟩ := k6 o c hc
  refine ⟨v, by rw [cell_at k3]; exact e1, r, ?_⟩
  have hlt : o < arr.size := (Array.getElem?_eq_some_iff.1 e1).1
  have := k4 o hlt
  rw [frozen_at k3]
  simpa using this

theorem acall166 : ACall Tryz.prog 86 [.op 2 0, .fn (.func 63) [.op 2 0] []] (Hb 0) fun r hh => r = .tup [] ∧ hh = Ha 1 0 := by
  intro base ι S w vs h1 h2
  match vs, h1 with
  | [], h1 => simp at h1
  | [v], h1 => simp at h1
  | v :: u :: x :: vs, h1 => simp at h1
  | [v, u], h1 =>
    simp only [RepL_cons, RepL_nil, and_true] at h1
    obtain ⟨r1, r2⟩ := h1
    rw [Rep] at r1
    rw [Rep] at r2
    obtain ⟨b, hb, rfl⟩ := r1
    obtain ⟨ps, qs, rfl, r3, r4⟩ := r2
    match ps, r3 with
    | [], r3 => simp at r3
    | p :: q :: ps, r3 => simp at r3
    | [p], r3 =>
      simp only [RepL_cons, RepL_nil, and_true] at r3
      rw [Rep] at r3
      obtain ⟨b', hb', rfl⟩ := r3
      rw [hb] at hb'; cases hb'
      simp only [RepL_nil] at r4
      subst r4
      have hx : (Hb 0)[2]? = some (.blk (rpl 0 0 (.v .nilIface) keys)) := rfl
      obtain ⟨v0, g0, q0, z0⟩ := cell_of h2 hx hb (o := 0) (c := .v (.int .u32 0)) rfl
      obtain ⟨v1, g1, q1, z1⟩ := cell_of h2 hx hb (o := 1) (c := .v (.int .i32 0)) rfl
      rw [Rep_v] at q0 q1
      subst q0; subst q1
      obtain ⟨hE1, hH1⟩ := h2.set hx rfl hb (o := 1) (by simp [rpl]) (c := .v (.int .i32 1)) (v := .int .i32 1) (by simp)
      have hH1' : HOK base ι S (w.setCell ⟨b, 1, none⟩ (.int .i32 1)) (Hb 1) := hH1
      have hl := h2.len
      have hf := acall127 base ι S _ [.pointer (some ⟨b, 0, none⟩)] (by simp only [RepL_cons, RepL_nil, and_true]; rw [Rep]; exact ⟨b, hb, rfl⟩) hH1'
      refine (slow_any b w (fun w' => ∃ ι' S', Evo 3 base ι S (w.setCell ⟨b, 1, none⟩ (.int .i32 1)) ι' S' w' ∧ HOK base ι' S' w' (Ha 0 1) ∧ ι'[2]? = some (.blk b)) g0 g1 z0 z1 (hf.mono ?_)).mono ?_
      · rintro e w' ⟨v, ι', S', r, h', rfl, k1, k2, k3, k4, rfl, rfl⟩
        rw [Rep] at k2
        obtain ⟨us, rfl, k2⟩ := k2
        simp only [RepL_nil] at k2
        subst k2
        have hx' : (Ha 0 1)[2]? = some (.blk (rpl 0 1 (.ifc 148 (.op 3 0)) (.v (.slice none 0 0)))) := rfl
        have hb2 : ι'[2]? = some (.blk b) := by
          obtain ⟨b', arr, fz, m1, _⟩ := k3.live 2 _ hx'
          have := k1.pre 2 (by decide)
          rw [hb, m1] at this
          rw [m1]
          simpa [IxLe] using this
        obtain ⟨v0, g0, q0, z0⟩ := cell_of k3 hx' hb2 (o := 0) (c := .v (.int .u32 0)) rfl
        obtain ⟨v1, g1, q1, z1⟩ := cell_of k3 hx' hb2 (o := 1) (c := .v (.int .i32 1)) rfl
        rw [Rep_v] at q1
        subst q1
        exact ⟨rfl, ⟨v0, g0⟩, g1, z0, z1, ι', S', k1, k3, hb2⟩
      · rintro e w'' ⟨rfl, w', ⟨ι', S', k1, k3, hb2⟩, rfl⟩
        obtain ⟨d1, d2⟩ := k3.drew
        have hx' : (Ha 0 1)[2]? = some (.blk (rpl 0 1 (.ifc 148 (.op 3 0)) (.v (.slice none 0 0)))) := rfl
        obtain ⟨s1, s2⟩ := d2.set hx' rfl hb2 (o := 0) (by simp [rpl]) (c := .v (.int .u32 1)) (v := .int .u32 1) (by simp)
        have s2' : HOK base ι' S' (w'.drew.setCell ⟨b, 0, none⟩ (.int .u32 1)) (Ha 1 1) := s2
        have hx2 : (Ha 1 1)[2]? = some (.blk (rpl 1 1 (.ifc 148 (.op 3 0)) (.v (.slice none 0 0)))) := rfl
        obtain ⟨t1, t2⟩ := s2'.set hx2 rfl hb2 (o := 1) (by simp [rpl]) (c := .v (.int .i32 0)) (v := .int .i32 0) (by simp)
        have t2' : HOK base ι' S' ((w'.drew.setCell ⟨b, 0, none⟩ (.int .u32 1)).setCell ⟨b, 1, none⟩ (.int .i32 0)) (Ha 1 0) := t2
        have hl3 : ι.length = 3 := hl
        have hl9 : 3 ≤ ι'.length := by rw [k3.len]; decide
        have E0 : Evo 3 base ι S w ι S (w.setCell ⟨b, 1, none⟩ (.int .i32 1)) := hE1.mono (by omega) (Nat.le_refl _)
        exact ⟨_, ι', S', .tup [], Ha 1 0, rfl, ((((E0.trans k1).trans (d1.mono hl9 (Nat.le_refl _))).trans (s1.mono hl9 (Nat.le_refl _))).trans (t1.mono hl9 (Nat.le_refl _))), by rw [Rep]; exact ⟨[], rfl, by simp⟩, t2', by decide, rfl, rfl⟩
end Go.Proofs.YtfijncpmhnnpiaaGreatDoor
end

section
namespace Go.Proofs.YtfijncpmhnnpiaaGreatDoor
open Go Go.Aw
set_option maxRecDepth 100000
variable [MaxL]

theorem acall165 : ACall Tryz.prog 85 [.op 2 0] (Hb 0) fun r hh => r = bool false ∧ hh = Hb 0 := by
  intro base ι S w vs h1 h2
  match vs, h1 with
  | [], h1 => simp at h1
  | v :: u :: vs, h1 => simp at h1
  | [v], h1 =>
    simp only [RepL_cons, RepL_nil, and_true] at h1
    rw [Rep] at h1
    obtain ⟨b, hb, rfl⟩ := h1
    have hx : (Hb 0)[2]? = some (.blk (rpl 0 0 (.v .nilIface) keys)) := rfl
    obtain ⟨v0, g0, q0, z0⟩ := cell_of h2 hx hb (o := 0) (c := .v (.int .u32 0)) rfl
    rw [Rep_v] at q0
    subst q0
    refine (load_done _ w g0).mono ?_
    rintro e w' ⟨rfl, rfl⟩
    exact ⟨_, ι, S, bool false, _, rfl, Evo.refl _ _ _ _ _, by simp, h2, Nat.le_refl _, rfl, rfl⟩

theorem acall126 : ACall Tryz.prog 62 [.op 2 0, .fn (.func 63) [.op 2 0] []] (Hb 0) fun r hh => r = .tup [] ∧ hh = Ha 1 0 := by
  refine (V62 _ _).acall ?_
  unfold W62
  simp only [iNilF_o, iFad_o]
  refine ⟨by kernel_rfl, acall165.mono ?_⟩
  rintro r hh ⟨rfl, rfl⟩
  simp only [iNot_b, iCond_b]
  refine ⟨fun _ => ⟨by kernel_rfl, acall166.mono ?_⟩, fun q => by cases q⟩
  rintro r hh ⟨rfl, rfl⟩
  exact ⟨_, _, Wk.refl _ _ _ (by decide), rfl, rfl⟩

omit [MaxL] in
theorem rb_0 : rb.drop 1 = int 0 :: rb.drop 2 := by kernel_rfl
omit [MaxL] in
theorem rb_4 : rb.drop 4 = .own 4 0 4 1 :: rb.drop 5 := by kernel_rfl
omit [MaxL] in
theorem rb_5 : rb.drop 5 = int 4 :: rb.drop 6 := by kernel_rfl
omit [MaxL] in
theorem rb_len : rb.length = 262 := by kernel_rfl
omit [MaxL] in
theorem rb_m (n : Nat) (h : n < 256) : rb.drop (6 + n) = u8 (mapN.getD n 0) :: rb.drop (6 + n + 1) := by
  have hl : 6 + n < rb.length := by rw [rb_len]; omega
  rw [List.drop_eq_getElem_cons hl]
  congr 1
  have : mapN.length = 256 := by kernel_rfl
  simp [rb, show 6 + n = n + 1 + 1 + 1 + 1 + 1 + 1 by omega, this, h]
omit [MaxL] in
theorem map_ok (n : Nat) (h : n < 256) (h0 : n ≠ 0) (h1 : n ≠ 12) (h2 : n ≠ 13) : mapN.getD n 0 = 4 ∨ mapN.getD n 0 = 1 := by
  have := List.all_eq_true.1 (show ((List.range 256).all fun n => n == 0 || n == 12 || n == 13 || mapN.getD n 0 == 4 || mapN.getD n 0 == 1) = true by kernel_rfl) n (by simpa using h)
  simp only [Bool.or_eq_true, beq_iff_eq] at this
  omega
end Go.Proofs.YtfijncpmhnnpiaaGreatDoor
end

section
namespace Go.Proofs.YtfijncpmhnnpiaaGreatDoor
open Go Go.Aw
set_option maxRecDepth 100000
variable [MaxL]

def G (x y : Ent) : Heap := e0 :: e1 :: .blk (rpl 1 0 (.ifc 148 (.op 3 0)) (.v (.slice none 0 0))) :: .blk ⟨177, rb, true⟩ :: .blk ⟨172, tb, true⟩ :: (tail5 ++ [x, y])
omit [MaxL] in
@[simp] theorem G_len (x y : Ent) : (G x y).length = 11 := rfl
omit [MaxL] in
@[simp] theorem G_3 (x y : Ent) : (G x y)[3]? = some (.blk ⟨177, rb, true⟩) := rfl
omit [MaxL] in
@[simp] theorem G_4 (x y : Ent) : (G x y)[4]? = some (.blk ⟨172, tb, true⟩) := rfl
omit [MaxL] in
@[simp] theorem G_9 (x y : Ent) : (G x y)[9]? = some x := rfl
omit [MaxL] in
@[simp] theorem G_10 (x y : Ent) : (G x y)[10]? = some y := rfl
omit [MaxL] in
@[simp] theorem G_s9 (x y z : Ent) : (G x y).set 9 z = G z y := rfl
omit [MaxL] in
@[simp] theorem G_s10 (x y z : Ent) : (G x y).set 10 z = G x z := rfl
omit [MaxL] in
theorem rb_t : rb.tail = int 0 :: rb.drop 2 := by kernel_rfl
omit [MaxL] in
@[simp] theorem G_k3 (x y : Ent) (l : Heap) : (G x y ++ l)[3]? = some (.blk ⟨177, rb, true⟩) := rfl
omit [MaxL] in
@[simp] theorem G_k10 (x y : Ent) (l : Heap) : (G x y ++ l)[10]? = some y := rfl
omit [MaxL] in
@[simp] theorem G_k11 (x y z : Ent) : (G x y ++ [z])[11]? = some z := rfl
omit [MaxL] in
@[simp] theorem G_ks10 (x y z : Ent) (l : Heap) : (G x y ++ l).set 10 z = G x z ++ l := rfl
omit [MaxL] in
theorem flat_bytes (s : List UInt8) : (s.map fun b => [byteA b]).flatten = s.map byteA := by
  induction s with
  | nil => rfl
  | cons b s ih => simp [ih]
omit [MaxL] in
theorem tb_t : tb.tail = .v (.pointer none) :: tb.drop 2 := by kernel_rfl
omit [MaxL] in
theorem mrow281 : mrow Tryz.prog "WriteString" 223 = some 194 := by kernel_rfl
omit [MaxL] in
theorem mrow267 : mrow Tryz.prog "Replace" 148 = some 178 := by kernel_rfl

theorem a269 (h : Heap) : ACall Tryz.prog 180 [.ifc 223 (.op 10 0)] h fun r hh => r = .ifc 223 (.op 10 0) ∧ hh = h := by
  refine (V180 _).acall ?_
  unfold W180
  have : hasM Tryz.prog 227 223 = true := by kernel_rfl
  simp [this]
  exact Wk.refl _ _ _ (Nat.le_refl _)

theorem a270 (x y : Ent) : ACall Tryz.prog 181 [.op 3 0, .str [], ff] (G x y) fun r hh => r = .tup [.str [], int 0, ff] ∧ hh = G x y := by
  refine (V181 _ _ _).acall ?_
  unfold W181
  simp only [iNilF_o, iFad_o]
  refine iLoop_of (α := Unit) (fun _ => True) (fun _ => [.str [], .str [], int 0, ff, int 0, .op 3 0, int 0]) (fun _ => G x y) (fun _ => 0) () trivial (Wk.refl _ _ _ (by simp)) ?_
  rintro - -
  simp [rb_t]
  exact Wk.refl _ _ _ (by simp)

theorem a281 (s : List UInt8) (hs : s ≠ []) (hl : s.length ≤ 4000) : ACall Tryz.prog 194 [.op 10 0, .str s] (G (.blk ⟨5, rep0 s.length [u8 0], true⟩) (.blk ⟨222, [.own 9 0 0 1], true⟩)) fun r hh => r = .tup [int s.length, .v .nilIface] ∧
    hh = G .dead (.blk ⟨222, [.own 11 0 s.length 1], true⟩) ++ [.blk ⟨5, s.map byteA, true⟩] := by
  refine (V194 _ _).acall ?_
  unfold W194
  have hp : 0 < s.length := List.length_pos_iff.2 hs
  simp only [iNilF_o, iLoad_o, G_10, ldP, List.drop_zero, iAppS_r, srcS, iAppTo_o, G_9, G_s9, G_len, iStore_o, G_k10, G_ks10, vcells, scal, setAll, iLenS_s, List.all_map, flat_bytes]
  simp [byteA, hp, roomA, maxLen, rowOK, scal]
  exact ⟨⟨by omega, by omega⟩, fun _ => Wk.refl _ _ _ (by simp)⟩

omit [MaxL] in
theorem okB_ne {x : UInt8} (h : okB x = true) : x.toNat ≠ 0 ∧ x.toNat ≠ 12 ∧ x.toNat ≠ 13 := by
  unfold okB at h
  refine ⟨fun e => ?_, fun e => ?_, fun e => ?_⟩ <;> rw [e] at h <;> cases h

theorem a268 (s : List UInt8) (hok : ∀ x ∈ s, okB x = true) (hl : s.length ≤ 4000) : ACall Tryz.prog 179 [.op 3 0, .ifc 223 (.op 10 0), .str s] (G (.blk ⟨5, rep0 s.length [u8 0], true⟩) (.blk ⟨222, [.own 9 0 0 1], true⟩)) fun r hh =>
    (s = [] ∧ hh = G (.blk ⟨5, rep0 s.length [u8 0], true⟩) (.blk ⟨222, [.own 9 0 0 1], true⟩)) ∨ (s ≠ [] ∧ hh = G .dead (.blk ⟨222, [.own 11 0 s.length 1], true⟩) ++ [.blk ⟨5, s.map byteA, true⟩]) := by
  refine (V179 _ _ _).acall ?_
  unfold W179
  generalize hg : G (.blk ⟨5, rep0 s.length [u8 0], true⟩) (.blk ⟨222, [.own 9 0 0 1], true⟩) = g
  have g3 : g[3]? = some (.blk ⟨177, rb, true⟩) := by rw [← hg]; rfl
  have g4 : g[4]? = some (.blk ⟨172, tb, true⟩) := by rw [← hg]; rfl
  have gl : g.length = 11 := by rw [← hg]; rfl
  have h270 : ACall Tryz.prog 181 [.op 3 0, .str [], ff] g fun r hh => r = .tup [.str [], int 0, ff] ∧ hh = g := by rw [← hg]; exact a270 _ _
  refine ⟨by kernel_rfl, (a269 g).mono ?_⟩
  rintro r hh ⟨rfl, rfl⟩
  refine iLoop_of (α := Nat) (fun k => k ≤ s.length + 1) (fun k => [int 0, .v .nilIface, int 0, ff, int k]) (fun _ => hh) (fun k => s.length + 1 - k) 0 (by omega) (Wk.refl _ _ _ (by simp)) ?_
  intro k hk
  have hk3 : k < s.length ∨ k = s.length ∨ k = s.length + 1 := by omega
  rcases hk3 with hk1 | rfl | rfl
  · have hne : k ≠ s.length := by omega
    have hle : k ≤ s.length := by omega
    have hni : ¬ (k : Int) = (s.length : Int) := by omega
    obtain ⟨o1, o2, o3⟩ := okB_ne (hok _ (List.getElem_mem hk1))
    have hlt : s[k].toNat < 256 := s[k].toNat_lt
    have hm := map_ok _ hlt o1 o2 o3
    have hr := rb_m _ hlt
    have hlti : (s[k].toNat : Int) < 256 := by omega
    have w4 : IntKind.i64.wrap 4 = 4 := by decide
    have w1 : IntKind.i64.wrap 1 = 1 := by decide
    have hin : inI ((k : Int) + 1) := by unfold inI; omega
    have fin : ∃ y, y ≤ s.length + 1 ∧ Wk (List.length hh) [int 0, AV.v Value.nilIface, int 0, ff, AV.v (Value.int IntKind.i64 (↑k + 1))] hh [int 0, AV.v Value.nilIface, int 0, ff, int ↑y] hh ∧ s.length + 1 - y < s.length + 1 - k :=
      ⟨k + 1, by omega, by simpa using Wk.refl _ _ _ (Nat.le_refl _), by omega⟩
    rcases hm with hm | hm
    · rw [hm] at hr
      simp [hne, hni, hle, hk1, g3, g4, rb_t, rb_4, rb_5, hr, hlti, w4]
      exact fun _ => ⟨hin, fin⟩
    · rw [hm] at hr
      simp [hne, hni, hle, hk1, g3, g4, rb_t, rb_4, rb_5, hr, hlti, w1, tb_t]
      exact fun _ => ⟨hin, fin⟩
  · have hin : inI ((s.length : Int) + 1) := by unfold inI; omega
    have hb : hasBody Tryz.prog 181 = true := by kernel_rfl
    simp [g3, g4, rb_t, rb_4, rb_5]
    intro _
    refine ⟨hb, h270.mono ?_⟩
    rintro r h' ⟨rfl, rfl⟩
    simp [hin]
    exact ⟨s.length + 1, Nat.le_refl _, by simpa using Wk.refl _ _ _ (Nat.le_refl _), by omega⟩
  · have hgt : ¬ ((s.length : Int) + 1 ≤ (s.length : Int)) := by omega
    have ms : mrow Tryz.prog "WriteString" 223 = some 194 := mrow281
    by_cases hs : s = []
    · subst hs
      simp
      exact ⟨_, Wk.refl _ _ _ (Nat.le_refl _)⟩
    · have hp : 0 < s.length := List.length_pos_iff.2 hs
      have hz : ¬ (0 : Int) = (s.length : Int) := by omega
      simp [hgt, hz, ms, hs]
      intro _
      subst hg
      refine (a281 s hs hl).mono ?_
      rintro r h' ⟨rfl, rfl⟩
      have hin : inI (s.length : Int) := by unfold inI; omega
      simp [hin]
      exact ⟨_, Wk.refl _ _ _ (by simp)⟩

omit [MaxL] in
theorem unB_bytes (s : List UInt8) : unB (s.map byteA) = some s := by
  induction s with
  | nil => rfl
  | cons b s ih => simp [unB, byteA] at ih ⊢; simp [ih]
theorem a267 (s : List UInt8) (hok : ∀ x ∈ s, okB x = true) (hl : s.length ≤ 4000) : ACall Tryz.prog 178 [.op 3 0, .str s] (Ha 1 0) fun r hh => r = .str s ∧ 9 ≤ hh.length := by
  refine (V178 _ _).acall ?_
  unfold W178
  have hb : hasBody Tryz.prog 179 = true := by kernel_rfl
  have hH : ∀ x y : Ent, Ha 1 0 ++ [x] ++ [y] = G x y := fun x y => rfl
  have hL : (Ha 1 0).length = 9 := rfl
  have hL1 : ∀ x : Ent, (Ha 1 0 ++ [x]).length = 10 := fun _ => rfl
  have hi : ∀ x y : Ent, (Ha 1 0 ++ [x] ++ [y])[10]? = some y := fun _ _ => rfl
  have hs : ∀ x y z : Ent, (Ha 1 0 ++ [x] ++ [y]).set 10 z = G x z := fun _ _ _ => rfl
  simp only [iLenS_s, iMake_i, iNew_r, vcells, iStore_o, iMkI_r, hL, hL1, hi, hs, setAll, List.set, Int.toNat_natCast, Int.toNat_zero]
  refine fun _ => ⟨⟨by omega, by omega, by omega, by omega⟩, by simp [scal], ⟨by simp [scal], hb, (a268 s hok hl).mono ?_⟩⟩
  rintro r h' (⟨rfl, rfl⟩ | ⟨hne, rfl⟩)
  · simp [iOfBytes, chunks, unB]
    exact ⟨_, _, Wk.refl _ _ _ (by simp), rfl, by simp⟩
  · have hc := chunks_flat 1 s.length (s.map byteA) (by simp)
    simp only [iLoad_o, G_k10, ldP, List.drop_zero, iOfBytes, srcR_o, G_k11, Nat.mul_one, Nat.zero_add, List.length_map, Nat.le_refl, and_self, if_true, Option.bind_some, hc.1]
    rw [List.take_of_length_le (by simp), unB_bytes]
    exact ⟨_, _, Wk.refl _ _ _ (by simp), rfl, by simp⟩

theorem a87 (s : List UInt8) (hok : ∀ x ∈ s, okB x = true) (hl : s.length ≤ 4000) : ACall Tryz.prog 38 [.op 2 0, .str s] (Hb 0) fun r hh => r = .str s := by
  refine (V38 _ _).acall ?_
  unfold W38
  simp only [iNilF_o, iFad_o]
  refine ⟨by kernel_rfl, acall126.mono ?_⟩
  rintro r hh ⟨rfl, rfl⟩
  have h2 : (Ha 1 0)[2]? = some (.blk (rpl 1 0 (.ifc 148 (.op 3 0)) (.v (.slice none 0 0)))) := rfl
  simp only [iLoad_o, h2, rpl, Nat.zero_add, List.drop_succ_cons, List.drop_zero, ldP, iInv_i, mrow267]
  refine (a267 s hok hl).mono ?_
  rintro r hh ⟨rfl, hq⟩
  exact ⟨_, _, Wk.refl _ _ _ (Nat.le_trans (by decide) hq), rfl⟩

theorem con59 (s : List UInt8) (hok : ∀ x ∈ s, okB x = true) (hl : s.length ≤ 4000) : Con Tryz.prog 23 [.str s] (.tup [.str s, int 0]) := by
  refine (V23 _).gives (by simp) (by simp) ?_
  unfold W23
  have hn : ¬ (4000 : Int) < (s.length : Int) := by omega
  simp [hn]
  refine fun _ => ⟨by kernel_rfl, acall86.mono ?_⟩
  rintro r hh ⟨rfl, rfl⟩
  refine ⟨by kernel_rfl, (a87 s hok hl).mono ?_⟩
  rintro r hh rfl
  exact .pure (by simp) rfl
theorem con59_long (s : List UInt8) (hl : 4000 < s.length) : Con Tryz.prog 23 [.str s] (.tup [.str [], int 28]) := by
  refine (V23 _).gives (by simp) (by simp) ?_
  unfold W23
  have hn : (4000 : Int) < (s.length : Int) := by omega
  simp [hn]
  exact fun _ => .pure (by simp) rfl
end Go.Proofs.YtfijncpmhnnpiaaGreatDoor
end

section
namespace Go.Proofs.YtfijncpmhnnpiaaGreatDoor
open Go Go.Aw Go.RowKit
set_option maxRecDepth 1000000
variable [MaxL]
omit [MaxL] in
/-- A call that leaves what was there alone, and hands back a flat value. -/
theorem acall_below [Laid] {P : Program} {f : FuncId} {args : List AV} {h : Heap} {r : AV} {v : Value} (fl : Flat r) (hr : ∀ w, Rep [] (fun _ _ => False) w r v)
    (c : ∀ ι S w vs, RepL ι S w args vs → Calls P f vs.toArray w fun e w' => e = .returned v ∧ Below w.heap.size w w') : ACall P f args h fun r' hh => r' = r ∧ hh = h := by
  intro base ι S w vs h1 h2
  refine (c ι S w vs h1).mono ?_
  rintro e w' ⟨rfl, hB⟩
  have hE : Evo ι.length w.heap.size ι S w ι S w' := ⟨fun _ _ => IxLe.refl _, fun _ _ q => q, fun _ _ q => .inl q, fun b o q => hB.cell (h2.stb b o q), fun b x hx => by
    unfold World.shape? at hx ⊢
    have hb : b < w.heap.size := by
      rcases Nat.lt_or_ge b w.heap.size with k | k
      · exact k
      · rw [Array.getElem?_eq_none k] at hx; cases hx
    rw [hB.block b hb]; exact hx, hB⟩
  exact ⟨v, ι, S, r, h, rfl, hE.mono (by rw [h2.len]; exact Nat.le_refl _) h2.bas, Rep.flat r v fl (hr w'), h2.over hE (fun b o q => Nat.lt_of_lt_of_le (h2.stb b o q) hB.size), Nat.le_refl _, rfl, rfl⟩
theorem acall175 (l m : List UInt8) (hl : l.length ≤ 100000) (hm : m.length ≤ 100000) (al : asciiB l = true) (am : asciiB m = true) (h : Heap) : ACall Tryz.prog 95 [.str l, .str m] h fun r hh => r = int (Lib.indexAny l m) ∧ hh = h := by
  refine acall_below (v := .int .i64 (Lib.indexAny l m)) (by simp) (fun w => by simp) ?_
  intro ι S w vs h1
  match vs, h1 with
  | [], h1 => simp at h1
  | [v], h1 => simp at h1
  | v :: u :: x :: vs, h1 => simp at h1
  | [v, u], h1 =>
    simp only [RepL_cons, RepL_nil, and_true, Rep_str] at h1
    obtain ⟨⟨rfl, _⟩, rfl, _⟩ := h1
    have asc : ∀ l : List UInt8, asciiB l = true → ∀ (j : Nat) b, l[j]? = some b → b.toNat < 128 := by
      intro l al j b hb
      unfold asciiB at al
      rw [allE_eq] at al
      have := List.all_eq_true.1 al b (List.mem_of_getElem? hb)
      have := Nat.le_of_ble_eq_true this
      omega
    have := indexAny_laid ⟨l.toArray⟩ ⟨m.toArray⟩ w (by simp [ByteArray.size]; omega) (by simp [ByteArray.size]; omega) (fun j b hb => asc l al j b (by simpa using hb)) (fun j b hb => asc m am j b (by simpa using hb))
    simpa using this

noncomputable def known2 : CallF := fun f args _ => match Nat.beq f 98 with
  | true => (match args with | [.str l, .v (.int .u8 c)] => (match byteI c with | true => some (int (idxF c.toNat l 0), none) | false => none) | _ => none)
  | false => match Nat.beq f 23 with
    | true => (match args with | [.str l] => (match Nat.ble (lenF l) 4000 with | true => (match allE okB l with | true => some (.tup [.str l, int 0], none) | false => none) | false => some (.tup [.str [], int 28], none)) | _ => none)
    | false => match Nat.beq f 95 with
      | true => (match args with | [.str l, .str m] => (match asciiB l, asciiB m, Nat.ble (lenF l) 100000, Nat.ble (lenF m) 100000 with | true, true, true, true => some (int (Lib.indexAny l m), none) | _, _, _, _ => none) | _ => none)
      | false => none
theorem known2_ok : CallOK Tryz.prog known2 := by
  intro f args h v oh e
  unfold known2 at e
  split at e
  · rename_i hf
    have hf := Nat.eq_of_beq_eq_true hf
    subst hf
    split at e
    · split at e
      · rename_i hc
        cases e
        right
        exact ext_indexByte Tryz.func98 (by kernel_rfl) (by kernel_rfl) (by kernel_rfl) (by kernel_rfl) hc h
      · cases e
    · cases e
  · split at e
    · rename_i hf
      have hf := Nat.eq_of_beq_eq_true hf
      subst hf
      left
      refine ⟨by kernel_rfl, ?_⟩
      split at e
      · rename_i l
        split at e
        · rename_i hl
          have hl := Nat.le_of_ble_eq_true hl
          rw [lenF_eq] at hl
          split at e
          · rename_i ho
            rw [allE_eq] at ho
            cases e
            exact (con59 l (fun x hx => List.all_eq_true.1 ho x hx) hl).call ⟨rfl, rfl⟩
          · cases e
        · rename_i hl
          cases e
          have hl : ¬ lenF l ≤ 4000 := fun q => by rw [Nat.ble_eq_true_of_le q] at hl; cases hl
          rw [lenF_eq] at hl
          exact (con59_long l (by omega)).call ⟨rfl, rfl⟩
      · cases e
    · split at e
      · rename_i hf
        have hf := Nat.eq_of_beq_eq_true hf
        subst hf
        left
        refine ⟨by kernel_rfl, ?_⟩
        split at e
        · split at e
          · rename_i a1 a2 a3 a4
            cases e
            have a3 := Nat.le_of_ble_eq_true a3
            have a4 := Nat.le_of_ble_eq_true a4
            rw [lenF_eq] at a3 a4
            exact acall175 _ _ a3 a4 a1 a2 h
          · cases e
        · cases e
      · cases e
end Go.Proofs.YtfijncpmhnnpiaaGreatDoor
end

section
namespace Go.Proofs.YtfijncpmhnnpiaaGreatDoor
open Go Go.Aw Go.RowKit
set_option maxRecDepth 100000
variable [MaxL]
section
variable [Laid]
omit [Laid] in
omit [MaxL] in
theorem w_or {x y : AV} {a b : Int} {K : AV → Prop} (ex : x = int a) (ey : y = int b) (q : K (int (ibits .or .i64 a b))) : iBin .or x y K := by
  subst ex
  subst ey
  simpa [iBin] using q
def inB (b f t : Int) : Bool := decide (f ≤ b) && decide (b ≤ t)
omit [MaxL] in
theorem con_within (b f t : Int) : Con Tryz.prog 93 [int b, int f, int t] (bool (inB b f t)) := by
  refine (V93 _ _ _).gives (by simp) (by simp) ?_
  unfold W93
  by_cases h1 : f ≤ b
  · simp [h1]
    exact .pure (by simp) (by simp [inB, h1])
  · simp [h1]
    exact .pure (by simp) (by simp [inB, h1])
omit [MaxL] in
theorem con_digit (n : Int) : Con Tryz.prog 68 [int n] (bool (inB n 48 57)) := by
  refine (V68 _).gives (by simp) (by simp) ?_
  unfold W68
  refine iCall_con (by kernel_rfl) (con_within n 48 57) ?_
  exact .pure (by simp) rfl
def firstI (n : Int) : Bool := (inB (ibits .or .i64 n 32) 97 122 && decide (n < 128) && decide (64 < n)) || decide (n = 95) || decide (128 ≤ n)
omit [MaxL] in
theorem con_first (n : Int) : Con Tryz.prog 67 [int n] (bool (firstI n)) := by
  refine (V67 _).gives (by simp) (by simp) ?_
  unfold W67
  refine w_or rfl rfl ?_
  refine iCall_con (by kernel_rfl) (con_within (ibits .or .i64 n 32) 97 122) ?_
  by_cases c1 : n < 128
  all_goals by_cases c2 : 64 < n
  all_goals by_cases c3 : n = 95
  all_goals cases h1 : inB (ibits .or .i64 n 32) 97 122
  all_goals
    repeat first | ((with_reducible apply w_let)) | ((with_reducible apply w_and)) | ((with_reducible apply w_guard_y); rfl) | ((with_reducible apply w_guard_n); rfl) | ((with_reducible apply w_guard_u); rfl) | ((with_reducible apply w_pick_t); rfl) | ((with_reducible apply w_pick_f); rfl) | ((with_reducible apply w_lss true); rfl; rfl; exact decide_eq_true (by omega)) | ((with_reducible apply w_lss false); rfl; rfl; exact decide_eq_false (by omega)) | ((with_reducible apply w_leq true); rfl; rfl; exact decide_eq_true (by omega)) | ((with_reducible apply w_leq false); rfl; rfl; exact decide_eq_false (by omega)) | ((with_reducible apply w_gtr true); rfl; rfl; exact decide_eq_true (by omega)) | ((with_reducible apply w_gtr false); rfl; rfl; exact decide_eq_false (by omega)) | ((with_reducible apply w_geq true); rfl; rfl; exact decide_eq_true (by omega)) | ((with_reducible apply w_geq false); rfl; rfl; exact decide_eq_false (by omega)) | ((with_reducible apply w_eql true); rfl; rfl; exact decide_eq_true (by omega)) | ((with_reducible apply w_eql false); rfl; rfl; exact decide_eq_false (by omega))
    exact .pure (by simp) (by first | (simp [firstI, h1, c1, c2, c3]; done) | (simp [firstI, h1, c1, c2, c3]; omega) | (exfalso; omega))
def spaceI (n : Int) : Bool := decide (n = 32) || decide (n = 9) || decide (n = 10)
omit [MaxL] in
theorem con_space (n : Int) : Con Tryz.prog 42 [int n] (bool (spaceI n)) := by
  refine (V42 _).gives (by simp) (by simp) ?_
  unfold W42
  by_cases c1 : n = 32
  all_goals by_cases c2 : n = 9
  all_goals by_cases c3 : n = 10
  all_goals
    repeat first | ((with_reducible apply w_let)) | ((with_reducible apply w_and)) | ((with_reducible apply w_guard_y); rfl) | ((with_reducible apply w_guard_n); rfl) | ((with_reducible apply w_guard_u); rfl) | ((with_reducible apply w_pick_t); rfl) | ((with_reducible apply w_pick_f); rfl) | ((with_reducible apply w_lss true); rfl; rfl; exact decide_eq_true (by omega)) | ((with_reducible apply w_lss false); rfl; rfl; exact decide_eq_false (by omega)) | ((with_reducible apply w_leq true); rfl; rfl; exact decide_eq_true (by omega)) | ((with_reducible apply w_leq false); rfl; rfl; exact decide_eq_false (by omega)) | ((with_reducible apply w_gtr true); rfl; rfl; exact decide_eq_true (by omega)) | ((with_reducible apply w_gtr false); rfl; rfl; exact decide_eq_false (by omega)) | ((with_reducible apply w_geq true); rfl; rfl; exact decide_eq_true (by omega)) | ((with_reducible apply w_geq false); rfl; rfl; exact decide_eq_false (by omega)) | ((with_reducible apply w_eql true); rfl; rfl; exact decide_eq_true (by omega)) | ((with_reducible apply w_eql false); rfl; rfl; exact decide_eq_false (by omega))
    exact .pure (by simp) (by first | (simp [spaceI, c1, c2, c3]; done) | (exfalso; omega))
omit [MaxL] in
theorem con_letter (n : Int) : Con Tryz.prog 45 [int n] (bool (firstI n || inB n 48 57 || decide (n = 45))) := by
  refine (V45 _).gives (by simp) (by simp) ?_
  unfold W45
  refine iCall_con (by kernel_rfl) (con_first n) ?_
  cases h1 : firstI n
  · repeat first | ((with_reducible apply w_let)) | ((with_reducible apply w_and)) | ((with_reducible apply w_guard_y); rfl) | ((with_reducible apply w_guard_n); rfl) | ((with_reducible apply w_guard_u); rfl) | ((with_reducible apply w_pick_t); rfl) | ((with_reducible apply w_pick_f); rfl) | ((with_reducible apply w_lss true); rfl; rfl; exact decide_eq_true (by omega)) | ((with_reducible apply w_lss false); rfl; rfl; exact decide_eq_false (by omega)) | ((with_reducible apply w_leq true); rfl; rfl; exact decide_eq_true (by omega)) | ((with_reducible apply w_leq false); rfl; rfl; exact decide_eq_false (by omega)) | ((with_reducible apply w_gtr true); rfl; rfl; exact decide_eq_true (by omega)) | ((with_reducible apply w_gtr false); rfl; rfl; exact decide_eq_false (by omega)) | ((with_reducible apply w_geq true); rfl; rfl; exact decide_eq_true (by omega)) | ((with_reducible apply w_geq false); rfl; rfl; exact decide_eq_false (by omega)) | ((with_reducible apply w_eql true); rfl; rfl; exact decide_eq_true (by omega)) | ((with_reducible apply w_eql false); rfl; rfl; exact decide_eq_false (by omega))
    refine iCall_con (by kernel_rfl) (con_digit n) ?_
    cases h2 : inB n 48 57
    all_goals by_cases c1 : n = 45
    all_goals
      repeat first | ((with_reducible apply w_let)) | ((with_reducible apply w_and)) | ((with_reducible apply w_guard_y); rfl) | ((with_reducible apply w_guard_n); rfl) | ((with_reducible apply w_guard_u); rfl) | ((with_reducible apply w_pick_t); rfl) | ((with_reducible apply w_pick_f); rfl) | ((with_reducible apply w_lss true); rfl; rfl; exact decide_eq_true (by omega)) | ((with_reducible apply w_lss false); rfl; rfl; exact decide_eq_false (by omega)) | ((with_reducible apply w_leq true); rfl; rfl; exact decide_eq_true (by omega)) | ((with_reducible apply w_leq false); rfl; rfl; exact decide_eq_false (by omega)) | ((with_reducible apply w_gtr true); rfl; rfl; exact decide_eq_true (by omega)) | ((with_reducible apply w_gtr false); rfl; rfl; exact decide_eq_false (by omega)) | ((with_reducible apply w_geq true); rfl; rfl; exact decide_eq_true (by omega)) | ((with_reducible apply w_geq false); rfl; rfl; exact decide_eq_false (by omega)) | ((with_reducible apply w_eql true); rfl; rfl; exact decide_eq_true (by omega)) | ((with_reducible apply w_eql false); rfl; rfl; exact decide_eq_false (by omega))
      exact .pure (by simp) (by simp [c1])
  · repeat first | ((with_reducible apply w_let)) | ((with_reducible apply w_and)) | ((with_reducible apply w_guard_y); rfl) | ((with_reducible apply w_guard_n); rfl) | ((with_reducible apply w_guard_u); rfl) | ((with_reducible apply w_pick_t); rfl) | ((with_reducible apply w_pick_f); rfl) | ((with_reducible apply w_lss true); rfl; rfl; exact decide_eq_true (by omega)) | ((with_reducible apply w_lss false); rfl; rfl; exact decide_eq_false (by omega)) | ((with_reducible apply w_leq true); rfl; rfl; exact decide_eq_true (by omega)) | ((with_reducible apply w_leq false); rfl; rfl; exact decide_eq_false (by omega)) | ((with_reducible apply w_gtr true); rfl; rfl; exact decide_eq_true (by omega)) | ((with_reducible apply w_gtr false); rfl; rfl; exact decide_eq_false (by omega)) | ((with_reducible apply w_geq true); rfl; rfl; exact decide_eq_true (by omega)) | ((with_reducible apply w_geq false); rfl; rfl; exact decide_eq_false (by omega)) | ((with_reducible apply w_eql true); rfl; rfl; exact decide_eq_true (by omega)) | ((with_reducible apply w_eql false); rfl; rfl; exact decide_eq_false (by omega))
    exact .pure (by simp) (by simp)
omit [MaxL] in
theorem con_pre (l m : List UInt8) : Con Tryz.prog 64 [.str l, .str m] (bool (decide (m.length ≤ l.length) && decide (l.take m.length = m))) := by
  refine (V64 _ _).gives (by simp) (by simp) ?_
  unfold W64
  by_cases h1 : m.length ≤ l.length
  · simp [h1]
    refine fun _ _ => .pure (by simp) (by simp)
  · simp [h1]
    refine fun _ _ => .pure (by simp) (by simp)
omit [MaxL] in
theorem con_pre2 (l m : List UInt8) : Con Tryz.prog 39 [.str l, .str m] (bool (decide (m.length ≤ l.length) && decide (l.take m.length = m))) := by
  refine (V39 _ _).gives (by simp) (by simp) ?_
  unfold W39
  refine iCall_con (by kernel_rfl) (con_pre l m) ?_
  exact .pure (by simp) rfl
end
/-! Forms that the kernel runs. -/
noncomputable def preF (m : List UInt8) : List UInt8 → Bool := List.rec (motive := fun _ => List UInt8 → Bool) (fun _ => true) (fun y _ ih l => match l with | [] => false | x :: l => match Nat.beq x.toNat y.toNat with | true => ih l | false => false) m
omit [MaxL] in
theorem preF_eq : ∀ (m l : List UInt8), preF m l = (decide (m.length ≤ l.length) && decide (l.take m.length = m))
  | [], l => by simp [preF]
  | y :: m, [] => by simp [preF]
  | y :: m, x :: l => by
    have e : preF (y :: m) (x :: l) = (match Nat.beq x.toNat y.toNat with | true => preF m l | false => false) := rfl
    rw [e, preF_eq m l]
    by_cases h : x = y
    · subst h
      simp
    · have : Nat.beq x.toNat y.toNat = false := by
        cases z : Nat.beq x.toNat y.toNat with
        | false => rfl
        | true => exact absurd (UInt8.toNat_inj.1 (Nat.eq_of_beq_eq_true z)) h
      rw [this]
      simp [h]
def firstN (m : Nat) : Bool := match Nat.ble 65 m, Nat.ble m 127 with
  | true, true => (match Nat.ble 97 (Nat.lor m 32), Nat.ble (Nat.lor m 32) 122 with | true, true => true | _, _ => Nat.beq m 95)
  | true, false => true
  | _, _ => false
omit [MaxL] in
theorem firstN_eq : ∀ m : Nat, m < 256 → firstI (Int.ofNat m) = firstN m := by
  have : ((List.range 256).all fun m => firstI (Int.ofNat m) == firstN m) = true := by kernel_rfl
  intro m hm
  have := List.all_eq_true.1 this m (List.mem_range.2 hm)
  simpa using this
def spaceN (m : Nat) : Bool := match Nat.beq m 32 with | true => true | false => match Nat.beq m 9 with | true => true | false => Nat.beq m 10
def digitN (m : Nat) : Bool := match Nat.ble 48 m with | true => Nat.ble m 57 | false => false
def letterN (m : Nat) : Bool := match firstN m with | true => true | false => match digitN m with | true => true | false => Nat.beq m 45
omit [MaxL] in
theorem spaceN_eq : ∀ m : Nat, m < 256 → spaceI (Int.ofNat m) = spaceN m := by
  have : ((List.range 256).all fun m => spaceI (Int.ofNat m) == spaceN m) = true := by kernel_rfl
  intro m hm
  have := List.all_eq_true.1 this m (List.mem_range.2 hm)
  simpa using this
omit [MaxL] in
theorem digitN_eq : ∀ m : Nat, m < 256 → inB (Int.ofNat m) 48 57 = digitN m := by
  have : ((List.range 256).all fun m => inB (Int.ofNat m) 48 57 == digitN m) = true := by kernel_rfl
  intro m hm
  have := List.all_eq_true.1 this m (List.mem_range.2 hm)
  simpa using this
omit [MaxL] in
theorem letterN_eq : ∀ m : Nat, m < 256 → (firstI (Int.ofNat m) || inB (Int.ofNat m) 48 57 || decide ((Int.ofNat m) = 45)) = letterN m := by
  have : ((List.range 256).all fun m => (firstI (Int.ofNat m) || inB (Int.ofNat m) 48 57 || decide ((Int.ofNat m) = 45)) == letterN m) = true := by kernel_rfl
  intro m hm
  have := List.all_eq_true.1 this m (List.mem_range.2 hm)
  simpa using this
/-- One byte's class, or -1's. -/
noncomputable def byteC (g : Nat → Bool) (args : List AV) : Option (AV × Option Heap) := match args with
  | [.v (.int .i64 n)] => (match n with
    | .ofNat m => (match Nat.ble m 255 with | true => some (bool (g m), none) | false => none)
    | .negSucc m => (match m with | 0 => some (bool false, none) | _ => none))
  | _ => none
theorem byteC_ok {f : Nat} {F : Int → Bool} {g : Nat → Bool} (hb : hasBody Tryz.prog f = true) (hc : ∀ n, Con Tryz.prog f [int n] (bool (F n))) (hg : ∀ m : Nat, m < 256 → F (Int.ofNat m) = g m) (h1 : F (-1) = false)
    {args : List AV} {h : Heap} {v : AV} {oh : Option Heap} (e : byteC g args = some (v, oh)) : oh = none ∧ hasBody Tryz.prog f = true ∧ ACall Tryz.prog f args h fun r hh => r = v ∧ hh = h := by
  unfold byteC at e
  split at e
  · split at e
    · rename_i m
      split at e
      · rename_i hm
        cases e
        refine ⟨rfl, hb, ?_⟩
        rw [← hg m (by have := Nat.le_of_ble_eq_true hm; omega)]
        exact (hc _).call ⟨rfl, rfl⟩
      · cases e
    · split at e
      · cases e
        refine ⟨rfl, hb, ?_⟩
        have := (hc (-1)).call (h := h) (K := fun r hh => r = bool (F (-1)) ∧ hh = h) ⟨rfl, rfl⟩
        rw [h1] at this
        exact this
      · cases e
  · cases e
noncomputable def preC (args : List AV) : Option (AV × Option Heap) := match args with
  | [.str l, .str m] => some (bool (preF m l), none)
  | _ => none
noncomputable def known3 : CallF := fun f args h => match Nat.beq f 67 with
  | true => byteC firstN args
  | false => match Nat.beq f 45 with
    | true => byteC letterN args
    | false => match Nat.beq f 42 with
      | true => byteC spaceN args
      | false => match Nat.beq f 68 with
        | true => byteC digitN args
        | false => match Nat.beq f 64 with
          | true => preC args
          | false => match Nat.beq f 39 with
            | true => preC args
            | false => known2 f args h
theorem known3_ok : CallOK Tryz.prog known3 := by
  intro f args h v oh e
  unfold known3 at e
  split at e
  · rename_i hf
    obtain rfl := Nat.eq_of_beq_eq_true hf
    obtain ⟨rfl, hb, c⟩ := byteC_ok (by kernel_rfl) con_first firstN_eq (by kernel_rfl) (h := h) e
    exact .inl ⟨hb, c⟩
  split at e
  · rename_i hf
    obtain rfl := Nat.eq_of_beq_eq_true hf
    obtain ⟨rfl, hb, c⟩ := byteC_ok (by kernel_rfl) con_letter letterN_eq (by kernel_rfl) (h := h) e
    exact .inl ⟨hb, c⟩
  split at e
  · rename_i hf
    obtain rfl := Nat.eq_of_beq_eq_true hf
    obtain ⟨rfl, hb, c⟩ := byteC_ok (by kernel_rfl) con_space spaceN_eq (by kernel_rfl) (h := h) e
    exact .inl ⟨hb, c⟩
  split at e
  · rename_i hf
    obtain rfl := Nat.eq_of_beq_eq_true hf
    obtain ⟨rfl, hb, c⟩ := byteC_ok (by kernel_rfl) con_digit digitN_eq (by kernel_rfl) (h := h) e
    exact .inl ⟨hb, c⟩
  split at e
  · rename_i hf
    obtain rfl := Nat.eq_of_beq_eq_true hf
    unfold preC at e
    split at e
    · rename_i l m
      cases e
      rw [preF_eq]
      exact .inl ⟨by kernel_rfl, (con_pre l m).call ⟨rfl, rfl⟩⟩
    · cases e
  split at e
  · rename_i hf
    obtain rfl := Nat.eq_of_beq_eq_true hf
    unfold preC at e
    split at e
    · rename_i l m
      cases e
      rw [preF_eq]
      exact .inl ⟨by kernel_rfl, (con_pre2 l m).call ⟨rfl, rfl⟩⟩
    · cases e
  exact known2_ok _ _ _ _ _ e
end Go.Proofs.YtfijncpmhnnpiaaGreatDoor
end
