/-
  Once, on memory that is told. The tables of the replacer, read. A text without the bytes that are cleaned comes back as it is. Functions that are known: by contracts. Calls that are known by runs of their own.
  No conditions.
-/
import Derived.Test.YtdngilegbpgjgaaGreatDoorClRun
import Derived.Test.YtdngilegbpgjgaaGreatDoorL2
set_option linter.unusedVariables false
set_option linter.unusedSimpArgs false
section
namespace Go.Proofs.YtdngilegbpgjgaaGreatDoor
open Go Go.Aw
set_option maxRecDepth 100000
variable [MaxL]

omit [MaxL] in
theorem acall_of [Laid] {P : Program} {C : Cfg} {known : CallF} (hk : CallOK P known) {d : Nat} {f : FuncId} (hb : hasBody P f = true) {args : List AV} {h : Heap} {v : AV} {oh : Option Heap} (e : callD P C known d f args h = some (v, oh)) :
    ACall P f args h fun r hh => r = v ∧ hh = oh.getD h := by
  rcases callD_ok hk d f args h v oh e with ⟨_, hA⟩ | hA
  · exact hA
  · exact absurd hb (by rw [hA.1]; exact Bool.false_ne_true)

theorem acall86 : ACall Tryz.prog 66 [] [] fun r hh => r = .op 2 0 ∧ hh = Hb 0 := acall_of known0_ok (by kernel_rfl) run86
theorem acall127 : ACall Tryz.prog 108 [.op 2 0] (Hb 1) fun r hh => r = .tup [] ∧ hh = Ha 0 1 := acall_of known0_ok (by kernel_rfl) run127

omit [MaxL] in
/-- A told cell of a block of the call's own. -/
theorem cell_of [Laid] {base : Nat} {ι : List Ix} {S : Stab} {w : World} {h : Heap} (hh : HOK base ι S w h) {i b : Nat} {x : Blk} (e : h[i]? = some (.blk x)) (hi : ι[i]? = some (.blk b)) {o : Nat} {c : AV} (hc : x.cells[o]? = some c) :
    ∃ v, w.cell? ⟨b, o, none⟩ = some v ∧ Rep ι S w c v ∧ w.frozen? ⟨b, o, none⟩ = false := by
  obtain ⟨b', arr, fz, k1, k2, k3, k4, k5, k6, _⟩ := hh.live i x e
  rw [hi] at k1; cases k1
  obtain ⟨v, e1, r⟩ := k6 o c hc
  refine ⟨v, by rw [cell_at k3]; exact e1, r, ?_⟩
  have hlt : o < arr.size := (Array.getElem?_eq_some_iff.1 e1).1
  have := k4 o hlt
  rw [frozen_at k3]
  simpa using this

theorem acall166 : ACall Tryz.prog 147 [.op 2 0, .fn (.func 108) [.op 2 0] []] (Hb 0) fun r hh => r = .tup [] ∧ hh = Ha 1 0 := by
  intro base ι S w vs h1 h2
  match vs, h1 with
  | [], h1 => simp at h1
  | [v], h1 => simp at h1
  | v :: u :: x :: vs, h1 => simp at h1
  | [v, u], h1 =>
    simp only [RepL_cons, RepL_nil, and_true] at h1
    obtain ⟨r1, r2⟩ := h1
    rw [Rep] at r1
    rw [Rep] at r2
    obtain ⟨b, hb, rfl⟩ := r1
    obtain ⟨ps, qs, rfl, r3, r4⟩ := r2
    match ps, r3 with
    | [], r3 => simp at r3
    | p :: q :: ps, r3 => simp at r3
    | [p], r3 =>
      simp only [RepL_cons, RepL_nil, and_true] at r3
      rw [Rep] at r3
      obtain ⟨b', hb', rfl⟩ := r3
      rw [hb] at hb'; cases hb'
      simp only [RepL_nil] at r4
      subst r4
      have hx : (Hb 0)[2]? = some (.blk (rpl 0 0 (.v .nilIface) keys)) := rfl
      obtain ⟨v0, g0, q0, z0⟩ := cell_of h2 hx hb (o := 0) (c := .v (.int .u32 0)) rfl
      obtain ⟨v1, g1, q1, z1⟩ := cell_of h2 hx hb (o := 1) (c := .v (.int .i32 0)) rfl
      rw [Rep_v] at q0 q1
      subst q0; subst q1
      obtain ⟨hE1, hH1⟩ := h2.set hx rfl hb (o := 1) (by simp [rpl]) (c := .v (.int .i32 1)) (v := .int .i32 1) (by simp)
      have hH1' : HOK base ι S (w.setCell ⟨b, 1, none⟩ (.int .i32 1)) (Hb 1) := hH1
      have hl := h2.len
      have hf := acall127 base ι S _ [.pointer (some ⟨b, 0, none⟩)] (by simp only [RepL_cons, RepL_nil, and_true]; rw [Rep]; exact ⟨b, hb, rfl⟩) hH1'
      refine (slow_any b w (fun w' => ∃ ι' S', Evo 3 base ι S (w.setCell ⟨b, 1, none⟩ (.int .i32 1)) ι' S' w' ∧ HOK base ι' S' w' (Ha 0 1) ∧ ι'[2]? = some (.blk b)) g0 g1 z0 z1 (hf.mono ?_)).mono ?_
      · rintro e w' ⟨v, ι', S', r, h', rfl, k1, k2, k3, k4, rfl, rfl⟩
        rw [Rep] at k2
        obtain ⟨us, rfl, k2⟩ := k2
        simp only [RepL_nil] at k2
        subst k2
        have hx' : (Ha 0 1)[2]? = some (.blk (rpl 0 1 (.ifc 254 (.op 3 0)) (.v (.slice none 0 0)))) := rfl
        have hb2 : ι'[2]? = some (.blk b) := by
          obtain ⟨b', arr, fz, m1, _⟩ := k3.live 2 _ hx'
          have := k1.pre 2 (by decide)
          rw [hb, m1] at this
          rw [m1]
          simpa [IxLe] using this
        obtain ⟨v0, g0, q0, z0⟩ := cell_of k3 hx' hb2 (o := 0) (c := .v (.int .u32 0)) rfl
        obtain ⟨v1, g1, q1, z1⟩ := cell_of k3 hx' hb2 (o := 1) (c := .v (.int .i32 1)) rfl
        rw [Rep_v] at q1
        subst q1
        exact ⟨rfl, ⟨v0, g0⟩, g1, z0, z1, ι', S', k1, k3, hb2⟩
      · rintro e w'' ⟨rfl, w', ⟨ι', S', k1, k3, hb2⟩, rfl⟩
        obtain ⟨d1, d2⟩ := k3.drew
        have hx' : (Ha 0 1)[2]? = some (.blk (rpl 0 1 (.ifc 254 (.op 3 0)) (.v (.slice none 0 0)))) := rfl
        obtain ⟨s1, s2⟩ := d2.set hx' rfl hb2 (o := 0) (by simp [rpl]) (c := .v (.int .u32 1)) (v := .int .u32 1) (by simp)
        have s2' : HOK base ι' S' (w'.drew.setCell ⟨b, 0, none⟩ (.int .u32 1)) (Ha 1 1) := s2
        have hx2 : (Ha 1 1)[2]? = some (.blk (rpl 1 1 (.ifc 254 (.op 3 0)) (.v (.slice none 0 0)))) := rfl
        obtain ⟨t1, t2⟩ := s2'.set hx2 rfl hb2 (o := 1) (by simp [rpl]) (c := .v (.int .i32 0)) (v := .int .i32 0) (by simp)
        have t2' : HOK base ι' S' ((w'.drew.setCell ⟨b, 0, none⟩ (.int .u32 1)).setCell ⟨b, 1, none⟩ (.int .i32 0)) (Ha 1 0) := t2
        have hl3 : ι.length = 3 := hl
        have hl9 : 3 ≤ ι'.length := by rw [k3.len]; decide
        have E0 : Evo 3 base ι S w ι S (w.setCell ⟨b, 1, none⟩ (.int .i32 1)) := hE1.mono (by omega) (Nat.le_refl _)
        exact ⟨_, ι', S', .tup [], Ha 1 0, rfl, ((((E0.trans k1).trans (d1.mono hl9 (Nat.le_refl _))).trans (s1.mono hl9 (Nat.le_refl _))).trans (t1.mono hl9 (Nat.le_refl _))), by rw [Rep]; exact ⟨[], rfl, by simp⟩, t2', by decide, rfl, rfl⟩
end Go.Proofs.YtdngilegbpgjgaaGreatDoor
end

section
namespace Go.Proofs.YtdngilegbpgjgaaGreatDoor
open Go Go.Aw
set_option maxRecDepth 100000
variable [MaxL]

theorem acall165 : ACall Tryz.prog 146 [.op 2 0] (Hb 0) fun r hh => r = bool false ∧ hh = Hb 0 := by
  intro base ι S w vs h1 h2
  match vs, h1 with
  | [], h1 => simp at h1
  | v :: u :: vs, h1 => simp at h1
  | [v], h1 =>
    simp only [RepL_cons, RepL_nil, and_true] at h1
    rw [Rep] at h1
    obtain ⟨b, hb, rfl⟩ := h1
    have hx : (Hb 0)[2]? = some (.blk (rpl 0 0 (.v .nilIface) keys)) := rfl
    obtain ⟨v0, g0, q0, z0⟩ := cell_of h2 hx hb (o := 0) (c := .v (.int .u32 0)) rfl
    rw [Rep_v] at q0
    subst q0
    refine (load_done _ w g0).mono ?_
    rintro e w' ⟨rfl, rfl⟩
    exact ⟨_, ι, S, bool false, _, rfl, Evo.refl _ _ _ _ _, by simp, h2, Nat.le_refl _, rfl, rfl⟩

theorem acall126 : ACall Tryz.prog 107 [.op 2 0, .fn (.func 108) [.op 2 0] []] (Hb 0) fun r hh => r = .tup [] ∧ hh = Ha 1 0 := by
  refine (V107 _ _).acall ?_
  unfold W107
  simp only [iNilF_o, iFad_o]
  refine ⟨by kernel_rfl, acall165.mono ?_⟩
  rintro r hh ⟨rfl, rfl⟩
  simp only [iNot_b, iCond_b]
  refine ⟨fun _ => ⟨by kernel_rfl, acall166.mono ?_⟩, fun q => by cases q⟩
  rintro r hh ⟨rfl, rfl⟩
  exact ⟨_, _, Wk.refl _ _ _ (by decide), rfl, rfl⟩

omit [MaxL] in
theorem rb_0 : rb.drop 1 = int 0 :: rb.drop 2 := by kernel_rfl
omit [MaxL] in
theorem rb_4 : rb.drop 4 = .own 4 0 4 1 :: rb.drop 5 := by kernel_rfl
omit [MaxL] in
theorem rb_5 : rb.drop 5 = int 4 :: rb.drop 6 := by kernel_rfl
omit [MaxL] in
theorem rb_len : rb.length = 262 := by kernel_rfl
omit [MaxL] in
theorem rb_m (n : Nat) (h : n < 256) : rb.drop (6 + n) = u8 (mapN.getD n 0) :: rb.drop (6 + n + 1) := by
  have hl : 6 + n < rb.length := by rw [rb_len]; omega
  rw [List.drop_eq_getElem_cons hl]
  congr 1
  have : mapN.length = 256 := by kernel_rfl
  simp [rb, show 6 + n = n + 1 + 1 + 1 + 1 + 1 + 1 by omega, this, h]
omit [MaxL] in
theorem map_ok (n : Nat) (h : n < 256) (h0 : n ≠ 0) (h1 : n ≠ 12) (h2 : n ≠ 13) : mapN.getD n 0 = 4 ∨ mapN.getD n 0 = 1 := by
  have := List.all_eq_true.1 (show ((List.range 256).all fun n => n == 0 || n == 12 || n == 13 || mapN.getD n 0 == 4 || mapN.getD n 0 == 1) = true by kernel_rfl) n (by simpa using h)
  simp only [Bool.or_eq_true, beq_iff_eq] at this
  omega
end Go.Proofs.YtdngilegbpgjgaaGreatDoor
end

section
namespace Go.Proofs.YtdngilegbpgjgaaGreatDoor
open Go Go.Aw
set_option maxRecDepth 100000
variable [MaxL]

def G (x y : Ent) : Heap := e0 :: e1 :: .blk (rpl 1 0 (.ifc 254 (.op 3 0)) (.v (.slice none 0 0))) :: .blk ⟨306, rb, true⟩ :: .blk ⟨301, tb, true⟩ :: (tail5 ++ [x, y])
omit [MaxL] in
@[simp] theorem G_len (x y : Ent) : (G x y).length = 11 := rfl
omit [MaxL] in
@[simp] theorem G_3 (x y : Ent) : (G x y)[3]? = some (.blk ⟨306, rb, true⟩) := rfl
omit [MaxL] in
@[simp] theorem G_4 (x y : Ent) : (G x y)[4]? = some (.blk ⟨301, tb, true⟩) := rfl
omit [MaxL] in
@[simp] theorem G_9 (x y : Ent) : (G x y)[9]? = some x := rfl
omit [MaxL] in
@[simp] theorem G_10 (x y : Ent) : (G x y)[10]? = some y := rfl
omit [MaxL] in
@[simp] theorem G_s9 (x y z : Ent) : (G x y).set 9 z = G z y := rfl
omit [MaxL] in
@[simp] theorem G_s10 (x y z : Ent) : (G x y).set 10 z = G x z := rfl
omit [MaxL] in
theorem rb_t : rb.tail = int 0 :: rb.drop 2 := by kernel_rfl
omit [MaxL] in
@[simp] theorem G_k3 (x y : Ent) (l : Heap) : (G x y ++ l)[3]? = some (.blk ⟨306, rb, true⟩) := rfl
omit [MaxL] in
@[simp] theorem G_k10 (x y : Ent) (l : Heap) : (G x y ++ l)[10]? = some y := rfl
omit [MaxL] in
@[simp] theorem G_k11 (x y z : Ent) : (G x y ++ [z])[11]? = some z := rfl
omit [MaxL] in
@[simp] theorem G_ks10 (x y z : Ent) (l : Heap) : (G x y ++ l).set 10 z = G x z ++ l := rfl
omit [MaxL] in
theorem flat_bytes (s : List UInt8) : (s.map fun b => [byteA b]).flatten = s.map byteA := by
  induction s with
  | nil => rfl
  | cons b s ih => simp [ih]
omit [MaxL] in
theorem tb_t : tb.tail = .v (.pointer none) :: tb.drop 2 := by kernel_rfl
omit [MaxL] in
theorem mrow281 : mrow Tryz.prog "WriteString" 380 = some 342 := by kernel_rfl
omit [MaxL] in
theorem mrow267 : mrow Tryz.prog "Replace" 254 = some 326 := by kernel_rfl

theorem a269 (h : Heap) : ACall Tryz.prog 328 [.ifc 380 (.op 10 0)] h fun r hh => r = .ifc 380 (.op 10 0) ∧ hh = h := by
  refine (V328 _).acall ?_
  unfold W328
  have : hasM Tryz.prog 384 380 = true := by kernel_rfl
  simp [this]
  exact Wk.refl _ _ _ (Nat.le_refl _)

theorem a270 (x y : Ent) : ACall Tryz.prog 329 [.op 3 0, .str [], ff] (G x y) fun r hh => r = .tup [.str [], int 0, ff] ∧ hh = G x y := by
  refine (V329 _ _ _).acall ?_
  unfold W329
  simp only [iNilF_o, iFad_o]
  refine iLoop_of (α := Unit) (fun _ => True) (fun _ => [.str [], .str [], int 0, ff, int 0, .op 3 0, int 0]) (fun _ => G x y) (fun _ => 0) () trivial (Wk.refl _ _ _ (by simp)) ?_
  rintro - -
  simp [rb_t]
  exact Wk.refl _ _ _ (by simp)

theorem a281 (s : List UInt8) (hs : s ≠ []) (hl : s.length ≤ 4000) : ACall Tryz.prog 342 [.op 10 0, .str s] (G (.blk ⟨5, rep0 s.length [u8 0], true⟩) (.blk ⟨379, [.own 9 0 0 1], true⟩)) fun r hh => r = .tup [int s.length, .v .nilIface] ∧
    hh = G .dead (.blk ⟨379, [.own 11 0 s.length 1], true⟩) ++ [.blk ⟨5, s.map byteA, true⟩] := by
  refine (V342 _ _).acall ?_
  unfold W342
  have hp : 0 < s.length := List.length_pos_iff.2 hs
  simp only [iNilF_o, iLoad_o, G_10, ldP, List.drop_zero, iAppS_r, srcS, iAppTo_o, G_9, G_s9, G_len, iStore_o, G_k10, G_ks10, vcells, scal, setAll, iLenS_s, List.all_map, flat_bytes]
  simp [byteA, hp, roomA, maxLen, rowOK, scal]
  exact ⟨⟨by omega, by omega⟩, fun _ => Wk.refl _ _ _ (by simp)⟩

omit [MaxL] in
theorem okB_ne {x : UInt8} (h : okB x = true) : x.toNat ≠ 0 ∧ x.toNat ≠ 12 ∧ x.toNat ≠ 13 := by
  unfold okB at h
  refine ⟨fun e => ?_, fun e => ?_, fun e => ?_⟩ <;> rw [e] at h <;> cases h

theorem a268 (s : List UInt8) (hok : ∀ x ∈ s, okB x = true) (hl : s.length ≤ 4000) : ACall Tryz.prog 327 [.op 3 0, .ifc 380 (.op 10 0), .str s] (G (.blk ⟨5, rep0 s.length [u8 0], true⟩) (.blk ⟨379, [.own 9 0 0 1], true⟩)) fun r hh =>
    (s = [] ∧ hh = G (.blk ⟨5, rep0 s.length [u8 0], true⟩) (.blk ⟨379, [.own 9 0 0 1], true⟩)) ∨ (s ≠ [] ∧ hh = G .dead (.blk ⟨379, [.own 11 0 s.length 1], true⟩) ++ [.blk ⟨5, s.map byteA, true⟩]) := by
  refine (V327 _ _ _).acall ?_
  unfold W327
  generalize hg : G (.blk ⟨5, rep0 s.length [u8 0], true⟩) (.blk ⟨379, [.own 9 0 0 1], true⟩) = g
  have g3 : g[3]? = some (.blk ⟨306, rb, true⟩) := by rw [← hg]; rfl
  have g4 : g[4]? = some (.blk ⟨301, tb, true⟩) := by rw [← hg]; rfl
  have gl : g.length = 11 := by rw [← hg]; rfl
  have h270 : ACall Tryz.prog 329 [.op 3 0, .str [], ff] g fun r hh => r = .tup [.str [], int 0, ff] ∧ hh = g := by rw [← hg]; exact a270 _ _
  refine ⟨by kernel_rfl, (a269 g).mono ?_⟩
  rintro r hh ⟨rfl, rfl⟩
  refine iLoop_of (α := Nat) (fun k => k ≤ s.length + 1) (fun k => [int 0, .v .nilIface, int 0, ff, int k]) (fun _ => hh) (fun k => s.length + 1 - k) 0 (by omega) (Wk.refl _ _ _ (by simp)) ?_
  intro k hk
  have hk3 : k < s.length ∨ k = s.length ∨ k = s.length + 1 := by omega
  rcases hk3 with hk1 | rfl | rfl
  · have hne : k ≠ s.length := by omega
    have hle : k ≤ s.length := by omega
    have hni : ¬ (k : Int) = (s.length : Int) := by omega
    obtain ⟨o1, o2, o3⟩ := okB_ne (hok _ (List.getElem_mem hk1))
    have hlt : s[k].toNat < 256 := s[k].toNat_lt
    have hm := map_ok _ hlt o1 o2 o3
    have hr := rb_m _ hlt
    have hlti : (s[k].toNat : Int) < 256 := by omega
    have w4 : IntKind.i64.wrap 4 = 4 := by decide
    have w1 : IntKind.i64.wrap 1 = 1 := by decide
    have hin : inI ((k : Int) + 1) := by unfold inI; omega
    have fin : ∃ y, y ≤ s.length + 1 ∧ Wk (List.length hh) [int 0, AV.v Value.nilIface, int 0, ff, AV.v (Value.int IntKind.i64 (↑k + 1))] hh [int 0, AV.v Value.nilIface, int 0, ff, int ↑y] hh ∧ s.length + 1 - y < s.length + 1 - k :=
      ⟨k + 1, by omega, by simpa using Wk.refl _ _ _ (Nat.le_refl _), by omega⟩
    rcases hm with hm | hm
    · rw [hm] at hr
      simp [hne, hni, hle, hk1, g3, g4, rb_t, rb_4, rb_5, hr, hlti, w4]
      exact fun _ => ⟨hin, fin⟩
    · rw [hm] at hr
      simp [hne, hni, hle, hk1, g3, g4, rb_t, rb_4, rb_5, hr, hlti, w1, tb_t]
      exact fun _ => ⟨hin, fin⟩
  · have hin : inI ((s.length : Int) + 1) := by unfold inI; omega
    have hb : hasBody Tryz.prog 329 = true := by kernel_rfl
    simp [g3, g4, rb_t, rb_4, rb_5]
    intro _
    refine ⟨hb, h270.mono ?_⟩
    rintro r h' ⟨rfl, rfl⟩
    simp [hin]
    exact ⟨s.length + 1, Nat.le_refl _, by simpa using Wk.refl _ _ _ (Nat.le_refl _), by omega⟩
  · have hgt : ¬ ((s.length : Int) + 1 ≤ (s.length : Int)) := by omega
    have ms : mrow Tryz.prog "WriteString" 380 = some 342 := mrow281
    by_cases hs : s = []
    · subst hs
      simp
      exact ⟨_, Wk.refl _ _ _ (Nat.le_refl _)⟩
    · have hp : 0 < s.length := List.length_pos_iff.2 hs
      have hz : ¬ (0 : Int) = (s.length : Int) := by omega
      simp [hgt, hz, ms, hs]
      intro _
      subst hg
      refine (a281 s hs hl).mono ?_
      rintro r h' ⟨rfl, rfl⟩
      have hin : inI (s.length : Int) := by unfold inI; omega
      simp [hin]
      exact ⟨_, Wk.refl _ _ _ (by simp)⟩

omit [MaxL] in
theorem unB_bytes (s : List UInt8) : unB (s.map byteA) = some s := by
  induction s with
  | nil => rfl
  | cons b s ih => simp [unB, byteA] at ih ⊢; simp [ih]
theorem a267 (s : List UInt8) (hok : ∀ x ∈ s, okB x = true) (hl : s.length ≤ 4000) : ACall Tryz.prog 326 [.op 3 0, .str s] (Ha 1 0) fun r hh => r = .str s ∧ 9 ≤ hh.length := by
  refine (V326 _ _).acall ?_
  unfold W326
  have hb : hasBody Tryz.prog 327 = true := by kernel_rfl
  have hH : ∀ x y : Ent, Ha 1 0 ++ [x] ++ [y] = G x y := fun x y => rfl
  have hL : (Ha 1 0).length = 9 := rfl
  have hL1 : ∀ x : Ent, (Ha 1 0 ++ [x]).length = 10 := fun _ => rfl
  have hi : ∀ x y : Ent, (Ha 1 0 ++ [x] ++ [y])[10]? = some y := fun _ _ => rfl
  have hs : ∀ x y z : Ent, (Ha 1 0 ++ [x] ++ [y]).set 10 z = G x z := fun _ _ _ => rfl
  simp only [iLenS_s, iMake_i, iNew_r, vcells, iStore_o, iMkI_r, hL, hL1, hi, hs, setAll, List.set, Int.toNat_natCast, Int.toNat_zero]
  refine fun _ => ⟨⟨by omega, by omega, by omega, by omega⟩, by simp [scal], ⟨by simp [scal], hb, (a268 s hok hl).mono ?_⟩⟩
  rintro r h' (⟨rfl, rfl⟩ | ⟨hne, rfl⟩)
  · simp [iOfBytes, chunks, unB]
    exact ⟨_, _, Wk.refl _ _ _ (by simp), rfl, by simp⟩
  · have hc := chunks_flat 1 s.length (s.map byteA) (by simp)
    simp only [iLoad_o, G_k10, ldP, List.drop_zero, iOfBytes, srcR_o, G_k11, Nat.mul_one, Nat.zero_add, List.length_map, Nat.le_refl, and_self, if_true, Option.bind_some, hc.1]
    rw [List.take_of_length_le (by simp), unB_bytes]
    exact ⟨_, _, Wk.refl _ _ _ (by simp), rfl, by simp⟩

theorem a87 (s : List UInt8) (hok : ∀ x ∈ s, okB x = true) (hl : s.length ≤ 4000) : ACall Tryz.prog 67 [.op 2 0, .str s] (Hb 0) fun r hh => r = .str s := by
  refine (V67 _ _).acall ?_
  unfold W67
  simp only [iNilF_o, iFad_o]
  refine ⟨by kernel_rfl, acall126.mono ?_⟩
  rintro r hh ⟨rfl, rfl⟩
  have h2 : (Ha 1 0)[2]? = some (.blk (rpl 1 0 (.ifc 254 (.op 3 0)) (.v (.slice none 0 0)))) := rfl
  simp only [iLoad_o, h2, rpl, Nat.zero_add, List.drop_succ_cons, List.drop_zero, ldP, iInv_i, mrow267]
  refine (a267 s hok hl).mono ?_
  rintro r hh ⟨rfl, hq⟩
  exact ⟨_, _, Wk.refl _ _ _ (Nat.le_trans (by decide) hq), rfl⟩

theorem con59 (s : List UInt8) (hok : ∀ x ∈ s, okB x = true) (hl : s.length ≤ 4000) : Con Tryz.prog 50 [.str s] (.tup [.str s, int 0]) := by
  refine (V50 _).gives (by simp) (by simp) ?_
  unfold W50
  have hn : ¬ (4000 : Int) < (s.length : Int) := by omega
  simp [hn]
  refine fun _ => ⟨by kernel_rfl, acall86.mono ?_⟩
  rintro r hh ⟨rfl, rfl⟩
  refine ⟨by kernel_rfl, (a87 s hok hl).mono ?_⟩
  rintro r hh rfl
  exact .pure (by simp) rfl
theorem con59_long (s : List UInt8) (hl : 4000 < s.length) : Con Tryz.prog 50 [.str s] (.tup [.str [], int 28]) := by
  refine (V50 _).gives (by simp) (by simp) ?_
  unfold W50
  have hn : (4000 : Int) < (s.length : Int) := by omega
  simp [hn]
  exact fun _ => .pure (by simp) rfl
end Go.Proofs.YtdngilegbpgjgaaGreatDoor
end

section
namespace Go.Proofs.YtdngilegbpgjgaaGreatDoor
open Go Go.Aw Go.RowKit
set_option maxRecDepth 1000000
variable [MaxL]
omit [MaxL] in
/-- A call that leaves what was there alone, and hands back a flat value. -/
theorem acall_below [Laid] {P : Program} {f : FuncId} {args : List AV} {h : Heap} {r : AV} {v : Value} (fl : Flat r) (hr : ∀ w, Rep [] (fun _ _ => False) w r v)
    (c : ∀ ι S w vs, RepL ι S w args vs → Calls P f vs.toArray w fun e w' => e = .returned v ∧ Below w.heap.size w w') : ACall P f args h fun r' hh => r' = r ∧ hh = h := by
  intro base ι S w vs h1 h2
  refine (c ι S w vs h1).mono ?_
  rintro e w' ⟨rfl, hB⟩
  have hE : Evo ι.length w.heap.size ι S w ι S w' := ⟨fun _ _ => IxLe.refl _, fun _ _ q => q, fun _ _ q => .inl q, fun b o q => hB.cell (h2.stb b o q), fun b x hx => by
    unfold World.shape? at hx ⊢
    have hb : b < w.heap.size := by
      rcases Nat.lt_or_ge b w.heap.size with k | k
      · exact k
      · rw [Array.getElem?_eq_none k] at hx; cases hx
    rw [hB.block b hb]; exact hx, hB⟩
  exact ⟨v, ι, S, r, h, rfl, hE.mono (by rw [h2.len]; exact Nat.le_refl _) h2.bas, Rep.flat r v fl (hr w'), h2.over hE (fun b o q => Nat.lt_of_lt_of_le (h2.stb b o q) hB.size), Nat.le_refl _, rfl, rfl⟩
theorem acall175 (l m : List UInt8) (hl : l.length ≤ 100000) (hm : m.length ≤ 100000) (al : asciiB l = true) (am : asciiB m = true) (h : Heap) : ACall Tryz.prog 156 [.str l, .str m] h fun r hh => r = int (Lib.indexAny l m) ∧ hh = h := by
  refine acall_below (v := .int .i64 (Lib.indexAny l m)) (by simp) (fun w => by simp) ?_
  intro ι S w vs h1
  match vs, h1 with
  | [], h1 => simp at h1
  | [v], h1 => simp at h1
  | v :: u :: x :: vs, h1 => simp at h1
  | [v, u], h1 =>
    simp only [RepL_cons, RepL_nil, and_true, Rep_str] at h1
    obtain ⟨⟨rfl, _⟩, rfl, _⟩ := h1
    have asc : ∀ l : List UInt8, asciiB l = true → ∀ (j : Nat) b, l[j]? = some b → b.toNat < 128 := by
      intro l al j b hb
      unfold asciiB at al
      rw [allE_eq] at al
      have := List.all_eq_true.1 al b (List.mem_of_getElem? hb)
      have := Nat.le_of_ble_eq_true this
      omega
    have := indexAny_laid ⟨l.toArray⟩ ⟨m.toArray⟩ w (by simp [ByteArray.size]; omega) (by simp [ByteArray.size]; omega) (fun j b hb => asc l al j b (by simpa using hb)) (fun j b hb => asc m am j b (by simpa using hb))
    simpa using this

noncomputable def known2 : CallF := fun f args _ => match Nat.beq f 159 with
  | true => (match args with | [.str l, .v (.int .u8 c)] => (match byteI c with | true => some (int (idxF c.toNat l 0), none) | false => none) | _ => none)
  | false => match Nat.beq f 50 with
    | true => (match args with | [.str l] => (match Nat.ble (lenF l) 4000 with | true => (match allE okB l with | true => some (.tup [.str l, int 0], none) | false => none) | false => some (.tup [.str [], int 28], none)) | _ => none)
    | false => match Nat.beq f 156 with
      | true => (match args with | [.str l, .str m] => (match asciiB l, asciiB m, Nat.ble (lenF l) 100000, Nat.ble (lenF m) 100000 with | true, true, true, true => some (int (Lib.indexAny l m), none) | _, _, _, _ => none) | _ => none)
      | false => none
theorem known2_ok : CallOK Tryz.prog known2 := by
  intro f args h v oh e
  unfold known2 at e
  split at e
  · rename_i hf
    have hf := Nat.eq_of_beq_eq_true hf
    subst hf
    split at e
    · split at e
      · rename_i hc
        cases e
        right
        exact ext_indexByte Tryz.func159 (by kernel_rfl) (by kernel_rfl) (by kernel_rfl) (by kernel_rfl) hc h
      · cases e
    · cases e
  · split at e
    · rename_i hf
      have hf := Nat.eq_of_beq_eq_true hf
      subst hf
      left
      refine ⟨by kernel_rfl, ?_⟩
      split at e
      · rename_i l
        split at e
        · rename_i hl
          have hl := Nat.le_of_ble_eq_true hl
          rw [lenF_eq] at hl
          split at e
          · rename_i ho
            rw [allE_eq] at ho
            cases e
            exact (con59 l (fun x hx => List.all_eq_true.1 ho x hx) hl).call ⟨rfl, rfl⟩
          · cases e
        · rename_i hl
          cases e
          have hl : ¬ lenF l ≤ 4000 := fun q => by rw [Nat.ble_eq_true_of_le q] at hl; cases hl
          rw [lenF_eq] at hl
          exact (con59_long l (by omega)).call ⟨rfl, rfl⟩
      · cases e
    · split at e
      · rename_i hf
        have hf := Nat.eq_of_beq_eq_true hf
        subst hf
        left
        refine ⟨by kernel_rfl, ?_⟩
        split at e
        · split at e
          · rename_i a1 a2 a3 a4
            cases e
            have a3 := Nat.le_of_ble_eq_true a3
            have a4 := Nat.le_of_ble_eq_true a4
            rw [lenF_eq] at a3 a4
            exact acall175 _ _ a3 a4 a1 a2 h
          · cases e
        · cases e
      · cases e
end Go.Proofs.YtdngilegbpgjgaaGreatDoor
end

section
namespace Go.Proofs.YtdngilegbpgjgaaGreatDoor
open Go Go.Aw Go.RowKit
set_option maxRecDepth 1000000
abbrev Memo := List (Nat × List AV × AV)
noncomputable def beqL (xs ys : List AV) : Bool := beqA (.tup xs) (.tup ys)
noncomputable def memoOK [Laid] (P : Program) (C : Cfg) (known : CallF) (l : Memo) : Bool := allE (fun p => match hasBody P p.1, isPure p.2.1, isPure [p.2.2], callD P C known 80 p.1 p.2.1 [] with | true, true, true, some (r, none) => beqA r p.2.2 | _, _, _, _ => false) l
noncomputable def findM (l : Memo) (f : Nat) (args : List AV) : Option AV := List.rec (motive := fun _ => Option AV) none (fun p _ ih => match Nat.beq p.1 f with | true => (match beqL p.2.1 args with | true => some p.2.2 | false => ih) | false => ih) l
noncomputable def withM (l : Memo) (known : CallF) : CallF := fun f args h => match findM l f args with | some r => some (r, none) | none => known f args h
theorem findM_mem {l : Memo} {f : Nat} {args : List AV} {r : AV} (e : findM l f args = some r) : (f, args, r) ∈ l := by
  induction l with
  | nil => cases e
  | cons p l ih =>
    have e : (match Nat.beq p.1 f with | true => (match beqL p.2.1 args with | true => some p.2.2 | false => findM l f args) | false => findM l f args) = some r := e
    split at e
    · rename_i h1
      split at e
      · rename_i h2
        cases e
        have h2 := beqA_eq _ _ h2
        cases h2
        have h1 := Nat.eq_of_beq_eq_true h1
        subst h1
        exact List.mem_cons_self
      · exact List.mem_cons_of_mem _ (ih e)
    · exact List.mem_cons_of_mem _ (ih e)
theorem memo_con [Laid] {P : Program} {C : Cfg} {known : CallF} (hk : CallOK P known) {l : Memo} (h : memoOK P C known l = true) {f : Nat} {args : List AV} {r : AV} (m : (f, args, r) ∈ l) : hasBody P f = true ∧ Con P f args r := by
  unfold memoOK at h
  rw [allE_eq] at h
  have := List.all_eq_true.1 h _ m
  split at this
  · rename_i r' h1 h2 h3 h4
    simp only at h1 h2 h3 h4 this
    have := beqA_eq _ _ this
    subst this
    exact ⟨h1, callD_con hk h2 h3 h1 h4⟩
  · cases this
theorem withM_ok [Laid] {P : Program} {C : Cfg} {known known' : CallF} (hk : CallOK P known) (hk' : CallOK P known') {l : Memo} (h : ∀ p ∈ l, ∃ m : Memo, p ∈ m ∧ memoOK P C known m = true) : CallOK P (withM l known') := by
  intro f args hp v oh e
  unfold withM at e
  split at e
  · rename_i r hr
    cases e
    obtain ⟨m, hm, ho⟩ := h _ (findM_mem hr)
    obtain ⟨hb, c⟩ := memo_con hk ho hm
    exact .inl ⟨hb, c.call ⟨rfl, rfl⟩⟩
  · exact hk' _ _ _ _ _ e
end Go.Proofs.YtdngilegbpgjgaaGreatDoor
end
