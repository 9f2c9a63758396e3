/-
  Bytes of names; escapes; numbers to the base 16 behind a slice that grows. A byte as an escape, behind a slice that grows. Names, as the glue writes them. One token alone: names, hashes, texts in quotes.
  No conditions.
-/
import Derived.Test.YthblflmjingcfaaGreatDoorWGlu
import Derived.Test.YthblflmjingcfaaGreatDoorSel
import Derived.Test.YthblflmjingcfaaGreatDoorD1
import Derived.Test.YthblflmjingcfaaGreatDoorCfg
import Derived.Test.YthblflmjingcfaaGreatDoorL5
import Derived.Test.YthblflmjingcfaaGreatDoorS1
set_option linter.unusedVariables false
set_option linter.unusedSimpArgs false
section
namespace Go.Proofs.YthblflmjingcfaaGreatDoor
open Go Go.Aw Go.Sel
set_option maxRecDepth 100000
abbrev byR (l : List UInt8) : List (List AV) := l.map fun b => [byteA b]
def digB (b : UInt8) : Bool := decide (48 ≤ (b.toNat : Int)) && decide ((b.toNat : Int) ≤ 57)
def orB (b : UInt8) : Int := ibits .or .u8 (b.toNat : Int) 32
def letB (b : UInt8) : Bool := decide (97 ≤ orB b) && decide (orB b ≤ 122) && decide ((b.toNat : Int) < 128)
def nmB (b : UInt8) : Bool := letB b || digB b || decide ((b.toNat : Int) = 95) || decide ((b.toNat : Int) = 45) || decide (128 ≤ (b.toNat : Int))
def hexD : List UInt8 := [48, 49, 50, 51, 52, 53, 54, 55, 56, 57, 97, 98, 99, 100, 101, 102, 103, 104, 105, 106, 107, 108, 109, 110, 111, 112, 113, 114, 115, 116, 117, 118, 119, 120, 121, 122]
def hexB (b : UInt8) : List UInt8 := if 16 ≤ b.toNat then [hexD.getD (b.toNat / 16) 0, hexD.getD (b.toNat % 16) 0] else [hexD.getD b.toNat 0]
def plainE (b : UInt8) : Bool := decide (32 < (b.toNat : Int)) && decide ((b.toNat : Int) < 127) && !digB b && !letB b
def escB (b : UInt8) : List UInt8 := if plainE b then [92, b] else [92] ++ hexB b ++ [32]
theorem hexB_len (b : UInt8) : (hexB b).length ≤ 2 := by unfold hexB; split <;> simp
theorem escB_len (b : UInt8) : (escB b).length ≤ 4 := by unfold escB; have := hexB_len b; split <;> simp; omega
/-- A slice that grows has grown; behind the heap lies what is let go. -/
def Gw (tid m : Nat) (h h' : Heap) : Prop := ∃ j, h' = h.set tid (.tok 5 1 m) ++ j
theorem Gw.len {tid m : Nat} {h h' : Heap} (g : Gw tid m h h') : h.length ≤ h'.length := by obtain ⟨j, rfl⟩ := g; simp
theorem Gw.trans {tid m m' : Nat} {h h' h'' : Heap} (ht : tid < h.length) (a : Gw tid m h h') (b : Gw tid m' h' h'') : Gw tid m' h h'' := by
  obtain ⟨j, rfl⟩ := a
  obtain ⟨k, rfl⟩ := b
  exact ⟨j ++ k, by rw [List.set_append_left _ _ (by simpa using ht), List.set_set, List.append_assoc]⟩
theorem Gw.tok {tid m : Nat} {h h' : Heap} (ht : tid < h.length) (g : Gw tid m h h') : h'[tid]? = some (.tok 5 1 m) := by
  obtain ⟨j, rfl⟩ := g
  rw [List.getElem?_append_left (by simpa using ht), List.getElem?_set_self ht]
theorem Gw.other {tid m : Nat} {h h' : Heap} (g : Gw tid m h h') {i : Nat} (hi : i < h.length) (hne : i ≠ tid) : h'[i]? = h[i]? := by
  obtain ⟨j, rfl⟩ := g
  rw [List.getElem?_append_left (by simpa using hi), List.getElem?_set_ne (Ne.symm hne)]
theorem Gw.set (tid m : Nat) (h : Heap) : Gw tid m h (h.set tid (.tok 5 1 m)) := ⟨[], by simp⟩
theorem Gw.tail {tid m : Nat} {h h' : Heap} (g : Gw tid m h h') (k : Heap) : Gw tid m h (h' ++ k) := by
  obtain ⟨j, rfl⟩ := g
  exact ⟨j ++ k, by rw [List.append_assoc]⟩
theorem tok_lt {tid : Nat} {h : Heap} {e : Ent} (ht : h[tid]? = some e) : tid < h.length := (List.getElem?_eq_some_iff.1 ht).1
theorem a_mkP1 {x : Int} {K : AV → Prop} (q : K (.sl 1 [[u8 x]])) : iMkSlP 1 1 (u8 0) [(0, 1, u8 x)] K := by
  have e : bfill (rep0 1 (vcells (u8 0))) [(0, 1, u8 x)] = some [u8 x] := by simp [bfill, rep0, vcells, setAll, scal]
  unfold iMkSlP; rw [e]; exact q
theorem a_mkP2 {x y : Int} {K : AV → Prop} (q : K (.sl 1 [[u8 x], [u8 y]])) : iMkSlP 2 1 (u8 0) [(0, 1, u8 x), (1, 1, u8 y)] K := by
  have e : bfill (rep0 2 (vcells (u8 0))) [(0, 1, u8 x), (1, 1, u8 y)] = some [u8 x, u8 y] := by simp [bfill, rep0, vcells, setAll, scal]
  unfold iMkSlP; rw [e]; exact q
theorem a_conv {k k' : IntKind} {x : AV} {n m : Int} {K : AV → Prop} (e : x = .v (.int k' n)) (hm : k.wrap n = m) (q : K (.v (.int k m))) : iConv k x K := by subst hm; exact ⟨k', n, e, q⟩
theorem a_or {k : IntKind} {x y : AV} {a b : Int} {K : AV → Prop} (ex : x = .v (.int k a)) (ey : y = .v (.int k b)) (q : K (.v (.int k (ibits .or k a b)))) : iBin .or x y K := by
  subst ex; subst ey; exact ⟨rfl, q⟩
theorem a_and {k : IntKind} {x y : AV} {a b c : Int} {K : AV → Prop} (ex : x = .v (.int k a)) (ey : y = .v (.int k b)) (hc : ibits .and k a b = c) (q : K (.v (.int k c))) : iBin .and x y K := by
  subst ex; subst ey; subst hc; exact ⟨rfl, q⟩
theorem a_shr {k k' : IntKind} {x y : AV} {a b c : Int} {K : AV → Prop} (ex : x = .v (.int k a)) (ey : y = .v (.int k' b)) (h0 : 0 ≤ b) (hc : a.fdiv (2 ^ (min b.toNat k.bits)) = c) (q : K (.v (.int k c))) : iBin .shr x y K := by
  subst ex; subst ey; subst hc; exact ⟨h0, q⟩
theorem a_subU {k : IntKind} {x y : AV} {a b c : Int} {K : AV → Prop} (hk : k ≠ .i64) (ex : x = .v (.int k a)) (ey : y = .v (.int k b)) (hc : k.wrap (a - b) = c) (q : K (.v (.int k c))) : iBin .sub x y K := by
  subst ex; subst ey; subst hc
  refine ⟨rfl, ?_⟩
  unfold iInt iWr
  cases k <;> first | exact q | exact absurd rfl hk
theorem a_mulU {k : IntKind} {x y : AV} {a b c : Int} {K : AV → Prop} (hk : k ≠ .i64) (ex : x = .v (.int k a)) (ey : y = .v (.int k b)) (hc : k.wrap (a * b) = c) (q : K (.v (.int k c))) : iBin .mul x y K := by
  subst ex; subst ey; subst hc
  refine ⟨rfl, ?_⟩
  unfold iInt iWr
  cases k <;> first | exact q | exact absurd rfl hk
theorem a_negU {k : IntKind} {x : AV} {a c : Int} {K : AV → Prop} (hk : k ≠ .i64) (ex : x = .v (.int k a)) (hc : k.wrap (0 - a) = c) (q : K (.v (.int k c))) : iNeg x K := by
  subst ex; subst hc
  refine ⟨k, a, rfl, ?_⟩
  unfold iWr
  cases k <;> first | exact q | exact absurd rfl hk
theorem a_idx8 {k : IntKind} {x i : AV} {l : List UInt8} {n : Nat} {K : AV → Prop} (e : x = .str l) (ei : i = .v (.int k n)) (hn : n < l.length) (q : K (byteA (l.getD n 0))) : iIdxS x i K := by
  subst e; subst ei
  exact ⟨⟨by omega, by omega⟩, by rw [Int.toNat_natCast]; exact q⟩
theorem a_idxQ8 {len sz id o : Nat} {x i : AV} {K : AV → Prop} {n : Nat} (ex : x = .op id o) (ei : i = int n) (hn : n < len) (q : K (.op id (o + n * sz))) : iIdxQ len sz x i K := by
  subst ex; subst ei
  exact ⟨⟨by omega, by omega⟩, by rw [Int.toNat_natCast]; exact q⟩
section
variable [Laid]
theorem a_acall {P : Program} {f : FuncId} {args args' : List AV} {h : Heap} {K0 K : AV → Heap → Prop} (hb : hasBody P f = true) (e : args = args') (c : ACall P f args' h K0) (k : ∀ r h', K0 r h' → K r h') : iCall P (.fn (.func f) [] []) args h K := by
  subst e
  exact ⟨hb, by simpa using c.mono k⟩
theorem con_gdigit (b : UInt8) : Con Tryz.prog 124 [byteA b] (bool (digB b)) := by
  refine (V124 _).gives (by simp [byteA]) (by simp) ?_
  unfold W124
  repeat' (first | (with_reducible first | apply w_let | apply w_and | refine And.intro True.intro ?_) | ((with_reducible first | apply a_lss | apply a_leq | apply a_gtr | apply a_geq | apply a_eql | apply a_neq); rfl; rfl) | ((with_reducible first | apply a_eqlS | apply a_neqS | apply a_eqlB | apply a_neqB); rfl; rfl) | ((with_reducible apply w_add); rfl; rfl; first | assumption | (unfold inI; omega)) | ((with_reducible apply w_sub); rfl; rfl; first | assumption | (unfold inI; omega)) | ((with_reducible apply a_not); rfl) | ((with_reducible apply w_pick_t); rfl) | ((with_reducible apply w_pick_f); rfl) | ((with_reducible apply a_cond1); rfl; first | rfl | assumption) | ((with_reducible apply a_cond0); rfl; first | rfl | assumption) | ((with_reducible apply a_guard1); rfl; first | rfl | assumption) | ((with_reducible apply a_guard0); rfl; first | rfl | assumption) | ((with_reducible apply w_guard_u); rfl) | ((with_reducible apply a_pick1); rfl; first | rfl | assumption) | ((with_reducible apply a_pick0); rfl; first | rfl | assumption) | ((with_reducible apply a_pickN); rfl) | ((with_reducible apply a_condN); rfl) | ((with_reducible apply a_guardN); rfl) | ((with_reducible apply w_fad); rfl) | ((with_reducible apply a_fadI); rfl) | ((with_reducible apply w_load); rfl; rfl; rfl) | ((with_reducible apply w_loadI); rfl) | ((with_reducible apply w_loadA); rfl; rfl; first | exact Nat.le_refl _ | exact Nat.le_of_ble_eq_true rfl) | ((with_reducible apply a_eqA); rfl; rfl; rfl) | ((with_reducible apply a_loadAI); rfl; first | rfl | simp) | ((with_reducible apply w_new); first | rfl | simp) | ((with_reducible apply a_store); rfl; rfl; rfl; rfl; (first | exact Nat.le_refl _ | simp); (first | rfl | simp); (first | rfl | simp)) | ((with_reducible apply a_lenS); rfl; intro _) | ((with_reducible apply a_len); rfl; (first | rfl | simp); intro _) | ((with_reducible apply a_build); rfl) | ((with_reducible apply a_extr); rfl; rfl) | ((with_reducible apply a_cond); rfl) | ((with_reducible apply a_guard); rfl) | (with_reducible intro _))
  all_goals refine .pure (by simp) ?_
  all_goals simp only [nx_zero, nx_one, AV.v.injEq, Value.bool.injEq, Value.int.injEq, true_and] at *
  all_goals grind [digB]
theorem con_gletter (b : UInt8) : Con Tryz.prog 126 [byteA b] (bool (letB b)) := by
  refine (V126 _).gives (by simp [byteA]) (by simp) ?_
  unfold W126
  repeat' (first | (with_reducible first | apply w_let | apply w_and | refine And.intro True.intro ?_) | ((with_reducible first | apply a_lss | apply a_leq | apply a_gtr | apply a_geq | apply a_eql | apply a_neq); rfl; rfl) | ((with_reducible first | apply a_eqlS | apply a_neqS | apply a_eqlB | apply a_neqB); rfl; rfl) | ((with_reducible apply w_add); rfl; rfl; first | assumption | (unfold inI; omega)) | ((with_reducible apply w_sub); rfl; rfl; first | assumption | (unfold inI; omega)) | ((with_reducible apply a_not); rfl) | ((with_reducible apply w_pick_t); rfl) | ((with_reducible apply w_pick_f); rfl) | ((with_reducible apply a_cond1); rfl; first | rfl | assumption) | ((with_reducible apply a_cond0); rfl; first | rfl | assumption) | ((with_reducible apply a_guard1); rfl; first | rfl | assumption) | ((with_reducible apply a_guard0); rfl; first | rfl | assumption) | ((with_reducible apply w_guard_u); rfl) | ((with_reducible apply a_pick1); rfl; first | rfl | assumption) | ((with_reducible apply a_pick0); rfl; first | rfl | assumption) | ((with_reducible apply a_pickN); rfl) | ((with_reducible apply a_condN); rfl) | ((with_reducible apply a_guardN); rfl) | ((with_reducible apply w_fad); rfl) | ((with_reducible apply a_fadI); rfl) | ((with_reducible apply w_load); rfl; rfl; rfl) | ((with_reducible apply w_loadI); rfl) | ((with_reducible apply w_loadA); rfl; rfl; first | exact Nat.le_refl _ | exact Nat.le_of_ble_eq_true rfl) | ((with_reducible apply a_eqA); rfl; rfl; rfl) | ((with_reducible apply a_loadAI); rfl; first | rfl | simp) | ((with_reducible apply w_new); first | rfl | simp) | ((with_reducible apply a_store); rfl; rfl; rfl; rfl; (first | exact Nat.le_refl _ | simp); (first | rfl | simp); (first | rfl | simp)) | ((with_reducible apply a_lenS); rfl; intro _) | ((with_reducible apply a_len); rfl; (first | rfl | simp); intro _) | ((with_reducible apply a_build); rfl) | ((with_reducible apply a_extr); rfl; rfl) | ((with_reducible apply a_or); rfl; rfl) | ((with_reducible apply a_cond); rfl) | ((with_reducible apply a_guard); rfl) | (with_reducible intro _))
  all_goals refine .pure (by simp) ?_
  all_goals simp only [nx_zero, nx_one, AV.v.injEq, Value.bool.injEq, Value.int.injEq, true_and] at *
  all_goals grind [letB, orB]
theorem con_gnamed (b : UInt8) : Con Tryz.prog 97 [byteA b] (bool (nmB b)) := by
  refine (V97 _).gives (by simp [byteA]) (by simp) ?_
  unfold W97
  repeat' (first | (with_reducible first | apply w_let | apply w_and | refine And.intro True.intro ?_) | ((with_reducible first | apply a_lss | apply a_leq | apply a_gtr | apply a_geq | apply a_eql | apply a_neq); rfl; rfl) | ((with_reducible first | apply a_eqlS | apply a_neqS | apply a_eqlB | apply a_neqB); rfl; rfl) | ((with_reducible apply w_add); rfl; rfl; first | assumption | (unfold inI; omega)) | ((with_reducible apply w_sub); rfl; rfl; first | assumption | (unfold inI; omega)) | ((with_reducible apply a_not); rfl) | ((with_reducible apply w_pick_t); rfl) | ((with_reducible apply w_pick_f); rfl) | ((with_reducible apply a_cond1); rfl; first | rfl | assumption) | ((with_reducible apply a_cond0); rfl; first | rfl | assumption) | ((with_reducible apply a_guard1); rfl; first | rfl | assumption) | ((with_reducible apply a_guard0); rfl; first | rfl | assumption) | ((with_reducible apply w_guard_u); rfl) | ((with_reducible apply a_pick1); rfl; first | rfl | assumption) | ((with_reducible apply a_pick0); rfl; first | rfl | assumption) | ((with_reducible apply a_pickN); rfl) | ((with_reducible apply a_condN); rfl) | ((with_reducible apply a_guardN); rfl) | ((with_reducible apply w_fad); rfl) | ((with_reducible apply a_fadI); rfl) | ((with_reducible apply w_load); rfl; rfl; rfl) | ((with_reducible apply w_loadI); rfl) | ((with_reducible apply w_loadA); rfl; rfl; first | exact Nat.le_refl _ | exact Nat.le_of_ble_eq_true rfl) | ((with_reducible apply a_eqA); rfl; rfl; rfl) | ((with_reducible apply a_loadAI); rfl; first | rfl | simp) | ((with_reducible apply w_new); first | rfl | simp) | ((with_reducible apply a_store); rfl; rfl; rfl; rfl; (first | exact Nat.le_refl _ | simp); (first | rfl | simp); (first | rfl | simp)) | ((with_reducible apply a_lenS); rfl; intro _) | ((with_reducible apply a_len); rfl; (first | rfl | simp); intro _) | ((with_reducible apply a_build); rfl) | ((with_reducible apply a_extr); rfl; rfl) | (refine iCall_con (by kernel_rfl) (con_gletter _) ?_) | (refine iCall_con (by kernel_rfl) (con_gdigit _) ?_) | ((with_reducible apply a_cond); rfl) | ((with_reducible apply a_guard); rfl) | (with_reducible intro _))
  all_goals refine .pure (by simp) ?_
  all_goals simp only [nx_zero, nx_one, AV.v.injEq, Value.bool.injEq, Value.int.injEq, true_and] at *
  all_goals grind [nmB]
theorem con_pow2 : Con Tryz.prog 170 [int 16] (bool true) := by
  refine (V170 _).gives (by simp) (by simp) ?_
  unfold W170
  refine w_sub rfl rfl (by unfold inI; omega) ?_
  refine a_and rfl rfl (c := 0) (by decide) ?_
  refine a_eql rfl rfl ?_
  exact .pure (by simp) rfl
end
variable [MaxL]
theorem con_tz64 : Con Tryz.prog 193 [.v (.int .u64 16)] (int 4) := by
  refine (V193 _).gives (by simp) (by simp) ?_
  unfold W193
  refine a_eql rfl rfl ?_
  refine a_cond0 rfl (by decide) ?_
  refine a_negU (c := 18446744073709551600) (by decide) rfl (by decide) ?_
  refine a_and (c := 16) rfl rfl (by decide) ?_
  refine a_mulU (c := 4573923408821661840) (by decide) rfl rfl (by decide) ?_
  refine a_shr (c := 15) rfl rfl (by decide) (by decide) ?_
  refine ⟨⟨by decide, by decide⟩, ?_⟩
  refine w_loadI (c := .v (.int .u8 4)) (r := (u8s [0, 1, 56, 2, 57, 49, 28, 3, 61, 58, 42, 50, 38, 29, 17, 4, 62, 47, 59, 36, 45, 43, 51, 22, 53, 39, 33, 30, 24, 18, 12, 5, 63, 55, 48, 27, 60, 41, 37, 16, 46, 35, 44, 21, 52, 32, 23, 11, 54, 26, 40, 15, 34, 20, 31, 10, 25, 14, 19, 9, 13, 8, 7, 6]).drop 16) rfl ?_
  refine a_conv (m := 4) rfl (by decide) ?_
  exact .pure (by simp) rfl
theorem con_tz : Con Tryz.prog 171 [.v (.int .u64 16)] (int 4) := by
  refine (V171 _).gives (by simp) (by simp) ?_
  unfold W171
  refine a_cond0 rfl rfl ?_
  refine iCall_con (by kernel_rfl) con_tz64 ?_
  exact .pure (by simp) rfl
end Go.Proofs.YthblflmjingcfaaGreatDoor
end

section
namespace Go.Proofs.YthblflmjingcfaaGreatDoor
open Go Go.Aw Go.Sel
set_option maxRecDepth 100000
def zer65 : List AV := List.replicate 65 (u8 0)
theorem and15 (b : UInt8) : ibits .and .u64 (b.toNat : Int) 15 = ((b.toNat % 16 : Nat) : Int) := by
  have : ∀ n : Fin 256, ibits .and .u64 ((n.val : Nat) : Int) 15 = ((n.val % 16 : Nat) : Int) := by decide
  exact this ⟨b.toNat, b.toNat_lt⟩
theorem shr4 (b : UInt8) : (b.toNat : Int).fdiv (2 ^ (min (4 : Int).toNat (IntKind.u64).bits)) = ((b.toNat / 16 : Nat) : Int) := by
  have : ∀ n : Fin 256, ((n.val : Nat) : Int).fdiv (2 ^ (min (4 : Int).toNat (IntKind.u64).bits)) = ((n.val / 16 : Nat) : Int) := by decide
  exact this ⟨b.toNat, b.toNat_lt⟩
theorem byR_ok (l : List UInt8) : (byR l).all (rowOK 1) = true := rows_ok (f := fun b => [byteA b]) (fun _ => ⟨rfl, rfl⟩) l
variable [MaxL]
def dg (n : Nat) : AV := byteA (hexD.getD n 0)
theorem acc_fbits {h : Heap} {tid : Nat} {rows : List (List AV)} (c : UInt8) (ht : h[tid]? = some (.tok 5 1 rows.length)) (hr : rows.length ≤ 2 ^ 40) :
    ACall Tryz.prog 134 [.sb tid 1 rows, .v (.int .u64 c.toNat), int 16, ff, tt] h fun r h' => r = .tup [.sb tid 1 (rows ++ byR (hexB c)), .str []] ∧ Gw tid (rows.length + (hexB c).length) h h' := by
  have hlt := tok_lt ht
  have hc : c.toNat < 256 := c.toNat_lt
  refine (V134 _ _ _ _ _).acall ?_
  unfold W134
  refine w_let ?_
  refine a_lss rfl rfl ?_
  refine w_let ?_
  refine a_guard1 rfl rfl ?_
  refine a_eql rfl rfl ?_
  refine w_and ?_
  refine w_pick_f rfl ?_
  refine w_let ?_
  refine a_guard1 rfl rfl ?_
  refine a_gtr rfl rfl ?_
  refine w_and ?_
  refine w_pick_f rfl ?_
  refine w_cond_f rfl ?_
  refine w_and ?_
  refine n_new (h' := h ++ [.blk ⟨213, zer65, true⟩]) (n := h.length) (cs := zer65) rfl rfl rfl rfl ?_
  refine w_let ?_
  refine w_cond_f rfl ?_
  refine w_and ?_
  refine w_let ?_
  refine iCall_con (by kernel_rfl) con_pow2 ?_
  refine a_cond1 rfl rfl ?_
  refine a_conv (m := 16) rfl (by decide) ?_
  refine iCall_con (by kernel_rfl) con_tz ?_
  refine a_conv (m := 4) rfl (by decide) ?_
  refine a_conv (m := 16) rfl (by decide) ?_
  refine a_conv (m := 16) rfl (by decide) ?_
  refine a_subU (c := 15) (by decide) rfl rfl (by decide) ?_
  have blk1 : ∀ x : Blk, (h ++ [Ent.blk x])[h.length]? = some (.blk x) := fun x => by simp
  refine iLoop_of (α := Bool) (fun k => k = true → 16 ≤ c.toNat) (fun k => if k then [.v (.int .u64 ((c.toNat / 16 : Nat) : Int)), int 64] else [.v (.int .u64 c.toNat), int 65])
    (fun k => h ++ [.blk ⟨213, if k then zer65.set 64 (dg (c.toNat % 16)) else zer65, true⟩]) (fun k => if k then 0 else 1) false (by simp) (Wk.refl _ _ _ (Nat.le_refl _)) ?_
  have fin : ∀ (cs : List AV) (o : Nat), cs.length = 65 → o ≤ 64 → cs.drop o = (hexB c).map byteA → 65 - o = (hexB c).length →
      iSlA 65 1 (.op h.length 0) (some (int o)) none (h ++ [.blk ⟨213, cs, true⟩]) fun v70 => iApp false 5 1 1 (.sb tid 1 rows) v70 (h ++ [.blk ⟨213, cs, true⟩]) fun v71 g72 =>
        ∃ r' h'', Wk h.length [.tup [v71, .str []]] g72 [r'] h'' ∧ r' = .tup [.sb tid 1 (rows ++ byR (hexB c)), .str []] ∧ Gw tid (rows.length + (hexB c).length) h h'' := by
    intro cs o hl ho hd hn
    unfold iSlA
    simp only [optI, blk1]
    refine ⟨⟨by omega, by omega, by omega, by decide, by decide⟩, ?_⟩
    have e1 : (65 - (o : Int)).toNat = (hexB c).length := by omega
    have e2 : 0 + (o : Int).toNat * 1 = o := by omega
    rw [show ((65 : Nat) : Int) = 65 from rfl, e1, e2]
    refine n_appB (rows := byR (hexB c)) (k := rows.length) rfl (by rw [List.getElem?_append_left hlt]; exact ht) rfl ?_ (byR_ok _) ⟨by unfold maxLen; have := hexB_len c; simp; omega, by have := hexB_len c; simp; omega⟩ rfl ?_
    · rw [srcR_own (blk1 _) (by simp only; omega)]
      simp only [hd]
      congr 1
      have := chunks_rows (sz := 1) (byR (hexB c)) (byR_ok _)
      rw [← this]
      congr 1
      · simp
      · clear this hd hn; induction hexB c with
        | nil => rfl
        | cons a l ih => simp [ih]
    · rw [List.set_append_left _ _ hlt]
      exact ⟨_, _, Wk.refl _ _ _ (by simp), rfl, ⟨_, by rw [show (byR (hexB c)).length = (hexB c).length by simp]⟩⟩
  intro k hk
  cases k with
  | false =>
    by_cases q : 16 ≤ c.toNat
    · refine a_geq rfl rfl ?_
      refine a_cond1 rfl (decide_eq_true (by omega)) ?_
      refine w_sub (a := 65) (b := 1) rfl rfl (by unfold inI; omega) ?_
      refine a_and rfl rfl (and15 c) ?_
      refine a_idx8 rfl rfl (n := c.toNat % 16) (by show _ < 36; omega) ?_
      refine a_idxQ8 (n := 64) rfl rfl (by omega) ?_
      refine n_store (b := ⟨213, zer65, true⟩) (cs := [dg (c.toNat % 16)]) (h' := h ++ [.blk ⟨213, zer65.set 64 (dg (c.toNat % 16)), true⟩]) rfl (blk1 _) rfl rfl (by simp [zer65]) rfl rfl (by simp [setAll]) ?_
      refine a_shr rfl rfl (by decide) (shr4 c) ?_
      refine w_and ?_
      exact ⟨true, fun _ => q, Wk.refl _ _ _ (by simp), by simp⟩
    · have hx : hexB c = [hexD.getD c.toNat 0] := by unfold hexB; rw [if_neg q]
      refine a_geq rfl rfl ?_
      refine a_cond0 rfl (decide_eq_false (by omega)) ?_
      refine w_sub (a := 65) (b := 1) rfl rfl (by unfold inI; omega) ?_
      refine a_idx8 rfl rfl (n := c.toNat) (by show _ < 36; omega) ?_
      refine a_idxQ8 (n := 64) rfl rfl (by omega) ?_
      refine n_store (b := ⟨213, zer65, true⟩) (cs := [dg c.toNat]) (h' := h ++ [.blk ⟨213, zer65.set 64 (dg c.toNat), true⟩]) rfl (blk1 _) rfl rfl (by simp [zer65]) rfl rfl (by simp [setAll]) ?_
      refine w_and ?_
      refine w_let ?_
      refine w_cond_f rfl ?_
      refine w_and ?_
      refine w_cond_t rfl ?_
      exact fin (zer65.set 64 (dg c.toNat)) 64 (by simp [zer65]) (by omega) (by rw [hx]; rfl) (by rw [hx]; rfl)
  | true =>
    have q := hk rfl
    have hx : hexB c = [hexD.getD (c.toNat / 16) 0, hexD.getD (c.toNat % 16) 0] := by unfold hexB; rw [if_pos q]
    refine a_geq rfl rfl ?_
    refine a_cond0 rfl (decide_eq_false (by omega)) ?_
    refine w_sub (a := 64) (b := 1) rfl rfl (by unfold inI; omega) ?_
    refine a_idx8 rfl rfl (n := c.toNat / 16) (by show _ < 36; omega) ?_
    refine a_idxQ8 (n := 63) rfl rfl (by omega) ?_
    refine n_store (b := ⟨213, zer65.set 64 (dg (c.toNat % 16)), true⟩) (cs := [dg (c.toNat / 16)]) (h' := h ++ [.blk ⟨213, (zer65.set 64 (dg (c.toNat % 16))).set 63 (dg (c.toNat / 16)), true⟩]) rfl (blk1 _) rfl rfl (by simp [zer65]) rfl rfl (by simp [setAll]) ?_
    refine w_and ?_
    refine w_let ?_
    refine w_cond_f rfl ?_
    refine w_and ?_
    refine w_cond_t rfl ?_
    exact fin ((zer65.set 64 (dg (c.toNat % 16))).set 63 (dg (c.toNat / 16))) 63 (by simp [zer65]) (by omega) (by rw [hx]; rfl) (by rw [hx]; rfl)
theorem acc_appU1 {h : Heap} {tid : Nat} {rows : List (List AV)} (c : UInt8) (ht : h[tid]? = some (.tok 5 1 rows.length)) (hr : rows.length ≤ 2 ^ 40) :
    ACall Tryz.prog 161 [.sb tid 1 rows, .v (.int .u64 c.toNat), int 16] h fun r h' => r = .sb tid 1 (rows ++ byR (hexB c)) ∧ Gw tid (rows.length + (hexB c).length) h h' := by
  refine (V161 _ _ _).acall ?_
  unfold W161
  refine a_eql rfl rfl ?_
  refine a_cond0 rfl rfl ?_
  refine a_acall (by kernel_rfl) rfl (acc_fbits c ht hr) ?_
  rintro _ h' ⟨rfl, g⟩
  refine a_extr rfl rfl ?_
  refine a_extr rfl rfl ?_
  exact ⟨_, _, Wk.refl _ _ _ g.len, rfl, g⟩
theorem acc_appU {h : Heap} {tid : Nat} {rows : List (List AV)} (c : UInt8) (ht : h[tid]? = some (.tok 5 1 rows.length)) (hr : rows.length ≤ 2 ^ 40) :
    ACall Tryz.prog 128 [.sb tid 1 rows, .v (.int .u64 c.toNat), int 16] h fun r h' => r = .sb tid 1 (rows ++ byR (hexB c)) ∧ Gw tid (rows.length + (hexB c).length) h h' := by
  refine (V128 _ _ _).acall ?_
  unfold W128
  refine a_acall (by kernel_rfl) rfl (acc_appU1 c ht hr) ?_
  rintro _ h' ⟨rfl, g⟩
  exact ⟨_, _, Wk.refl _ _ _ g.len, rfl, g⟩
omit [MaxL] in
/-- Bytes behind a slice that grows. -/
theorem g_app {own : Bool} {h : Heap} {tid : Nat} {x y : AV} {rows : List (List AV)} (l : List UInt8) {K : AV → Heap → Prop} (ex : x = .sb tid 1 rows) (ey : y = .sl 1 (byR l)) (ht : h[tid]? = some (.tok 5 1 rows.length)) (hr : rows.length + l.length ≤ 2 ^ 41)
    (q : K (.sb tid 1 (rows ++ byR l)) (h.set tid (.tok 5 1 (rows.length + l.length)))) : iApp own 5 1 1 x y h K := by
  subst ey
  refine n_appB (rows := byR l) (k := rows.length) ex ht rfl srcR_sl (byR_ok _) ⟨by unfold maxLen; simp; omega, by simp; omega⟩ rfl ?_
  simpa using q
theorem acc_escape {h : Heap} {tid : Nat} {rows : List (List AV)} (c : UInt8) (ht : h[tid]? = some (.tok 5 1 rows.length)) (hr : rows.length ≤ 2 ^ 39) :
    ACall Tryz.prog 101 [.sb tid 1 rows, byteA c] h fun r h' => r = .sb tid 1 (rows ++ byR (escB c)) ∧ Gw tid (rows.length + (escB c).length) h h' := by
  have hlt := tok_lt ht
  refine (V101 _ _).acall ?_
  unfold W101
  have yes : ∀ {K : AV → Heap → Prop}, plainE c = true → K (.sb tid 1 (rows ++ byR (escB c))) (h.set tid (.tok 5 1 (rows.length + (escB c).length))) →
      iMkSlP 2 1 (u8 0) [(0, 1, (u8 92)), (1, 1, byteA c)] fun v21 => iApp false 5 1 1 (.sb tid 1 rows) v21 h K := by
    intro K e q
    have e' : escB c = [92, c] := by unfold escB; rw [if_pos e]
    refine a_mkP2 ?_
    refine g_app [92, c] rfl rfl ht (by simp; omega) ?_
    rw [e'] at q
    exact q
  have no : ∀ {K : AV → Heap → Prop}, plainE c = false → (∀ h', Gw tid (rows.length + (escB c).length) h h' → K (.sb tid 1 (rows ++ byR (escB c))) h') →
      iMkSlP 1 1 (u8 0) [(0, 1, (u8 92))] fun v24 => iApp false 5 1 1 (.sb tid 1 rows) v24 h fun v25 g26 => iConv .u64 (byteA c) fun v27 => iCall Tryz.prog (.fn (.func 128) [] []) [v25, v27, (int 16)] g26 fun v28 g29 => iMkSlP 1 1 (u8 0) [(0, 1, (u8 32))] fun v30 => iApp false 5 1 1 v28 v30 g29 K := by
    intro K e q
    have e' : escB c = [92] ++ hexB c ++ [32] := by unfold escB; rw [e]; rfl
    have hx := hexB_len c
    refine a_mkP1 ?_
    refine g_app [92] rfl rfl ht (by simp; omega) ?_
    have hc := c.toNat_lt
    refine a_conv (m := (c.toNat : Int)) rfl (by have : ∀ n : Fin 256, IntKind.wrap .u64 ((n.val : Nat) : Int) = ((n.val : Nat) : Int) := by decide
                                                 exact this ⟨c.toNat, hc⟩) ?_
    refine a_acall (by kernel_rfl) rfl (acc_appU c (by rw [List.getElem?_set_self hlt]; simp) (by simp; omega)) ?_
    rintro _ h' ⟨rfl, g⟩
    have g1 : Gw tid ((rows ++ byR [92]).length + (hexB c).length) h h' := (Gw.set tid _ h).trans hlt g
    refine a_mkP1 ?_
    refine g_app [32] rfl rfl (by rw [g1.tok hlt]; simp; omega) (by simp; omega) ?_
    have := q (h'.set tid (.tok 5 1 (rows.length + (escB c).length))) (g1.trans hlt (Gw.set tid _ h'))
    rw [e'] at this
    simpa [Nat.add_assoc] using this
  repeat' (first | (with_reducible first | apply w_let | apply w_and | refine And.intro True.intro ?_) | ((with_reducible first | apply a_lss | apply a_leq | apply a_gtr | apply a_geq | apply a_eql | apply a_neq); rfl; rfl) | ((with_reducible first | apply a_eqlS | apply a_neqS | apply a_eqlB | apply a_neqB); rfl; rfl) | ((with_reducible apply w_add); rfl; rfl; first | assumption | (unfold inI; omega)) | ((with_reducible apply w_sub); rfl; rfl; first | assumption | (unfold inI; omega)) | ((with_reducible apply a_not); rfl) | ((with_reducible apply w_pick_t); rfl) | ((with_reducible apply w_pick_f); rfl) | ((with_reducible apply a_cond1); rfl; first | rfl | assumption) | ((with_reducible apply a_cond0); rfl; first | rfl | assumption) | ((with_reducible apply a_guard1); rfl; first | rfl | assumption) | ((with_reducible apply a_guard0); rfl; first | rfl | assumption) | ((with_reducible apply w_guard_u); rfl) | ((with_reducible apply a_pick1); rfl; first | rfl | assumption) | ((with_reducible apply a_pick0); rfl; first | rfl | assumption) | ((with_reducible apply a_pickN); rfl) | ((with_reducible apply a_condN); rfl) | ((with_reducible apply a_guardN); rfl) | ((with_reducible apply w_fad); rfl) | ((with_reducible apply a_fadI); rfl) | ((with_reducible apply w_load); rfl; rfl; rfl) | ((with_reducible apply w_loadI); rfl) | ((with_reducible apply w_loadA); rfl; rfl; first | exact Nat.le_refl _ | exact Nat.le_of_ble_eq_true rfl) | ((with_reducible apply a_eqA); rfl; rfl; rfl) | ((with_reducible apply a_loadAI); rfl; first | rfl | simp) | ((with_reducible apply w_new); first | rfl | simp) | ((with_reducible apply a_store); rfl; rfl; rfl; rfl; (first | exact Nat.le_refl _ | simp); (first | rfl | simp); (first | rfl | simp)) | ((with_reducible apply a_lenS); rfl; intro _) | ((with_reducible apply a_len); rfl; (first | rfl | simp); intro _) | ((with_reducible apply a_build); rfl) | ((with_reducible apply a_extr); rfl; rfl) | (refine iCall_con (by kernel_rfl) (con_gdigit _) ?_) | (refine iCall_con (by kernel_rfl) (con_gletter _) ?_) | ((with_reducible apply a_cond); rfl) | ((with_reducible apply a_guard); rfl) | (with_reducible intro _))
  all_goals first
    | refine yes (by grind [plainE]) ⟨_, _, Wk.refl _ _ _ (by simp), rfl, Gw.set _ _ _⟩
    | refine no (by grind [plainE]) fun h' g => ⟨_, _, Wk.refl _ _ _ g.len, rfl, g⟩
end Go.Proofs.YthblflmjingcfaaGreatDoor
end

section
namespace Go.Proofs.YthblflmjingcfaaGreatDoor
open Go Go.Aw Go.Sel
set_option maxRecDepth 100000
def fstN (s : Str) : Nat := if s.take 1 = [45] then 2 else 1
def rawN (s : Str) (fr i : Nat) (c : UInt8) : Bool := nmB c && (decide ((fr : Int) ≤ (i : Int)) || !digB c) && (decide ((fr : Int) = 0) || !decide (s = [45]))
def nmP (s : Str) (fr i : Nat) (c : UInt8) : Str := if rawN s fr i c then [c] else escB c
def nmK (s : Str) (fr k : Nat) : Str := (List.range k).flatMap fun i => nmP s fr i (s.getD i 0)
/-- A text as a name. -/
def nmT (s : Str) : Str := nmK s (fstN s) s.length
theorem nmP_len (s : Str) (fr i : Nat) (c : UInt8) : (nmP s fr i c).length ≤ 4 := by unfold nmP; have := escB_len c; split <;> simp; omega
theorem nmK_next (s : Str) (fr k : Nat) : nmK s fr (k + 1) = nmK s fr k ++ nmP s fr k (s.getD k 0) := by
  unfold nmK; rw [List.range_succ, List.flatMap_append]; simp
theorem nmK_len (s : Str) (fr : Nat) : ∀ k, (nmK s fr k).length ≤ 4 * k
  | 0 => by simp [nmK]
  | k + 1 => by
    have := nmK_len s fr k
    have h2 := nmP_len s fr k (s.getD k 0)
    rw [nmK_next, List.length_append]; omega
theorem Gw.refl {tid m : Nat} {h : Heap} (ht : h[tid]? = some (.tok 5 1 m)) : Gw tid m h h := ⟨[], by rw [set_same ht]; simp⟩
variable [MaxL]
theorem con_gpre (l m : Str) : Con Tryz.prog 125 [.str l, .str m] (bool (decide (m.length ≤ l.length) && decide (l.take m.length = m))) := by
  refine (V125 _ _).gives (by simp) (by simp) ?_
  unfold W125
  by_cases h1 : m.length ≤ l.length
  · simp [h1]
    refine fun _ _ => .pure (by simp) (by simp)
  · simp [h1]
    refine fun _ _ => .pure (by simp) (by simp)
theorem con_gfirst (s : Str) : Con Tryz.prog 100 [.str s] (int (fstN s)) := by
  refine (V100 _).gives (by simp) (by simp) ?_
  unfold W100
  have pre : Con Tryz.prog 96 [.str s, .str [45]] (bool (decide (s.take 1 = [45]))) := by
    refine (V96 _ _).gives (by simp) (by simp) ?_
    unfold W96
    refine iCall_con (by kernel_rfl) (con_gpre s [45]) ?_
    refine .pure (by simp) ?_
    congr 2
    cases s <;> simp
  refine iCall_con (by kernel_rfl) pre ?_
  refine a_cond rfl (fun q => ?_) fun q => ?_
  · exact .pure (by simp) (by unfold fstN; rw [if_pos (by simpa using q)]; rfl)
  · exact .pure (by simp) (by unfold fstN; rw [if_neg (by simpa using q)]; rfl)
theorem name_loop {h0 h : Heap} {x0 : AV} {tid : Nat} {base : List (List AV)} (s : Str) (fr : Nat) (ht : h[tid]? = some (.tok 5 1 base.length)) (hb : base.length ≤ 2 ^ 38) (hs : s.length ≤ 2 ^ 35)
    (w0 : Wk h0.length [x0, int 0] h0 [.sb tid 1 base, int 0] h) {K : AV → Heap → Prop} (k : ∀ H, Gw tid (base.length + (nmK s fr s.length).length) h H → K (.sb tid 1 (base ++ byR (nmK s fr s.length))) H) : W99 x0 (.str s) (int fr) h0 K := by
  have hlt := tok_lt ht
  have h0l : h0.length ≤ h.length := w0.1
  unfold W99
  refine a_lenS rfl fun _ => ?_
  refine iLoop_of (α := Nat × Heap) (fun p => p.1 ≤ s.length ∧ Gw tid (base.length + (nmK s fr p.1).length) h p.2) (fun p => [.sb tid 1 (base ++ byR (nmK s fr p.1)), int p.1]) (fun p => p.2) (fun p => s.length - p.1) (0, h) ⟨by simp, by simpa [nmK] using Gw.refl ht⟩ (by simpa [nmK] using w0) ?_
  rintro ⟨i, H⟩ ⟨hi, g⟩
  simp only at hi g ⊢
  have hl := nmK_len s fr i
  by_cases q : i < s.length
  · obtain ⟨c, hc⟩ : ∃ c, s[i]? = some c := ⟨s[i], List.getElem?_eq_getElem q⟩
    have hcd : s.getD i 0 = c := by rw [List.getD_eq_getElem?_getD, hc]; rfl
    refine a_lss rfl rfl ?_
    refine a_cond1 rfl (decide_eq_true (by omega)) ?_
    refine w_let ?_
    refine a_idxS rfl rfl hc ?_
    have htok := g.tok hlt
    have leaf : ∀ {H' : Heap} {x : List (List AV)}, x = base ++ byR (nmK s fr i) ++ byR (nmP s fr i c) → Gw tid (base.length + (nmK s fr i).length + (nmP s fr i c).length) h H' →
        ∃ y : Nat × Heap, (y.1 ≤ s.length ∧ Gw tid (base.length + (nmK s fr y.1).length) h y.2) ∧ Wk h0.length [.sb tid 1 x, int ((i : Int) + 1)] H' [.sb tid 1 (base ++ byR (nmK s fr y.1)), int y.1] y.2 ∧ s.length - y.1 < s.length - i := by
      intro H' x ex g'
      subst ex
      refine ⟨(i + 1, H'), ⟨by omega, ?_⟩, ?_, by omega⟩
      · simp only [nmK_next, hcd, List.length_append]
        rw [← Nat.add_assoc]; exact g'
      · simp only [nmK_next, hcd, List.map_append, ← List.append_assoc]
        exact Wk.refl _ _ _ (Nat.le_trans h0l g'.len)
    have hin : inI ((i : Int) + 1) := by unfold inI; omega
    have yes : ∀ {K : AV → Heap → Prop} {x : AV}, x = .sb tid 1 (base ++ byR (nmK s fr i)) → rawN s fr i c = true → K (.sb tid 1 (base ++ byR (nmK s fr i) ++ byR (nmP s fr i c))) (H.set tid (.tok 5 1 (base.length + (nmK s fr i).length + (nmP s fr i c).length))) →
        iMkSlP 1 1 (u8 0) [(0, 1, byteA c)] fun v38 => iApp false 5 1 1 x v38 H K := by
      intro K x ex e q
      subst ex
      have e' : nmP s fr i c = [c] := by unfold nmP; rw [if_pos e]
      refine a_mkP1 ?_
      refine g_app [c] rfl rfl (by rw [htok]; simp) (by simp; omega) ?_
      rw [e'] at q
      simpa [Nat.add_assoc] using q
    have no : ∀ {K : AV → Heap → Prop} {x : AV}, x = .sb tid 1 (base ++ byR (nmK s fr i)) → rawN s fr i c = false → (∀ H', Gw tid (base.length + (nmK s fr i).length + (nmP s fr i c).length) h H' → K (.sb tid 1 (base ++ byR (nmK s fr i) ++ byR (nmP s fr i c))) H') →
        iCall Tryz.prog (.fn (.func 101) [] []) [x, byteA c] H K := by
      intro K x ex e q
      subst ex
      have e' : nmP s fr i c = escB c := by unfold nmP; rw [e]; rfl
      refine a_acall (by kernel_rfl) rfl (acc_escape c (by rw [htok]; simp) (by simp; omega)) ?_
      rintro _ H' ⟨rfl, g'⟩
      rw [← e'] at g' ⊢
      exact q H' (g.trans hlt (by simpa using g'))
    repeat' (first | (with_reducible first | apply w_let | apply w_and | refine And.intro True.intro ?_) | ((with_reducible first | apply a_lss | apply a_leq | apply a_gtr | apply a_geq | apply a_eql | apply a_neq); rfl; rfl) | ((with_reducible first | apply a_eqlS | apply a_neqS | apply a_eqlB | apply a_neqB); rfl; rfl) | ((with_reducible apply w_add); rfl; rfl; first | assumption | (unfold inI; omega)) | ((with_reducible apply w_sub); rfl; rfl; first | assumption | (unfold inI; omega)) | ((with_reducible apply a_not); rfl) | ((with_reducible apply w_pick_t); rfl) | ((with_reducible apply w_pick_f); rfl) | ((with_reducible apply a_cond1); rfl; first | rfl | assumption) | ((with_reducible apply a_cond0); rfl; first | rfl | assumption) | ((with_reducible apply a_guard1); rfl; first | rfl | assumption) | ((with_reducible apply a_guard0); rfl; first | rfl | assumption) | ((with_reducible apply w_guard_u); rfl) | ((with_reducible apply a_pick1); rfl; first | rfl | assumption) | ((with_reducible apply a_pick0); rfl; first | rfl | assumption) | ((with_reducible apply a_pickN); rfl) | ((with_reducible apply a_condN); rfl) | ((with_reducible apply a_guardN); rfl) | ((with_reducible apply w_fad); rfl) | ((with_reducible apply a_fadI); rfl) | ((with_reducible apply w_load); rfl; rfl; rfl) | ((with_reducible apply w_loadI); rfl) | ((with_reducible apply w_loadA); rfl; rfl; first | exact Nat.le_refl _ | exact Nat.le_of_ble_eq_true rfl) | ((with_reducible apply a_eqA); rfl; rfl; rfl) | ((with_reducible apply a_loadAI); rfl; first | rfl | simp) | ((with_reducible apply w_new); first | rfl | simp) | ((with_reducible apply a_store); rfl; rfl; rfl; rfl; (first | exact Nat.le_refl _ | simp); (first | rfl | simp); (first | rfl | simp)) | ((with_reducible apply a_lenS); rfl; intro _) | ((with_reducible apply a_len); rfl; (first | rfl | simp); intro _) | ((with_reducible apply a_build); rfl) | ((with_reducible apply a_extr); rfl; rfl) | (refine iCall_con (by kernel_rfl) (con_gnamed _) ?_) | (refine iCall_con (by kernel_rfl) (con_gdigit _) ?_) | ((with_reducible apply a_cond); rfl) | ((with_reducible apply a_guard); rfl) | (with_reducible intro _))
    all_goals first
      | refine yes rfl (by grind [rawN]) ?_
        refine And.intro True.intro ?_
        refine w_add rfl rfl hin ?_
        refine And.intro True.intro ?_
        exact leaf rfl (g.trans hlt (Gw.set _ _ _))
      | refine no rfl (by grind [rawN]) fun H' g' => ?_
        refine And.intro True.intro ?_
        refine w_add rfl rfl hin ?_
        refine And.intro True.intro ?_
        exact leaf rfl g'
  · obtain rfl : i = s.length := by omega
    refine a_lss rfl rfl ?_
    refine a_cond0 rfl (decide_eq_false (by omega)) ?_
    exact k H g
theorem acc_name {h : Heap} {tid : Nat} {base : List (List AV)} (s : Str) (fr : Nat) (ht : h[tid]? = some (.tok 5 1 base.length)) (hb : base.length ≤ 2 ^ 38) (hs : s.length ≤ 2 ^ 35) :
    ACall Tryz.prog 99 [.sb tid 1 base, .str s, int fr] h fun r h' => r = .sb tid 1 (base ++ byR (nmK s fr s.length)) ∧ Gw tid (base.length + (nmK s fr s.length).length) h h' := by
  refine (V99 _ _ _).acall ?_
  refine name_loop s fr ht hb hs (Wk.refl _ _ _ (Nat.le_refl _)) fun H g => ?_
  exact ⟨_, _, Wk.refl _ _ _ g.len, rfl, g⟩
theorem acc_name0 {h : Heap} (s : Str) (fr : Nat) (hs : s.length ≤ 2 ^ 35) :
    ACall Tryz.prog 99 [.v (.slice none 0 0), .str s, int fr] h fun r h' => r = .sb h.length 1 (byR (nmK s fr s.length)) ∧ ∃ j, h' = h ++ j := by
  refine (V99 _ _ _).acall ?_
  refine name_loop (h := h ++ [.tok 5 1 0]) (tid := h.length) (base := []) s fr (by simp) (by simp) hs ?_ fun H g => ?_
  · exact (Wk.nil (Nat.le_refl _) 0 rfl).trans (Wk.tok (Nat.le_refl _) 0 5 1 rfl)
  · obtain ⟨j, rfl⟩ := g
    refine ⟨_, _, Wk.refl _ _ _ (by simp), by simp, ?_⟩
    rw [List.set_append_right _ _ (Nat.le_refl _), List.append_assoc]
    exact ⟨_, rfl⟩
end Go.Proofs.YthblflmjingcfaaGreatDoor
end

section
namespace Go.Proofs.YthblflmjingcfaaGreatDoor
open Go Go.Aw Go.Sel
set_option maxRecDepth 100000
/-- Bytes that stand as an escape in a text in quotes. -/
def quB (c : UInt8) : Bool := decide (0 ≤ Lib.indexByte [10, 12, 13, 34, 92] c)
def quP (c : UInt8) : Str := if quB c then escB c else [c]
def quT (s : Str) : Str := [34] ++ s.flatMap quP ++ [34]
def tokA (k : Int) (s : Str) (f : Bool) : AV := .agg [u8 k, .str s, int 0, .str [], bool f]
theorem quP_len (c : UInt8) : (quP c).length ≤ 4 := by unfold quP; have := escB_len c; split <;> simp; omega
theorem quK_len : ∀ (s : Str), (s.flatMap quP).length ≤ 4 * s.length
  | [] => by simp
  | c :: s => by
    have := quK_len s
    have h2 := quP_len c
    simp only [List.flatMap_cons, List.length_append, List.length_cons]; omega
theorem quK_next {s : Str} {i : Nat} {c : UInt8} (hc : s[i]? = some c) : (s.take (i + 1)).flatMap quP = (s.take i).flatMap quP ++ quP c := by
  rw [List.take_add_one, hc, List.flatMap_append]; simp
variable [MaxL]
theorem con_indexByte (s : Str) (b : UInt8) : Con Tryz.prog 94 [.str s, byteA b] (int (Lib.indexByte s b)) := by
  refine con_below (v := .int .i64 (Lib.indexByte s b)) (by simp [byteA]) (by simp) (by simp) (fun w => by simp) ?_
  intro ι S w vs h1 _
  match vs, h1 with
  | [], h1 => simp at h1
  | [v], h1 => simp at h1
  | v :: u :: x :: vs, h1 => simp at h1
  | [v, u], h1 =>
    simp only [byteA, RepL_cons, RepL_nil, and_true, Rep_str, Rep_v] at h1
    obtain ⟨⟨rfl, _⟩, rfl⟩ := h1
    refine (Any.strings_IndexByte lays137 ⟨s.toArray⟩ (b.toNat : Int) w).mono ?_
    rintro e w' ⟨rfl, rfl⟩
    exact ⟨by simp, Go.RowKit.Below.refl _ _⟩
omit [MaxL] in
theorem a_addS {x y : AV} {a b c : Str} {K : AV → Prop} (ex : x = .str a) (ey : y = .str b) (hc : a ++ b = c) (hl : c.length ≤ maxLen) (q : K (.str c)) : iBin .add x y K := by
  subst ex; subst ey; subst hc
  exact ⟨by simpa using hl, q⟩
/-- The tokens that names and values are. -/
def tokOK (k : Int) (s : Str) (f : Bool) : Prop := (k = 1 ∧ f = false ∧ s ≠ []) ∨ (k = 4 ∧ f = true ∧ s ≠ []) ∨ (k = 5 ∧ f = false)
theorem con_fine (k : Int) (s : Str) (f : Bool) (ok : tokOK k s f) (hz : noZero s = true) (hs : s.length ≤ 2 ^ 35) : Con Tryz.prog 69 [tokA k s f] (bool true) := by
  have hi : Lib.indexByte s 0 < 0 := by
    have := index_noZero s
    rw [hz] at this
    simpa using this
  refine (V69 _).gives (by simp [tokA]) (by simp) ?_
  unfold W69 tokA
  refine n_new (h' := [.blk ⟨86, [u8 k, .str s, int 0, .str [], bool f], true⟩]) (n := 0) (cs := [u8 k, .str s, int 0, .str [], bool f]) rfl rfl rfl rfl ?_
  refine w_fad rfl ?_
  refine w_load rfl rfl rfl ?_
  refine w_fad rfl ?_
  refine w_load rfl rfl rfl ?_
  refine a_addS rfl rfl (List.append_nil s) (by unfold maxLen; omega) ?_
  refine iCall_con (by kernel_rfl) (con_indexByte0 s) ?_
  refine w_lss true rfl rfl (decide_eq_true hi) ?_
  rcases ok with ⟨rfl, rfl, hn⟩ | ⟨rfl, rfl, hn⟩ | ⟨rfl, rfl⟩
  · obtain ⟨c, l, rfl⟩ := List.exists_cons_of_ne_nil hn
    repeat' (first | (with_reducible first | apply w_let | apply w_and | refine And.intro True.intro ?_) | ((with_reducible first | apply a_lss | apply a_leq | apply a_gtr | apply a_geq | apply a_eql | apply a_neq); rfl; rfl) | ((with_reducible first | apply a_eqlS | apply a_neqS | apply a_eqlB | apply a_neqB); rfl; rfl) | ((with_reducible apply w_add); rfl; rfl; first | assumption | (unfold inI; omega)) | ((with_reducible apply w_sub); rfl; rfl; first | assumption | (unfold inI; omega)) | ((with_reducible apply a_not); rfl) | ((with_reducible apply w_pick_t); rfl) | ((with_reducible apply w_pick_f); rfl) | ((with_reducible apply a_cond1); rfl; first | rfl | assumption) | ((with_reducible apply a_cond0); rfl; first | rfl | assumption) | ((with_reducible apply a_guard1); rfl; first | rfl | assumption) | ((with_reducible apply a_guard0); rfl; first | rfl | assumption) | ((with_reducible apply w_guard_u); rfl) | ((with_reducible apply a_pick1); rfl; first | rfl | assumption) | ((with_reducible apply a_pick0); rfl; first | rfl | assumption) | ((with_reducible apply a_pickN); rfl) | ((with_reducible apply a_condN); rfl) | ((with_reducible apply a_guardN); rfl) | ((with_reducible apply w_fad); rfl) | ((with_reducible apply a_fadI); rfl) | ((with_reducible apply w_load); rfl; rfl; rfl) | ((with_reducible apply w_loadI); rfl) | ((with_reducible apply w_loadA); rfl; rfl; first | exact Nat.le_refl _ | exact Nat.le_of_ble_eq_true rfl) | ((with_reducible apply a_eqA); rfl; rfl; rfl) | ((with_reducible apply a_loadAI); rfl; first | rfl | simp) | ((with_reducible apply w_new); first | rfl | simp) | ((with_reducible apply a_store); rfl; rfl; rfl; rfl; (first | exact Nat.le_refl _ | simp); (first | rfl | simp); (first | rfl | simp)) | ((with_reducible apply a_lenS); rfl; intro _) | ((with_reducible apply a_len); rfl; (first | rfl | simp); intro _) | ((with_reducible apply a_build); rfl) | ((with_reducible apply a_extr); rfl; rfl) | ((with_reducible apply a_cond); rfl) | ((with_reducible apply a_guard); rfl) | (with_reducible intro _))
    all_goals exact .pure (by simp) rfl
  · obtain ⟨c, l, rfl⟩ := List.exists_cons_of_ne_nil hn
    repeat' (first | (with_reducible first | apply w_let | apply w_and | refine And.intro True.intro ?_) | ((with_reducible first | apply a_lss | apply a_leq | apply a_gtr | apply a_geq | apply a_eql | apply a_neq); rfl; rfl) | ((with_reducible first | apply a_eqlS | apply a_neqS | apply a_eqlB | apply a_neqB); rfl; rfl) | ((with_reducible apply w_add); rfl; rfl; first | assumption | (unfold inI; omega)) | ((with_reducible apply w_sub); rfl; rfl; first | assumption | (unfold inI; omega)) | ((with_reducible apply a_not); rfl) | ((with_reducible apply w_pick_t); rfl) | ((with_reducible apply w_pick_f); rfl) | ((with_reducible apply a_cond1); rfl; first | rfl | assumption) | ((with_reducible apply a_cond0); rfl; first | rfl | assumption) | ((with_reducible apply a_guard1); rfl; first | rfl | assumption) | ((with_reducible apply a_guard0); rfl; first | rfl | assumption) | ((with_reducible apply w_guard_u); rfl) | ((with_reducible apply a_pick1); rfl; first | rfl | assumption) | ((with_reducible apply a_pick0); rfl; first | rfl | assumption) | ((with_reducible apply a_pickN); rfl) | ((with_reducible apply a_condN); rfl) | ((with_reducible apply a_guardN); rfl) | ((with_reducible apply w_fad); rfl) | ((with_reducible apply a_fadI); rfl) | ((with_reducible apply w_load); rfl; rfl; rfl) | ((with_reducible apply w_loadI); rfl) | ((with_reducible apply w_loadA); rfl; rfl; first | exact Nat.le_refl _ | exact Nat.le_of_ble_eq_true rfl) | ((with_reducible apply a_eqA); rfl; rfl; rfl) | ((with_reducible apply a_loadAI); rfl; first | rfl | simp) | ((with_reducible apply w_new); first | rfl | simp) | ((with_reducible apply a_store); rfl; rfl; rfl; rfl; (first | exact Nat.le_refl _ | simp); (first | rfl | simp); (first | rfl | simp)) | ((with_reducible apply a_lenS); rfl; intro _) | ((with_reducible apply a_len); rfl; (first | rfl | simp); intro _) | ((with_reducible apply a_build); rfl) | ((with_reducible apply a_extr); rfl; rfl) | ((with_reducible apply a_cond); rfl) | ((with_reducible apply a_guard); rfl) | (with_reducible intro _))
    all_goals exact .pure (by simp) rfl
  · repeat' (first | (with_reducible first | apply w_let | apply w_and | refine And.intro True.intro ?_) | ((with_reducible first | apply a_lss | apply a_leq | apply a_gtr | apply a_geq | apply a_eql | apply a_neq); rfl; rfl) | ((with_reducible first | apply a_eqlS | apply a_neqS | apply a_eqlB | apply a_neqB); rfl; rfl) | ((with_reducible apply w_add); rfl; rfl; first | assumption | (unfold inI; omega)) | ((with_reducible apply w_sub); rfl; rfl; first | assumption | (unfold inI; omega)) | ((with_reducible apply a_not); rfl) | ((with_reducible apply w_pick_t); rfl) | ((with_reducible apply w_pick_f); rfl) | ((with_reducible apply a_cond1); rfl; first | rfl | assumption) | ((with_reducible apply a_cond0); rfl; first | rfl | assumption) | ((with_reducible apply a_guard1); rfl; first | rfl | assumption) | ((with_reducible apply a_guard0); rfl; first | rfl | assumption) | ((with_reducible apply w_guard_u); rfl) | ((with_reducible apply a_pick1); rfl; first | rfl | assumption) | ((with_reducible apply a_pick0); rfl; first | rfl | assumption) | ((with_reducible apply a_pickN); rfl) | ((with_reducible apply a_condN); rfl) | ((with_reducible apply a_guardN); rfl) | ((with_reducible apply w_fad); rfl) | ((with_reducible apply a_fadI); rfl) | ((with_reducible apply w_load); rfl; rfl; rfl) | ((with_reducible apply w_loadI); rfl) | ((with_reducible apply w_loadA); rfl; rfl; first | exact Nat.le_refl _ | exact Nat.le_of_ble_eq_true rfl) | ((with_reducible apply a_eqA); rfl; rfl; rfl) | ((with_reducible apply a_loadAI); rfl; first | rfl | simp) | ((with_reducible apply w_new); first | rfl | simp) | ((with_reducible apply a_store); rfl; rfl; rfl; rfl; (first | exact Nat.le_refl _ | simp); (first | rfl | simp); (first | rfl | simp)) | ((with_reducible apply a_lenS); rfl; intro _) | ((with_reducible apply a_len); rfl; (first | rfl | simp); intro _) | ((with_reducible apply a_build); rfl) | ((with_reducible apply a_extr); rfl; rfl) | ((with_reducible apply a_cond); rfl) | ((with_reducible apply a_guard); rfl) | (with_reducible intro _))
    all_goals exact .pure (by simp) rfl
omit [MaxL] in
theorem g_app0 {h : Heap} {x y : AV} (l : List UInt8) {K : AV → Heap → Prop} (ex : x = .v (.slice none 0 0)) (ey : y = .sl 1 (byR l)) (hr : l.length ≤ 2 ^ 41) (q : K (.sb h.length 1 (byR l)) (h ++ [.tok 5 1 l.length])) : iApp false 5 1 1 x y h K := by
  subst ex; subst ey
  unfold iApp iAppTo
  rw [srcR_sl]
  exact ⟨byR_ok l, ⟨by unfold maxLen; simp; omega, by simp; omega⟩, by simpa using q⟩
/-- What the glue writes for such a token. -/
def oneT (k : Int) (s : Str) : Str := if k = 5 then quT s else (if k = 4 then [35] else []) ++ nmT s
theorem acc_text {h : Heap} (k : Int) (s : Str) (f : Bool) (ok : tokOK k s f) (hs : s.length ≤ 2 ^ 35) :
    ACall Tryz.prog 70 [.v (.slice none 0 0), tokA k s f] h fun r h' => h.length ≤ h'.length ∧ ∃ id, r = .sb id 1 (byR (oneT k s)) := by
  refine (V70 _ _).acall ?_
  unfold W70 tokA
  have blk : ∀ (x : Blk) (j : Heap), (h ++ Ent.blk x :: j)[h.length]? = some (.blk x) := fun x j => by simp
  refine n_new (h' := h ++ [.blk ⟨86, [u8 k, .str s, int 0, .str [], bool f], true⟩]) (n := h.length) (cs := [u8 k, .str s, int 0, .str [], bool f]) rfl rfl rfl rfl ?_
  refine w_fad rfl ?_
  refine w_load rfl (blk _ _) rfl ?_
  rcases ok with ⟨rfl, rfl, hn⟩ | ⟨rfl, rfl, hn⟩ | ⟨rfl, rfl⟩
  · refine a_eql rfl rfl ?_
    refine a_cond1 rfl rfl ?_
    refine w_fad rfl ?_
    refine w_load rfl (blk _ _) rfl ?_
    refine w_fad rfl ?_
    refine w_load rfl (blk _ _) rfl ?_
    refine w_callQ rfl (by kernel_rfl) (con_gfirst s) ?_
    refine a_acall (by kernel_rfl) rfl (acc_name0 s (fstN s) hs) ?_
    rintro _ h' ⟨rfl, j, rfl⟩
    exact ⟨_, _, Wk.refl _ _ _ (by simp), by simp, _, rfl⟩
  · refine a_eql rfl rfl ?_
    refine a_cond0 rfl rfl ?_
    refine a_eql rfl rfl ?_
    refine a_cond0 rfl rfl ?_
    refine a_eql rfl rfl ?_
    refine a_cond0 rfl rfl ?_
    refine a_eql rfl rfl ?_
    refine a_cond1 rfl rfl ?_
    refine w_let ?_
    refine w_fad rfl ?_
    refine w_load rfl (blk _ _) rfl ?_
    refine a_cond1 rfl rfl ?_
    refine w_fad rfl ?_
    refine w_load rfl (blk _ _) rfl ?_
    refine iCall_con (by kernel_rfl) (con_gfirst s) ?_
    refine w_and ?_
    refine a_mkP1 ?_
    refine w_fad rfl ?_
    refine w_load rfl (blk _ _) rfl ?_
    refine g_app0 [35] rfl rfl (by simp) ?_
    refine a_acall (by kernel_rfl) rfl (acc_name s (fstN s) (by simp) (by simp) hs) ?_
    rintro _ h' ⟨rfl, g⟩
    have := g.len
    simp at this
    exact ⟨_, _, Wk.refl _ _ _ (by omega), by omega, _, rfl⟩
  · refine a_eql rfl rfl ?_
    refine a_cond0 rfl rfl ?_
    refine a_eql rfl rfl ?_
    refine a_cond0 rfl rfl ?_
    refine a_eql rfl rfl ?_
    refine a_cond0 rfl rfl ?_
    refine a_eql rfl rfl ?_
    refine a_cond0 rfl rfl ?_
    refine a_eql rfl rfl ?_
    refine a_cond1 rfl rfl ?_
    refine a_mkP1 ?_
    refine g_app0 [34] rfl rfl (by simp) ?_
    rw [show (h ++ [Ent.blk ⟨86, [u8 5, .str s, int 0, .str [], bool false], true⟩]).length = h.length + 1 by simp]
    refine w_fad rfl ?_
    refine w_load rfl (by rw [List.append_assoc]; exact blk _ _) rfl ?_
    rw [iToBytes_s, iLen_o]
    intro _
    rw [show (h ++ [Ent.blk ⟨86, [u8 5, .str s, int 0, .str [], bool false], true⟩] ++ [Ent.tok 5 1 ([34] : Str).length]).length = h.length + 2 by simp]
    have hT : ∀ e : Ent, (h ++ [Ent.blk ⟨86, [u8 5, .str s, int 0, .str [], bool false], true⟩] ++ [Ent.tok 5 1 ([34] : Str).length] ++ [e])[h.length + 1]? = some (.tok 5 1 1) := fun e => by
      rw [List.append_assoc, List.append_assoc, List.getElem?_append_right (by omega)]; simp
    have hB : ∀ e : Ent, (h ++ [Ent.blk ⟨86, [u8 5, .str s, int 0, .str [], bool false], true⟩] ++ [Ent.tok 5 1 ([34] : Str).length] ++ [e])[h.length + 2]? = some e := fun e => by
      rw [List.append_assoc, List.append_assoc, List.getElem?_append_right (by omega)]; simp
    have hT0 := hT (.blk ⟨5, s.map byteA, true⟩)
    have hB0 := hB (.blk ⟨5, s.map byteA, true⟩)
    generalize (h ++ [Ent.blk ⟨86, [u8 5, .str s, int 0, .str [], bool false], true⟩] ++ [Ent.tok 5 1 ([34] : Str).length] ++ [Ent.blk ⟨5, s.map byteA, true⟩]) = H0 at hT0 hB0 ⊢
    have hlt := tok_lt hT0
    have hlb := tok_lt hB0
    have hl0 : h.length ≤ H0.length := by omega
    refine iLoop_of (α := Nat × Heap) (fun p => p.1 ≤ s.length ∧ Gw (h.length + 1) (1 + ((s.take p.1).flatMap quP).length) H0 p.2) (fun p => [.sb (h.length + 1) 1 (byR ([34] ++ (s.take p.1).flatMap quP)), int p.1]) (fun p => p.2) (fun p => s.length - p.1) (0, H0) ⟨by simp, by simpa using Gw.refl hT0⟩ (by simpa using Wk.refl _ _ _ (Nat.le_refl _)) ?_
    rintro ⟨i, H⟩ ⟨hi, g⟩
    simp only at hi g ⊢
    have hl : ((s.take i).flatMap quP).length ≤ 4 * i := by have := quK_len (s.take i); rw [List.length_take] at this; omega
    have htok := g.tok hlt
    have hlen : (byR ([34] ++ (s.take i).flatMap quP)).length = 1 + ((s.take i).flatMap quP).length := by
      simp only [List.length_append, List.length_map, List.length_cons, List.length_nil]
    by_cases q : i < s.length
    · obtain ⟨c, hc⟩ : ∃ c, s[i]? = some c := ⟨s[i], List.getElem?_eq_getElem q⟩
      refine a_lss rfl rfl ?_
      refine a_cond1 rfl (decide_eq_true (by omega)) ?_
      refine w_let ?_
      refine a_idxOw (n := i) rfl rfl q ?_
      refine w_load (b := ⟨5, s.map byteA, true⟩) (c := byteA c) rfl (by rw [g.other hlb (by omega)]; exact hB0) (by simp [hc]) ?_
      refine iCall_con (by kernel_rfl) (con_indexByte [10, 12, 13, 34, 92] c) ?_
      refine a_geq rfl rfl ?_
      have hin : inI ((i : Int) + 1) := by unfold inI; omega
      have leaf : ∀ {H' : Heap} {x : List (List AV)}, x = byR ([34] ++ (s.take i).flatMap quP) ++ byR (quP c) → Gw (h.length + 1) (1 + ((s.take i).flatMap quP).length + (quP c).length) H0 H' →
          ∃ y : Nat × Heap, (y.1 ≤ s.length ∧ Gw (h.length + 1) (1 + ((s.take y.1).flatMap quP).length) H0 y.2) ∧ Wk H0.length [.sb (h.length + 1) 1 x, int ((i : Int) + 1)] H' [.sb (h.length + 1) 1 (byR ([34] ++ (s.take y.1).flatMap quP)), int y.1] y.2 ∧ s.length - y.1 < s.length - i := by
        intro H' x ex g'
        subst ex
        refine ⟨(i + 1, H'), ⟨by omega, ?_⟩, ?_, by omega⟩
        · simp only [quK_next hc, List.length_append]
          rw [← Nat.add_assoc]; exact g'
        · simp only [quK_next hc, List.map_append, ← List.append_assoc]
          exact Wk.refl _ _ _ g'.len
      refine a_cond rfl (fun e => ?_) fun e => ?_
      · have e' : quP c = escB c := by unfold quP; rw [if_pos (by exact e)]
        refine a_acall (by kernel_rfl) rfl (acc_escape c (by rw [htok, hlen]) (by rw [hlen]; omega)) ?_
        rintro _ H' ⟨rfl, g'⟩
        refine And.intro True.intro ?_
        refine w_add rfl rfl hin ?_
        refine And.intro True.intro ?_
        refine leaf (by rw [e']) (g.trans hlt ?_)
        rw [e', ← hlen]
        exact g'
      · have e' : quP c = [c] := by unfold quP; rw [if_neg (by simpa [quB] using e)]
        refine a_mkP1 ?_
        refine g_app [c] rfl rfl (by rw [htok, hlen]) (by rw [hlen]; show _ + 1 ≤ _; omega) ?_
        refine And.intro True.intro ?_
        refine w_add rfl rfl hin ?_
        refine And.intro True.intro ?_
        refine leaf (by rw [e']) (g.trans hlt ?_)
        rw [e', ← hlen]
        exact Gw.set _ _ H
    · obtain rfl : i = s.length := by omega
      refine a_lss rfl rfl ?_
      refine a_cond0 rfl (decide_eq_false (by omega)) ?_
      refine a_mkP1 ?_
      refine g_app [34] rfl rfl (by rw [htok, hlen]) (by rw [hlen]; show _ + 1 ≤ _; omega) ?_
      refine ⟨_, _, Wk.refl _ _ _ (by have := g.len; rw [List.length_set]; omega), by have := g.len; rw [List.length_set]; omega, h.length + 1, ?_⟩
      simp [oneT, quT]
theorem con_One (k : Int) (s : Str) (f : Bool) (ok : tokOK k s f) (hz : noZero s = true) (hs : s.length ≤ 2 ^ 35) : Con Tryz.prog 51 [tokA k s f] (.tup [.str (oneT k s), int 0]) := by
  refine (V51 _).gives (by simp [tokA]) (by simp) ?_
  unfold W51
  refine n_new (h' := [.blk ⟨86, [u8 k, .str s, int 0, .str [], bool f], true⟩]) (n := 0) (cs := [u8 k, .str s, int 0, .str [], bool f]) rfl rfl rfl rfl ?_
  refine w_loadA rfl rfl (Nat.le_refl _) ?_
  refine iCall_con (by kernel_rfl) (con_fine k s f ok hz hs) ?_
  refine a_not rfl ?_
  refine a_cond0 rfl rfl ?_
  refine w_loadA rfl rfl (Nat.le_refl _) ?_
  refine a_acall (by kernel_rfl) rfl (acc_text k s f ok hs) ?_
  rintro _ h' ⟨_, id, rfl⟩
  have e : ((srcR h' 1 (.sb id 1 (byR (oneT k s)))).bind fun p => unB p.flatten) = some (oneT k s) := by
    rw [srcR_b, Option.bind_some]
    have : ∀ l : Str, (byR l).flatten = l.map byteA := fun l => by induction l with
      | nil => rfl
      | cons a l ih => simp [ih]
    rw [this, unB_bytes]
  unfold iOfBytes
  rw [e]
  exact .pure (by simp) rfl
end Go.Proofs.YthblflmjingcfaaGreatDoor
end
