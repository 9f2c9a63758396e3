/-
  A reader of tokens: spaces, one token, signs, integers. A text in small letters. A reader of progressions: signs, integers, what is behind the letter. A progression, read of tokens.
  No conditions.
-/
import Derived.Test.YtfijncpmhnnpiaaGreatDoorS2
import Derived.Test.YtfijncpmhnnpiaaGreatDoorWAr
import Derived.Test.YtfijncpmhnnpiaaGreatDoorShelfIx
set_option linter.unusedVariables false
set_option linter.unusedSimpArgs false
section
namespace Go.Proofs.YtfijncpmhnnpiaaGreatDoor
open Go Go.Aw Go.RowKit
set_option maxRecDepth 100000
abbrev rdB (l : List Tok) : Ent := .blk ⟨49, [.sl 5 (rowsT l)], true⟩
/-- A reader. -/
def Rd (id : Nat) (h : Heap) (l : List Tok) : Prop := h[id]? = some (rdB l)
theorem Rd.lt {id : Nat} {h : Heap} {l : List Tok} (r : Rd id h l) : id < h.length := (List.getElem?_eq_some_iff.1 r).1
theorem Rd.set {id : Nat} {h : Heap} {l : List Tok} (r : Rd id h l) (m : List Tok) : Rd id (h.set id (rdB m)) m := List.getElem?_set_self r.lt
theorem Rd.app {id : Nat} {h : Heap} {l : List Tok} (r : Rd id h l) (j : Heap) : Rd id (h ++ j) l := by
  unfold Rd; rw [List.getElem?_append_left r.lt]; exact r
def Mr (id : Nat) (l : List Tok) (h h' : Heap) : Prop := ∃ j, h' = h.set id (rdB l) ++ j
theorem Mr.len {id : Nat} {l : List Tok} {h h' : Heap} (g : Mr id l h h') : h.length ≤ h'.length := by obtain ⟨j, rfl⟩ := g; simp
theorem Mr.rd {id : Nat} {l l0 : List Tok} {h h' : Heap} (r : Rd id h l0) (g : Mr id l h h') : Rd id h' l := by
  obtain ⟨j, rfl⟩ := g
  exact (r.set l).app j
theorem Mr.trans {id : Nat} {l m : List Tok} {h h' h'' : Heap} (hl : id < h.length) (x : Mr id l h h') (y : Mr id m h' h'') : Mr id m h h'' := by
  obtain ⟨j, rfl⟩ := x
  obtain ⟨k, rfl⟩ := y
  exact ⟨j ++ k, by rw [List.set_append_left _ _ (by simpa using hl), List.set_set, List.append_assoc]⟩
theorem Mr.other {id : Nat} {l : List Tok} {h h' : Heap} (g : Mr id l h h') {i : Nat} (hi : i < h.length) (hne : i ≠ id) : h'[i]? = h[i]? := by
  obtain ⟨j, rfl⟩ := g
  rw [List.getElem?_append_left (by simpa using hi), List.getElem?_set_ne (Ne.symm hne)]
theorem Mr.set (id : Nat) (l : List Tok) (h : Heap) : Mr id l h (h.set id (rdB l)) := ⟨[], by simp⟩
theorem Mr.tail {id : Nat} {l : List Tok} {h h' : Heap} (g : Mr id l h h') (k : Heap) : Mr id l h (h' ++ k) := by
  obtain ⟨j, rfl⟩ := g
  exact ⟨j ++ k, by rw [List.append_assoc]⟩
theorem Mr.refl {id : Nat} {l : List Tok} {h : Heap} (r : Rd id h l) : Mr id l h h := ⟨[], by rw [set_same r]; simp⟩
theorem Mr.setHi {id T : Nat} {l : List Tok} {h H : Heap} (m : Mr id l h H) (hT : h.length ≤ T) (e : Ent) : Mr id l h (H.set T e) := by
  obtain ⟨j, rfl⟩ := m
  exact ⟨j.set (T - h.length) e, by rw [List.set_append_right _ _ (by simpa using hT)]; simp⟩
/-- From a heap with something new behind it. -/
theorem Mr.new {id : Nat} {l : List Tok} {h k H : Heap} (hid : id < h.length) (m : Mr id l (h ++ k) H) : Mr id l h H := by
  obtain ⟨j, rfl⟩ := m
  exact ⟨k ++ j, by rw [List.set_append_left _ _ hid, List.append_assoc]⟩
theorem a_remU {k : IntKind} {x y : AV} {a b c : Int} {K : AV → Prop} (ex : x = .v (.int k a)) (ey : y = .v (.int k b)) (h0 : b ≠ 0) (hc : a.tmod b = c) (q : K (.v (.int k c))) : iBin .rem x y K := by
  subst ex; subst ey; subst hc; exact ⟨rfl, h0, q⟩
theorem a_quoU {k : IntKind} {x y : AV} {a b c : Int} {K : AV → Prop} (ex : x = .v (.int k a)) (ey : y = .v (.int k b)) (h0 : b ≠ 0) (hc : k.wrap (a.tdiv b) = c) (q : K (.v (.int k c))) : iBin .quo x y K := by
  subst ex; subst ey; subst hc; exact ⟨rfl, h0, q⟩
theorem rows_cons (t : Tok) (l : List Tok) : rowsT (t :: l) = t.row :: rowsT l := rfl
/-- The head's cell. -/
theorem a_hd {t : Tok} {l : List Tok} {x : AV} {K : AV → Prop} (ex : x = .sl 5 (rowsT (t :: l))) (q : K (.ip t.row)) : iIdxP 5 x (int 0) K := by
  refine w_idxS (n := 0) ex rfl (by simp) ?_
  exact q
theorem a_tl {t : Tok} {l : List Tok} {x : AV} {K : AV → Prop} (ex : x = .sl 5 (rowsT (t :: l))) (q : K (.sl 5 (rowsT l))) : iSl 5 x (some (int 1)) none K := by
  refine a_slT ex (by simp) ?_
  exact q
def noK (k : Int) : List Tok → Prop
  | [] => True
  | t :: _ => t.k ≠ k
variable [Laid]
theorem k_spaces {id : Nat} {h : Heap} {sp l : List Tok} {x : AV} {K : AV → Heap → Prop} (r : Rd id h (sp ++ l)) (ex : x = .op id 0) (hs : ∀ t ∈ sp, t.k = 13) (hl : noK 13 l) (hn : sp.length + l.length ≤ 2 ^ 20) (k : K (.tup []) (h.set id (rdB l))) :
    iCall Tryz.prog (.fn (.func 17) [] []) [x] h K := by
  subst ex
  refine a_acall (by kernel_rfl) rfl (K0 := fun v h' => v = .tup [] ∧ h' = h.set id (rdB l)) ?_ ?_
  · refine (V17 _).acall ?_
    unfold W17
    refine iLoop_of (α := List Tok × List Tok) (fun x => sp = x.1 ++ x.2) (fun _ => []) (fun x => h.set id (rdB (x.2 ++ l))) (fun x => x.2.length) ([], sp) rfl (by rw [set_same r]; exact Wk.refl _ _ _ (Nat.le_refl _)) ?_
    rintro ⟨p, q⟩ e
    have e : sp = p ++ q := e
    have r' := r.set (q ++ l)
    show iNilF _ _ _
    refine w_nilF ?_
    refine w_fad rfl ?_
    refine w_load rfl r' rfl ?_
    refine w_lenS rfl ?_
    refine a_gtr rfl rfl ?_
    refine w_let ?_
    cases q with
    | cons t q =>
      have ht : t.k = 13 := hs t (by rw [e]; simp)
      refine a_guard1 rfl (decide_eq_true (by simp <;> omega)) ?_
      refine w_nilF ?_
      refine w_fad rfl ?_
      refine w_load rfl r' rfl ?_
      refine a_hd rfl ?_
      refine a_fadI rfl ?_
      refine w_loadI rfl ?_
      refine a_eql rfl rfl ?_
      refine w_and ?_
      refine w_pick_t rfl ?_
      refine a_cond1 rfl (decide_eq_true ht) ?_
      refine w_nilF ?_
      refine w_fad rfl ?_
      refine w_load rfl r' rfl ?_
      refine a_tl rfl ?_
      refine w_nilF ?_
      refine w_fad rfl ?_
      refine n_store (cs := [.sl 5 (rowsT (q ++ l))]) (h' := h.set id (rdB (q ++ l))) rfl r' rfl rfl (by simp) rfl rfl (by rw [List.set_set]; rfl) ?_
      refine w_and ?_
      exact ⟨(p ++ [t], q), by rw [e]; simp, Wk.refl _ _ _ (by simp), by simp⟩
    | nil =>
      have fin : ∃ r' h'', Wk h.length [AV.tup []] (h.set id (rdB ([] ++ l))) [r'] h'' ∧ r' = .tup [] ∧ h'' = h.set id (rdB l) := ⟨_, _, Wk.refl _ _ _ (by simp), rfl, rfl⟩
      cases l with
      | nil =>
        refine a_guard0 rfl rfl ?_
        refine w_and ?_
        refine w_pick_f rfl ?_
        refine a_cond0 rfl rfl ?_
        exact fin
      | cons t l =>
        refine a_guard1 rfl (decide_eq_true (by simp <;> omega)) ?_
        refine w_nilF ?_
        refine w_fad rfl ?_
        refine w_load rfl r' rfl ?_
        refine a_hd rfl ?_
        refine a_fadI rfl ?_
        refine w_loadI rfl ?_
        refine a_eql rfl rfl ?_
        refine w_and ?_
        refine w_pick_t rfl ?_
        refine a_cond0 rfl (decide_eq_false hl) ?_
        exact fin
  · rintro _ _ ⟨rfl, rfl⟩
    exact k
theorem k_takeY {id : Nat} {h : Heap} {t : Tok} {l : List Tok} {x : AV} {kd : Int} {K : AV → Heap → Prop} (r : Rd id h (t :: l)) (ex : x = .op id 0) (ht : t.k = kd) (hn : l.length ≤ 2 ^ 20) (k : ∀ H, Mr id l h H → K (.tup [t.av, tt]) H) :
    iCall Tryz.prog (.fn (.func 27) [] []) [x, u8 kd] h K := by
  subst ex
  have hid := r.lt
  refine a_acall (by kernel_rfl) rfl (K0 := fun v h' => v = .tup [t.av, tt] ∧ Mr id l h h') ?_ ?_
  · refine (V27 _ _).acall ?_
    unfold W27
    refine n_new (cs := [u8 0, .str [], int 0, .str [], ff]) (n := h.length) (h' := h ++ [tokC 0 [] 0 [] false]) rfl (by simp [scal]) rfl rfl ?_
    have r2 := r.app [tokC 0 [] 0 [] false]
    have hV : (h ++ [tokC 0 [] 0 [] false])[h.length]? = some (tokC 0 [] 0 [] false) := by simp
    have hL : (h ++ [tokC 0 [] 0 [] false]).length = h.length + 1 := by simp
    have m0 : ∀ {H m}, Mr id m (h ++ [tokC 0 [] 0 [] false]) H → Mr id m h H := fun m => m.new hid
    generalize h ++ [tokC 0 [] 0 [] false] = H at r2 hV hL m0
    refine w_nilF ?_
    refine w_fad rfl ?_
    refine w_load rfl r2 rfl ?_
    refine w_lenS rfl ?_
    refine a_eql rfl rfl ?_
    refine w_let ?_
    refine a_guard1 rfl (decide_eq_false (by simp <;> omega)) ?_
    refine w_nilF ?_
    refine w_fad rfl ?_
    refine w_load rfl r2 rfl ?_
    refine a_hd rfl ?_
    refine a_fadI rfl ?_
    refine w_loadI rfl ?_
    refine a_neq rfl rfl ?_
    refine w_and ?_
    refine w_pick_f rfl ?_
    refine a_cond0 rfl (by simp [ht]) ?_
    refine w_nilF ?_
    refine w_fad rfl ?_
    refine w_load rfl r2 rfl ?_
    refine a_hd rfl ?_
    refine a_loadAI rfl rfl ?_
    refine n_new (cs := [u8 0, .str [], int 0, .str [], ff]) (n := H.length) (h' := H ++ [tokC 0 [] 0 [] false]) rfl (by simp [scal]) rfl rfl ?_
    refine n_store (cs := t.row) (h' := H ++ [Ent.blk ⟨45, t.row, true⟩]) rfl (b := ⟨45, [u8 0, .str [], int 0, .str [], ff], true⟩) (by simp) rfl rfl (by simp) rfl (by simp [scal]) (by rw [List.set_append_right _ _ (Nat.le_refl _)]; simp) ?_
    have r3 := r2.app [Ent.blk ⟨45, t.row, true⟩]
    refine w_nilF ?_
    refine w_fad rfl ?_
    refine w_load rfl r3 rfl ?_
    refine a_tl rfl ?_
    refine w_nilF ?_
    refine w_fad rfl ?_
    refine n_store (cs := [.sl 5 (rowsT l)]) (h' := (H ++ [Ent.blk ⟨45, t.row, true⟩]).set id (rdB l)) rfl r3 rfl rfl (by simp) rfl rfl rfl ?_
    refine w_loadA (b := ⟨45, t.row, true⟩) rfl (by rw [List.getElem?_set_ne (by omega)]; simp) (by simp) ?_
    refine k_ret (k := t.k) (t := t.t) (n := t.n) (u := t.u) (f := t.f) (K := fun r39 g38 => ∃ r' h'', Wk h.length [.tup [r39, tt]] g38 [r'] h'' ∧ r' = .tup [t.av, tt] ∧ Mr id l h h'') (k0 := 0) (t0 := []) (n0 := 0) (u0 := []) (f0 := false) (by rw [List.getElem?_set_ne (by omega), List.getElem?_append_left (by omega)]; exact hV) ?_
    have m1 : Mr id l h ((H ++ [Ent.blk ⟨45, t.row, true⟩]).set id (rdB l)) := m0 ⟨[Ent.blk ⟨45, t.row, true⟩], by rw [List.set_append_left _ _ (by omega)]⟩
    exact ⟨_, _, Wk.refl _ _ _ (by simp; omega), rfl, m1.setHi (Nat.le_refl _) _⟩
  · rintro _ H ⟨rfl, m⟩
    exact k H m
theorem k_takeN {id : Nat} {h : Heap} {l : List Tok} {x : AV} {kd : Int} {K : AV → Heap → Prop} (r : Rd id h l) (ex : x = .op id 0) (ht : noK kd l) (hn : l.length ≤ 2 ^ 20) (k : ∀ H, Mr id l h H → K (.tup [tokA 0 [] 0 [] false, ff]) H) :
    iCall Tryz.prog (.fn (.func 27) [] []) [x, u8 kd] h K := by
  subst ex
  have hid := r.lt
  refine a_acall (by kernel_rfl) rfl (K0 := fun v h' => v = .tup [tokA 0 [] 0 [] false, ff] ∧ Mr id l h h') ?_ ?_
  · refine (V27 _ _).acall ?_
    unfold W27
    refine n_new (cs := [u8 0, .str [], int 0, .str [], ff]) (n := h.length) (h' := h ++ [tokC 0 [] 0 [] false]) rfl (by simp [scal]) rfl rfl ?_
    have r2 := r.app [tokC 0 [] 0 [] false]
    have hV : (h ++ [tokC 0 [] 0 [] false])[h.length]? = some (tokC 0 [] 0 [] false) := by simp
    have m1 : Mr id l h (h ++ [tokC 0 [] 0 [] false]) := (Mr.refl r).tail _
    have fin : iStore 5 (.op h.length 0) (tokA 0 [] 0 [] false) (h ++ [tokC 0 [] 0 [] false]) fun g20 => iLoad true 5 (.op h.length 0) g20 fun r21 => ∃ r' h'', Wk h.length [.tup [r21, ff]] g20 [r'] h'' ∧ r' = .tup [tokA 0 [] 0 [] false, ff] ∧ Mr id l h h'' := by
      refine k_ret hV ?_
      exact ⟨_, _, Wk.refl _ _ _ (by simp), rfl, m1.setHi (Nat.le_refl _) _⟩
    refine w_nilF ?_
    refine w_fad rfl ?_
    refine w_load rfl r2 rfl ?_
    refine w_lenS rfl ?_
    refine a_eql rfl rfl ?_
    refine w_let ?_
    cases l with
    | nil =>
      refine a_guard0 rfl rfl ?_
      refine w_and ?_
      refine w_pick_t rfl ?_
      refine a_cond1 rfl rfl ?_
      refine a_build rfl ?_
      exact fin
    | cons t l =>
      refine a_guard1 rfl (decide_eq_false (by simp <;> omega)) ?_
      refine w_nilF ?_
      refine w_fad rfl ?_
      refine w_load rfl r2 rfl ?_
      refine a_hd rfl ?_
      refine a_fadI rfl ?_
      refine w_loadI rfl ?_
      refine a_neq rfl rfl ?_
      refine w_and ?_
      refine w_pick_f rfl ?_
      have ht : ¬ t.k = kd := ht
      refine a_cond1 rfl (by simp [ht]) ?_
      refine a_build rfl ?_
      exact fin
  · rintro _ H ⟨rfl, m⟩
    exact k H m
end Go.Proofs.YtfijncpmhnnpiaaGreatDoor
end

section
namespace Go.Proofs.YtfijncpmhnnpiaaGreatDoor
open Go Go.Aw
set_option maxRecDepth 100000
def lowB (b : UInt8) : UInt8 := if 65 ≤ b ∧ b ≤ 90 then b ||| 32 else b
theorem low_or (b : UInt8) (h1 : 65 ≤ (b.toNat : Int)) (h2 : (b.toNat : Int) ≤ 90) : ibits .or .u8 (b.toNat : Int) 32 = ((lowB b).toNat : Int) := by
  have : ∀ n : Fin 26, ibits .or .u8 (((65 + n.val : Nat)) : Int) 32 = ((lowB (UInt8.ofNat (65 + n.val))).toNat : Int) := by decide
  have hb : b = UInt8.ofNat (65 + (b.toNat - 65)) := by
    rw [show 65 + (b.toNat - 65) = b.toNat by omega]; simp
  have h := this ⟨b.toNat - 65, by omega⟩
  simp only [show 65 + (b.toNat - 65) = b.toNat by omega] at h
  rw [h]; simp
theorem low_id (b : UInt8) (h : ¬ (65 ≤ (b.toNat : Int) ∧ (b.toNat : Int) ≤ 90)) : lowB b = b := by
  unfold lowB
  rw [if_neg]
  intro ⟨h1, h2⟩
  rw [UInt8.le_iff_toNat_le] at h1 h2
  simp at h1 h2
  omega
def lowCells (s : Str) (k : Nat) : List AV := ((s.take k).map lowB ++ s.drop k).map byteA
theorem lowCells_get {s : Str} {k : Nat} {b : UInt8} (hb : s[k]? = some b) : (lowCells s k)[k]? = some (byteA b) := by
  have hk := (List.getElem?_eq_some_iff.1 hb).1
  unfold lowCells
  rw [List.getElem?_map, List.getElem?_append_right (by simp; omega)]
  simp [Nat.min_eq_left (Nat.le_of_lt hk), hb]
theorem lowCells_next {s : Str} {k : Nat} {b : UInt8} (hb : s[k]? = some b) : (lowCells s k).set k (byteA (lowB b)) = lowCells s (k + 1) := by
  have hk := (List.getElem?_eq_some_iff.1 hb).1
  refine List.ext_getElem? fun j => ?_
  unfold lowCells
  rcases Nat.lt_trichotomy j k with q | q | q
  · rw [List.getElem?_set_ne (by omega), List.getElem?_map, List.getElem?_map, List.getElem?_append_left (by simp; omega), List.getElem?_append_left (by simp; omega)]
    simp [q, Nat.lt_succ_of_lt q]
  · subst q
    rw [List.getElem?_set_self (by simp; omega), List.getElem?_map, List.getElem?_append_left (by simp; omega)]
    simp [hb]
  · rw [List.getElem?_set_ne (by omega), List.getElem?_map, List.getElem?_map, List.getElem?_append_right (by simp; omega), List.getElem?_append_right (by simp; omega)]
    simp [Nat.min_eq_left (Nat.le_of_lt hk), Nat.min_eq_left hk]
    congr 2; omega
theorem lowCells_len (s : Str) (k : Nat) : (lowCells s k).length = s.length := by
  unfold lowCells; simp; omega
variable [Laid]
theorem con_lower (s : Str) : Con Tryz.prog 29 [.str s] (.str (s.map lowB)) := by
  refine (V29 _).gives (by simp) (by simp) ?_
  unfold W29
  rw [iToBytes_s, iLen_o]
  intro hlen
  refine iLoop_of (α := Nat) (fun k => k ≤ s.length) (fun k => [int k]) (fun k => [.blk ⟨5, lowCells s k, true⟩]) (fun k => s.length - k) 0 (by simp) (by simpa [lowCells] using Wk.refl _ _ _ (by simp)) ?_
  intro k hk
  by_cases q : k < s.length
  · obtain ⟨b, hb⟩ : ∃ b, s[k]? = some b := ⟨s[k], List.getElem?_eq_getElem q⟩
    have hc := lowCells_get hb
    refine a_lss rfl rfl ?_
    refine a_cond1 rfl (by simpa using q) ?_
    refine w_let ?_
    have idx : ∀ {K : AV → Prop}, K (.op 0 k) → iIdxP 1 (.own 0 0 s.length 1) (nx [int k] 0) K := fun q2 => by
      rw [nx_zero, iIdxP_o]; exact ⟨rfl, ⟨by omega, by omega⟩, by simpa using q2⟩
    refine idx ?_
    refine w_load rfl rfl hc ?_
    have hin : inI ((k : Int) + 1) := by unfold maxLen at hlen; unfold inI; omega
    refine a_leq rfl rfl ?_
    refine w_let ?_
    refine a_guard rfl (fun h1 => ?_) (fun h1 => ?_)
    · refine a_leq rfl rfl ?_
      refine w_and ?_
      refine w_pick_t rfl ?_
      refine a_cond rfl (fun h2 => ?_) (fun h2 => ?_)
      · refine idx ?_
        refine w_load rfl rfl hc ?_
        rw [show iBin .or (byteA b) (u8 32) = fun K => K (u8 (ibits .or .u8 (b.toNat : Int) 32)) from by funext K; simp [byteA]]
        refine idx ?_
        refine a_store rfl rfl rfl rfl ?_ rfl rfl ?_
        · simp [lowCells_len]; omega
        refine w_and ?_
        refine w_add rfl rfl hin ?_
        refine w_and ?_
        have h1 : 65 ≤ (b.toNat : Int) := by simpa using h1
        have h2 : (b.toNat : Int) ≤ 90 := by simpa using h2
        refine ⟨k + 1, by omega, ?_, by omega⟩
        rw [low_or b h1 h2]
        have := lowCells_next hb
        rw [show setAll (lowCells s k) k (vcells (u8 ((lowB b).toNat : Int))) = lowCells s (k + 1) from this]
        exact Wk.refl _ _ _ (by simp)
      · refine w_and ?_
        refine w_add rfl rfl hin ?_
        refine w_and ?_
        refine ⟨k + 1, by omega, ?_, by omega⟩
        have h2 : ¬ (b.toNat : Int) ≤ 90 := by simpa using h2
        have := lowCells_next hb
        rw [low_id b (by omega), set_same hc] at this
        rw [← this]
        exact Wk.refl _ _ _ (by simp)
    · refine w_and ?_
      refine w_pick_f rfl ?_
      refine w_cond_f rfl ?_
      refine w_and ?_
      refine w_add rfl rfl hin ?_
      refine w_and ?_
      refine ⟨k + 1, by omega, ?_, by omega⟩
      have h1 : ¬ 65 ≤ (b.toNat : Int) := by simpa using h1
      have := lowCells_next hb
      rw [low_id b (by omega), set_same hc] at this
      rw [← this]
      exact Wk.refl _ _ _ (by simp)
  · obtain rfl : k = s.length := by omega
    refine a_lss rfl rfl ?_
    refine a_cond0 rfl (by simp) ?_
    refine a_ofBytes (id := 0) (b := ⟨5, lowCells s s.length, true⟩) (l := s.map lowB) (by simp) rfl (by simp [lowCells]) ?_
    exact .pure (by simp) rfl
end Go.Proofs.YtfijncpmhnnpiaaGreatDoor
end

section
namespace Go.Proofs.YtfijncpmhnnpiaaGreatDoor
open Go Go.Aw Go.RowKit
set_option maxRecDepth 100000
theorem con_index1 [Laid] (s : Str) (c : UInt8) : Con Tryz.prog 40 [.str s, .str [c]] (int (Lib.indexByte s c)) := by
  refine con_below (v := .int .i64 (Lib.indexByte s c)) (by simp [PureL]) (by simp) (by simp) (fun w => by simp) ?_
  intro ι S w vs h1 hg
  match vs, h1 with
  | [], h1 => simp at h1
  | [v], h1 => simp at h1
  | v :: u :: x :: vs, h1 => simp at h1
  | [v, u], h1 =>
    simp only [RepL_cons, RepL_nil, and_true, Rep_str] at h1
    obtain ⟨⟨rfl, _⟩, rfl, _⟩ := h1
    refine (Any.strings_Index_one lays143 ⟨s.toArray⟩ c w).mono ?_
    rintro e w' ⟨rfl, rfl⟩
    exact ⟨rfl, Below.refl _ _⟩
theorem k_signN [Laid] {id : Nat} {h : Heap} {l : List Tok} {x : AV} {K : AV → Heap → Prop} (r : Rd id h l) (ex : x = .op id 0) (ht : noK 9 l) (k : K (int 0) h) :
    iCall Tryz.prog (.fn (.func 31) [] []) [x] h K := by
  subst ex
  refine a_acall (by kernel_rfl) rfl (K0 := fun v h' => v = int 0 ∧ h' = h) ?_ ?_
  · refine (V31 _).acall ?_
    unfold W31
    have fin : ∃ r' h'', Wk h.length [int 0] h [r'] h'' ∧ r' = int 0 ∧ h'' = h := ⟨_, _, Wk.refl _ _ _ (Nat.le_refl _), rfl, rfl⟩
    refine w_nilF ?_
    refine w_fad rfl ?_
    refine w_load rfl r rfl ?_
    refine w_lenS rfl ?_
    refine a_eql rfl rfl ?_
    refine w_let ?_
    cases l with
    | nil =>
      refine a_guard0 rfl rfl ?_
      refine w_and ?_
      refine w_pick_t rfl ?_
      refine a_cond1 rfl rfl ?_
      exact fin
    | cons t l =>
      refine a_guard1 rfl (decide_eq_false (by simp <;> omega)) ?_
      refine w_nilF ?_
      refine w_fad rfl ?_
      refine w_load rfl r rfl ?_
      refine a_hd rfl ?_
      refine a_fadI rfl ?_
      refine w_loadI rfl ?_
      refine a_neq rfl rfl ?_
      refine w_and ?_
      refine w_pick_f rfl ?_
      have ht : ¬ t.k = 9 := ht
      refine a_cond1 rfl (by simp [ht]) ?_
      exact fin
  · rintro _ _ ⟨rfl, rfl⟩
    exact k
theorem k_signY [Laid] {id : Nat} {h : Heap} {c : UInt8} {n : Int} {u : Str} {f : Bool} {l : List Tok} {x : AV} {K : AV → Heap → Prop} (r : Rd id h (⟨9, [c], n, u, f⟩ :: l)) (ex : x = .op id 0) (hc : c = 43 ∨ c = 45) (k : K (int (if c = 43 then 1 else -1)) (h.set id (rdB l))) :
    iCall Tryz.prog (.fn (.func 31) [] []) [x] h K := by
  subst ex
  refine a_acall (by kernel_rfl) rfl (K0 := fun v h' => v = int (if c = 43 then 1 else -1) ∧ h' = h.set id (rdB l)) ?_ ?_
  · refine (V31 _).acall ?_
    unfold W31
    have hd : ∀ {K : AV → Prop}, K (.str [c]) → iNilF Tryz.prog (.op id 0) fun v17 => iFad 0 v17 fun v18 => iLoad false 1 v18 h fun v19 => iIdxP 5 v19 (int 0) fun v20 => iFad 1 v20 fun v21 => iLoad false 1 v21 h K := by
      intro K q
      refine w_nilF ?_
      refine w_fad rfl ?_
      refine w_load rfl r rfl ?_
      refine a_hd rfl ?_
      refine a_fadI rfl ?_
      exact w_loadI rfl q
    refine w_nilF ?_
    refine w_fad rfl ?_
    refine w_load rfl r rfl ?_
    refine w_lenS rfl ?_
    refine a_eql rfl rfl ?_
    refine w_let ?_
    refine a_guard1 rfl (decide_eq_false (by simp <;> omega)) ?_
    refine w_nilF ?_
    refine w_fad rfl ?_
    refine w_load rfl r rfl ?_
    refine a_hd rfl ?_
    refine a_fadI rfl ?_
    refine w_loadI rfl ?_
    refine a_neq rfl rfl ?_
    refine w_and ?_
    refine w_pick_f rfl ?_
    refine a_cond0 rfl rfl ?_
    refine hd ?_
    refine iCall_con (by kernel_rfl) (con_index1 _ c) ?_
    have hib : Lib.indexByte [45, 32, 43] c - 1 = (if c = 43 then 1 else -1) := by rcases hc with rfl | rfl <;> decide
    refine w_sub rfl rfl (by rw [hib]; split <;> (unfold inI; decide)) ?_
    rw [hib]
    have fin : iNilF Tryz.prog (.op id 0) fun v44 => iFad 0 v44 fun v45 => iLoad false 1 v45 h fun v46 => iSl 5 v46 (some (int 1)) none fun v47 => iNilF Tryz.prog (.op id 0) fun v48 => iFad 0 v48 fun v49 => iStore 1 v49 v47 h fun g50 => ∃ r' h'', Wk h.length [int (if c = 43 then 1 else -1)] g50 [r'] h'' ∧ r' = int (if c = 43 then 1 else -1) ∧ h'' = h.set id (rdB l) := by
      refine w_nilF ?_
      refine w_fad rfl ?_
      refine w_load rfl r rfl ?_
      refine a_tl rfl ?_
      refine w_nilF ?_
      refine w_fad rfl ?_
      refine n_store (cs := [.sl 5 (rowsT l)]) (h' := h.set id (rdB l)) rfl r rfl rfl (by simp) rfl rfl rfl ?_
      exact ⟨_, _, Wk.refl _ _ _ (by simp), rfl, rfl⟩
    refine hd ?_
    refine a_eqlS rfl rfl ?_
    refine w_let ?_
    rcases hc with rfl | rfl
    · refine a_guard0 rfl rfl ?_
      refine w_and ?_
      refine w_pick_t rfl ?_
      refine a_cond1 rfl rfl ?_
      exact fin
    · refine a_guard1 rfl rfl ?_
      refine hd ?_
      refine a_eqlS rfl rfl ?_
      refine w_and ?_
      refine w_pick_f rfl ?_
      refine a_cond1 rfl rfl ?_
      exact fin
  · rintro _ _ ⟨rfl, rfl⟩
    exact k
theorem k_wholeY [Laid] {id : Nat} {h : Heap} {w u : Str} {m : Int} {l : List Tok} {x : AV} {K : AV → Heap → Prop} (r : Rd id h (⟨10, w, 1000 * m, u, true⟩ :: l)) (ex : x = .op id 0) (hm : -1000000000000 ≤ m ∧ m ≤ 1000000000000) (hn : l.length ≤ 2 ^ 20) (k : ∀ H, Mr id l h H → K (.tup [int m, tt]) H) :
    iCall Tryz.prog (.fn (.func 26) [] []) [x] h K := by
  subst ex
  have hid := r.lt
  refine a_acall (by kernel_rfl) rfl (K0 := fun v h' => v = .tup [int m, tt] ∧ Mr id l h h') ?_ ?_
  · refine (V26 _).acall ?_
    unfold W26
    refine k_takeY r rfl rfl hn fun H m1 => ?_
    refine w_extr rfl rfl ?_
    refine w_extr rfl rfl ?_
    refine n_new (cs := [u8 0, .str [], int 0, .str [], ff]) (n := H.length) (h' := H ++ [tokC 0 [] 0 [] false]) rfl (by simp [scal]) rfl rfl ?_
    refine n_store (cs := [u8 10, .str w, int (1000 * m), .str u, tt]) (h' := H ++ [tokC 10 w (1000 * m) u true]) rfl (b := ⟨45, [u8 0, .str [], int 0, .str [], ff], true⟩) (by simp) rfl rfl (by simp) rfl (by simp [scal]) (by rw [List.set_append_right _ _ (Nat.le_refl _)]; simp) ?_
    have hV : (H ++ [tokC 10 w (1000 * m) u true])[H.length]? = some (tokC 10 w (1000 * m) u true) := by simp
    refine w_fad rfl ?_
    refine w_load rfl hV rfl ?_
    refine a_quoU (c := m) rfl rfl (by decide) (by rw [Int.mul_comm, Int.mul_tdiv_cancel _ (by decide), IntKind.wrap_i64]; omega) ?_
    refine w_let ?_
    refine a_guard1 rfl rfl ?_
    refine w_fad rfl ?_
    refine w_load rfl hV rfl ?_
    refine w_pick_t rfl ?_
    refine w_let ?_
    refine a_guard1 rfl rfl ?_
    refine w_fad rfl ?_
    refine w_load rfl hV rfl ?_
    refine a_remU (c := 0) rfl rfl (by decide) (by rw [Int.mul_tmod_right]) ?_
    refine a_eql rfl rfl ?_
    refine w_pick_t rfl ?_
    refine ⟨_, _, Wk.refl _ _ _ (by have := m1.len; simp; omega), rfl, m1.tail _⟩
  · rintro _ H ⟨rfl, m⟩
    exact k H m
theorem k_wholeN [Laid] {id : Nat} {h : Heap} {l : List Tok} {x : AV} {K : AV → Heap → Prop} (r : Rd id h l) (ex : x = .op id 0) (ht : noK 10 l) (hn : l.length ≤ 2 ^ 20) (k : ∀ H, Mr id l h H → K (.tup [int 0, ff]) H) :
    iCall Tryz.prog (.fn (.func 26) [] []) [x] h K := by
  subst ex
  have hid := r.lt
  refine a_acall (by kernel_rfl) rfl (K0 := fun v h' => v = .tup [int 0, ff] ∧ Mr id l h h') ?_ ?_
  · refine (V26 _).acall ?_
    unfold W26
    refine k_takeN r rfl ht hn fun H m1 => ?_
    refine w_extr rfl rfl ?_
    refine w_extr rfl rfl ?_
    refine n_new (cs := [u8 0, .str [], int 0, .str [], ff]) (n := H.length) (h' := H ++ [tokC 0 [] 0 [] false]) rfl (by simp [scal]) rfl rfl ?_
    refine n_store (cs := [u8 0, .str [], int 0, .str [], ff]) (h' := H ++ [tokC 0 [] 0 [] false]) rfl (b := ⟨45, [u8 0, .str [], int 0, .str [], ff], true⟩) (by simp) rfl rfl (by simp) rfl (by simp [scal]) (by rw [List.set_append_right _ _ (Nat.le_refl _)]; simp) ?_
    have hV : (H ++ [tokC 0 [] 0 [] false])[H.length]? = some (tokC 0 [] 0 [] false) := by simp
    refine w_fad rfl ?_
    refine w_load rfl hV rfl ?_
    refine a_quoU (c := 0) rfl rfl (by decide) (by decide) ?_
    refine w_let ?_
    refine a_guard0 rfl rfl ?_
    refine w_pick_f rfl ?_
    refine w_let ?_
    refine a_guard0 rfl rfl ?_
    refine w_pick_f rfl ?_
    refine ⟨_, _, Wk.refl _ _ _ (by have := m1.len; simp; omega), rfl, m1.tail _⟩
  · rintro _ H ⟨rfl, m⟩
    exact k H m
/-- What is behind the letter is read. -/
def Bh (rest : Str) (l : List Tok) (B : Int) (l' : List Tok) : Prop :=
  ∀ (_ : Laid) (id : Nat) (h : Heap) (K : AV → Heap → Prop), Rd id h l → (∀ H, Mr id l' h H → K (.tup [int B, tt]) H) → iCall Tryz.prog (.fn (.func 30) [] []) [.op id 0, .str rest] h K
/-- Nothing. -/
theorem bh_none {sp : List Tok} (hs : ∀ t ∈ sp, t.k = 13) (hn : sp.length ≤ 2 ^ 10) : Bh [] sp 0 [] := by
  intro _ id h K r k
  have hid := r.lt
  refine a_acall (by kernel_rfl) rfl (K0 := fun v h' => v = .tup [int 0, tt] ∧ Mr id [] h h') ?_ ?_
  · refine (V30 _ _).acall ?_
    unfold W30
    refine w_let ?_
    refine a_eqlS rfl rfl ?_
    refine a_cond0 rfl rfl ?_
    refine a_neqS rfl rfl ?_
    refine a_cond0 rfl rfl ?_
    refine k_spaces (sp := sp) (l := []) (by rw [List.append_nil]; exact r) rfl hs trivial (by simp; omega) ?_
    refine w_nilF ?_
    refine w_fad rfl ?_
    refine w_load rfl (r.set []) rfl ?_
    refine w_lenS rfl ?_
    refine a_eql rfl rfl ?_
    refine a_cond1 rfl rfl ?_
    exact ⟨_, _, Wk.refl _ _ _ (by simp), rfl, Mr.set _ _ _⟩
  · rintro _ H ⟨rfl, m⟩
    exact k H m
/-- A number with its sign. -/
theorem bh_num {w u : Str} {B : Int} {l : List Tok} (hB : -1000000000000 ≤ B ∧ B ≤ 1000000000000) (hn : l.length ≤ 2 ^ 10) : Bh [] (⟨10, w, 1000 * B, u, true⟩ :: l) B l := by
  intro _ id h K r k
  have hid := r.lt
  refine a_acall (by kernel_rfl) rfl (K0 := fun v h' => v = .tup [int B, tt] ∧ Mr id l h h') ?_ ?_
  · refine (V30 _ _).acall ?_
    unfold W30
    refine w_let ?_
    refine a_eqlS rfl rfl ?_
    refine a_cond0 rfl rfl ?_
    refine a_neqS rfl rfl ?_
    refine a_cond0 rfl rfl ?_
    have r0 : Rd id h ([] ++ (⟨10, w, 1000 * B, u, true⟩ :: l)) := r
    refine k_spaces (sp := []) r0 rfl (by simp) (show (10 : Int) ≠ 13 by decide) (by simp; omega) ?_
    rw [set_same r]
    refine w_nilF ?_
    refine w_fad rfl ?_
    refine w_load rfl r rfl ?_
    refine w_lenS rfl ?_
    refine a_eql rfl rfl ?_
    refine a_cond0 rfl (decide_eq_false (by simp <;> omega)) ?_
    refine k_signN r rfl (show (10 : Int) ≠ 9 by decide) ?_
    refine w_and ?_
    refine k_spaces (sp := []) r0 rfl (by simp) (show (10 : Int) ≠ 13 by decide) (by simp; omega) ?_
    rw [set_same r]
    refine k_wholeY r rfl hB (by omega) fun H m => ?_
    refine w_extr rfl rfl ?_
    refine w_extr rfl rfl ?_
    refine a_eql rfl rfl ?_
    refine a_cond1 rfl rfl ?_
    exact ⟨_, _, Wk.refl _ _ _ m.len, rfl, m⟩
  · rintro _ H ⟨rfl, m⟩
    exact k H m
/-- A sign that stands alone, and a number. -/
theorem bh_sign {c : UInt8} {n : Int} {u w v : Str} {f : Bool} {B : Int} {sp sq l : List Tok} (hs : ∀ t ∈ sp, t.k = 13) (hq : ∀ t ∈ sq, t.k = 13) (hc : c = 43 ∨ c = 45) (hB : 0 ≤ B ∧ B ≤ 1000000000000) (hn : sp.length ≤ 2 ^ 10 ∧ sq.length ≤ 2 ^ 10 ∧ l.length ≤ 2 ^ 10) :
    Bh [] (sp ++ ⟨9, [c], n, u, f⟩ :: (sq ++ ⟨10, w, 1000 * B, v, true⟩ :: l)) ((if c = 43 then 1 else -1) * B) l := by
  intro _ id h K r k
  have hid := r.lt
  refine a_acall (by kernel_rfl) rfl (K0 := fun v h' => v = .tup [int ((if c = 43 then 1 else -1) * B), tt] ∧ Mr id l h h') ?_ ?_
  · refine (V30 _ _).acall ?_
    unfold W30
    refine w_let ?_
    refine a_eqlS rfl rfl ?_
    refine a_cond0 rfl rfl ?_
    refine a_neqS rfl rfl ?_
    refine a_cond0 rfl rfl ?_
    refine k_spaces (sp := sp) r rfl hs (show (9 : Int) ≠ 13 by decide) (by simp; omega) ?_
    have r1 := r.set (⟨9, [c], n, u, f⟩ :: (sq ++ ⟨10, w, 1000 * B, v, true⟩ :: l))
    refine w_nilF ?_
    refine w_fad rfl ?_
    refine w_load rfl r1 rfl ?_
    refine w_lenS rfl ?_
    refine a_eql rfl rfl ?_
    refine a_cond0 rfl (decide_eq_false (by simp <;> omega)) ?_
    refine k_signY r1 rfl hc ?_
    refine w_and ?_
    have r2 := r1.set (sq ++ ⟨10, w, 1000 * B, v, true⟩ :: l)
    refine k_spaces (sp := sq) r2 rfl hq (show (10 : Int) ≠ 13 by decide) (by simp; omega) ?_
    have r3 := r2.set (⟨10, w, 1000 * B, v, true⟩ :: l)
    refine k_wholeY r3 rfl (by omega) (by omega) fun H m => ?_
    refine w_extr rfl rfl ?_
    refine w_extr rfl rfl ?_
    refine a_eql rfl rfl ?_
    refine a_cond0 rfl (decide_eq_false (by split <;> decide)) ?_
    refine w_mul rfl rfl (by unfold inI; split <;> omega) ?_
    refine w_let ?_
    refine a_guard1 rfl rfl ?_
    refine a_geq rfl rfl ?_
    refine w_and ?_
    refine w_pick_t rfl ?_
    have : decide (0 ≤ B) = true := decide_eq_true hB.1
    rw [nx_one, this]
    obtain ⟨j, rfl⟩ := m
    refine ⟨_, _, Wk.refl _ _ _ (by simp), rfl, ⟨j, by simp⟩⟩
  · rintro _ H ⟨rfl, m⟩
    exact k H m
/-- Digits behind a minus. -/
theorem bh_dig {d : Str} {l : List Tok} (hd : digs d) (hl : d.length ≤ 2 ^ 10) (hv : valR d ≤ 1000000000) (hp : Lib.parseIntB 64 d = .ok (valR d)) (ht : Lib.trimS d [48, 49, 50, 51, 52, 53, 54, 55, 56, 57] = []) : Bh (45 :: d) l (-(valR d : Int)) l := by
  intro _ id h K r k
  have hid := r.lt
  have hdn := hd.1
  refine a_acall (by kernel_rfl) rfl (K0 := fun v h' => v = .tup [int (-(valR d : Int)), tt] ∧ Mr id l h h') ?_ ?_
  · refine (V30 _ _).acall ?_
    unfold W30
    refine w_let ?_
    refine a_eqlS rfl rfl ?_
    refine a_cond0 rfl (decide_eq_false (by simp [hdn])) ?_
    refine a_neqS rfl rfl ?_
    refine a_cond1 rfl (by simp) ?_
    refine iCall_con (by kernel_rfl) (con_cutP (45 :: d) [45] (by simp; omega)) ?_
    have e1 : Lib.trimPrefix (45 :: d) [45] = d := by unfold Lib.trimPrefix Lib.hasPrefix; simp [List.isPrefixOf]
    have e2 : Lib.hasPrefix (45 :: d) [45] = true := by unfold Lib.hasPrefix; simp [List.isPrefixOf]
    rw [e1, e2]
    refine w_extr rfl rfl ?_
    refine w_extr rfl rfl ?_
    refine a_not rfl ?_
    refine w_let ?_
    refine a_guard1 rfl rfl ?_
    refine iCall_con (by kernel_rfl) (con_trim d [48, 49, 50, 51, 52, 53, 54, 55, 56, 57] (by omega) (by decide) (fun b hb => by simp at hb; rcases hb with rfl | rfl | rfl | rfl | rfl | rfl | rfl | rfl | rfl | rfl <;> decide) (by rw [ht]; decide)) ?_
    rw [ht]
    refine a_neqS rfl rfl ?_
    refine w_and ?_
    refine w_pick_f rfl ?_
    refine a_cond0 rfl rfl ?_
    refine iCall_con (by kernel_rfl) (con_parseInt d _ (by omega) hp) ?_
    refine w_extr rfl rfl ?_
    refine w_extr rfl rfl ?_
    refine w_let ?_
    show iIsN true (some true) _
    rw [iIsN_some]
    refine w_let ?_
    refine a_guard1 rfl rfl ?_
    refine a_gtr rfl rfl ?_
    refine w_and ?_
    refine w_pick_f rfl ?_
    refine a_cond0 rfl (decide_eq_false (by omega)) ?_
    rw [nx_zero, iNeg_i]
    refine ⟨by unfold inI; omega, ?_⟩
    refine ⟨_, _, Wk.refl _ _ _ (Nat.le_refl _), by rw [Int.zero_sub], Mr.refl r⟩
  · rintro _ H ⟨rfl, m⟩
    exact k H m
end Go.Proofs.YtfijncpmhnnpiaaGreatDoor
end

section
namespace Go.Proofs.YtfijncpmhnnpiaaGreatDoor
open Go Go.Aw Go.RowKit
set_option maxRecDepth 100000
abbrev anC (A B : Int) : Ent := .blk ⟨23, [int A, int B], true⟩
theorem k_ret2 [Laid] {V : Nat} {H : Heap} {K : AV → Heap → Prop} {A0 B0 A B : Int} (hv : H[V]? = some (anC A0 B0)) (q : K (.agg [int A, int B]) (H.set V (anC A B))) :
    iStore 2 (.op V 0) (.agg [int A, int B]) H fun g => iLoad true 2 (.op V 0) g fun r => K r g := by
  have hlt := (List.getElem?_eq_some_iff.1 hv).1
  refine n_store (cs := [int A, int B]) (h' := H.set V (anC A B)) rfl hv rfl rfl (by simp) rfl (by simp [scal]) rfl ?_
  refine w_loadA rfl (List.getElem?_set_self hlt) (by simp) ?_
  exact q
theorem a_tokStore {t : Tok} {H : Heap} {KS : Heap → Prop} (q : KS (H ++ [.blk ⟨45, t.row, true⟩])) : iStore 5 (.op H.length 0) t.av (H ++ [tokC 0 [] 0 [] false]) KS :=
  n_store (cs := t.row) (h' := H ++ [.blk ⟨45, t.row, true⟩]) rfl (b := ⟨45, [u8 0, .str [], int 0, .str [], ff], true⟩) (by simp) rfl rfl (by simp) rfl (by simp [scal]) (by rw [List.set_append_right _ _ (Nat.le_refl _)]; simp) q
theorem cut_n (rest : Str) (c : UInt8) : Lib.trimPrefix (c :: rest) [c] = rest ∧ Lib.hasPrefix (c :: rest) [c] = true := by
  constructor
  · unfold Lib.trimPrefix Lib.hasPrefix; simp [List.isPrefixOf]
  · unfold Lib.hasPrefix; simp [List.isPrefixOf]
/-- A progression is read. -/
def Rdd (l : List Tok) (A B : Int) (l' : List Tok) : Prop :=
  ∀ (_ : Laid) (id : Nat) (h : Heap) (K : AV → Heap → Prop), Rd id h l → (∀ H, Mr id l' h H → K (.tup [.agg [int A, int B], tt]) H) → iCall Tryz.prog (.fn (.func 18) [] []) [.op id 0] h K
theorem rdd_whole {w u : Str} {B : Int} {l : List Tok} (hB : -1000000000000 ≤ B ∧ B ≤ 1000000000000) (hn : l.length ≤ 2 ^ 10) : Rdd (⟨10, w, 1000 * B, u, true⟩ :: l) 0 B l := by
  intro _ id h K r k
  have hid := r.lt
  refine a_acall (by kernel_rfl) rfl (K0 := fun v h' => v = .tup [.agg [int 0, int B], tt] ∧ Mr id l h h') ?_ ?_
  · refine (V18 _).acall ?_
    unfold W18
    refine n_new (cs := [int 0, int 0]) (n := h.length) (h' := h ++ [anC 0 0]) rfl rfl rfl rfl ?_
    refine k_wholeY (r.app _) rfl hB (by omega) fun H m => ?_
    have hV : H[h.length]? = some (anC 0 0) := by rw [m.other (by simp) (by omega)]; simp
    refine w_extr rfl rfl ?_
    refine w_extr rfl rfl ?_
    refine a_cond1 rfl rfl ?_
    refine a_build rfl ?_
    refine k_ret2 (A := 0) (B := B) (K := fun r9 g8 => ∃ r' h'', Wk h.length [.tup [r9, tt]] g8 [r'] h'' ∧ r' = .tup [.agg [int 0, int B], tt] ∧ Mr id l h h'') hV ?_
    have m1 := (m.new hid).setHi (Nat.le_refl _) (anC 0 B)
    exact ⟨_, _, Wk.refl _ _ _ m1.len, rfl, m1⟩
  · rintro _ H ⟨rfl, m⟩
    exact k H m
theorem rdd_dim {w u rest : Str} {A B : Int} {l l' : List Tok} (hA : -1000000000000 ≤ A ∧ A ≤ 1000000000000) (hu : u.map lowB = 110 :: rest) (hul : u.length ≤ 2 ^ 20) (hn : l.length ≤ 2 ^ 10) (bh : Bh rest l B l') : Rdd (⟨12, w, 1000 * A, u, true⟩ :: l) A B l' := by
  intro _ id h K r k
  have hid := r.lt
  have hrl : (110 :: rest : Str).length ≤ 2 ^ 31 := by rw [← hu, List.length_map]; omega
  refine a_acall (by kernel_rfl) rfl (K0 := fun v h' => v = .tup [.agg [int A, int B], tt] ∧ Mr id l' h h') ?_ ?_
  · refine (V18 _).acall ?_
    unfold W18
    refine n_new (cs := [int 0, int 0]) (n := h.length) (h' := h ++ [anC 0 0]) rfl rfl rfl rfl ?_
    refine k_wholeN (r.app _) rfl (show (12 : Int) ≠ 10 by decide) (by simp; omega) fun H1 m1 => ?_
    have hV1 : H1[h.length]? = some (anC 0 0) := by rw [m1.other (by simp) (by omega)]; simp
    have r1 := m1.rd (r.app _)
    have n1 := m1.new hid
    refine w_extr rfl rfl ?_
    refine w_extr rfl rfl ?_
    refine a_cond0 rfl rfl ?_
    refine k_takeY r1 rfl rfl (by omega) fun H2 m2 => ?_
    have hl1 := n1.len
    have hlt1 := (List.getElem?_eq_some_iff.1 hV1).1
    have hV2 : H2[h.length]? = some (anC 0 0) := by rw [m2.other hlt1 (by omega)]; exact hV1
    have r2 := m2.rd r1
    have n2 := Mr.trans hid n1 m2
    refine w_extr rfl rfl ?_
    refine w_extr rfl rfl ?_
    refine n_new (cs := [u8 0, .str [], int 0, .str [], ff]) (n := H2.length) (h' := H2 ++ [tokC 0 [] 0 [] false]) rfl (by simp [scal]) rfl rfl ?_
    refine a_tokStore (t := ⟨12, w, 1000 * A, u, true⟩) ?_
    have r3 := r2.app [Ent.blk ⟨45, Tok.row ⟨12, w, 1000 * A, u, true⟩, true⟩]
    have n3 := n2.tail [Ent.blk ⟨45, Tok.row ⟨12, w, 1000 * A, u, true⟩, true⟩]
    have hT3 : (H2 ++ [Ent.blk ⟨45, Tok.row ⟨12, w, 1000 * A, u, true⟩, true⟩])[H2.length]? = some (Ent.blk ⟨45, Tok.row ⟨12, w, 1000 * A, u, true⟩, true⟩) := by simp
    have hlt2 := (List.getElem?_eq_some_iff.1 hV2).1
    have hV3 : (H2 ++ [Ent.blk ⟨45, Tok.row ⟨12, w, 1000 * A, u, true⟩, true⟩])[h.length]? = some (anC 0 0) := by rw [List.getElem?_append_left hlt2]; exact hV2
    have hl3 : H2.length < (H2 ++ [Ent.blk ⟨45, Tok.row ⟨12, w, 1000 * A, u, true⟩, true⟩]).length := by simp
    have hl2 := n2.len
    generalize hH3 : H2 ++ [Ent.blk ⟨45, Tok.row ⟨12, w, 1000 * A, u, true⟩, true⟩] = H3 at r3 n3 hT3 hV3 hl3
    refine a_cond1 rfl rfl ?_
    refine w_fad rfl ?_
    refine w_load rfl hT3 rfl ?_
    refine iCall_con (by kernel_rfl) (con_lower u) ?_
    rw [hu]
    refine iCall_con (by kernel_rfl) (con_cutP (110 :: rest) [110] hrl) ?_
    rw [(cut_n rest 110).1, (cut_n rest 110).2]
    refine w_extr rfl rfl ?_
    refine w_extr rfl rfl ?_
    refine a_not rfl ?_
    refine w_let ?_
    refine a_guard1 rfl rfl ?_
    refine w_fad rfl ?_
    refine w_load rfl hT3 rfl ?_
    refine a_not rfl ?_
    refine w_and ?_
    refine w_pick_f rfl ?_
    refine w_let ?_
    refine a_guard1 rfl rfl ?_
    refine w_fad rfl ?_
    refine w_load rfl hT3 rfl ?_
    refine a_remU (c := 0) rfl rfl (by decide) (by rw [Int.mul_tmod_right]) ?_
    refine a_neq rfl rfl ?_
    refine w_and ?_
    refine w_pick_f rfl ?_
    refine a_cond0 rfl rfl ?_
    refine bh inferInstance id H3 _ r3 fun H4 m4 => ?_
    have n4 := Mr.trans hid n3 m4
    have hT4 : H4[H2.length]? = some (Ent.blk ⟨45, Tok.row ⟨12, w, 1000 * A, u, true⟩, true⟩) := by rw [m4.other hl3 (by omega)]; exact hT3
    have hV4 : H4[h.length]? = some (anC 0 0) := by rw [m4.other (List.getElem?_eq_some_iff.1 hV3).1 (by omega)]; exact hV3
    refine w_extr rfl rfl ?_
    refine w_extr rfl rfl ?_
    refine w_fad rfl ?_
    refine w_load rfl hT4 rfl ?_
    refine a_quoU (c := A) rfl rfl (by decide) (by rw [Int.mul_comm, Int.mul_tdiv_cancel _ (by decide), IntKind.wrap_i64]; omega) ?_
    refine a_build rfl ?_
    refine k_ret2 (A := A) (B := B) (K := fun r9 g8 => ∃ r' h'', Wk h.length [.tup [r9, tt]] g8 [r'] h'' ∧ r' = .tup [.agg [int A, int B], tt] ∧ Mr id l' h h'') hV4 ?_
    have m5 := n4.setHi (Nat.le_refl _) (anC A B)
    exact ⟨_, _, Wk.refl _ _ _ m5.len, rfl, m5⟩
  · rintro _ H ⟨rfl, m⟩
    exact k H m
theorem rdd_ident {u rest uu : Str} {n0 A B : Int} {f0 : Bool} {l l' : List Tok} (hA : (A = 1 ∧ u.map lowB = 110 :: rest) ∨ (A = -1 ∧ u.map lowB = 45 :: 110 :: rest)) (hul : u.length ≤ 2 ^ 20) (hn : l.length ≤ 2 ^ 10) (bh : Bh rest l B l') : Rdd (⟨1, u, n0, uu, f0⟩ :: l) A B l' := by
  intro _ id h K r k
  have hid := r.lt
  have hrl : (110 :: rest : Str).length ≤ 2 ^ 31 ∧ (45 :: 110 :: rest : Str).length ≤ 2 ^ 31 := by
    rcases hA with ⟨_, e⟩ | ⟨_, e⟩
    · have := congrArg List.length e; simp at this ⊢; omega
    · have := congrArg List.length e; simp at this ⊢; omega
  refine a_acall (by kernel_rfl) rfl (K0 := fun v h' => v = .tup [.agg [int A, int B], tt] ∧ Mr id l' h h') ?_ ?_
  · refine (V18 _).acall ?_
    unfold W18
    refine n_new (cs := [int 0, int 0]) (n := h.length) (h' := h ++ [anC 0 0]) rfl rfl rfl rfl ?_
    refine k_wholeN (r.app _) rfl (show (1 : Int) ≠ 10 by decide) (by simp; omega) fun H1 m1 => ?_
    have hV1 : H1[h.length]? = some (anC 0 0) := by rw [m1.other (by simp) (by omega)]; simp
    have r1 := m1.rd (r.app _)
    have n1 := m1.new hid
    have hl1 := n1.len
    have hlt1 := (List.getElem?_eq_some_iff.1 hV1).1
    refine w_extr rfl rfl ?_
    refine w_extr rfl rfl ?_
    refine a_cond0 rfl rfl ?_
    refine k_takeN r1 rfl (show (1 : Int) ≠ 12 by decide) (by simp; omega) fun H2 m2 => ?_
    have hV2 : H2[h.length]? = some (anC 0 0) := by rw [m2.other hlt1 (by omega)]; exact hV1
    have r2 := m2.rd r1
    have n2 := Mr.trans hid n1 m2
    refine w_extr rfl rfl ?_
    refine w_extr rfl rfl ?_
    refine n_new (cs := [u8 0, .str [], int 0, .str [], ff]) (n := H2.length) (h' := H2 ++ [tokC 0 [] 0 [] false]) rfl (by simp [scal]) rfl rfl ?_
    refine a_tokStore (t := ⟨0, [], 0, [], false⟩) ?_
    have r3 := r2.app [Ent.blk ⟨45, Tok.row ⟨0, [], 0, [], false⟩, true⟩]
    have n3 := n2.tail [Ent.blk ⟨45, Tok.row ⟨0, [], 0, [], false⟩, true⟩]
    have hV3 : (H2 ++ [Ent.blk ⟨45, Tok.row ⟨0, [], 0, [], false⟩, true⟩])[h.length]? = some (anC 0 0) := by rw [List.getElem?_append_left (List.getElem?_eq_some_iff.1 hV2).1]; exact hV2
    generalize hH3 : H2 ++ [Ent.blk ⟨45, Tok.row ⟨0, [], 0, [], false⟩, true⟩] = H3 at r3 n3 hV3
    refine a_cond0 rfl rfl ?_
    refine k_signN r3 rfl (show (1 : Int) ≠ 9 by decide) ?_
    refine k_takeY r3 rfl rfl (by omega) fun H4 m4 => ?_
    have r4 := m4.rd r3
    have n4 := Mr.trans hid n3 m4
    have hV4 : H4[h.length]? = some (anC 0 0) := by rw [m4.other (List.getElem?_eq_some_iff.1 hV3).1 (by omega)]; exact hV3
    refine w_extr rfl rfl ?_
    refine w_extr rfl rfl ?_
    refine n_new (cs := [u8 0, .str [], int 0, .str [], ff]) (n := H4.length) (h' := H4 ++ [tokC 0 [] 0 [] false]) rfl (by simp [scal]) rfl rfl ?_
    refine a_tokStore (t := ⟨1, u, n0, uu, f0⟩) ?_
    have r5 := r4.app [Ent.blk ⟨45, Tok.row ⟨1, u, n0, uu, f0⟩, true⟩]
    have n5 := n4.tail [Ent.blk ⟨45, Tok.row ⟨1, u, n0, uu, f0⟩, true⟩]
    have hT5 : (H4 ++ [Ent.blk ⟨45, Tok.row ⟨1, u, n0, uu, f0⟩, true⟩])[H4.length]? = some (Ent.blk ⟨45, Tok.row ⟨1, u, n0, uu, f0⟩, true⟩) := by simp
    have hV5 : (H4 ++ [Ent.blk ⟨45, Tok.row ⟨1, u, n0, uu, f0⟩, true⟩])[h.length]? = some (anC 0 0) := by rw [List.getElem?_append_left (List.getElem?_eq_some_iff.1 hV4).1]; exact hV4
    generalize hH5 : H4 ++ [Ent.blk ⟨45, Tok.row ⟨1, u, n0, uu, f0⟩, true⟩] = H5 at r5 n5 hT5 hV5
    refine a_not rfl ?_
    refine w_let ?_
    refine a_guard1 rfl rfl ?_
    refine a_lss rfl rfl ?_
    refine w_and ?_
    refine w_pick_f rfl ?_
    refine a_cond0 rfl rfl ?_
    refine w_fad rfl ?_
    refine w_load rfl hT5 rfl ?_
    refine iCall_con (by kernel_rfl) (con_lower u) ?_
    refine w_join [.str (110 :: rest), int A] H5 ?_ fun F hF => ?_
    · refine iCall_con (by kernel_rfl) (con_cutP (110 :: rest) [110] hrl.1) ?_
      rw [(cut_n rest 110).1, (cut_n rest 110).2]
      refine w_extr rfl rfl ?_
      refine w_extr rfl rfl ?_
      refine a_not rfl ?_
      refine a_cond0 rfl rfl ?_
      refine bh inferInstance id H5 _ r5 fun H6 m6 => ?_
      have n6 := Mr.trans hid n5 m6
      have hV6 : H6[h.length]? = some (anC 0 0) := by rw [m6.other (List.getElem?_eq_some_iff.1 hV5).1 (by omega)]; exact hV5
      refine w_extr rfl rfl ?_
      refine w_extr rfl rfl ?_
      refine a_build rfl ?_
      refine k_ret2 (A := A) (B := B) (K := fun r9 g8 => ∃ r' h'', Wk h.length [.tup [r9, tt]] g8 [r'] h'' ∧ r' = .tup [.agg [int A, int B], tt] ∧ Mr id l' h h'') hV6 ?_
      have m5 := n6.setHi (Nat.le_refl _) (anC A B)
      exact ⟨_, _, Wk.refl _ _ _ m5.len, rfl, m5⟩
    · refine a_eql rfl rfl ?_
      refine a_cond1 rfl rfl ?_
      rcases hA with ⟨rfl, e⟩ | ⟨rfl, e⟩
      · rw [e]
        refine a_eqlS rfl rfl ?_
        refine a_cond0 rfl (decide_eq_false (by simp)) ?_
        refine a_eqlS rfl rfl ?_
        refine a_cond0 rfl (decide_eq_false (by simp)) ?_
        refine iCall_con (by kernel_rfl) (con_cutP (110 :: rest) [45] hrl.1) ?_
        have e2 : Lib.hasPrefix (110 :: rest) [45] = false := by unfold Lib.hasPrefix; simp [List.isPrefixOf]
        rw [e2]
        refine w_extr rfl rfl ?_
        refine w_extr rfl rfl ?_
        refine a_cond0 rfl rfl ?_
        refine w_and ?_
        exact hF
      · rw [e]
        refine a_eqlS rfl rfl ?_
        refine a_cond0 rfl (decide_eq_false (by simp)) ?_
        refine a_eqlS rfl rfl ?_
        refine a_cond0 rfl (decide_eq_false (by simp)) ?_
        refine iCall_con (by kernel_rfl) (con_cutP (45 :: 110 :: rest) [45] hrl.2) ?_
        rw [(cut_n (110 :: rest) 45).1, (cut_n (110 :: rest) 45).2]
        refine w_extr rfl rfl ?_
        refine w_extr rfl rfl ?_
        refine a_cond1 rfl rfl ?_
        refine w_and ?_
        exact hF
  · rintro _ H ⟨rfl, m⟩
    exact k H m
def okI (n : Int) : Bool := decide (-1000000000 ≤ n) && decide (n ≤ 1000000000)
theorem con_anWithin [Laid] (n : Int) : Con Tryz.prog 20 [int n] (bool (okI n)) := by
  refine (V20 _).gives (by simp) (by simp) ?_
  unfold W20
  repeat' (first
    | (with_reducible apply w_let)
    | (with_reducible apply w_and)
    | (with_reducible refine And.intro True.intro ?_)
    | ((with_reducible apply a_lss); rfl; rfl)
    | ((with_reducible apply a_leq); rfl; rfl)
    | ((with_reducible apply a_gtr); rfl; rfl)
    | ((with_reducible apply a_geq); rfl; rfl)
    | ((with_reducible apply a_eql); rfl; rfl)
    | ((with_reducible apply a_neq); rfl; rfl)
    | ((with_reducible apply a_eqlS); rfl; rfl)
    | ((with_reducible apply a_neqS); rfl; rfl)
    | ((with_reducible apply a_eqlB); rfl; rfl)
    | ((with_reducible apply a_neqB); rfl; rfl)
    | ((with_reducible apply w_add); rfl; rfl; first | assumption | (unfold inI; omega))
    | ((with_reducible apply w_sub); rfl; rfl; first | assumption | (unfold inI; omega))
    | ((with_reducible apply a_not); rfl)
    | ((with_reducible apply w_pick_t); rfl)
    | ((with_reducible apply w_pick_f); rfl)
    | ((with_reducible apply a_cond1); rfl; first | rfl | assumption)
    | ((with_reducible apply a_cond0); rfl; first | rfl | assumption)
    | ((with_reducible apply a_guard1); rfl; first | rfl | assumption)
    | ((with_reducible apply a_guard0); rfl; first | rfl | assumption)
    | ((with_reducible apply w_guard_u); rfl)
    | ((with_reducible apply a_pick1); rfl; first | rfl | assumption)
    | ((with_reducible apply a_pick0); rfl; first | rfl | assumption)
    | ((with_reducible apply a_pickN); rfl)
    | ((with_reducible apply a_condN); rfl)
    | ((with_reducible apply a_guardN); rfl)
    | ((with_reducible apply w_fad); rfl)
    | ((with_reducible apply a_fadI); rfl)
    | ((with_reducible apply w_load); rfl; rfl; rfl)
    | ((with_reducible apply w_loadI); rfl)
    | ((with_reducible apply w_loadA); rfl; rfl; first | exact Nat.le_refl _ | exact Nat.le_of_ble_eq_true rfl)
    | ((with_reducible apply a_eqA); rfl; rfl; rfl)
    | ((with_reducible apply a_loadAI); rfl; first | rfl | simp)
    | ((with_reducible apply w_new); first | rfl | simp)
    | ((with_reducible apply a_store); rfl; rfl; rfl; rfl; (first | exact Nat.le_refl _ | simp); (first | rfl | simp); (first | rfl | simp))
    | ((with_reducible apply a_lenS); rfl; intro _)
    | ((with_reducible apply a_len); rfl; (first | rfl | simp); intro _)
    | ((with_reducible apply a_build); rfl)
    | ((with_reducible apply a_extr); rfl; rfl)
    | ((with_reducible apply a_cond); rfl)
    | ((with_reducible apply a_guard); rfl)
    | (with_reducible intro _))
  all_goals refine .pure (by simp) ?_
  all_goals simp only [nx_zero, nx_one, AV.v.injEq, Value.bool.injEq, Value.int.injEq, true_and] at *
  all_goals grind [okI]
theorem con_anCheck [Laid] (A B : Int) (hA : okI A = true) (hB : okI B = true) : Con Tryz.prog 12 [.agg [int A, int B]] (int 0) := by
  refine (V12 _).gives (by simp [PureL]) (by simp) ?_
  unfold W12
  refine n_new (cs := [int A, int B]) (n := 0) (h' := [anC A B]) rfl (by simp [scal]) rfl rfl ?_
  refine w_fad rfl ?_
  refine w_load rfl rfl rfl ?_
  refine iCall_con (by kernel_rfl) (con_anWithin A) ?_
  rw [hA]
  refine a_not rfl ?_
  refine w_let ?_
  refine a_guard1 rfl rfl ?_
  refine w_fad rfl ?_
  refine w_load rfl rfl rfl ?_
  refine iCall_con (by kernel_rfl) (con_anWithin B) ?_
  rw [hB]
  refine a_not rfl ?_
  refine w_pick_f rfl ?_
  refine a_cond0 rfl rfl ?_
  exact .pure (by simp) rfl
theorem con_Of [Laid] {sp l sq : List Tok} {A B : Int} (hs : ∀ t ∈ sp, t.k = 13) (hq : ∀ t ∈ sq, t.k = 13) (hl : noK 13 l) (hn : sp.length ≤ 2 ^ 10 ∧ l.length ≤ 2 ^ 10 ∧ sq.length ≤ 2 ^ 10) (rd : Rdd l A B sq) (hA : okI A = true) (hB : okI B = true) :
    Con Tryz.prog 9 [.sl 5 (rowsT (sp ++ l))] (.tup [.agg [int A, int B], int 0]) := by
  refine (V9 _).gives (by simp only [PureL, Aw.Pure, and_true]; exact rowsT_pure _) (by simp [PureL]) ?_
  unfold W9
  refine n_new (cs := [int 0, int 0]) (n := 0) (h' := [anC 0 0]) rfl (by simp [scal]) rfl rfl ?_
  refine a_build rfl ?_
  refine n_new (cs := [.sl 5 (rowsT (sp ++ l))]) (n := 1) (h' := [anC 0 0, rdB (sp ++ l)]) rfl rfl rfl rfl ?_
  have r0 : Rd 1 [anC 0 0, rdB (sp ++ l)] (sp ++ l) := rfl
  refine k_spaces (sp := sp) r0 rfl hs hl (by omega) ?_
  have r1 := r0.set l
  refine rd inferInstance 1 _ _ r1 fun H m => ?_
  have r2 := m.rd r1
  have hV : H[0]? = some (anC 0 0) := by rw [m.other (by simp) (by decide)]; rfl
  have hHl := m.len
  simp at hHl
  refine w_extr rfl rfl ?_
  refine w_extr rfl rfl ?_
  refine n_new (cs := [int 0, int 0]) (n := H.length) (h' := H ++ [anC 0 0]) rfl (by simp [scal]) rfl rfl ?_
  refine n_store (cs := [int A, int B]) (h' := H ++ [anC A B]) rfl (b := ⟨23, [int 0, int 0], true⟩) (by simp) rfl rfl (by simp) rfl (by simp [scal]) (by rw [List.set_append_right _ _ (Nat.le_refl _)]; simp) ?_
  have r3 : Rd 1 (H ++ [anC A B]) (sq ++ []) := by rw [List.append_nil]; exact r2.app _
  refine k_spaces (sp := sq) (l := []) r3 rfl hq trivial (by simp; omega) ?_
  have r4 := r3.set []
  have hV4 : ((H ++ [anC A B]).set 1 (rdB []))[0]? = some (anC 0 0) := by rw [List.getElem?_set_ne (by decide), List.getElem?_append_left (by omega)]; exact hV
  have hW4 : ((H ++ [anC A B]).set 1 (rdB []))[H.length]? = some (anC A B) := by rw [List.getElem?_set_ne (by omega)]; simp
  generalize (H ++ [anC A B]).set 1 (rdB []) = H4 at r4 hV4 hW4
  refine a_not rfl ?_
  refine w_let ?_
  refine a_guard1 rfl rfl ?_
  refine w_nilF ?_
  refine w_fad rfl ?_
  refine w_load rfl r4 rfl ?_
  refine w_lenS rfl ?_
  refine a_gtr rfl rfl ?_
  refine w_and ?_
  refine w_pick_f rfl ?_
  refine w_let ?_
  refine a_guard1 rfl rfl ?_
  refine w_loadA rfl hW4 (by simp) ?_
  refine iCall_con (by kernel_rfl) (con_anCheck A B hA hB) ?_
  refine a_neq rfl rfl ?_
  refine w_and ?_
  refine w_pick_f rfl ?_
  refine a_cond0 rfl rfl ?_
  refine w_loadA rfl hW4 (by simp) ?_
  refine k_ret2 (A := A) (B := B) (K := fun r9 g8 => Gives (.tup [.agg [int A, int B], int 0]) (.tup [r9, int 0]) g8) hV4 ?_
  exact .pure (by simp [PureL]) rfl
end Go.Proofs.YtfijncpmhnnpiaaGreatDoor
end
