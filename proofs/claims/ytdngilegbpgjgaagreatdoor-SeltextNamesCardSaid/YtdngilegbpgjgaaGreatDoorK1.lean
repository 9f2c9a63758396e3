/-
  Letters, spaces, digits and beginnings: small functions that are known by contracts. strings.Index is known. A strings.Builder's copyCheck and String are known to the runs.
  No conditions.
-/
import Derived.Test.YtdngilegbpgjgaaGreatDoorWTok
import Derived.Test.YtdngilegbpgjgaaGreatDoorC1
import Derived.Test.YtdngilegbpgjgaaGreatDoorWalk
import Derived.Test.YtdngilegbpgjgaaGreatDoorShelfIx
import Derived.Test.YtdngilegbpgjgaaGreatDoorB1
set_option linter.unusedVariables false
set_option linter.unusedSimpArgs false
section
namespace Go.Proofs.YtdngilegbpgjgaaGreatDoor
open Go Go.Aw Go.RowKit
set_option maxRecDepth 100000
variable [MaxL]
section
variable [Laid]
omit [Laid] in
omit [MaxL] in
theorem w_or {x y : AV} {a b : Int} {K : AV → Prop} (ex : x = int a) (ey : y = int b) (q : K (int (ibits .or .i64 a b))) : iBin .or x y K := by
  subst ex
  subst ey
  simpa [iBin] using q
def inB (b f t : Int) : Bool := decide (f ≤ b) && decide (b ≤ t)
omit [MaxL] in
theorem con_within (b f t : Int) : Con Tryz.prog 154 [int b, int f, int t] (bool (inB b f t)) := by
  refine (V154 _ _ _).gives (by simp) (by simp) ?_
  unfold W154
  by_cases h1 : f ≤ b
  · simp [h1]
    exact .pure (by simp) (by simp [inB, h1])
  · simp [h1]
    exact .pure (by simp) (by simp [inB, h1])
omit [MaxL] in
theorem con_digit (n : Int) : Con Tryz.prog 113 [int n] (bool (inB n 48 57)) := by
  refine (V113 _).gives (by simp) (by simp) ?_
  unfold W113
  refine iCall_con (by kernel_rfl) (con_within n 48 57) ?_
  exact .pure (by simp) rfl
def firstI (n : Int) : Bool := (inB (ibits .or .i64 n 32) 97 122 && decide (n < 128) && decide (64 < n)) || decide (n = 95) || decide (128 ≤ n)
omit [MaxL] in
theorem con_first (n : Int) : Con Tryz.prog 112 [int n] (bool (firstI n)) := by
  refine (V112 _).gives (by simp) (by simp) ?_
  unfold W112
  refine w_or rfl rfl ?_
  refine iCall_con (by kernel_rfl) (con_within (ibits .or .i64 n 32) 97 122) ?_
  by_cases c1 : n < 128
  all_goals by_cases c2 : 64 < n
  all_goals by_cases c3 : n = 95
  all_goals cases h1 : inB (ibits .or .i64 n 32) 97 122
  all_goals
    repeat first | ((with_reducible apply w_let)) | ((with_reducible apply w_and)) | ((with_reducible apply w_guard_y); rfl) | ((with_reducible apply w_guard_n); rfl) | ((with_reducible apply w_guard_u); rfl) | ((with_reducible apply w_pick_t); rfl) | ((with_reducible apply w_pick_f); rfl) | ((with_reducible apply w_lss true); rfl; rfl; exact decide_eq_true (by omega)) | ((with_reducible apply w_lss false); rfl; rfl; exact decide_eq_false (by omega)) | ((with_reducible apply w_leq true); rfl; rfl; exact decide_eq_true (by omega)) | ((with_reducible apply w_leq false); rfl; rfl; exact decide_eq_false (by omega)) | ((with_reducible apply w_gtr true); rfl; rfl; exact decide_eq_true (by omega)) | ((with_reducible apply w_gtr false); rfl; rfl; exact decide_eq_false (by omega)) | ((with_reducible apply w_geq true); rfl; rfl; exact decide_eq_true (by omega)) | ((with_reducible apply w_geq false); rfl; rfl; exact decide_eq_false (by omega)) | ((with_reducible apply w_eql true); rfl; rfl; exact decide_eq_true (by omega)) | ((with_reducible apply w_eql false); rfl; rfl; exact decide_eq_false (by omega))
    exact .pure (by simp) (by first | (simp [firstI, h1, c1, c2, c3]; done) | (simp [firstI, h1, c1, c2, c3]; omega) | (exfalso; omega))
def spaceI (n : Int) : Bool := decide (n = 32) || decide (n = 9) || decide (n = 10)
omit [MaxL] in
theorem con_space (n : Int) : Con Tryz.prog 71 [int n] (bool (spaceI n)) := by
  refine (V71 _).gives (by simp) (by simp) ?_
  unfold W71
  by_cases c1 : n = 32
  all_goals by_cases c2 : n = 9
  all_goals by_cases c3 : n = 10
  all_goals
    repeat first | ((with_reducible apply w_let)) | ((with_reducible apply w_and)) | ((with_reducible apply w_guard_y); rfl) | ((with_reducible apply w_guard_n); rfl) | ((with_reducible apply w_guard_u); rfl) | ((with_reducible apply w_pick_t); rfl) | ((with_reducible apply w_pick_f); rfl) | ((with_reducible apply w_lss true); rfl; rfl; exact decide_eq_true (by omega)) | ((with_reducible apply w_lss false); rfl; rfl; exact decide_eq_false (by omega)) | ((with_reducible apply w_leq true); rfl; rfl; exact decide_eq_true (by omega)) | ((with_reducible apply w_leq false); rfl; rfl; exact decide_eq_false (by omega)) | ((with_reducible apply w_gtr true); rfl; rfl; exact decide_eq_true (by omega)) | ((with_reducible apply w_gtr false); rfl; rfl; exact decide_eq_false (by omega)) | ((with_reducible apply w_geq true); rfl; rfl; exact decide_eq_true (by omega)) | ((with_reducible apply w_geq false); rfl; rfl; exact decide_eq_false (by omega)) | ((with_reducible apply w_eql true); rfl; rfl; exact decide_eq_true (by omega)) | ((with_reducible apply w_eql false); rfl; rfl; exact decide_eq_false (by omega))
    exact .pure (by simp) (by first | (simp [spaceI, c1, c2, c3]; done) | (exfalso; omega))
omit [MaxL] in
theorem con_letter (n : Int) : Con Tryz.prog 74 [int n] (bool (firstI n || inB n 48 57 || decide (n = 45))) := by
  refine (V74 _).gives (by simp) (by simp) ?_
  unfold W74
  refine iCall_con (by kernel_rfl) (con_first n) ?_
  cases h1 : firstI n
  · repeat first | ((with_reducible apply w_let)) | ((with_reducible apply w_and)) | ((with_reducible apply w_guard_y); rfl) | ((with_reducible apply w_guard_n); rfl) | ((with_reducible apply w_guard_u); rfl) | ((with_reducible apply w_pick_t); rfl) | ((with_reducible apply w_pick_f); rfl) | ((with_reducible apply w_lss true); rfl; rfl; exact decide_eq_true (by omega)) | ((with_reducible apply w_lss false); rfl; rfl; exact decide_eq_false (by omega)) | ((with_reducible apply w_leq true); rfl; rfl; exact decide_eq_true (by omega)) | ((with_reducible apply w_leq false); rfl; rfl; exact decide_eq_false (by omega)) | ((with_reducible apply w_gtr true); rfl; rfl; exact decide_eq_true (by omega)) | ((with_reducible apply w_gtr false); rfl; rfl; exact decide_eq_false (by omega)) | ((with_reducible apply w_geq true); rfl; rfl; exact decide_eq_true (by omega)) | ((with_reducible apply w_geq false); rfl; rfl; exact decide_eq_false (by omega)) | ((with_reducible apply w_eql true); rfl; rfl; exact decide_eq_true (by omega)) | ((with_reducible apply w_eql false); rfl; rfl; exact decide_eq_false (by omega))
    refine iCall_con (by kernel_rfl) (con_digit n) ?_
    cases h2 : inB n 48 57
    all_goals by_cases c1 : n = 45
    all_goals
      repeat first | ((with_reducible apply w_let)) | ((with_reducible apply w_and)) | ((with_reducible apply w_guard_y); rfl) | ((with_reducible apply w_guard_n); rfl) | ((with_reducible apply w_guard_u); rfl) | ((with_reducible apply w_pick_t); rfl) | ((with_reducible apply w_pick_f); rfl) | ((with_reducible apply w_lss true); rfl; rfl; exact decide_eq_true (by omega)) | ((with_reducible apply w_lss false); rfl; rfl; exact decide_eq_false (by omega)) | ((with_reducible apply w_leq true); rfl; rfl; exact decide_eq_true (by omega)) | ((with_reducible apply w_leq false); rfl; rfl; exact decide_eq_false (by omega)) | ((with_reducible apply w_gtr true); rfl; rfl; exact decide_eq_true (by omega)) | ((with_reducible apply w_gtr false); rfl; rfl; exact decide_eq_false (by omega)) | ((with_reducible apply w_geq true); rfl; rfl; exact decide_eq_true (by omega)) | ((with_reducible apply w_geq false); rfl; rfl; exact decide_eq_false (by omega)) | ((with_reducible apply w_eql true); rfl; rfl; exact decide_eq_true (by omega)) | ((with_reducible apply w_eql false); rfl; rfl; exact decide_eq_false (by omega))
      exact .pure (by simp) (by simp [c1])
  · repeat first | ((with_reducible apply w_let)) | ((with_reducible apply w_and)) | ((with_reducible apply w_guard_y); rfl) | ((with_reducible apply w_guard_n); rfl) | ((with_reducible apply w_guard_u); rfl) | ((with_reducible apply w_pick_t); rfl) | ((with_reducible apply w_pick_f); rfl) | ((with_reducible apply w_lss true); rfl; rfl; exact decide_eq_true (by omega)) | ((with_reducible apply w_lss false); rfl; rfl; exact decide_eq_false (by omega)) | ((with_reducible apply w_leq true); rfl; rfl; exact decide_eq_true (by omega)) | ((with_reducible apply w_leq false); rfl; rfl; exact decide_eq_false (by omega)) | ((with_reducible apply w_gtr true); rfl; rfl; exact decide_eq_true (by omega)) | ((with_reducible apply w_gtr false); rfl; rfl; exact decide_eq_false (by omega)) | ((with_reducible apply w_geq true); rfl; rfl; exact decide_eq_true (by omega)) | ((with_reducible apply w_geq false); rfl; rfl; exact decide_eq_false (by omega)) | ((with_reducible apply w_eql true); rfl; rfl; exact decide_eq_true (by omega)) | ((with_reducible apply w_eql false); rfl; rfl; exact decide_eq_false (by omega))
    exact .pure (by simp) (by simp)
omit [MaxL] in
theorem con_pre (l m : List UInt8) : Con Tryz.prog 109 [.str l, .str m] (bool (decide (m.length ≤ l.length) && decide (l.take m.length = m))) := by
  refine (V109 _ _).gives (by simp) (by simp) ?_
  unfold W109
  by_cases h1 : m.length ≤ l.length
  · simp [h1]
    refine fun _ _ => .pure (by simp) (by simp)
  · simp [h1]
    refine fun _ _ => .pure (by simp) (by simp)
omit [MaxL] in
theorem con_pre2 (l m : List UInt8) : Con Tryz.prog 68 [.str l, .str m] (bool (decide (m.length ≤ l.length) && decide (l.take m.length = m))) := by
  refine (V68 _ _).gives (by simp) (by simp) ?_
  unfold W68
  refine iCall_con (by kernel_rfl) (con_pre l m) ?_
  exact .pure (by simp) rfl
end
/-! Forms that the kernel runs. -/
noncomputable def preF (m : List UInt8) : List UInt8 → Bool := List.rec (motive := fun _ => List UInt8 → Bool) (fun _ => true) (fun y _ ih l => match l with | [] => false | x :: l => match Nat.beq x.toNat y.toNat with | true => ih l | false => false) m
omit [MaxL] in
theorem preF_eq : ∀ (m l : List UInt8), preF m l = (decide (m.length ≤ l.length) && decide (l.take m.length = m))
  | [], l => by simp [preF]
  | y :: m, [] => by simp [preF]
  | y :: m, x :: l => by
    have e : preF (y :: m) (x :: l) = (match Nat.beq x.toNat y.toNat with | true => preF m l | false => false) := rfl
    rw [e, preF_eq m l]
    by_cases h : x = y
    · subst h
      simp
    · have : Nat.beq x.toNat y.toNat = false := by
        cases z : Nat.beq x.toNat y.toNat with
        | false => rfl
        | true => exact absurd (UInt8.toNat_inj.1 (Nat.eq_of_beq_eq_true z)) h
      rw [this]
      simp [h]
def firstN (m : Nat) : Bool := match Nat.ble 65 m, Nat.ble m 127 with
  | true, true => (match Nat.ble 97 (Nat.lor m 32), Nat.ble (Nat.lor m 32) 122 with | true, true => true | _, _ => Nat.beq m 95)
  | true, false => true
  | _, _ => false
omit [MaxL] in
theorem firstN_eq : ∀ m : Nat, m < 256 → firstI (Int.ofNat m) = firstN m := by
  have : ((List.range 256).all fun m => firstI (Int.ofNat m) == firstN m) = true := by kernel_rfl
  intro m hm
  have := List.all_eq_true.1 this m (List.mem_range.2 hm)
  simpa using this
def spaceN (m : Nat) : Bool := match Nat.beq m 32 with | true => true | false => match Nat.beq m 9 with | true => true | false => Nat.beq m 10
def digitN (m : Nat) : Bool := match Nat.ble 48 m with | true => Nat.ble m 57 | false => false
def letterN (m : Nat) : Bool := match firstN m with | true => true | false => match digitN m with | true => true | false => Nat.beq m 45
omit [MaxL] in
theorem spaceN_eq : ∀ m : Nat, m < 256 → spaceI (Int.ofNat m) = spaceN m := by
  have : ((List.range 256).all fun m => spaceI (Int.ofNat m) == spaceN m) = true := by kernel_rfl
  intro m hm
  have := List.all_eq_true.1 this m (List.mem_range.2 hm)
  simpa using this
omit [MaxL] in
theorem digitN_eq : ∀ m : Nat, m < 256 → inB (Int.ofNat m) 48 57 = digitN m := by
  have : ((List.range 256).all fun m => inB (Int.ofNat m) 48 57 == digitN m) = true := by kernel_rfl
  intro m hm
  have := List.all_eq_true.1 this m (List.mem_range.2 hm)
  simpa using this
omit [MaxL] in
theorem letterN_eq : ∀ m : Nat, m < 256 → (firstI (Int.ofNat m) || inB (Int.ofNat m) 48 57 || decide ((Int.ofNat m) = 45)) = letterN m := by
  have : ((List.range 256).all fun m => (firstI (Int.ofNat m) || inB (Int.ofNat m) 48 57 || decide ((Int.ofNat m) = 45)) == letterN m) = true := by kernel_rfl
  intro m hm
  have := List.all_eq_true.1 this m (List.mem_range.2 hm)
  simpa using this
/-- One byte's class, or -1's. -/
noncomputable def byteC (g : Nat → Bool) (args : List AV) : Option (AV × Option Heap) := match args with
  | [.v (.int .i64 n)] => (match n with
    | .ofNat m => (match Nat.ble m 255 with | true => some (bool (g m), none) | false => none)
    | .negSucc m => (match m with | 0 => some (bool false, none) | _ => none))
  | _ => none
theorem byteC_ok {f : Nat} {F : Int → Bool} {g : Nat → Bool} (hb : hasBody Tryz.prog f = true) (hc : ∀ n, Con Tryz.prog f [int n] (bool (F n))) (hg : ∀ m : Nat, m < 256 → F (Int.ofNat m) = g m) (h1 : F (-1) = false)
    {args : List AV} {h : Heap} {v : AV} {oh : Option Heap} (e : byteC g args = some (v, oh)) : oh = none ∧ hasBody Tryz.prog f = true ∧ ACall Tryz.prog f args h fun r hh => r = v ∧ hh = h := by
  unfold byteC at e
  split at e
  · split at e
    · rename_i m
      split at e
      · rename_i hm
        cases e
        refine ⟨rfl, hb, ?_⟩
        rw [← hg m (by have := Nat.le_of_ble_eq_true hm; omega)]
        exact (hc _).call ⟨rfl, rfl⟩
      · cases e
    · split at e
      · cases e
        refine ⟨rfl, hb, ?_⟩
        have := (hc (-1)).call (h := h) (K := fun r hh => r = bool (F (-1)) ∧ hh = h) ⟨rfl, rfl⟩
        rw [h1] at this
        exact this
      · cases e
  · cases e
noncomputable def preC (args : List AV) : Option (AV × Option Heap) := match args with
  | [.str l, .str m] => some (bool (preF m l), none)
  | _ => none
noncomputable def known3 : CallF := fun f args h => match Nat.beq f 112 with
  | true => byteC firstN args
  | false => match Nat.beq f 74 with
    | true => byteC letterN args
    | false => match Nat.beq f 71 with
      | true => byteC spaceN args
      | false => match Nat.beq f 113 with
        | true => byteC digitN args
        | false => match Nat.beq f 109 with
          | true => preC args
          | false => match Nat.beq f 68 with
            | true => preC args
            | false => known2 f args h
theorem known3_ok : CallOK Tryz.prog known3 := by
  intro f args h v oh e
  unfold known3 at e
  split at e
  · rename_i hf
    obtain rfl := Nat.eq_of_beq_eq_true hf
    obtain ⟨rfl, hb, c⟩ := byteC_ok (by kernel_rfl) con_first firstN_eq (by kernel_rfl) (h := h) e
    exact .inl ⟨hb, c⟩
  split at e
  · rename_i hf
    obtain rfl := Nat.eq_of_beq_eq_true hf
    obtain ⟨rfl, hb, c⟩ := byteC_ok (by kernel_rfl) con_letter letterN_eq (by kernel_rfl) (h := h) e
    exact .inl ⟨hb, c⟩
  split at e
  · rename_i hf
    obtain rfl := Nat.eq_of_beq_eq_true hf
    obtain ⟨rfl, hb, c⟩ := byteC_ok (by kernel_rfl) con_space spaceN_eq (by kernel_rfl) (h := h) e
    exact .inl ⟨hb, c⟩
  split at e
  · rename_i hf
    obtain rfl := Nat.eq_of_beq_eq_true hf
    obtain ⟨rfl, hb, c⟩ := byteC_ok (by kernel_rfl) con_digit digitN_eq (by kernel_rfl) (h := h) e
    exact .inl ⟨hb, c⟩
  split at e
  · rename_i hf
    obtain rfl := Nat.eq_of_beq_eq_true hf
    unfold preC at e
    split at e
    · rename_i l m
      cases e
      rw [preF_eq]
      exact .inl ⟨by kernel_rfl, (con_pre l m).call ⟨rfl, rfl⟩⟩
    · cases e
  split at e
  · rename_i hf
    obtain rfl := Nat.eq_of_beq_eq_true hf
    unfold preC at e
    split at e
    · rename_i l m
      cases e
      rw [preF_eq]
      exact .inl ⟨by kernel_rfl, (con_pre2 l m).call ⟨rfl, rfl⟩⟩
    · cases e
  exact known2_ok _ _ _ _ _ e
end Go.Proofs.YtdngilegbpgjgaaGreatDoor
end

section
namespace Go.Proofs.YtdngilegbpgjgaaGreatDoor
open Go Go.Aw Go.RowKit
set_option maxRecDepth 1000000
variable [MaxL]
theorem acallIx (l m : List UInt8) (hl : l.length < 4294967281) (h : Heap) : ACall Tryz.prog 69 [.str l, .str m] h fun r hh => r = int (Lib.index l m) ∧ hh = h := by
  intro base ι S w vs h1 h2
  have hg := (h2.gl 0 [int MaxL.m] rfl).1.get 0 (int MaxL.m) rfl
  obtain ⟨u, hu, _, hr⟩ := hg
  rw [Rep_v] at hr
  subst hr
  rw [Nat.zero_add] at hu
  match vs, h1 with
  | [], h1 => simp at h1
  | [v], h1 => simp at h1
  | v :: u :: x :: vs, h1 => simp at h1
  | [v, u], h1 =>
    simp only [RepL_cons, RepL_nil, and_true, Rep_str] at h1
    obtain ⟨⟨rfl, _⟩, rfl, _⟩ := h1
    refine (Any.strings_Index lays143 ⟨l.toArray⟩ ⟨m.toArray⟩ MaxL.m w (by simp [ByteArray.size]; omega) hu).mono ?_
    rintro e w' ⟨rfl, rfl⟩
    exact ⟨_, ι, S, int (Lib.index l m), h, rfl, Evo.refl _ _ _ _ _, by simp, h2, Nat.le_refl _, rfl, rfl⟩
noncomputable def known4 : CallF := fun f args h => match Nat.beq f 69 with
  | true => (match args with | [.str l, .str m] => (match Nat.ble (lenF l) 100000 with | true => some (int (Lib.index l m), none) | false => none) | _ => none)
  | false => known3 f args h
theorem known4_ok : CallOK Tryz.prog known4 := by
  intro f args h v oh e
  unfold known4 at e
  split at e
  · rename_i hf
    obtain rfl := Nat.eq_of_beq_eq_true hf
    split at e
    · split at e
      · rename_i hl
        cases e
        rw [Nat.ble_eq, lenF_eq] at hl
        exact .inl ⟨by kernel_rfl, acallIx _ _ (by omega) h⟩
      · cases e
    · cases e
  exact known3_ok _ _ _ _ _ e
end Go.Proofs.YtdngilegbpgjgaaGreatDoor
end

section
namespace Go.Proofs.YtdngilegbpgjgaaGreatDoor
open Go Go.Aw Go.RowKit
set_option maxRecDepth 1000000
variable [MaxL]
noncomputable def ccE (id o : Nat) (h : Heap) : Option (AV × Option Heap) := match getE h id with
  | some (.blk x) => (match getE x.cells o with
    | some (.op id' o') => (match Nat.beq id' id, Nat.beq o' o with | true, true => some (.tup [], none) | _, _ => none)
    | some (.v (.pointer none)) => (match x.wr, Nat.beq x.ty 77, Nat.beq o 0, hasN 2 x.cells with | true, true, true, true => some (.tup [], some (setE h id (.blk ⟨x.ty, setE x.cells 0 (.op id 0), x.wr⟩))) | _, _, _, _ => none)
    | _ => none)
  | _ => none
noncomputable def strE (id o : Nat) (h : Heap) : Option (AV × Option Heap) := match getE h id with
  | some (.blk x) => (match getE x.cells (Nat.succ o) with
    | some (.sb tid sz rows) => (match getE h tid, rowsB rows with
      | some (.tok e sz2 n), some (b :: l) => (match Nat.beq sz 1, Nat.beq sz2 1, Nat.beq e 5, Nat.beq n (lenF rows) with | true, true, true, true => some (.str (b :: l), some (setE h tid .dead)) | _, _, _, _ => none)
      | _, _ => none)
    | some (.v (.slice none 0 0)) => some (.str [], none)
    | _ => none)
  | _ => none
noncomputable def known5 : CallF := fun f args h => match Nat.beq f 62 with
  | true => (match args with | [.op id o] => ccE id o h | _ => none)
  | false => match Nat.beq f 31 with
    | true => (match args with | [.op id o] => strE id o h | _ => none)
    | false => known4 f args h
omit [MaxL] in
theorem ccE_ok {id o : Nat} {h : Heap} {v : AV} {oh : Option Heap} [Laid] (e : ccE id o h = some (v, oh)) : ACall Tryz.prog 62 [.op id o] h fun r hh => r = v ∧ hh = oh.getD h := by
  unfold ccE at e
  split at e
  · rename_i x hx
    rw [getE_eq] at hx
    split at e
    · rename_i id' o' hc
      rw [getE_eq] at hc
      split at e
      · rename_i h1 h2
        obtain rfl := Nat.eq_of_beq_eq_true h1
        obtain rfl := Nat.eq_of_beq_eq_true h2
        cases e
        exact acc_used hx hc
      · cases e
    · rename_i hc
      rw [getE_eq] at hc
      split at e
      · rename_i h1 h2 h3 h4
        obtain rfl := Nat.eq_of_beq_eq_true h3
        have h2 := Nat.eq_of_beq_eq_true h2
        rw [hasN_iff] at h4
        cases e
        have := acc_fresh hx h1 h2 hc h4
        simpa [setE_eq] using this
      · cases e
    · cases e
  · cases e
omit [MaxL] in
theorem strE_ok {id o : Nat} {h : Heap} {v : AV} {oh : Option Heap} [Laid] (e : strE id o h = some (v, oh)) : ACall Tryz.prog 31 [.op id o] h fun r hh => r = v ∧ hh = oh.getD h := by
  unfold strE at e
  split at e
  · rename_i x hx
    rw [getE_eq] at hx
    split at e
    · rename_i tid sz rows hc
      rw [getE_eq] at hc
      split at e
      · rename_i e1 sz2 n b l ht hr
        rw [getE_eq] at ht
        split at e
        · rename_i h1 h2 h3 h4
          obtain rfl := Nat.eq_of_beq_eq_true h1
          obtain rfl := Nat.eq_of_beq_eq_true h2
          obtain rfl := Nat.eq_of_beq_eq_true h3
          have h4 := Nat.eq_of_beq_eq_true h4
          rw [lenF_eq] at h4
          cases e
          have := acc_string hx hc ht h4 (rowsB_ok hr) (by simp)
          simpa [setE_eq] using this
        · cases e
      · cases e
    · rename_i hc
      rw [getE_eq] at hc
      cases e
      exact acc_string0 hx hc
    · cases e
  · cases e
theorem known5_ok : CallOK Tryz.prog known5 := by
  intro f args h v oh e
  unfold known5 at e
  split at e
  · rename_i hf
    obtain rfl := Nat.eq_of_beq_eq_true hf
    split at e
    · exact .inl ⟨by kernel_rfl, ccE_ok e⟩
    · cases e
  · split at e
    · rename_i hf
      obtain rfl := Nat.eq_of_beq_eq_true hf
      split at e
      · exact .inl ⟨by kernel_rfl, strE_ok e⟩
      · cases e
    · exact known4_ok _ _ _ _ _ e
end Go.Proofs.YtdngilegbpgjgaaGreatDoor
end
