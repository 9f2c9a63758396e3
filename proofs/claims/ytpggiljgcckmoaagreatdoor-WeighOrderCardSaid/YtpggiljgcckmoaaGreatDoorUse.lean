/-
  How the words of '..Ops' read at known values; calls with what is the caller's own.
  No conditions: lemmas.
-/
import Derived.Test.YtpggiljgcckmoaaGreatDoorTell
namespace Go.Aw
open Go Go.RowKit
variable [Laid]

omit [Laid] in
@[simp] theorem iPick_b (t : Bool) (a b : AV) (K : AV → Prop) : iPick (.v (.bool t)) a b K ↔ (t = true → K a) ∧ (t = false → K b) := by simp [iPick]
omit [Laid] in
@[simp] theorem iCond_b (t : Bool) (A B : Prop) : iCond (.v (.bool t)) A B ↔ (t = true → A) ∧ (t = false → B) := by simp [iCond]
omit [Laid] in
@[simp] theorem iGuard_b (t w : Bool) (A B : Prop) : iGuard (.v (.bool t)) w A B ↔ (t = w → A) ∧ (t = (!w) → B) := by
  simp [iGuard, undef]
omit [Laid] in
@[simp] theorem iGuard_u (w : Bool) (A B : Prop) : iGuard (.v undef) w A B ↔ B := by simp [iGuard, undef]
omit [Laid] in
@[simp] theorem negA_b (w t : Bool) : negA w (.v (.bool t)) = .v (.bool (!w)) := rfl
omit [Laid] in
@[simp] theorem negA_u (w : Bool) : negA w (.v undef) = .v undef := rfl
omit [Laid] in
@[simp] theorem iNot_b (t : Bool) (K : AV → Prop) : iNot (.v (.bool t)) K ↔ K (.v (.bool (!t))) := by simp [iNot]
omit [Laid] in
@[simp] theorem iNeg_i (k : IntKind) (n : Int) (K : AV → Prop) : iNeg (.v (.int k n)) K ↔ iWr k (0 - n) K := by
  constructor
  · rintro ⟨k', n', e, h⟩; cases e; exact h
  · intro h; exact ⟨k, n, rfl, h⟩
omit [Laid] in
@[simp] theorem iConv_i (k k' : IntKind) (n : Int) (K : AV → Prop) : iConv k (.v (.int k' n)) K ↔ K (.v (.int k (k.wrap n))) := by
  constructor
  · rintro ⟨k'', n', e, h⟩; cases e; exact h
  · intro h; exact ⟨k', n, rfl, h⟩
omit [Laid] in
@[simp] theorem iWr_64 (n : Int) (K : AV → Prop) : iWr .i64 n K ↔ inI n ∧ K (.v (.int .i64 n)) := Iff.rfl
omit [Laid] in
@[simp] theorem iBin_ii (op : BinOp) (k : IntKind) (a b : Int) (K : AV → Prop) : iBin op (.v (.int k a)) (.v (.int k b)) K ↔ if isShift op then iShift op k a b K else iInt op k a b K := by
  unfold iBin
  simp
omit [Laid] in
@[simp] theorem iBin_ss (op : BinOp) (a b : List UInt8) (K : AV → Prop) : iBin op (.str a) (.str b) K ↔ iStr op a b K := Iff.rfl
omit [Laid] in
@[simp] theorem iLet_r (k : (List AV → Heap → Prop) → Prop) (f : List AV → Heap → Prop) : iLet k f ↔ k f := Iff.rfl
omit [Laid] in
@[simp] theorem nx_zero (a : AV) (s : List AV) : nx (a :: s) 0 = a := rfl
omit [Laid] in
@[simp] theorem nx_succ (a : AV) (s : List AV) (k : Nat) : nx (a :: s) (k + 1) = nx s k := rfl
omit [Laid] in
@[simp] theorem nx_one (a b : AV) (s : List AV) : nx (a :: b :: s) 1 = b := rfl

attribute [simp] Value.oneCell' iInt iStr isShift eqK eqS ldP optI bfill rep0 vcells scal setAll srcS rowOK Pure PureL PureR Le LeL

section
omit [Laid]
variable (K : AV → Prop) (KH : AV → Heap → Prop) (h : Heap)
@[simp] theorem iBinB_b (op : BinOp) (a b : Bool) : iBinB op (.v (.bool a)) (.v (.bool b)) K ↔ (match op with | .eql => K (bool (a == b)) | .neq => K (bool (!(a == b))) | _ => False) := Iff.rfl
@[simp] theorem iEqA_a (neg : Bool) (ks : List Nat) (xs ys : List AV) : iEqA neg ks (.agg xs) (.agg ys) K ↔ (match eqK ks xs ys with | some b => K (bool (if neg then !b else b)) | none => False) := Iff.rfl
@[simp] theorem iExtr_t (i : Nat) (cs : List AV) : iExtr i (.tup cs) K ↔ (match cs[i]? with | some c => K c | none => False) := Iff.rfl
@[simp] theorem iFld_a (g : Bool) (off n : Nat) (cs : List AV) : iFld g off n (.agg cs) K ↔ ldP g n (cs.drop off) K := Iff.rfl
@[simp] theorem iIdxS_s (l : List UInt8) (k : IntKind) (n : Int) : iIdxS (.str l) (.v (.int k n)) K ↔ (0 ≤ n ∧ n < l.length) ∧ K (.v (.int .u8 (l.getD n.toNat 0).toNat)) := Iff.rfl
@[simp] theorem iIdxA_a (g : Bool) (sz len : Nat) (cs : List AV) (k : IntKind) (n : Int) : iIdxA g sz len (.agg cs) (.v (.int k n)) K ↔ (0 ≤ n ∧ n < len) ∧ ldP g sz (cs.drop (n.toNat * sz)) K := Iff.rfl
@[simp] theorem iSlS_s (l : List UInt8) (lo hi : Option AV) : iSlS (.str l) lo hi K ↔ (match optI lo 0, optI hi l.length with
    | some a, some b => (0 ≤ a ∧ a ≤ b ∧ b ≤ l.length) ∧ K (.str ((l.take b.toNat).drop a.toNat))
    | _, _ => False) := Iff.rfl
@[simp] theorem iSl_s (n sz : Nat) (rows : List (List AV)) (lo hi : Option AV) : iSl n (.sl sz rows) lo hi K ↔ (match optI lo 0, optI hi rows.length with
    | some a, some b => sz = n ∧ (0 ≤ a ∧ a ≤ b ∧ b ≤ rows.length) ∧ K (.sl sz ((rows.take b.toNat).drop a.toNat))
    | _, _ => False) := Iff.rfl
@[simp] theorem iSl_b (n id sz : Nat) (rows : List (List AV)) (lo hi : Option AV) : iSl n (.sb id sz rows) lo hi K ↔ iSl n (.sl sz rows) lo hi K := Iff.rfl
@[simp] theorem iSl_o (n id off len sz : Nat) (lo hi : Option AV) : iSl n (.own id off len sz) lo hi K ↔ (match optI lo 0, optI hi len with
    | some a, some b => sz = n ∧ (0 ≤ a ∧ a ≤ b ∧ b ≤ len) ∧ K (.own id (off + a.toNat * sz) (b - a).toNat sz)
    | _, _ => False) := Iff.rfl
@[simp] theorem iSl_e (n : Nat) (lo hi : Option AV) : iSl n .emp lo hi K ↔ (match optI lo 0, optI hi 0 with
    | some a, some b => (a = 0 ∧ b = 0) ∧ K .emp
    | _, _ => False) := Iff.rfl
@[simp] theorem iSlA_o (n sz id off : Nat) (lo hi : Option AV) : iSlA n sz (.op id off) lo hi h K ↔ (match optI lo 0, optI hi n, h[id]? with
    | some a, some b, some (.blk blk) => (off + n * sz ≤ blk.cells.length ∧ 0 ≤ a ∧ a ≤ b ∧ b ≤ n ∧ n ≤ maxLen) ∧ K (.own id (off + a.toNat * sz) (b - a).toNat sz)
    | _, _, _ => False) := Iff.rfl
@[simp] theorem iIdxP_s (m sz : Nat) (rows : List (List AV)) (k : IntKind) (n : Int) : iIdxP m (.sl sz rows) (.v (.int k n)) K ↔ sz = m ∧ (0 ≤ n ∧ n < rows.length) ∧ K (.ip (rows.getD n.toNat [])) := Iff.rfl
@[simp] theorem iIdxP_b (m id sz : Nat) (rows : List (List AV)) (k : IntKind) (n : Int) : iIdxP m (.sb id sz rows) (.v (.int k n)) K ↔ sz = m ∧ (0 ≤ n ∧ n < rows.length) ∧ K (.ip (rows.getD n.toNat [])) := Iff.rfl
@[simp] theorem iIdxP_o (m id off len sz : Nat) (k : IntKind) (n : Int) : iIdxP m (.own id off len sz) (.v (.int k n)) K ↔ sz = m ∧ (0 ≤ n ∧ n < len) ∧ K (.op id (off + n.toNat * sz)) := Iff.rfl
@[simp] theorem iIdxQ_o (len sz id off : Nat) (k : IntKind) (n : Int) : iIdxQ len sz (.op id off) (.v (.int k n)) K ↔ (0 ≤ n ∧ n < len) ∧ K (.op id (off + n.toNat * sz)) := Iff.rfl
@[simp] theorem iIdxQ_i (len sz : Nat) (cs : List AV) (k : IntKind) (n : Int) : iIdxQ len sz (.ip cs) (.v (.int k n)) K ↔ (0 ≤ n ∧ n < len) ∧ K (.ip (cs.drop (n.toNat * sz))) := Iff.rfl
@[simp] theorem iFad_i (off : Nat) (cs : List AV) : iFad off (.ip cs) K ↔ K (.ip (cs.drop off)) := Iff.rfl
@[simp] theorem iFad_o (off id o : Nat) : iFad off (.op id o) K ↔ K (.op id (o + off)) := Iff.rfl
@[simp] theorem iNil_i (cs : List AV) : iNil (.ip cs) K ↔ K (.ip cs) := Iff.rfl
@[simp] theorem iNil_o (id o : Nat) : iNil (.op id o) K ↔ K (.op id o) := Iff.rfl
@[simp] theorem iNil_f (f : FuncId) (a b : List AV) : iNil (.fn (.func f) a b) K ↔ K (.fn (.func f) a b) := Iff.rfl
@[simp] theorem iNilF_i (P : Program) (cs : List AV) : iNilF P (.ip cs) K ↔ K (.ip cs) := Iff.rfl
@[simp] theorem iNilF_o (P : Program) (id o : Nat) : iNilF P (.op id o) K ↔ K (.op id o) := Iff.rfl
@[simp] theorem iNilF_f (P : Program) (f : FuncId) (a b : List AV) : iNilF P (.fn (.func f) a b) K ↔ K (.fn (.func f) a b) := Iff.rfl
@[simp] theorem iNilF_m (P : Program) (name : String) (t : TypeId) (v : AV) (r ys : List AV) : iNilF P (.fn (.method name) (.ifc t v :: r) ys) K ↔ (mrow P name t).isSome = true ∧ K (.fn (.method name) (.ifc t v :: r) ys) := Iff.rfl
@[simp] theorem iMkI_r (t : TypeId) (x : AV) : iMkI t x K ↔ K (.ifc t x) := Iff.rfl
@[simp] theorem iAsI_i (has : TypeId → Bool) (t : TypeId) (v : AV) : iAsI has (.ifc t v) K ↔ has t = true ∧ K (.tup [.ifc t v, bool true]) := Iff.rfl
@[simp] theorem iIsN_some (neg b : Bool) : iIsN neg (some b) K ↔ K (bool (negB neg b)) := Iff.rfl
@[simp] theorem negB_t (b : Bool) : negB true b = !b := rfl
@[simp] theorem negB_f (b : Bool) : negB false b = b := rfl
@[simp] theorem nilIT_n : nilIT (.v .nilIface) = some true := rfl
@[simp] theorem nilIT_i (t : TypeId) (x : AV) : nilIT (.ifc t x) = some false := rfl
@[simp] theorem nilPT_n : nilPT (.v (.pointer none)) = some true := rfl
@[simp] theorem nilPT_o (a b : Nat) : nilPT (.op a b) = some false := rfl
@[simp] theorem nilPT_i (cs : List AV) : nilPT (.ip cs) = some false := rfl
@[simp] theorem nilST_n (a b : Nat) : nilST (.v (.slice none a b)) = some true := rfl
@[simp] theorem nilST_o (a b c d : Nat) : nilST (.own a b (c + 1) d) = some false := rfl
@[simp] theorem iLoad_i (g : Bool) (sz : Nat) (cs : List AV) : iLoad g sz (.ip cs) h K ↔ ldP g sz cs K := Iff.rfl
@[simp] theorem iLoad_o (g : Bool) (sz id o : Nat) : iLoad g sz (.op id o) h K ↔ (match h[id]? with | some (.blk b) => ldP g sz (b.cells.drop o) K | _ => False) := Iff.rfl
@[simp] theorem iStore_o (KS : Heap → Prop) (sz id o : Nat) (v : AV) : iStore sz (.op id o) v h KS ↔ (match h[id]? with
    | some (.blk b) => (b.wr = true ∧ o + (vcells v).length ≤ b.cells.length ∧ (vcells v).length = sz ∧ (vcells v).all scal = true) ∧ KS (h.set id (.blk { b with cells := setAll b.cells o (vcells v) }))
    | _ => False) := Iff.rfl
@[simp] theorem iNew_r (t : TypeId) (v : AV) : iNew t v h KH ↔ (vcells v).all scal = true ∧ KH (.op h.length 0) (h ++ [.blk ⟨t, vcells v, true⟩]) := Iff.rfl
@[simp] theorem iBuild_r (zero : AV) (parts : List (Nat × Nat × AV)) : iBuild zero parts K ↔ (match bfill (vcells zero) parts with | some cs => K (.agg cs) | none => False) := Iff.rfl
@[simp] theorem iMkSl_r (t len sz : Nat) (zero : AV) (parts : List (Nat × Nat × AV)) : iMkSl t len sz zero parts h KH ↔ (match bfill (rep0 len (vcells zero)) parts with
  | some cs => (match len with
    | 0 => KH .emp h
    | len + 1 => KH (.own h.length 0 (len + 1) sz) (h ++ [.blk ⟨t, cs, true⟩]))
  | none => False) := Iff.rfl
@[simp] theorem iMkSlP_r (len sz : Nat) (zero : AV) (parts : List (Nat × Nat × AV)) : iMkSlP len sz zero parts K ↔ (match bfill (rep0 len (vcells zero)) parts with | some cs => K (.sl sz (chunks sz len cs)) | none => False) := Iff.rfl
@[simp] theorem iMake_i (e sz bytes : Nat) (zero : AV) (k k' : IntKind) (l c : Int) : iMake e sz bytes zero (.v (.int k l)) (.v (.int k' c)) h KH ↔ (0 ≤ l ∧ l ≤ c ∧ (bytes : Int) * c ≤ 281474976710656 ∧ c ≤ 9223372036854775807) ∧ KH (.own h.length 0 l.toNat sz) (h ++ [.blk ⟨e, rep0 c.toNat (vcells zero), true⟩]) := Iff.rfl
@[simp] theorem iToBytes_s (e : Nat) (l : List UInt8) : iToBytes e (.str l) h KH ↔ KH (.own h.length 0 l.length 1) (h ++ [.blk ⟨e, l.map byteA, true⟩]) := Iff.rfl
@[simp] theorem iLenS_s (l : List UInt8) : iLenS (.str l) K ↔ (l.length ≤ maxLen → K (int l.length)) := Iff.rfl
@[simp] theorem iLen_s (sz : Nat) (rows : List (List AV)) : iLen (.sl sz rows) K ↔ (rows.length ≤ maxLen → K (int rows.length)) := Iff.rfl
@[simp] theorem iLen_b (id sz : Nat) (rows : List (List AV)) : iLen (.sb id sz rows) K ↔ (rows.length ≤ maxLen → K (int rows.length)) := Iff.rfl
@[simp] theorem iLen_o (id off len sz : Nat) : iLen (.own id off len sz) K ↔ (len ≤ maxLen → K (int len)) := Iff.rfl
@[simp] theorem iLenSQ_s (l : List UInt8) : iLenSQ (.str l) K ↔ K (int l.length) := Iff.rfl
@[simp] theorem iLenQ_s (sz : Nat) (rows : List (List AV)) : iLenQ (.sl sz rows) K ↔ K (int rows.length) := Iff.rfl
@[simp] theorem iLenQ_b (id sz : Nat) (rows : List (List AV)) : iLenQ (.sb id sz rows) K ↔ K (int rows.length) := Iff.rfl
@[simp] theorem iLenQ_o (id off len sz : Nat) : iLenQ (.own id off len sz) K ↔ K (int len) := Iff.rfl
@[simp] theorem iLenQ_e : iLenQ .emp K ↔ K (int 0) := Iff.rfl
@[simp] theorem iLen_e : iLen .emp K ↔ K (int 0) := Iff.rfl
@[simp] theorem iMin_i (k : IntKind) (a b : Int) : iMin (.v (.int k a)) (.v (.int k b)) K ↔ K (.v (.int k (if b < a then b else a))) := by simp [iMin]
@[simp] theorem iMax_i (k : IntKind) (a b : Int) : iMax (.v (.int k a)) (.v (.int k b)) K ↔ K (.v (.int k (if b > a then b else a))) := by simp [iMax]
@[simp] theorem iStrS_s (l : List UInt8) : iStrS (.str l) K ↔ K (.str l) := Iff.rfl
@[simp] theorem srcR_s (sz : Nat) (rows : List (List AV)) : srcR h sz (.sl sz rows) = some rows := by simp [srcR, unsb]
@[simp] theorem srcR_b (sz id : Nat) (rows : List (List AV)) : srcR h sz (.sb id sz rows) = some rows := by simp [srcR, unsb]
@[simp] theorem srcR_e (sz : Nat) : srcR h sz .emp = some [] := rfl
@[simp] theorem srcR_o (sz id off len sz' : Nat) : srcR h sz (.own id off len sz') = (match h[id]? with
    | some (.blk b) => if sz' = sz ∧ off + len * sz ≤ b.cells.length then some (chunks sz len (b.cells.drop off)) else none
    | _ => none) := rfl
@[simp] theorem iApp_r (own : Bool) (e sz bytes : Nat) (x y : AV) : iApp own e sz bytes x y h KH ↔ iAppTo own e sz bytes x (srcR h sz y) h KH := Iff.rfl
@[simp] theorem iAppS_r (own : Bool) (e bytes : Nat) (x y : AV) : iAppS own e bytes x y h KH ↔ iAppTo own e 1 bytes x (srcS y) h KH := Iff.rfl
@[simp] theorem iAppTo_ef (e sz bytes : Nat) (rows : List (List AV)) : iAppTo false e sz bytes .emp (some rows) h KH ↔ rows.all (rowOK sz) = true ∧ roomA bytes rows.length ∧ KH (.sb h.length sz rows) (h ++ [.tok e sz rows.length]) := Iff.rfl
@[simp] theorem iAppTo_et (e sz bytes : Nat) (rows : List (List AV)) : iAppTo true e sz bytes .emp (some rows) h KH ↔ rows.all (rowOK sz) = true ∧ rows ≠ [] ∧ roomA bytes rows.length ∧ KH (.own h.length 0 rows.length sz) (h ++ [.blk ⟨e, rows.flatten, true⟩]) := Iff.rfl
@[simp] theorem iAppTo_b (own : Bool) (e sz bytes id sz' : Nat) (base rows : List (List AV)) : iAppTo own e sz bytes (.sb id sz' base) (some rows) h KH ↔ rows.all (rowOK sz) = true ∧ (match h[id]? with
      | some (.tok e' sz'' k) => (sz' = sz ∧ sz'' = sz ∧ e' = e ∧ k = base.length) ∧ roomA bytes (k + rows.length) ∧ KH (.sb id sz (base ++ rows)) (h.set id (.tok e sz (k + rows.length)))
      | _ => False) := Iff.rfl
@[simp] theorem iAppTo_o (own : Bool) (e sz bytes id off len sz' : Nat) (rows : List (List AV)) : iAppTo own e sz bytes (.own id off len sz') (some rows) h KH ↔ rows.all (rowOK sz) = true ∧ (match h[id]? with
      | some (.blk b) => (off = 0 ∧ sz' = sz ∧ b.wr = true ∧ b.ty = e ∧ len * sz ≤ b.cells.length) ∧ 0 < len + rows.length ∧ roomA bytes (len + rows.length) ∧
          KH (.own h.length 0 (len + rows.length) sz) (h.set id .dead ++ [.blk ⟨e, b.cells.take (len * sz) ++ rows.flatten, true⟩])
      | _ => False) := Iff.rfl
end

@[simp] theorem iInv_i (P : Program) (row : TypeId → Option FuncId) (t : TypeId) (v : AV) (args : List AV) (h : Heap) (KH : AV → Heap → Prop) : iInv P row (.ifc t v) args h KH ↔ (match row t with | some f => ACall P f (v :: args) h KH | none => False) := Iff.rfl

/-! ### What is pure is told as it is -/
omit [Laid] in
theorem tlA_pure (f : AV → AV) (L : Nat) (h : Heap) (a : AV) : Pure a → tlA f L h a = a := by
  refine AV.rec (motive_1 := fun a => Pure a → tlA f L h a = a) (motive_2 := fun l => PureL l → tlL f L h l = l) (motive_3 := fun r => PureR r → tlR f L h r = r) ?_ ?_ ?_ ?_ ?_ ?_ ?_ ?_ ?_ ?_ ?_ ?_ ?_ ?_ ?_ ?_ ?_ a
  all_goals intros
  all_goals simp_all [tlA, tlL, tlR]
omit [Laid] in
@[simp] theorem tl_pure (L : Nat) (h : Heap) (d : Nat) (a : AV) (p : Pure a) : tl L h d a = a := by
  cases d <;> exact tlA_pure _ L h a p
omit [Laid] in
@[simp] theorem Le_refl' (a : AV) : Le a a := Le.refl a
omit [Laid] in
theorem Ret.pure {r : AV} (p : Pure r) (h : Heap) : Ret r r h := by unfold Ret; rw [tl_pure _ _ _ _ p]; exact Le.refl r

/-- It hands this back. -/
def Gives (r r' : AV) (h' : Heap) : Prop := ∃ r'' h'', Wk ([] : Heap).length [r'] h' [r''] h'' ∧ r'' = r
theorem Gives.of {r r' : AV} {h' : Heap} (q : Le (tl 0 h' 3 r') r) : Gives r r' h' := Ret.wk q
theorem Gives.pure {r r' : AV} {h' : Heap} (p : Pure r') (e : r' = r) : Gives r r' h' := by
  subst e; exact Gives.of (by rw [tl_pure _ _ _ _ p]; exact Le.refl _)
theorem Body.gives {P : Program} {f : FuncId} {args : List AV} {W : Heap → (AV → Heap → Prop) → Prop} (b : Body P f args W) {r : AV} (pa : PureL args) (pr : Pure r) (q : W [] (Gives r)) : Con P f args r := b.con pa pr q

/-- A loop: what is known at each round's start, as a state told by some 'x'. -/
theorem iLoop_of {α : Type} (I : α → Prop) (f : α → List AV) (g : α → Heap) (μ : α → Nat) (x₀ : α) {s : List AV} {h : Heap} {body : (List AV → Heap → Prop) → List AV → Heap → Prop} (h0 : I x₀) (w0 : Wk h.length s h (f x₀) (g x₀))
    (step : ∀ x, I x → body (fun s' h' => ∃ y, I y ∧ Wk h.length s' h' (f y) (g y) ∧ μ y < μ x) (f x) (g x)) : iLoop s h body :=
  ⟨α, I, f, g, μ, x₀, h0, w0, step⟩

/-! ### Values that name no memory -/
mutual
def Flat : AV → Prop
  | .v _ | .str _ | .any => True
  | .agg cs | .tup cs => FlatL cs
  | _ => False
def FlatL : List AV → Prop
  | [] => True
  | c :: cs => Flat c ∧ FlatL cs
end
omit [Laid] in
theorem Rep.flat {ι ι' : List Ix} {S S' : Stab} {w w' : World} (a : AV) : ∀ v : Value, Flat a → Rep ι S w a v → Rep ι' S' w' a v := by
  refine AV.rec (motive_1 := fun a => ∀ v : Value, Flat a → Rep ι S w a v → Rep ι' S' w' a v) (motive_2 := fun as => ∀ vs : List Value, FlatL as → RepL ι S w as vs → RepL ι' S' w' as vs) (motive_3 := fun _ => True) ?_ ?_ ?_ ?_ ?_ ?_ ?_ ?_ ?_ ?_ ?_ ?_ ?_ ?_ ?_ ?_ ?_ a
  case refine_4 => intro cs ih v p h; rw [Flat] at p; rw [Rep] at *; obtain ⟨vs, e, q⟩ := h; exact ⟨vs, e, ih vs p q⟩
  case refine_5 => intro cs ih v p h; rw [Flat] at p; rw [Rep] at *; obtain ⟨vs, e, q⟩ := h; exact ⟨vs, e, ih vs p q⟩
  case refine_15 =>
    intro a as iha ihs vs p h
    rw [FlatL] at p
    cases vs with
    | nil => simp at h
    | cons v vs => simp only [RepL_cons] at h ⊢; exact ⟨iha v p.1 h.1, ihs vs p.2 h.2⟩
  all_goals intros
  all_goals first | trivial | (rename_i p h; simp [Flat] at p; done) | skip
  all_goals simp_all
attribute [simp] Flat FlatL

/-- A call of a function that is known at what comes in, when that is told without own memory. -/
theorem iCall_borrow {P : Program} {f : FuncId} {args args' : List AV} {r : AV} {h : Heap} {K : AV → Heap → Prop} (hb : hasBody P f = true) (c : Con P f args' r) (hl : LeL (args.map (tl 0 h 3)) args') (fl : Flat r) (k : K r h) : iCall P (.fn (.func f) [] []) args h K := by
  refine ⟨hb, ?_⟩
  simp only [List.nil_append, List.append_nil]
  obtain ⟨pa, pr, c⟩ := c
  intro base ι S w vs h1 h2
  obtain ⟨hE0, hh0⟩ := h2.told (L := 0) (Nat.zero_le _)
  have hr : RepL (ι.take 0) (stabT 0 ι S h) w args' vs := by
    refine RepL.le _ _ vs hl ?_
    have := RepL.tlA (L := 0) (f := tl 0 h 2) h2 (Rep.tl h2 2) args vs h1
    rwa [tlL_map] at this
  simp only [List.take_zero] at hr hE0
  refine (c w.heap.size [] (stabT 0 ι S h) w vs hr (HOK.nil _ w hh0.stb hh0.gl)).mono ?_
  rintro e w' ⟨v, ι', S', r', h', e1, e2, e3, e4, _, rfl⟩
  have hE : Evo ι.length w.heap.size ι S w ι S w' := ⟨fun _ _ => IxLe.refl _, fun _ _ q => q, fun _ _ q => .inl q, fun b o q => e2.cell b o (.inl q), e2.shp, e2.bel⟩
  exact ⟨v, ι, S, r', h, e1, hE.mono (by rw [h2.len]; exact Nat.le_refl _) h2.bas, Rep.flat r' v fl e3, h2.over hE (fun b o q => Nat.lt_of_lt_of_le (h2.stb b o q) e2.bel.size), Nat.le_refl _, k⟩
/-- A call where less is said of what comes in. -/
theorem iCall_le {P : Program} {f : FuncId} {args args' : List AV} {r : AV} {h : Heap} {K : AV → Heap → Prop} (hb : hasBody P f = true) (c : Con P f args' r) (hl : LeL args args') (k : K r h) : iCall P (.fn (.func f) [] []) args h K := by
  refine ⟨hb, ?_⟩
  simp only [List.nil_append, List.append_nil]
  intro base ι S w vs h1 h2
  exact c.call k base ι S w vs (RepL.le _ _ vs hl h1) h2
end Go.Aw
