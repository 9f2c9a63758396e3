/-
  Values as plain data, and how they stand in memory; their depth, how many tokens, their shape: plain definitions.
  No conditions: definitions and lemmas.
-/
import Derived.Test.YtmbpiloibhbmbaaDoorL5
set_option linter.unusedVariables false
set_option linter.unusedSimpArgs false
namespace Go.Nst
open Go Go.Aw
abbrev Str := List UInt8
/-- A value: its token's kind, text, number, unit and flag; its list. -/
inductive Vl where
  | mk (kind : Int) (text : Str) (num : Int) (unit : Str) (flag : Bool) (list : List Vl)
def Vl.kind : Vl → Int | .mk k _ _ _ _ _ => k
def Vl.text : Vl → Str | .mk _ t _ _ _ _ => t
def Vl.num : Vl → Int | .mk _ _ n _ _ _ => n
def Vl.unit : Vl → Str | .mk _ _ _ u _ _ => u
def Vl.flag : Vl → Bool | .mk _ _ _ _ f _ => f
def Vl.list : Vl → List Vl | .mk _ _ _ _ _ l => l
abbrev u1 (n : Int) : AV := .v (.int .u8 n)
mutual
def encV : Vl → List AV
  | .mk k t n u f l => [u1 k, .str t, int n, .str u, bool f, .sl 6 (encVs l)]
def encVs : List Vl → List (List AV)
  | [] => []
  | v :: l => encV v :: encVs l
end
theorem encVs_map : ∀ l, encVs l = l.map encV
  | [] => by simp [encVs]
  | p :: l => by simp [encVs, encVs_map l]
def encT (v : Vl) : List AV := [u1 v.kind, .str v.text, int v.num, .str v.unit, bool v.flag]
theorem encV_eq (v : Vl) : encV v = [u1 v.kind, .str v.text, int v.num, .str v.unit, bool v.flag, .sl 6 (v.list.map encV)] := by
  cases v; simp [encV, encVs_map, Vl.kind, Vl.text, Vl.num, Vl.unit, Vl.flag, Vl.list]
mutual
theorem pureV : ∀ x : Vl, PureL (encV x)
  | .mk k t n u f l => by simp [encV, PureL, Aw.Pure, pureVs l]
theorem pureVs : ∀ l : List Vl, PureR (encVs l)
  | [] => by simp [encVs, PureR]
  | v :: l => by simp [encVs, PureR, pureV v, pureVs l]
end
/-- The kind of token that closes an opener; 0: none. -/
def closK (k : Int) : Int := if k = 2 then 22 else if k = 19 ∨ k = 21 ∨ k = 23 then k + 1 else 0
mutual
def deepV : Vl → Nat
  | .mk k _ _ _ _ l => if closK k = 0 then 0 else deepVs l + 1
def deepVs : List Vl → Nat
  | [] => 0
  | v :: l => max (deepV v) (deepVs l)
end
mutual
def cntV : Vl → Nat
  | .mk k _ _ _ _ l => if closK k = 0 then 1 else cntVs l + 2
def cntVs : List Vl → Nat
  | [] => 0
  | v :: l => cntV v + cntVs l
end
mutual
def badV (c : Int) : Vl → Bool
  | .mk k _ _ _ _ l => !decide (c = 0) && decide (k = c) || (if closK k = 0 then !l.isEmpty else badVs (closK k) l)
def badVs (c : Int) : List Vl → Bool
  | [] => false
  | v :: l => badV c v || badVs c l
end
/-- The tokens, each with what it closes. -/
def tokR (k : Int) (t : Str) (n : Int) (u : Str) (f : Bool) : List AV := [u1 k, .str t, int n, .str u, bool f]
mutual
def toksV : Vl → List (List AV)
  | .mk k t n u f l => tokR k t n u f :: (if closK k = 0 then [] else toksVs l ++ [tokR (closK k) [] 0 [] false])
def toksVs : List Vl → List (List AV)
  | [] => []
  | v :: l => toksV v ++ toksVs l
end
mutual
theorem toksV_len : ∀ v, (toksV v).length = cntV v
  | .mk k t n u f l => by
    rw [toksV, cntV]
    split
    · rfl
    · simp [toksVs_len l]
theorem toksVs_len : ∀ l, (toksVs l).length = cntVs l
  | [] => by simp [toksVs, cntVs]
  | v :: l => by simp [toksVs, cntVs, toksV_len v, toksVs_len l]
end
mutual
theorem toksV_pure : ∀ v, PureR (toksV v)
  | .mk k t n u f l => by
    rw [toksV, PureR]
    refine ⟨by simp [tokR, PureL, Aw.Pure], ?_⟩
    split
    · simp [PureR]
    · exact (pureR_append _ _).2 ⟨toksVs_pure l, by simp [PureR, PureL, tokR, Aw.Pure]⟩
theorem toksVs_pure : ∀ l, PureR (toksVs l)
  | [] => by simp [toksVs, PureR]
  | v :: l => by rw [toksVs]; exact (pureR_append _ _).2 ⟨toksV_pure v, toksVs_pure l⟩
theorem pureR_append : ∀ a b : List (List AV), PureR (a ++ b) ↔ PureR a ∧ PureR b
  | [], b => by simp [PureR]
  | x :: a, b => by simp [PureR, pureR_append a b, and_assoc]
end
mutual
theorem toksV_rows : ∀ v, (toksV v).all (rowOK 5) = true
  | .mk k t n u f l => by
    rw [toksV]
    split
    · simp [tokR, rowOK, scal]
    · have := toksVs_rows l
      rw [List.all_cons, List.all_append, this]
      simp [tokR, rowOK, scal]
theorem toksVs_rows : ∀ l, (toksVs l).all (rowOK 5) = true
  | [] => by simp [toksVs]
  | v :: l => by rw [toksVs, List.all_append, toksV_rows v, toksVs_rows l]; rfl
end
/-- The answer: 0, 20 (too deep), 4 (too many), 8 (not valid). -/
def checkV (l : List Vl) : Int := if 16 < deepVs l then 20 else if 1500 < cntVs l then 4 else if badVs 0 l then 8 else 0
/-! ### A size -/
mutual
def zV : Vl → Nat
  | .mk _ t _ u _ l => 1 + t.length + u.length + zVs l
def zVs : List Vl → Nat
  | [] => 0
  | v :: l => zV v + zVs l
end
theorem zV_pos : ∀ v, 0 < zV v
  | .mk _ _ _ _ _ _ => by rw [zV]; omega
theorem zVs_mem {l : List Vl} {v : Vl} (h : v ∈ l) : zV v ≤ zVs l := by
  induction l with
  | nil => cases h
  | cons y l ih =>
    rw [zVs]
    rcases List.mem_cons.1 h with rfl | h
    · omega
    · have := ih h; omega
theorem zVs_len : ∀ l : List Vl, l.length ≤ zVs l
  | [] => by simp
  | v :: l => by have := zVs_len l; have := zV_pos v; rw [zVs, List.length_cons]; omega
mutual
theorem cntV_le : ∀ v, cntV v ≤ 2 * zV v
  | .mk k t n u f l => by
    have := cntVs_le l
    rw [cntV, zV]
    split <;> omega
theorem cntVs_le : ∀ l, cntVs l ≤ 2 * zVs l
  | [] => by simp [cntVs]
  | v :: l => by have := cntV_le v; have := cntVs_le l; rw [cntVs, zVs]; omega
end
mutual
theorem deepV_le : ∀ v, deepV v ≤ zV v
  | .mk k t n u f l => by
    have := deepVs_le l
    rw [deepV, zV]
    split <;> omega
theorem deepVs_le : ∀ l, deepVs l ≤ zVs l
  | [] => by simp [deepVs]
  | v :: l => by have := deepV_le v; have := deepVs_le l; rw [deepVs, zVs]; omega
end
theorem deepVs_append : ∀ a b : List Vl, deepVs (a ++ b) = max (deepVs a) (deepVs b)
  | [], b => by simp [deepVs]
  | v :: a, b => by simp [deepVs, deepVs_append a b, Nat.max_assoc]
theorem cntVs_append : ∀ a b : List Vl, cntVs (a ++ b) = cntVs a + cntVs b
  | [], b => by simp [cntVs]
  | v :: a, b => by simp [cntVs, cntVs_append a b, Nat.add_assoc]
theorem badVs_append (c : Int) : ∀ a b : List Vl, badVs c (a ++ b) = (badVs c a || badVs c b)
  | [], b => by simp [badVs]
  | v :: a, b => by simp [badVs, badVs_append c a b, Bool.or_assoc]
theorem toksVs_append : ∀ a b : List Vl, toksVs (a ++ b) = toksVs a ++ toksVs b
  | [], b => by simp [toksVs]
  | v :: a, b => by simp [toksVs, toksVs_append a b]
theorem zVs_append : ∀ a b : List Vl, zVs (a ++ b) = zVs a + zVs b
  | [], b => by simp [zVs]
  | v :: a, b => by simp [zVs, zVs_append a b, Nat.add_assoc]
section
variable {l : List Vl} {k : Nat} {v : Vl}
theorem deepVs_take (h : l[k]? = some v) : deepVs (l.take (k + 1)) = max (deepVs (l.take k)) (deepV v) := by
  rw [List.take_add_one, h, deepVs_append]; simp [deepVs]
theorem cntVs_take (h : l[k]? = some v) : cntVs (l.take (k + 1)) = cntVs (l.take k) + cntV v := by
  rw [List.take_add_one, h, cntVs_append]; simp [cntVs]
theorem badVs_take (c : Int) (h : l[k]? = some v) : badVs c (l.take (k + 1)) = (badVs c (l.take k) || badV c v) := by
  rw [List.take_add_one, h, badVs_append]; simp [badVs]
theorem toksVs_take (h : l[k]? = some v) : toksVs (l.take (k + 1)) = toksVs (l.take k) ++ toksV v := by
  rw [List.take_add_one, h, toksVs_append]; simp [toksVs]
end
theorem zVs_take_le (l : List Vl) (k : Nat) : zVs (l.take k) ≤ zVs l := by
  have := zVs_append (l.take k) (l.drop k)
  rw [List.take_append_drop] at this
  omega
/-! ### The size -/
mutual
def szVs (lim : Int) (n : Int) : List Vl → Int
  | [] => n
  | v :: l => if n ≤ lim then szVs lim (n + szV (lim - n) v) l else n
def szV (lim : Int) : Vl → Int
  | .mk _ t _ u _ l => 1 + t.length + u.length + szVs lim 0 l
end
mutual
theorem szVs_le (lim n : Int) : ∀ l, n ≤ szVs lim n l ∧ szVs lim n l ≤ n + zVs l ∧ (szVs lim n l ≤ lim → szVs lim n l = n + zVs l)
  | [] => by rw [szVs, zVs]; simp
  | v :: l => by
    have h1 := szV_le (lim - n) v
    have h2 := szVs_le lim (n + szV (lim - n) v) l
    rw [szVs, zVs]
    split <;> omega
theorem szV_le (lim : Int) : ∀ v, 1 ≤ szV lim v ∧ szV lim v ≤ zV v ∧ (szV lim v ≤ lim → szV lim v = zV v)
  | .mk k t nu u f l => by
    have h := szVs_le lim 0 l
    rw [szV, zV]
    omega
end
theorem szVs_stop (lim n : Int) (h : lim < n) : ∀ l, szVs lim n l = n
  | [] => by rw [szVs]
  | v :: l => by rw [szVs, if_neg (by omega)]
theorem szVs_append (lim n : Int) : ∀ a b, szVs lim n (a ++ b) = szVs lim (szVs lim n a) b
  | [], b => by rw [List.nil_append, szVs]
  | v :: a, b => by
    rw [List.cons_append, szVs, szVs]
    split
    · exact szVs_append lim _ a b
    · rename_i h
      rw [szVs_stop lim n (by omega)]
theorem szVs_take {lim : Int} {l : List Vl} {k : Nat} {v : Vl} (h : l[k]? = some v) (hle : szVs lim 0 (l.take k) ≤ lim) : szVs lim 0 (l.take (k + 1)) = szVs lim 0 (l.take k) + szV (lim - szVs lim 0 (l.take k)) v := by
  rw [List.take_add_one, h, szVs_append]
  simp [szVs, hle]
theorem szVs_cut {lim : Int} {l : List Vl} {k : Nat} (h : lim < szVs lim 0 (l.take k)) : szVs lim 0 l = szVs lim 0 (l.take k) := by
  have := szVs_append lim 0 (l.take k) (l.drop k)
  rw [List.take_append_drop, szVs_stop _ _ h] at this
  exact this
end Go.Nst
