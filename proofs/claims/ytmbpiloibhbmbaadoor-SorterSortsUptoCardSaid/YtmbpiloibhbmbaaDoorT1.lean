/-
  The tables of properties: the code's and the reference's. The table of properties: the code's.
  No conditions.
-/
import Derived.Test.YtmbpiloibhbmbaaDoorTab
import Derived.Test.YtmbpiloibhbmbaaDoorWTab
import Derived.Test.YtmbpiloibhbmbaaDoorGrow
set_option linter.unusedVariables false
set_option linter.unusedSimpArgs false
section
namespace Go.Proofs.YtmbpiloibhbmbaaDoor
open Go Go.Aw
set_option maxRecDepth 1000000
theorem a_mkSlP {len sz : Nat} {z : AV} {ps : List (Nat × Nat × AV)} {cs : List AV} {K : AV → Prop} (e : bfill (rep0 len (vcells z)) ps = some cs) (q : K (.sl sz (chunks sz len cs))) : iMkSlP len sz z ps K := by
  unfold iMkSlP; rw [e]; exact q
theorem a_mkSlN {t len sz n : Nat} {z : AV} {ps : List (Nat × Nat × AV)} {cs : List AV} {h h' : Heap} {K : AV → Heap → Prop} (e : bfill (rep0 (len + 1) (vcells z)) ps = some cs) (hn : h.length = n) (hh : h ++ [.blk ⟨t, cs, true⟩] = h') (q : K (.own n 0 (len + 1) sz) h') : iMkSl t (len + 1) sz z ps h K := by
  subst hn; subst hh
  unfold iMkSl; rw [e]; exact q
theorem a_req {b : Bool} {X : Prop} (hb : b = true) (q : X) : req b X := by subst hb; exact q
theorem w_callC {P : Program} {f : FuncId} {args args' : List AV} {r : AV} {K : AV → Prop} (e : args = args') (hb : hasBody P f = true) (c : Con P f args' r) (k : K r) : iCallC P (.fn (.func f) [] []) args K := by
  subst e
  exact ⟨r, hb, by simpa using c, k⟩
def tabP : List (List AV) := [[.str [99, 111, 108, 111, 114], .v (.bool true), .v (.int .u8 7), .str [], int 0, .v (.int .u8 0), .v (.int .u8 0), .v (.int .u8 0), .v (.int .u8 255), .v (.slice none 0 0), .sl 1 [[.v (.int .u8 7)], [.v (.int .u8 8)]], .v (.bool false)], [.str [98, 97, 99, 107, 103, 114, 111, 117, 110, 100, 45, 99, 111, 108, 111, 114], .v (.bool false), .v (.int .u8 7), .str [], int 0, .v (.int .u8 0), .v (.int .u8 0), .v (.int .u8 0), .v (.int .u8 0), .v (.slice none 0 0), .sl 1 [[.v (.int .u8 7)], [.v (.int .u8 8)]], .v (.bool false)], [.str [98, 111, 114, 100, 101, 114, 45, 99, 111, 108, 111, 114], .v (.bool false), .v (.int .u8 8), .str [], int 0, .v (.int .u8 0), .v (.int .u8 0), .v (.int .u8 0), .v (.int .u8 0), .v (.slice none 0 0), .sl 1 [[.v (.int .u8 7)], [.v (.int .u8 8)]], .v (.bool false)], [.str [111, 117, 116, 108, 105, 110, 101, 45, 99, 111, 108, 111, 114], .v (.bool false), .v (.int .u8 8), .str [], int 0, .v (.int .u8 0), .v (.int .u8 0), .v (.int .u8 0), .v (.int .u8 0), .v (.slice none 0 0), .sl 1 [[.v (.int .u8 7)], [.v (.int .u8 8)]], .v (.bool false)], [.str [100, 105, 115, 112, 108, 97, 121], .v (.bool false), .v (.int .u8 1), .str [105, 110, 108, 105, 110, 101], int 0, .v (.int .u8 0), .v (.int .u8 0), .v (.int .u8 0), .v (.int .u8 0), .sl 1 [[.str [98, 108, 111, 99, 107]], [.str [102, 108, 101, 120]], [.str [105, 110, 108, 105, 110, 101]], [.str [105, 110, 108, 105, 110, 101, 45, 98, 108, 111, 99, 107]], [.str [110, 111, 110, 101]]], .v (.slice none 0 0), .v (.bool false)], [.str [118, 105, 115, 105, 98, 105, 108, 105, 116, 121], .v (.bool true), .v (.int .u8 1), .str [118, 105, 115, 105, 98, 108, 101], int 0, .v (.int .u8 0), .v (.int .u8 0), .v (.int .u8 0), .v (.int .u8 0), .sl 1 [[.str [99, 111, 108, 108, 97, 112, 115, 101]], [.str [104, 105, 100, 100, 101, 110]], [.str [118, 105, 115, 105, 98, 108, 101]]], .v (.slice none 0 0), .v (.bool false)], [.str [119, 105, 100, 116, 104], .v (.bool false), .v (.int .u8 1), .str [97, 117, 116, 111], int 0, .v (.int .u8 0), .v (.int .u8 0), .v (.int .u8 0), .v (.int .u8 0), .sl 1 [[.str [97, 117, 116, 111]]], .sl 1 [[.v (.int .u8 2)], [.v (.int .u8 3)], [.v (.int .u8 4)]], .v (.bool true)], [.str [104, 101, 105, 103, 104, 116], .v (.bool false), .v (.int .u8 1), .str [97, 117, 116, 111], int 0, .v (.int .u8 0), .v (.int .u8 0), .v (.int .u8 0), .v (.int .u8 0), .sl 1 [[.str [97, 117, 116, 111]]], .sl 1 [[.v (.int .u8 2)], [.v (.int .u8 3)], [.v (.int .u8 4)]], .v (.bool true)], [.str [109, 97, 114, 103, 105, 110, 45, 116, 111, 112], .v (.bool false), .v (.int .u8 2), .str [], int 0, .v (.int .u8 0), .v (.int .u8 0), .v (.int .u8 0), .v (.int .u8 0), .sl 1 [[.str [97, 117, 116, 111]]], .sl 1 [[.v (.int .u8 2)], [.v (.int .u8 3)], [.v (.int .u8 4)]], .v (.bool false)], [.str [109, 97, 114, 103, 105, 110, 45, 114, 105, 103, 104, 116], .v (.bool false), .v (.int .u8 2), .str [], int 0, .v (.int .u8 0), .v (.int .u8 0), .v (.int .u8 0), .v (.int .u8 0), .sl 1 [[.str [97, 117, 116, 111]]], .sl 1 [[.v (.int .u8 2)], [.v (.int .u8 3)], [.v (.int .u8 4)]], .v (.bool false)], [.str [109, 97, 114, 103, 105, 110, 45, 98, 111, 116, 116, 111, 109], .v (.bool false), .v (.int .u8 2), .str [], int 0, .v (.int .u8 0), .v (.int .u8 0), .v (.int .u8 0), .v (.int .u8 0), .sl 1 [[.str [97, 117, 116, 111]]], .sl 1 [[.v (.int .u8 2)], [.v (.int .u8 3)], [.v (.int .u8 4)]], .v (.bool false)], [.str [109, 97, 114, 103, 105, 110, 45, 108, 101, 102, 116], .v (.bool false), .v (.int .u8 2), .str [], int 0, .v (.int .u8 0), .v (.int .u8 0), .v (.int .u8 0), .v (.int .u8 0), .sl 1 [[.str [97, 117, 116, 111]]], .sl 1 [[.v (.int .u8 2)], [.v (.int .u8 3)], [.v (.int .u8 4)]], .v (.bool false)], [.str [102, 111, 110, 116, 45, 115, 105, 122, 101], .v (.bool true), .v (.int .u8 2), .str [], int 16000, .v (.int .u8 0), .v (.int .u8 0), .v (.int .u8 0), .v (.int .u8 0), .sl 1 [], .sl 1 [[.v (.int .u8 2)], [.v (.int .u8 3)], [.v (.int .u8 4)]], .v (.bool true)], [.str [108, 105, 110, 101, 45, 104, 101, 105, 103, 104, 116], .v (.bool true), .v (.int .u8 1), .str [110, 111, 114, 109, 97, 108], int 0, .v (.int .u8 0), .v (.int .u8 0), .v (.int .u8 0), .v (.int .u8 0), .sl 1 [[.str [110, 111, 114, 109, 97, 108]]], .sl 1 [[.v (.int .u8 2)], [.v (.int .u8 3)], [.v (.int .u8 4)], [.v (.int .u8 5)]], .v (.bool true)], [.str [116, 101, 120, 116, 45, 97, 108, 105, 103, 110], .v (.bool true), .v (.int .u8 1), .str [108, 101, 102, 116], int 0, .v (.int .u8 0), .v (.int .u8 0), .v (.int .u8 0), .v (.int .u8 0), .sl 1 [[.str [99, 101, 110, 116, 101, 114]], [.str [106, 117, 115, 116, 105, 102, 121]], [.str [108, 101, 102, 116]], [.str [114, 105, 103, 104, 116]]], .v (.slice none 0 0), .v (.bool false)], [.str [111, 112, 97, 99, 105, 116, 121], .v (.bool false), .v (.int .u8 5), .str [], int 1000, .v (.int .u8 0), .v (.int .u8 0), .v (.int .u8 0), .v (.int .u8 0), .v (.slice none 0 0), .sl 1 [[.v (.int .u8 5)]], .v (.bool false)], [.str [122, 45, 105, 110, 100, 101, 120], .v (.bool false), .v (.int .u8 1), .str [97, 117, 116, 111], int 0, .v (.int .u8 0), .v (.int .u8 0), .v (.int .u8 0), .v (.int .u8 0), .sl 1 [[.str [97, 117, 116, 111]]], .sl 1 [[.v (.int .u8 6)]], .v (.bool false)], [.str [111, 114, 100, 101, 114], .v (.bool false), .v (.int .u8 6), .str [], int 0, .v (.int .u8 0), .v (.int .u8 0), .v (.int .u8 0), .v (.int .u8 0), .v (.slice none 0 0), .sl 1 [[.v (.int .u8 6)]], .v (.bool false)]]
def tabR : List (List AV) := [[.str [99, 111, 108, 111, 114], .v (.bool true), .v (.int .u8 7), .str [], int 0, .v (.int .u8 0), .v (.int .u8 0), .v (.int .u8 0), .v (.int .u8 255), .v (.slice none 0 0), .sl 1 [[.v (.int .u8 7)], [.v (.int .u8 8)]], .v (.bool false)], [.str [98, 97, 99, 107, 103, 114, 111, 117, 110, 100, 45, 99, 111, 108, 111, 114], .v (.bool false), .v (.int .u8 7), .str [], int 0, .v (.int .u8 0), .v (.int .u8 0), .v (.int .u8 0), .v (.int .u8 0), .v (.slice none 0 0), .sl 1 [[.v (.int .u8 7)], [.v (.int .u8 8)]], .v (.bool false)], [.str [98, 111, 114, 100, 101, 114, 45, 99, 111, 108, 111, 114], .v (.bool false), .v (.int .u8 8), .str [], int 0, .v (.int .u8 0), .v (.int .u8 0), .v (.int .u8 0), .v (.int .u8 0), .v (.slice none 0 0), .sl 1 [[.v (.int .u8 7)], [.v (.int .u8 8)]], .v (.bool false)], [.str [111, 117, 116, 108, 105, 110, 101, 45, 99, 111, 108, 111, 114], .v (.bool false), .v (.int .u8 8), .str [], int 0, .v (.int .u8 0), .v (.int .u8 0), .v (.int .u8 0), .v (.int .u8 0), .v (.slice none 0 0), .sl 1 [[.v (.int .u8 7)], [.v (.int .u8 8)]], .v (.bool false)], [.str [100, 105, 115, 112, 108, 97, 121], .v (.bool false), .v (.int .u8 1), .str [105, 110, 108, 105, 110, 101], int 0, .v (.int .u8 0), .v (.int .u8 0), .v (.int .u8 0), .v (.int .u8 0), .sl 1 [[.str [98, 108, 111, 99, 107]], [.str [102, 108, 101, 120]], [.str [105, 110, 108, 105, 110, 101]], [.str [105, 110, 108, 105, 110, 101, 45, 98, 108, 111, 99, 107]], [.str [110, 111, 110, 101]]], .v (.slice none 0 0), .v (.bool false)], [.str [118, 105, 115, 105, 98, 105, 108, 105, 116, 121], .v (.bool true), .v (.int .u8 1), .str [118, 105, 115, 105, 98, 108, 101], int 0, .v (.int .u8 0), .v (.int .u8 0), .v (.int .u8 0), .v (.int .u8 0), .sl 1 [[.str [99, 111, 108, 108, 97, 112, 115, 101]], [.str [104, 105, 100, 100, 101, 110]], [.str [118, 105, 115, 105, 98, 108, 101]]], .v (.slice none 0 0), .v (.bool false)], [.str [119, 105, 100, 116, 104], .v (.bool false), .v (.int .u8 1), .str [97, 117, 116, 111], int 0, .v (.int .u8 0), .v (.int .u8 0), .v (.int .u8 0), .v (.int .u8 0), .sl 1 [[.str [97, 117, 116, 111]]], .sl 1 [[.v (.int .u8 2)], [.v (.int .u8 3)], [.v (.int .u8 4)]], .v (.bool true)], [.str [104, 101, 105, 103, 104, 116], .v (.bool false), .v (.int .u8 1), .str [97, 117, 116, 111], int 0, .v (.int .u8 0), .v (.int .u8 0), .v (.int .u8 0), .v (.int .u8 0), .sl 1 [[.str [97, 117, 116, 111]]], .sl 1 [[.v (.int .u8 2)], [.v (.int .u8 3)], [.v (.int .u8 4)]], .v (.bool true)], [.str [109, 97, 114, 103, 105, 110, 45, 116, 111, 112], .v (.bool false), .v (.int .u8 2), .str [], int 0, .v (.int .u8 0), .v (.int .u8 0), .v (.int .u8 0), .v (.int .u8 0), .sl 1 [[.str [97, 117, 116, 111]]], .sl 1 [[.v (.int .u8 2)], [.v (.int .u8 3)], [.v (.int .u8 4)]], .v (.bool false)], [.str [109, 97, 114, 103, 105, 110, 45, 114, 105, 103, 104, 116], .v (.bool false), .v (.int .u8 2), .str [], int 0, .v (.int .u8 0), .v (.int .u8 0), .v (.int .u8 0), .v (.int .u8 0), .sl 1 [[.str [97, 117, 116, 111]]], .sl 1 [[.v (.int .u8 2)], [.v (.int .u8 3)], [.v (.int .u8 4)]], .v (.bool false)], [.str [109, 97, 114, 103, 105, 110, 45, 98, 111, 116, 116, 111, 109], .v (.bool false), .v (.int .u8 2), .str [], int 0, .v (.int .u8 0), .v (.int .u8 0), .v (.int .u8 0), .v (.int .u8 0), .sl 1 [[.str [97, 117, 116, 111]]], .sl 1 [[.v (.int .u8 2)], [.v (.int .u8 3)], [.v (.int .u8 4)]], .v (.bool false)], [.str [109, 97, 114, 103, 105, 110, 45, 108, 101, 102, 116], .v (.bool false), .v (.int .u8 2), .str [], int 0, .v (.int .u8 0), .v (.int .u8 0), .v (.int .u8 0), .v (.int .u8 0), .sl 1 [[.str [97, 117, 116, 111]]], .sl 1 [[.v (.int .u8 2)], [.v (.int .u8 3)], [.v (.int .u8 4)]], .v (.bool false)], [.str [102, 111, 110, 116, 45, 115, 105, 122, 101], .v (.bool true), .v (.int .u8 2), .str [], int 16000, .v (.int .u8 0), .v (.int .u8 0), .v (.int .u8 0), .v (.int .u8 0), .v (.slice none 0 0), .sl 1 [[.v (.int .u8 2)], [.v (.int .u8 3)], [.v (.int .u8 4)]], .v (.bool true)], [.str [108, 105, 110, 101, 45, 104, 101, 105, 103, 104, 116], .v (.bool true), .v (.int .u8 1), .str [110, 111, 114, 109, 97, 108], int 0, .v (.int .u8 0), .v (.int .u8 0), .v (.int .u8 0), .v (.int .u8 0), .sl 1 [[.str [110, 111, 114, 109, 97, 108]]], .sl 1 [[.v (.int .u8 2)], [.v (.int .u8 3)], [.v (.int .u8 4)], [.v (.int .u8 5)]], .v (.bool true)], [.str [116, 101, 120, 116, 45, 97, 108, 105, 103, 110], .v (.bool true), .v (.int .u8 1), .str [108, 101, 102, 116], int 0, .v (.int .u8 0), .v (.int .u8 0), .v (.int .u8 0), .v (.int .u8 0), .sl 1 [[.str [99, 101, 110, 116, 101, 114]], [.str [106, 117, 115, 116, 105, 102, 121]], [.str [108, 101, 102, 116]], [.str [114, 105, 103, 104, 116]]], .v (.slice none 0 0), .v (.bool false)], [.str [111, 112, 97, 99, 105, 116, 121], .v (.bool false), .v (.int .u8 5), .str [], int 1000, .v (.int .u8 0), .v (.int .u8 0), .v (.int .u8 0), .v (.int .u8 0), .v (.slice none 0 0), .sl 1 [[.v (.int .u8 5)]], .v (.bool false)], [.str [122, 45, 105, 110, 100, 101, 120], .v (.bool false), .v (.int .u8 1), .str [97, 117, 116, 111], int 0, .v (.int .u8 0), .v (.int .u8 0), .v (.int .u8 0), .v (.int .u8 0), .sl 1 [[.str [97, 117, 116, 111]]], .sl 1 [[.v (.int .u8 6)]], .v (.bool false)], [.str [111, 114, 100, 101, 114], .v (.bool false), .v (.int .u8 6), .str [], int 0, .v (.int .u8 0), .v (.int .u8 0), .v (.int .u8 0), .v (.int .u8 0), .v (.slice none 0 0), .sl 1 [[.v (.int .u8 6)]], .v (.bool false)]]
set_option maxHeartbeats 4000000 in
theorem con_rTable : Con Tryd.prog 55 [] (.sl 12 tabR) := by
  refine (V55).gives (by simp) (by simp [tabR]) ?_
  unfold W55
  refine a_build rfl ?_
  refine n_new (n := 0) (h' := [_]) rfl rfl rfl rfl ?_
  refine n_store (h' := [_]) rfl rfl rfl rfl (Nat.le_refl _) rfl rfl rfl ?_
  refine a_mkSlP rfl ?_
  refine a_mkSlP rfl ?_
  refine a_build rfl ?_
  refine n_new (n := 1) (h' := [_, _]) rfl rfl rfl rfl ?_
  refine n_store (h' := [_, _]) rfl rfl rfl rfl (Nat.le_refl _) rfl rfl rfl ?_
  refine a_build rfl ?_
  refine a_build rfl ?_
  refine a_build rfl ?_
  refine a_build rfl ?_
  refine a_build rfl ?_
  refine w_loadA rfl rfl (Nat.le_refl _) ?_
  refine a_build rfl ?_
  refine w_loadA rfl rfl (Nat.le_refl _) ?_
  refine a_build rfl ?_
  refine w_callC rfl (by kernel_rfl) tb20 ?_
  refine a_mkSlP rfl ?_
  refine a_build rfl ?_
  refine w_callC rfl (by kernel_rfl) tb21 ?_
  refine a_mkSlP rfl ?_
  refine a_build rfl ?_
  refine w_loadA rfl rfl (Nat.le_refl _) ?_
  refine a_mkSlP rfl ?_
  refine a_build rfl ?_
  refine w_loadA rfl rfl (Nat.le_refl _) ?_
  refine a_mkSlP rfl ?_
  refine a_build rfl ?_
  refine w_callC rfl (by kernel_rfl) tb22 ?_
  refine a_mkSlP rfl ?_
  refine a_build rfl ?_
  refine w_callC rfl (by kernel_rfl) tb22 ?_
  refine a_mkSlP rfl ?_
  refine a_build rfl ?_
  refine w_callC rfl (by kernel_rfl) tb22 ?_
  refine a_mkSlP rfl ?_
  refine a_build rfl ?_
  refine w_callC rfl (by kernel_rfl) tb22 ?_
  refine a_mkSlP rfl ?_
  refine a_build rfl ?_
  refine w_callC rfl (by kernel_rfl) tb23 ?_
  refine a_build rfl ?_
  refine w_callC rfl (by kernel_rfl) tb24 ?_
  refine a_mkSlP rfl ?_
  refine a_mkSlP rfl ?_
  refine a_mkSlP rfl ?_
  refine a_build rfl ?_
  refine a_mkSlP rfl ?_
  refine a_build rfl ?_
  refine w_loadA rfl rfl (Nat.le_refl _) ?_
  refine a_mkSlP rfl ?_
  refine a_mkSlP rfl ?_
  refine a_build rfl ?_
  refine a_build rfl ?_
  refine a_mkSlP rfl ?_
  refine a_build rfl ?_
  refine a_mkSl0 ?_
  refine a_req rfl ?_
  refine n_app0 (n := 2) (h' := [_, _, _]) (k := 3) rfl srcR_sl rfl rfl (by unfold roomA maxLen; decide) rfl rfl ?_
  refine a_req rfl ?_
  refine n_appB (h' := [_, _, _]) (k := 3) rfl rfl rfl srcR_sl rfl (by unfold roomA maxLen; decide) rfl ?_
  refine a_build rfl ?_
  refine w_callQ rfl (by kernel_rfl) tb25 ?_
  refine a_build rfl ?_
  refine a_mkSlP rfl ?_
  refine Gives.of ?_
  show _ = _
  rfl
end Go.Proofs.YtmbpiloibhbmbaaDoor
end

section
namespace Go.Proofs.YtmbpiloibhbmbaaDoor
open Go Go.Aw
set_option maxRecDepth 1000000
theorem a_addS {x y : AV} {a b : List UInt8} {K : AV → Prop} (ex : x = .str a) (ey : y = .str b) (hl : a.length + b.length ≤ maxLen) (q : K (.str (a ++ b))) : iBin .add x y K := by
  subst ex; subst ey
  exact ⟨hl, q⟩
def tM : Nat → Heap
  | 0 => []
  | k + 1 => tM k ++ [.dead]
def tH (k : Nat) : Heap := [.blk ⟨89, [u8 1, .str [97, 117, 116, 111], int 0, u8 0, u8 0, u8 0, u8 0], true⟩, .blk ⟨89, [u8 2, .str [], int 0, u8 0, u8 0, u8 0, u8 0], true⟩] ++ tM k ++ [.blk ⟨92, (tabP.take (8 + k)).flatten, true⟩]
set_option maxHeartbeats 4000000 in
theorem con_Table : Con Tryd.prog 47 [] (.sl 12 tabP) := by
  refine (V47).gives (by simp) (by simp [tabP]) ?_
  unfold W47
  refine w_call rfl (by kernel_rfl) tb0 ?_
  refine a_build rfl ?_
  refine n_new (n := 0) (h' := [_]) rfl rfl rfl rfl ?_
  refine n_new (n := 1) (h' := [_, _]) rfl rfl rfl rfl ?_
  refine n_store (h' := [_, _]) rfl rfl rfl rfl (Nat.le_refl _) rfl rfl rfl ?_
  refine n_store (h' := [_, _]) rfl rfl rfl rfl (Nat.le_refl _) rfl rfl rfl ?_
  refine a_build rfl ?_
  refine a_build rfl ?_
  refine w_callQ rfl (by kernel_rfl) tb1 ?_
  refine a_build rfl ?_
  refine w_callQ rfl (by kernel_rfl) tb2 ?_
  refine a_build rfl ?_
  refine w_callQ rfl (by kernel_rfl) tb3 ?_
  refine a_build rfl ?_
  refine w_callQ rfl (by kernel_rfl) tb4 ?_
  refine w_callQ rfl (by kernel_rfl) tb6 ?_
  refine w_callQ rfl (by kernel_rfl) tb8 ?_
  refine w_loadA rfl rfl (Nat.le_refl _) ?_
  refine w_callQ rfl (by kernel_rfl) tb9 ?_
  refine w_loadA rfl rfl (Nat.le_refl _) ?_
  refine w_callQ rfl (by kernel_rfl) tb10 ?_
  refine a_mkSlN (n := 2) (h' := tH 0) rfl rfl rfl ?_
  refine a_mkSlP rfl ?_
  refine a_len rfl rfl fun _ => ?_
  refine iLoop_of (α := Nat) (fun k => k ≤ 4) (fun k => [.own (2 + k) 0 (8 + k) 12, int k]) tH (fun k => 4 - k) 0 (by simp) (Wk.refl _ _ _ (by simp)) ?_
  intro k hk
  obtain rfl | rfl | rfl | rfl | rfl : k = 0 ∨ k = 1 ∨ k = 2 ∨ k = 3 ∨ k = 4 := by omega
  · refine a_lss rfl rfl ?_
    refine a_cond1 rfl rfl ?_
    refine w_idxS rfl rfl (by decide) ?_
    refine w_loadI rfl ?_
    refine a_addS rfl rfl (by unfold maxLen; decide) ?_
    refine w_loadA rfl rfl (Nat.le_refl _) ?_
    refine w_call rfl (by kernel_rfl) tb11 ?_
    refine a_mkSlP rfl ?_
    refine n_appK (n := 3) (h' := [_, _, _, _]) (cells := (tabP.take 8).flatten) (len := 8) rfl rfl (by decide) (by omega) srcR_sl rfl (by unfold roomA maxLen; decide) rfl rfl ?_
    refine w_add rfl rfl (by unfold inI; omega) ?_
    refine w_and ?_
    exact ⟨1, by omega, Wk.refl _ _ _ (by simp [tH, tM]), by omega⟩
  · refine a_lss rfl rfl ?_
    refine a_cond1 rfl rfl ?_
    refine w_idxS rfl rfl (by decide) ?_
    refine w_loadI rfl ?_
    refine a_addS rfl rfl (by unfold maxLen; decide) ?_
    refine w_loadA rfl rfl (Nat.le_refl _) ?_
    refine w_call rfl (by kernel_rfl) tb12 ?_
    refine a_mkSlP rfl ?_
    refine n_appK (n := 4) (h' := [_, _, _, _, _]) (cells := (tabP.take 9).flatten) (len := 9) rfl rfl (by decide) (by omega) srcR_sl rfl (by unfold roomA maxLen; decide) rfl rfl ?_
    refine w_add rfl rfl (by unfold inI; omega) ?_
    refine w_and ?_
    exact ⟨2, by omega, Wk.refl _ _ _ (by simp [tH, tM]), by omega⟩
  · refine a_lss rfl rfl ?_
    refine a_cond1 rfl rfl ?_
    refine w_idxS rfl rfl (by decide) ?_
    refine w_loadI rfl ?_
    refine a_addS rfl rfl (by unfold maxLen; decide) ?_
    refine w_loadA rfl rfl (Nat.le_refl _) ?_
    refine w_call rfl (by kernel_rfl) tb13 ?_
    refine a_mkSlP rfl ?_
    refine n_appK (n := 5) (h' := [_, _, _, _, _, _]) (cells := (tabP.take 10).flatten) (len := 10) rfl rfl (by decide) (by omega) srcR_sl rfl (by unfold roomA maxLen; decide) rfl rfl ?_
    refine w_add rfl rfl (by unfold inI; omega) ?_
    refine w_and ?_
    exact ⟨3, by omega, Wk.refl _ _ _ (by simp [tH, tM]), by omega⟩
  · refine a_lss rfl rfl ?_
    refine a_cond1 rfl rfl ?_
    refine w_idxS rfl rfl (by decide) ?_
    refine w_loadI rfl ?_
    refine a_addS rfl rfl (by unfold maxLen; decide) ?_
    refine w_loadA rfl rfl (Nat.le_refl _) ?_
    refine w_call rfl (by kernel_rfl) tb14 ?_
    refine a_mkSlP rfl ?_
    refine n_appK (n := 6) (h' := [_, _, _, _, _, _, _]) (cells := (tabP.take 11).flatten) (len := 11) rfl rfl (by decide) (by omega) srcR_sl rfl (by unfold roomA maxLen; decide) rfl rfl ?_
    refine w_add rfl rfl (by unfold inI; omega) ?_
    refine w_and ?_
    exact ⟨4, by omega, Wk.refl _ _ _ (by simp [tH, tM]), by omega⟩
  · refine a_lss rfl rfl ?_
    refine a_cond0 rfl rfl ?_
    refine a_build rfl ?_
    refine w_callQ rfl (by kernel_rfl) tb15 ?_
    refine w_callQ rfl (by kernel_rfl) tb16 ?_
    refine a_mkSlP rfl ?_
    refine w_callQ rfl (by kernel_rfl) tb17 ?_
    refine w_callQ rfl (by kernel_rfl) tb19 ?_
    refine a_build rfl ?_
    refine a_mkSlP rfl ?_
    refine a_build rfl ?_
    refine w_loadA rfl rfl (Nat.le_refl _) ?_
    refine a_mkSlP rfl ?_
    refine a_mkSlP rfl ?_
    refine a_build rfl ?_
    refine a_build rfl ?_
    refine a_mkSlP rfl ?_
    refine a_build rfl ?_
    refine a_mkSlP rfl ?_
    refine a_appK (cells := (tabP.take 12).flatten) (len := 12) rfl rfl (by decide) (by omega) srcR_sl rfl (by unfold roomA maxLen; decide) ?_
    refine Gives.of ?_
    show _ = _
    rfl
end Go.Proofs.YtmbpiloibhbmbaaDoor
end
