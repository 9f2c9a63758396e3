/-
  The tables of properties: the code's and the reference's. The table of properties: the code's.
  No conditions.
-/
import Derived.Test.YtfageokhpklkbaaGreatDoorTab
import Derived.Test.YtfageokhpklkbaaGreatDoorWTab
import Derived.Test.YtfageokhpklkbaaGreatDoorL5
set_option linter.unusedVariables false
set_option linter.unusedSimpArgs false
section
namespace Go.Proofs.YtfageokhpklkbaaGreatDoor
open Go Go.Aw
set_option maxRecDepth 1000000
theorem b9 {len sz : Nat} {z : AV} {ps : List (Nat × Nat × AV)} {cs : List AV} {K : AV → Prop} (e : dQ (fp len (bc z)) ps = some cs) (q : K (.sl sz (chunks sz len cs))) : bP len sz z ps K:=by
 unfold bP;rw [e];exact q
theorem Ir {t len sz n : Nat} {z : AV} {ps : List (Nat × Nat × AV)} {cs : List AV} {h h' : aa} {K : AV → aa → Prop} (e : dQ (fp (len + 1) (bc z)) ps = some cs) (hn : h.length = n) (hh : h ++ [.blk ⟨t,cs,true⟩] = h') (q : K (.own n 0 (len + 1) sz) h') : fG t (len + 1) sz z ps h K:=by
 subst hn;subst hh
 unfold fG;rw [e];exact q
theorem HT {b : Bool} {X : Prop} (hb : b = true) (q : X) : req b X:=by subst hb;exact q
theorem gx {P : Program} {f : FuncId} {args args' : List AV} {r : AV} {K : AV → Prop} (e : args = args') (hb : cq P f = true) (c : Con P f args' r) (k : K r) {h : aa} : fb P (.fn (.func f) [] []) args h K:=by
 subst e
 exact ⟨r,hb,fun ext=>by simpa using c.call ⟨rfl,rfl⟩,k⟩
def fY : List (List AV):=[[.str [99,111,108,111,114],.v (.bool true),.v (.int .u8 7),.str [],int 0,.v (.int .u8 0),.v (.int .u8 0),.v (.int .u8 0),.v (.int .u8 255),.v (.slice none 0 0),.sl 1 [[.v (.int .u8 7)],[.v (.int .u8 8)]],.v (.bool false)],[.str [98,97,99,107,103,114,111,117,110,100,45,99,111,108,111,114],.v (.bool false),.v (.int .u8 7),.str [],int 0,.v (.int .u8 0),.v (.int .u8 0),.v (.int .u8 0),.v (.int .u8 0),.v (.slice none 0 0),.sl 1 [[.v (.int .u8 7)],[.v (.int .u8 8)]],.v (.bool false)],[.str [98,111,114,100,101,114,45,99,111,108,111,114],.v (.bool false),.v (.int .u8 8),.str [],int 0,.v (.int .u8 0),.v (.int .u8 0),.v (.int .u8 0),.v (.int .u8 0),.v (.slice none 0 0),.sl 1 [[.v (.int .u8 7)],[.v (.int .u8 8)]],.v (.bool false)],[.str [111,117,116,108,105,110,101,45,99,111,108,111,114],.v (.bool false),.v (.int .u8 8),.str [],int 0,.v (.int .u8 0),.v (.int .u8 0),.v (.int .u8 0),.v (.int .u8 0),.v (.slice none 0 0),.sl 1 [[.v (.int .u8 7)],[.v (.int .u8 8)]],.v (.bool false)],[.str [100,105,115,112,108,97,121],.v (.bool false),.v (.int .u8 1),.str [105,110,108,105,110,101],int 0,.v (.int .u8 0),.v (.int .u8 0),.v (.int .u8 0),.v (.int .u8 0),.sl 1 [[.str [98,108,111,99,107]],[.str [102,108,101,120]],[.str [105,110,108,105,110,101]],[.str [105,110,108,105,110,101,45,98,108,111,99,107]],[.str [110,111,110,101]]],.v (.slice none 0 0),.v (.bool false)],[.str [118,105,115,105,98,105,108,105,116,121],.v (.bool true),.v (.int .u8 1),.str [118,105,115,105,98,108,101],int 0,.v (.int .u8 0),.v (.int .u8 0),.v (.int .u8 0),.v (.int .u8 0),.sl 1 [[.str [99,111,108,108,97,112,115,101]],[.str [104,105,100,100,101,110]],[.str [118,105,115,105,98,108,101]]],.v (.slice none 0 0),.v (.bool false)],[.str [119,105,100,116,104],.v (.bool false),.v (.int .u8 1),.str [97,117,116,111],int 0,.v (.int .u8 0),.v (.int .u8 0),.v (.int .u8 0),.v (.int .u8 0),.sl 1 [[.str [97,117,116,111]]],.sl 1 [[.v (.int .u8 2)],[.v (.int .u8 3)],[.v (.int .u8 4)]],.v (.bool true)],[.str [104,101,105,103,104,116],.v (.bool false),.v (.int .u8 1),.str [97,117,116,111],int 0,.v (.int .u8 0),.v (.int .u8 0),.v (.int .u8 0),.v (.int .u8 0),.sl 1 [[.str [97,117,116,111]]],.sl 1 [[.v (.int .u8 2)],[.v (.int .u8 3)],[.v (.int .u8 4)]],.v (.bool true)],[.str [109,97,114,103,105,110,45,116,111,112],.v (.bool false),.v (.int .u8 2),.str [],int 0,.v (.int .u8 0),.v (.int .u8 0),.v (.int .u8 0),.v (.int .u8 0),.sl 1 [[.str [97,117,116,111]]],.sl 1 [[.v (.int .u8 2)],[.v (.int .u8 3)],[.v (.int .u8 4)]],.v (.bool false)],[.str [109,97,114,103,105,110,45,114,105,103,104,116],.v (.bool false),.v (.int .u8 2),.str [],int 0,.v (.int .u8 0),.v (.int .u8 0),.v (.int .u8 0),.v (.int .u8 0),.sl 1 [[.str [97,117,116,111]]],.sl 1 [[.v (.int .u8 2)],[.v (.int .u8 3)],[.v (.int .u8 4)]],.v (.bool false)],[.str [109,97,114,103,105,110,45,98,111,116,116,111,109],.v (.bool false),.v (.int .u8 2),.str [],int 0,.v (.int .u8 0),.v (.int .u8 0),.v (.int .u8 0),.v (.int .u8 0),.sl 1 [[.str [97,117,116,111]]],.sl 1 [[.v (.int .u8 2)],[.v (.int .u8 3)],[.v (.int .u8 4)]],.v (.bool false)],[.str [109,97,114,103,105,110,45,108,101,102,116],.v (.bool false),.v (.int .u8 2),.str [],int 0,.v (.int .u8 0),.v (.int .u8 0),.v (.int .u8 0),.v (.int .u8 0),.sl 1 [[.str [97,117,116,111]]],.sl 1 [[.v (.int .u8 2)],[.v (.int .u8 3)],[.v (.int .u8 4)]],.v (.bool false)],[.str [102,111,110,116,45,115,105,122,101],.v (.bool true),.v (.int .u8 2),.str [],int 16000,.v (.int .u8 0),.v (.int .u8 0),.v (.int .u8 0),.v (.int .u8 0),.sl 1 [],.sl 1 [[.v (.int .u8 2)],[.v (.int .u8 3)],[.v (.int .u8 4)]],.v (.bool true)],[.str [108,105,110,101,45,104,101,105,103,104,116],.v (.bool true),.v (.int .u8 1),.str [110,111,114,109,97,108],int 0,.v (.int .u8 0),.v (.int .u8 0),.v (.int .u8 0),.v (.int .u8 0),.sl 1 [[.str [110,111,114,109,97,108]]],.sl 1 [[.v (.int .u8 2)],[.v (.int .u8 3)],[.v (.int .u8 4)],[.v (.int .u8 5)]],.v (.bool true)],[.str [116,101,120,116,45,97,108,105,103,110],.v (.bool true),.v (.int .u8 1),.str [108,101,102,116],int 0,.v (.int .u8 0),.v (.int .u8 0),.v (.int .u8 0),.v (.int .u8 0),.sl 1 [[.str [99,101,110,116,101,114]],[.str [106,117,115,116,105,102,121]],[.str [108,101,102,116]],[.str [114,105,103,104,116]]],.v (.slice none 0 0),.v (.bool false)],[.str [111,112,97,99,105,116,121],.v (.bool false),.v (.int .u8 5),.str [],int 1000,.v (.int .u8 0),.v (.int .u8 0),.v (.int .u8 0),.v (.int .u8 0),.v (.slice none 0 0),.sl 1 [[.v (.int .u8 5)]],.v (.bool false)],[.str [122,45,105,110,100,101,120],.v (.bool false),.v (.int .u8 1),.str [97,117,116,111],int 0,.v (.int .u8 0),.v (.int .u8 0),.v (.int .u8 0),.v (.int .u8 0),.sl 1 [[.str [97,117,116,111]]],.sl 1 [[.v (.int .u8 6)]],.v (.bool false)],[.str [111,114,100,101,114],.v (.bool false),.v (.int .u8 6),.str [],int 0,.v (.int .u8 0),.v (.int .u8 0),.v (.int .u8 0),.v (.int .u8 0),.v (.slice none 0 0),.sl 1 [[.v (.int .u8 6)]],.v (.bool false)]]
def ug : List (List AV):=[[.str [99,111,108,111,114],.v (.bool true),.v (.int .u8 7),.str [],int 0,.v (.int .u8 0),.v (.int .u8 0),.v (.int .u8 0),.v (.int .u8 255),.v (.slice none 0 0),.sl 1 [[.v (.int .u8 7)],[.v (.int .u8 8)]],.v (.bool false)],[.str [98,97,99,107,103,114,111,117,110,100,45,99,111,108,111,114],.v (.bool false),.v (.int .u8 7),.str [],int 0,.v (.int .u8 0),.v (.int .u8 0),.v (.int .u8 0),.v (.int .u8 0),.v (.slice none 0 0),.sl 1 [[.v (.int .u8 7)],[.v (.int .u8 8)]],.v (.bool false)],[.str [98,111,114,100,101,114,45,99,111,108,111,114],.v (.bool false),.v (.int .u8 8),.str [],int 0,.v (.int .u8 0),.v (.int .u8 0),.v (.int .u8 0),.v (.int .u8 0),.v (.slice none 0 0),.sl 1 [[.v (.int .u8 7)],[.v (.int .u8 8)]],.v (.bool false)],[.str [111,117,116,108,105,110,101,45,99,111,108,111,114],.v (.bool false),.v (.int .u8 8),.str [],int 0,.v (.int .u8 0),.v (.int .u8 0),.v (.int .u8 0),.v (.int .u8 0),.v (.slice none 0 0),.sl 1 [[.v (.int .u8 7)],[.v (.int .u8 8)]],.v (.bool false)],[.str [100,105,115,112,108,97,121],.v (.bool false),.v (.int .u8 1),.str [105,110,108,105,110,101],int 0,.v (.int .u8 0),.v (.int .u8 0),.v (.int .u8 0),.v (.int .u8 0),.sl 1 [[.str [98,108,111,99,107]],[.str [102,108,101,120]],[.str [105,110,108,105,110,101]],[.str [105,110,108,105,110,101,45,98,108,111,99,107]],[.str [110,111,110,101]]],.v (.slice none 0 0),.v (.bool false)],[.str [118,105,115,105,98,105,108,105,116,121],.v (.bool true),.v (.int .u8 1),.str [118,105,115,105,98,108,101],int 0,.v (.int .u8 0),.v (.int .u8 0),.v (.int .u8 0),.v (.int .u8 0),.sl 1 [[.str [99,111,108,108,97,112,115,101]],[.str [104,105,100,100,101,110]],[.str [118,105,115,105,98,108,101]]],.v (.slice none 0 0),.v (.bool false)],[.str [119,105,100,116,104],.v (.bool false),.v (.int .u8 1),.str [97,117,116,111],int 0,.v (.int .u8 0),.v (.int .u8 0),.v (.int .u8 0),.v (.int .u8 0),.sl 1 [[.str [97,117,116,111]]],.sl 1 [[.v (.int .u8 2)],[.v (.int .u8 3)],[.v (.int .u8 4)]],.v (.bool true)],[.str [104,101,105,103,104,116],.v (.bool false),.v (.int .u8 1),.str [97,117,116,111],int 0,.v (.int .u8 0),.v (.int .u8 0),.v (.int .u8 0),.v (.int .u8 0),.sl 1 [[.str [97,117,116,111]]],.sl 1 [[.v (.int .u8 2)],[.v (.int .u8 3)],[.v (.int .u8 4)]],.v (.bool true)],[.str [109,97,114,103,105,110,45,116,111,112],.v (.bool false),.v (.int .u8 2),.str [],int 0,.v (.int .u8 0),.v (.int .u8 0),.v (.int .u8 0),.v (.int .u8 0),.sl 1 [[.str [97,117,116,111]]],.sl 1 [[.v (.int .u8 2)],[.v (.int .u8 3)],[.v (.int .u8 4)]],.v (.bool false)],[.str [109,97,114,103,105,110,45,114,105,103,104,116],.v (.bool false),.v (.int .u8 2),.str [],int 0,.v (.int .u8 0),.v (.int .u8 0),.v (.int .u8 0),.v (.int .u8 0),.sl 1 [[.str [97,117,116,111]]],.sl 1 [[.v (.int .u8 2)],[.v (.int .u8 3)],[.v (.int .u8 4)]],.v (.bool false)],[.str [109,97,114,103,105,110,45,98,111,116,116,111,109],.v (.bool false),.v (.int .u8 2),.str [],int 0,.v (.int .u8 0),.v (.int .u8 0),.v (.int .u8 0),.v (.int .u8 0),.sl 1 [[.str [97,117,116,111]]],.sl 1 [[.v (.int .u8 2)],[.v (.int .u8 3)],[.v (.int .u8 4)]],.v (.bool false)],[.str [109,97,114,103,105,110,45,108,101,102,116],.v (.bool false),.v (.int .u8 2),.str [],int 0,.v (.int .u8 0),.v (.int .u8 0),.v (.int .u8 0),.v (.int .u8 0),.sl 1 [[.str [97,117,116,111]]],.sl 1 [[.v (.int .u8 2)],[.v (.int .u8 3)],[.v (.int .u8 4)]],.v (.bool false)],[.str [102,111,110,116,45,115,105,122,101],.v (.bool true),.v (.int .u8 2),.str [],int 16000,.v (.int .u8 0),.v (.int .u8 0),.v (.int .u8 0),.v (.int .u8 0),.v (.slice none 0 0),.sl 1 [[.v (.int .u8 2)],[.v (.int .u8 3)],[.v (.int .u8 4)]],.v (.bool true)],[.str [108,105,110,101,45,104,101,105,103,104,116],.v (.bool true),.v (.int .u8 1),.str [110,111,114,109,97,108],int 0,.v (.int .u8 0),.v (.int .u8 0),.v (.int .u8 0),.v (.int .u8 0),.sl 1 [[.str [110,111,114,109,97,108]]],.sl 1 [[.v (.int .u8 2)],[.v (.int .u8 3)],[.v (.int .u8 4)],[.v (.int .u8 5)]],.v (.bool true)],[.str [116,101,120,116,45,97,108,105,103,110],.v (.bool true),.v (.int .u8 1),.str [108,101,102,116],int 0,.v (.int .u8 0),.v (.int .u8 0),.v (.int .u8 0),.v (.int .u8 0),.sl 1 [[.str [99,101,110,116,101,114]],[.str [106,117,115,116,105,102,121]],[.str [108,101,102,116]],[.str [114,105,103,104,116]]],.v (.slice none 0 0),.v (.bool false)],[.str [111,112,97,99,105,116,121],.v (.bool false),.v (.int .u8 5),.str [],int 1000,.v (.int .u8 0),.v (.int .u8 0),.v (.int .u8 0),.v (.int .u8 0),.v (.slice none 0 0),.sl 1 [[.v (.int .u8 5)]],.v (.bool false)],[.str [122,45,105,110,100,101,120],.v (.bool false),.v (.int .u8 1),.str [97,117,116,111],int 0,.v (.int .u8 0),.v (.int .u8 0),.v (.int .u8 0),.v (.int .u8 0),.sl 1 [[.str [97,117,116,111]]],.sl 1 [[.v (.int .u8 6)]],.v (.bool false)],[.str [111,114,100,101,114],.v (.bool false),.v (.int .u8 6),.str [],int 0,.v (.int .u8 0),.v (.int .u8 0),.v (.int .u8 0),.v (.int .u8 0),.v (.slice none 0 0),.sl 1 [[.v (.int .u8 6)]],.v (.bool false)]]
set_option maxHeartbeats 4000000 in
theorem rC : Con Tryz.prog 29 [] (.sl 12 ug):=by
 refine (V29).gives (by simp) (by simp [ug]) ?_
 unfold W29
 refine br rfl (cL (n:=0) (h':=[_]) rfl rfl rfl rfl (cQ (h':=[_]) rfl rfl rfl rfl (Nat.le_refl _) rfl rfl rfl (b9 rfl (b9 rfl (br rfl (cL (n:=1) (h':=[_,_]) rfl rfl rfl rfl (cQ (h':=[_,_]) rfl rfl rfl rfl (Nat.le_refl _) rfl rfl rfl ?_)))))))
 refine br rfl (br rfl (br rfl (br rfl (br rfl (ba rfl rfl (Nat.le_refl _) (br rfl (ba rfl rfl (Nat.le_refl _) ?_)))))))
 refine br rfl ?_
 refine gx rfl (by kernel_rfl) Pl ?_
 refine b9 rfl (br rfl ?_)
 refine gx rfl (by kernel_rfl) Pm ?_
 refine b9 rfl (br rfl (ba rfl rfl (Nat.le_refl _) (b9 rfl (br rfl (ba rfl rfl (Nat.le_refl _) (b9 rfl (br rfl ?_)))))))
 refine gx rfl (by kernel_rfl) DK ?_
 refine b9 rfl (br rfl ?_)
 refine gx rfl (by kernel_rfl) DK ?_
 refine b9 rfl (br rfl ?_)
 refine gx rfl (by kernel_rfl) DK ?_
 refine b9 rfl (br rfl ?_)
 refine gx rfl (by kernel_rfl) DK ?_
 refine b9 rfl (br rfl ?_)
 refine gx rfl (by kernel_rfl) Pn ?_
 refine br rfl ?_
 refine gx rfl (by kernel_rfl) Po ?_
 refine b9 rfl (b9 rfl (b9 rfl (br rfl (b9 rfl (br rfl (ba rfl rfl (Nat.le_refl _) (b9 rfl ?_)))))))
 refine b9 rfl (br rfl (br rfl (b9 rfl (br rfl (Ip (HT rfl ?_))))))
 refine LQ (n:=2) (h':=[_,_,_]) (k:=3) rfl eU rfl rfl (by unfold cT maxLen;decide) rfl rfl ?_
 refine HT rfl ?_
 refine jg (h':=[_,_,_]) (k:=3) rfl rfl rfl eU rfl (by unfold cT maxLen;decide) rfl ?_
 refine br rfl ?_
 refine cz rfl (by kernel_rfl) Pp ?_
 refine br rfl (b9 rfl (iw.of ?_))
 show _ = _
 rfl
end Go.Proofs.YtfageokhpklkbaaGreatDoor
end

section
namespace Go.Proofs.YtfageokhpklkbaaGreatDoor
open Go Go.Aw
set_option maxRecDepth 1000000
theorem qI {x y : AV} {a b : List UInt8} {K : AV → Prop} (ex : x = .str a) (ey : y = .str b) (hl : a.length + b.length ≤ maxLen) (q : K (.str (a ++ b))) : af .add x y K:=by
 subst ex;subst ey
 exact ⟨hl,q⟩
def tM : Nat → aa
 | 0=>[]
 | k + 1=>tM k ++ [.dead]
def tH (k : Nat) : aa:=[.blk ⟨38,[u8 1,.str [97,117,116,111],int 0,u8 0,u8 0,u8 0,u8 0],true⟩,.blk ⟨38,[u8 2,.str [],int 0,u8 0,u8 0,u8 0,u8 0],true⟩] ++ tM k ++ [.blk ⟨42,(fY.take (8 + k)).flatten,true⟩]
set_option maxHeartbeats 4000000 in
theorem fD : Con Tryz.prog 8 [] (.sl 12 fY):=by
 refine (V8).gives (by simp) (by simp [fY]) ?_
 unfold W8
 refine b6 rfl (by kernel_rfl) tb0 ?_
 refine br rfl (cL (n:=0) (h':=[_]) rfl rfl rfl rfl (cL (n:=1) (h':=[_,_]) rfl rfl rfl rfl (cQ (h':=[_,_]) rfl rfl rfl rfl (Nat.le_refl _) rfl rfl rfl (cQ (h':=[_,_]) rfl rfl rfl rfl (Nat.le_refl _) rfl rfl rfl (br rfl (br rfl ?_))))))
 refine cz rfl (by kernel_rfl) tb1 ?_
 refine br rfl ?_
 refine cz rfl (by kernel_rfl) tb2 ?_
 refine br rfl ?_
 refine cz rfl (by kernel_rfl) tb3 ?_
 refine br rfl ?_
 refine cz rfl (by kernel_rfl) tb4 ?_
 refine cz rfl (by kernel_rfl) tb6 ?_
 refine cz rfl (by kernel_rfl) tb8 ?_
 refine ba rfl rfl (Nat.le_refl _) ?_
 refine cz rfl (by kernel_rfl) tb9 ?_
 refine ba rfl rfl (Nat.le_refl _) ?_
 refine cz rfl (by kernel_rfl) Pb ?_
 refine Ir (n:=2) (h':=tH 0) rfl rfl rfl (b9 rfl ?_)
 refine aB rfl rfl fun _=>?_
 refine a7 (α:=Nat) (fun k=>k ≤ 4) (fun k=>[.own (2 + k) 0 (8 + k) 12,int k]) tH (fun k=>4 - k) 0 (by simp) (Wk.refl _ _ _ (by simp)) ?_
 intro k hk
 obtain rfl|rfl|rfl|rfl|rfl : k = 0 ∨ k = 1 ∨ k = 2 ∨ k = 3 ∨ k = 4:=by omega
 ·refine aF rfl rfl (ak rfl rfl ?_)
  refine sW rfl rfl (by decide) ?_
  refine aR rfl ?_
  refine qI rfl rfl (by unfold maxLen;decide) ?_
  refine ba rfl rfl (Nat.le_refl _) ?_
  refine b6 rfl (by kernel_rfl) Pc ?_
  refine b9 rfl ?_
  refine sG (n:=3) (h':=[_,_,_,_]) (cells:=(fY.take 8).flatten) (len:=8) rfl rfl (by decide) (by omega) eU rfl (by unfold cT maxLen;decide) rfl rfl ?_
  refine aP rfl rfl (by unfold inI;omega) ?_
  refine ar ?_
  exact ⟨1,by omega,Wk.refl _ _ _ (by simp [tH,tM]),by omega⟩
 ·refine aF rfl rfl (ak rfl rfl ?_)
  refine sW rfl rfl (by decide) ?_
  refine aR rfl ?_
  refine qI rfl rfl (by unfold maxLen;decide) ?_
  refine ba rfl rfl (Nat.le_refl _) ?_
  refine b6 rfl (by kernel_rfl) Pd ?_
  refine b9 rfl ?_
  refine sG (n:=4) (h':=[_,_,_,_,_]) (cells:=(fY.take 9).flatten) (len:=9) rfl rfl (by decide) (by omega) eU rfl (by unfold cT maxLen;decide) rfl rfl ?_
  refine aP rfl rfl (by unfold inI;omega) ?_
  refine ar ?_
  exact ⟨2,by omega,Wk.refl _ _ _ (by simp [tH,tM]),by omega⟩
 ·refine aF rfl rfl (ak rfl rfl ?_)
  refine sW rfl rfl (by decide) ?_
  refine aR rfl ?_
  refine qI rfl rfl (by unfold maxLen;decide) ?_
  refine ba rfl rfl (Nat.le_refl _) ?_
  refine b6 rfl (by kernel_rfl) Pe ?_
  refine b9 rfl ?_
  refine sG (n:=5) (h':=[_,_,_,_,_,_]) (cells:=(fY.take 10).flatten) (len:=10) rfl rfl (by decide) (by omega) eU rfl (by unfold cT maxLen;decide) rfl rfl ?_
  refine aP rfl rfl (by unfold inI;omega) ?_
  refine ar ?_
  exact ⟨3,by omega,Wk.refl _ _ _ (by simp [tH,tM]),by omega⟩
 ·refine aF rfl rfl (ak rfl rfl ?_)
  refine sW rfl rfl (by decide) ?_
  refine aR rfl ?_
  refine qI rfl rfl (by unfold maxLen;decide) ?_
  refine ba rfl rfl (Nat.le_refl _) ?_
  refine b6 rfl (by kernel_rfl) Pf ?_
  refine b9 rfl ?_
  refine sG (n:=6) (h':=[_,_,_,_,_,_,_]) (cells:=(fY.take 11).flatten) (len:=11) rfl rfl (by decide) (by omega) eU rfl (by unfold cT maxLen;decide) rfl rfl ?_
  refine aP rfl rfl (by unfold inI;omega) ?_
  refine ar ?_
  exact ⟨4,by omega,Wk.refl _ _ _ (by simp [tH,tM]),by omega⟩
 ·refine aF rfl rfl (ag rfl rfl (br rfl ?_))
  refine cz rfl (by kernel_rfl) Pg ?_
  refine cz rfl (by kernel_rfl) Ph ?_
  refine b9 rfl ?_
  refine cz rfl (by kernel_rfl) Pj ?_
  refine cz rfl (by kernel_rfl) Pk ?_
  refine br rfl (b9 rfl (br rfl (ba rfl rfl (Nat.le_refl _) (b9 rfl (b9 rfl (br rfl (br rfl ?_)))))))
  refine b9 rfl (br rfl (b9 rfl ?_))
  refine DT (cells:=(fY.take 12).flatten) (len:=12) rfl rfl (by decide) (by omega) eU rfl (by unfold cT maxLen;decide) ?_
  refine iw.of ?_
  show _ = _
  rfl
end Go.Proofs.YtfageokhpklkbaaGreatDoor
end
