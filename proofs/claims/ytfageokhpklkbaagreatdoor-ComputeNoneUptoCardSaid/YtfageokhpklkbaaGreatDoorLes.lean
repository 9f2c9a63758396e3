/-
 Declarations of a style attribute ranked and compared: by their order alone.
 No conditions: contracts.
-/
import Derived.Test.YtfageokhpklkbaaGreatDoorWLes
import Derived.Test.YtfageokhpklkbaaGreatDoorT1
import Derived.Test.YtfageokhpklkbaaGreatDoorL5
set_option linter.unusedVariables false
set_option linter.unusedSimpArgs false
namespace Go.Proofs.YtfageokhpklkbaaGreatDoor
open Go Go.Aw
set_option maxRecDepth 100000
abbrev atR (n : List UInt8) (v : AV) (wh : List UInt8) (o : Int) : List AV:=[.str n,v,.str wh,ff,u8 3,tt,int 0,int 0,int 0,int 0,int o]
abbrev rkS (o : Int) : List AV:=[int 3,int 1,int 0,int 0,int 0,int 0,int o]
abbrev zr7 : List AV:=[int 0,int 0,int 0,int 0,int 0,int 0,int 0]
abbrev arB (l : List AV) : Ent:=.blk ⟨185,l,true⟩
theorem jK {len sz id o : Nat} {x i : AV} {K : AV → Prop} {n : Nat} (ex : x = .op id o) (ei : i = int n) (hn : n < len) (q : K (.op id (o + n * sz))) : eP len sz x i K:=by
 subst ex;subst ei
 exact ⟨⟨by omega,by omega⟩,by simpa using q⟩
theorem Mu {k k' : IntKind} {x : AV} {n m : Int} {K : AV → Prop} (e : x = .v (.int k' n)) (hm : k.wrap n = m) (q : K (.v (.int k m))) : lU k x K:=by subst hm;exact ⟨k',n,e,q⟩
theorem yH {n wh : List UInt8} {v : AV} {o : Int} (pv : Aw.Pure v) (sv : cv v = true) : Con Tryz.prog 96 [.agg (atR n v wh o)] (.agg (rkS o)):=by
 refine (V96 _).gives (by simp [bM,Aw.Pure,pv]) (by simp [bM,Aw.Pure]) ?_
 unfold W96
 refine cL (cs:=atR n v wh o) (n:=0) (h':=[.blk ⟨87,atR n v wh o,true⟩]) rfl (by show (cv (.str _) && (cv _ && _)) = true;rw [sv];rfl) rfl rfl ?_
 refine cL (cs:=zr7) (n:=1) (h':=[_,arB zr7]) rfl rfl rfl rfl (aC rfl (aD (id:=0) rfl rfl rfl (Mu (m:=3) rfl rfl (aC rfl (aD (id:=0) rfl rfl rfl (aC rfl ?_))))))
 refine jK (n:=0) rfl rfl (by omega) ?_
 refine aD (id:=0) rfl rfl rfl (aC rfl ?_)
 refine jK (n:=1) rfl rfl (by omega) ?_
 refine aD (id:=0) rfl rfl rfl (aC rfl ?_)
 refine jK (n:=2) rfl rfl (by omega) ?_
 refine aD (id:=0) rfl rfl rfl (aC rfl (aD (id:=0) rfl rfl rfl (br (cs:=[int 3,int 0,int 0,int 0,int 0,int 0,int o]) rfl (cL (cs:=zr7) (n:=2) (h':=[_,_,arB zr7]) rfl rfl rfl rfl (cQ (id:=2) (cs:=[int 3,int 0,int 0,int 0,int 0,int 0,int o]) (h':=[.blk ⟨87,atR n v wh o,true⟩,arB zr7,arB [int 3,int 0,int 0,int 0,int 0,int 0,int o]]) rfl rfl rfl rfl (Nat.le_refl _) rfl rfl rfl (aG (aC rfl ?_)))))))
 refine aD (id:=0) rfl rfl rfl (ak rfl rfl ?_)
 refine jK (n:=1) rfl rfl (by omega) ?_
 refine cQ (id:=2) (cs:=[int 1]) (h':=[.blk ⟨87,atR n v wh o,true⟩,arB zr7,arB (rkS o)]) rfl rfl rfl rfl (by show 0 + 1 * 1 + 1 ≤ 7;omega) rfl rfl rfl ?_
 refine ar (aG (aC rfl (aD (id:=0) rfl rfl rfl (ag rfl rfl (ar (ba (id:=2) rfl rfl (Nat.le_refl 7) (cQ (id:=1) (cs:=rkS o) (h':=[.blk ⟨87,atR n v wh o,true⟩,arB (rkS o),arB (rkS o)]) rfl rfl rfl rfl (Nat.le_refl _) rfl rfl rfl ?_)))))))
 refine ba (id:=1) rfl rfl (Nat.le_refl 7) ?_
 exact .pure (by simp [bM,Aw.Pure]) rfl
theorem F6 {n wh n' wh' : List UInt8} {v v' : AV} {o o' : Int} (pv : Aw.Pure v) (sv : cv v = true) (pv' : Aw.Pure v') (sv' : cv v' = true) : Con Tryz.prog 56 [.agg (atR n v wh o),.agg (atR n' v' wh' o')] (bool (decide (o < o'))):=by
 refine (V56 _ _).gives (by simp [bM,Aw.Pure,pv,pv']) (by simp) ?_
 unfold W56
 refine cL (cs:=atR n v wh o) (n:=0) (h':=[.blk ⟨87,atR n v wh o,true⟩]) rfl (by show (cv (.str _) && (cv _ && _)) = true;rw [sv];rfl) rfl rfl ?_
 refine cL (cs:=atR n' v' wh' o') (n:=1) (h':=[.blk ⟨87,atR n v wh o,true⟩,.blk ⟨87,atR n' v' wh' o',true⟩]) rfl (by show (cv (.str _) && (cv _ && _)) = true;rw [sv'];rfl) rfl rfl ?_
 refine ba (id:=0) rfl rfl (Nat.le_refl 11) ?_
 refine gx rfl (by kernel_rfl) (yH pv sv) ?_
 refine ba (id:=1) rfl rfl (Nat.le_refl 11) ?_
 refine gx rfl (by kernel_rfl) (yH pv' sv') ?_
 refine cQ (id:=4) (o:=0) (cs:=rkS o) (h':=[.blk ⟨87,atR n v wh o,true⟩,.blk ⟨87,atR n' v' wh' o',true⟩,.dead,.dead,arB (rkS o),arB zr7]) rfl rfl rfl rfl (Nat.le_refl _) rfl rfl rfl (cQ (id:=5) (o:=0) (cs:=rkS o') (h':=[.blk ⟨87,atR n v wh o,true⟩,.blk ⟨87,atR n' v' wh' o',true⟩,.dead,.dead,arB (rkS o),arB (rkS o')]) rfl rfl rfl rfl (Nat.le_refl _) rfl rfl rfl ?_)
 refine a7 (α:=Nat) (fun k=>k ≤ 7 ∧ (k = 7 → o = o')) (fun k=>[int k]) (fun _=>[.blk ⟨87,atR n v wh o,true⟩,.blk ⟨87,atR n' v' wh' o',true⟩,.dead,.dead,arB (rkS o),arB (rkS o')]) (fun k=>7 - k) 0 ⟨by omega,by omega⟩ (Wk.refl _ _ _ (Nat.le_refl _)) ?_
 rintro k ⟨hk,hf⟩
 refine aF rfl rfl ?_
 obtain rfl|rfl|rfl|rfl|rfl|rfl|rfl|rfl : k = 0 ∨ k = 1 ∨ k = 2 ∨ k = 3 ∨ k = 4 ∨ k = 5 ∨ k = 6 ∨ k = 7:=by omega
 iterate 6
  ·refine ak rfl (by decide) ?_
   refine jK (id:=4) (o:=0) rfl rfl (by omega) ?_
   refine aD (id:=4) rfl rfl rfl ?_
   refine jK (id:=5) (o:=0) rfl rfl (by omega) ?_
   refine aD (id:=5) rfl rfl rfl (bE rfl rfl ?_)
   refine ag rfl (by simp) ?_
   refine aP rfl rfl (by unfold inI;omega) ?_
   refine ar ?_
   exact ⟨_,⟨by omega,by omega⟩,Wk.refl _ [int (((_ : Nat) + 1 : Nat) : Int)] _ (Nat.le_refl _),by omega⟩
 ·refine ak rfl (by decide) ?_
  refine jK (id:=4) (o:=0) (n:=6) rfl rfl (by omega) ?_
  refine aD (id:=4) (c:=int o) rfl rfl rfl ?_
  refine jK (id:=5) (o:=0) (n:=6) rfl rfl (by omega) ?_
  refine aD (id:=5) (c:=int o') rfl rfl rfl (bE rfl rfl ?_)
  refine cA rfl (fun hc=>?_) (fun hc=>?_)
  ·refine jK (id:=4) (o:=0) (n:=6) rfl rfl (by omega) ?_
   refine aD (id:=4) (c:=int o) rfl rfl rfl ?_
   refine jK (id:=5) (o:=0) (n:=6) rfl rfl (by omega) ?_
   refine aD (id:=5) (c:=int o') rfl rfl rfl (aF rfl rfl ?_)
   exact .pure (by simp) rfl
  ·have e : o = o':=by simpa using hc
   refine aP rfl rfl (by unfold inI;omega) ?_
   refine ar ?_
   exact ⟨7,⟨by omega,fun _=>e⟩,Wk.refl _ _ _ (Nat.le_refl _),by omega⟩
 ·refine ag rfl (by decide) ?_
  refine .pure (by simp) ?_
  rw [hf rfl];simp
end Go.Proofs.YtfageokhpklkbaaGreatDoor

