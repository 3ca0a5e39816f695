/- frag.Fits, law15 num, SameLists. -/
import Derived.Test.YthlommalbkhcjaaGreatNm10
import Derived.Test.YthlommalbkhcjaaGreatNm06
import Derived.Test.YthlommalbkhcjaaGreatNm15
import Derived.Test.YthlommalbkhcjaaGreatNm30
import Derived.Deep.QuietTactic
import Derived.BigQuiet
namespace Go.Proofs.YthlommalbkhcjaaGreat
open Go.RowKit Go.Sort Go.BigFrame
def Lst8 (w:World) (I:Nat→Prop) (A:Option Addr) (n:Nat) (us:List Value) (xs:List By):Prop :=
 Reads w I 1 A n us∧xs.length=n∧∀ (k:Nat) (x:By),xs[k]?=some x→∃ A' c',us[k]?=some (.slice A' x.length c')∧x.length≤c'∧Reads w I 1 A' x.length (bytesV x)
theorem Lst8.keep {w w2:World} {I:Nat→Prop} {A:Option Addr} {n:Nat} {us:List Value} {xs:List By} (h:Lst8 w I A n us xs) (hs:Same I w w2):Lst8 w2 I A n us xs :=
 ⟨h.1.keep hs,h.2.1,fun k x hx=>by obtain ⟨A',c',h1,h2,h3⟩:=h.2.2 k x hx; exact ⟨A',c',h1,h2,h3.keep hs⟩⟩
theorem Lst8.lt {w:World} {I:Nat→Prop} {A:Option Addr} {n:Nat} {us:List Value} {xs:List By} (h:Lst8 w I A n us xs):Lst8 w (fun k=>I k∧k < w.heap.size) A n us xs :=
 ⟨h.1.lt,h.2.1,fun k x hx=>by obtain ⟨A',c',h1,h2,h3⟩:=h.2.2 k x hx; exact ⟨A',c',h1,h2,h3.lt⟩⟩
theorem info_sl8:(Tryz.prog.info? 61).map (fun i=>(i.zero,i.size,i.bytes))=some (some (.slice none 0 0),1,24):=by kernel_rfl
def Rows8 (B:Nat) (w:World) (v:Value) (L:List By):Prop :=
 ∃ us,w.ownsRow B 61 1 v L.length us∧us.length=L.length∧∀ (k:Nat) (x:By),L[k]?=some x→∃ u,us[k]?=some u∧w.ownsRow B 5 1 u x.length (bytesV x)
section
variable {w w':World} {B:Nat} {v:Value} {L:List By}
theorem Rows8.nil (B:Nat) (w:World):Rows8 B w (.slice none 0 0) []:=⟨[],World.ownsRow_nil _ _ _ _,rfl,fun k x h=>by simp at h⟩
theorem Rows8.form (h:Rows8 B w v L):∃ A c,v=.slice A L.length c∧L.length≤c:=by
 obtain ⟨us,h1,_⟩:=h
 exact own_form h1
theorem Rows8.types (h:Rows8 B w v L) (hs:w.heap.size≤w'.heap.size) (h1:∀ k (cs:Array Value),k < w.heap.size→Blk w k 61 cs→w'.heap[k]?=w.heap[k]?) (h2:∀ k (cs:Array Value),k < w.heap.size→Blk w k 5 cs→w'.heap[k]?=w.heap[k]?):Rows8 B w' v L:=by
 obtain ⟨us,ho,hl,hu⟩:=h
 exact ⟨us,own_type ho hs h1,hl,fun k x hx=>by obtain ⟨u,e,r⟩:=hu k x hx; exact ⟨u,e,own_type r hs h2⟩⟩
theorem Rows8.below (h:Rows8 B w v L) (hb:Below w.heap.size w w'):Rows8 B w' v L:=h.types hb.size (fun k _ hk _=>hb.block k hk) fun k _ hk _=>hb.block k hk
theorem Rows8.own {row:Option Nat} (h:Rows8 B w v L) (hg:w.grownBy w' row) (hr:∀ r,row=some r→∃ o:Obj,w.heap[r]?=some o∧o.isCells=false):Rows8 B w' v L :=
 h.types hg.size (fun k cs hk hb=>hg.block k hk fun e=>by
  obtain ⟨o,ho,hc⟩:=hr k e.symm
  unfold Blk at hb
  rw [ho] at hb
  injection hb with hb
  rw [hb] at hc
  cases hc) fun k cs hk hb=>hg.block k hk fun e=>by
  obtain ⟨o,ho,hc⟩:=hr k e.symm
  unfold Blk at hb
  rw [ho] at hb
  injection hb with hb
  rw [hb] at hc
  cases hc
theorem Rows8.push {us:List Value} {v2 u:Value} {x:By} (h1:w'.ownsRow B 61 1 v2 (L.length+1) (us++[u])) (hv:w.ownsRow B 61 1 v L.length us) (hl:us.length=L.length) (hg:w.grownBy w' v.ownBlock)
  (hu:∀ (k:Nat) (x:By),L[k]?=some x→∃ u,us[k]?=some u∧w.ownsRow B 5 1 u x.length (bytesV x)) (hx:w.ownsRow B 5 1 u x.length (bytesV x)):Rows8 B w' v2 (L++[x]):=by
 have hk:∀ k (cs:Array Value),k < w.heap.size→Blk w k 5 cs→w'.heap[k]?=w.heap[k]?:=fun k cs hk hb=>hg.block k hk fun e=>own_blk_ne hv hb (by decide) e.symm
 refine ⟨us++[u],by rw [List.length_append,List.length_singleton]; exact h1,by simp [hl],fun k y hy=>?_⟩
 rcases Nat.lt_or_ge k L.length with hlt | hge
 ·rw [List.getElem?_append_left hlt] at hy
  obtain ⟨u',e,r⟩:=hu k y hy
  exact ⟨u',by rw [List.getElem?_append_left (by rw [hl]; exact hlt)]; exact e,own_type r hg.size hk⟩
 ·rw [List.getElem?_append_right hge] at hy
  obtain ⟨e0,rfl⟩:k - L.length=0∧y=x:=by
   cases hkl:k - L.length with
   | zero=>rw [hkl] at hy; simpa using hy.symm
   | succ j=>rw [hkl] at hy; simp at hy
  exact ⟨u,by rw [List.getElem?_append_right (by rw [hl]; exact hge),hl,e0]; rfl,own_type hx hg.size hk⟩
end
end Go.Proofs.YthlommalbkhcjaaGreat
namespace Go.Proofs.YthlommalbkhcjaaGreat
open Go.RowKit Go.Sort Go.BigFrame
structure Zs where
 p:Int
 x:By
 u:Value
def zsC (z:Zs):List Value:=[.int .i64 z.p,z.u]
def flatZ (Z:List Zs):List Value:=Z.flatMap zsC
def Snts (B:Nat) (w:World) (v:Value) (L:List (Int × By)):Prop :=
 ∃ Z:List Zs,(Z.map fun z=>(z.p,z.x))=L∧w.ownsRow B 83 2 v Z.length (flatZ Z)∧∀ z ∈ Z,Row8 B w z.u z.x
theorem Snts.nil (B:Nat) (w:World):Snts B w (.slice none 0 0) []:=⟨[],rfl,World.ownsRow_nil _ _ _ _,fun _ h=>by cases h⟩
theorem Snts.below {B:Nat} {w w':World} {v:Value} {L:List (Int × By)} (h:Snts B w v L) (hb:Below w.heap.size w w'):Snts B w' v L:=by
 obtain ⟨Z,h1,h2,h3⟩:=h
 exact ⟨Z,h1,own_below h2 hb,fun z hz=>(h3 z hz).below hb⟩
structure Re where
 fb:Nat
 own:Nat
 Am:Option Addr
 cm:Nat
 mtus:List Int
 bb:Nat
 kb:Nat
 kc:Array Value
structure Rs where
 cl:Bool
 pv:Value
 x:By
 hv:Value
 h:Hd
 kd:Int
 po:Int
 lv:Value
 ov:Value
 ft:Ft
 tok:Int
def rnL (E:Re) (S:Rs):List Value:=[.pointer (some ⟨E.fb,0,none⟩),.int .u32 (E.own:Int),.slice E.Am E.mtus.length E.cm,.pointer (some ⟨E.bb,0,none⟩),S.pv,
 .int .u8 (S.h.tos:Int),.int .u16 (S.h.id:Int),.bool S.h.evil,.bool S.h.df,.bool S.h.mf,.int .i64 S.h.off,.int .u8 (S.h.ttl:Int),.int .u8 (S.h.proto:Int),.int .u32 (S.h.src:Int),.int .u32 (S.h.dst:Int),S.hv,
 .int .i64 S.kd,.int .i64 S.po,.int .i64 (S.ft.drop:Int),.int .i64 (S.ft.err:Int),S.lv,S.ov]
def rnA (E:Re) (S:Rs):Array Value:=(rnL E S).toArray
theorem rnA_size (E:Re) (S:Rs):(rnA E S).size=22:=rfl
def PkR (w0 wx:World) (bb:Nat) (S:Rs):Prop:=match S.cl with
 | true=>Row8 w0.heap.size wx S.pv S.x
 | false=>Sl8 wx (fun k=>k < w0.heap.size∧k≠bb) S.pv S.x
theorem PkR.below {w0 wx wy:World} {bb:Nat} {S:Rs} (h:PkR w0 wx bb S) (hb:Below wx.heap.size wx wy):PkR w0 wy bb S:=by
 unfold PkR at h ⊢
 split at h
 ·exact h.below hb
 ·exact (h.lt.keep (Same.ofBelow hb fun k hk=>hk.2)).mono fun k hk=>hk.1
structure RnC (w0 wx:World) (rb:Nat) (E:Re) (S:Rs):Prop where
 upd:Upd (fun k=>k=E.bb) w0 wx
 blk:Blk wx rb 142 (rnA E S)
 rbn:w0.heap.size≤rb
 bbl:E.bb < w0.heap.size
 pk:PkR w0 wx E.bb S
 hv:Row8 w0.heap.size wx S.hv S.h.opts
 bk:IsBk wx E.bb 64 1 S.tok 0
 tk:0≤S.tok∧S.tok≤64
 kp:Blk wx E.kb 26 E.kc
structure RnW (w0 wx:World) (rb:Nat) (E:Re) (S:Rs):Prop extends RnC w0 wx rb E S where
 lc:Rows8 w0.heap.size wx S.lv S.ft.loc
 ou:Snts w0.heap.size wx S.ov S.ft.out
theorem blk_tne {w:World} {a b:Nat} {t u:TypeId} {x y:Array Value} (h:Blk w a t x) (k:Blk w b u y) (n:t≠u):a≠b:=fun e=>by
 unfold Blk at h k
 rw [e,k] at h
 injection h with h
 injection h with _ h
 exact n h.symm
section
variable {w0 wx wy:World} {rb:Nat} {E:Re} {S:Rs}
theorem RnC.below (h:RnC w0 wx rb E S) (hb:Below wx.heap.size wx wy):RnC w0 wy rb E S :=
 ⟨h.upd.trans_ (Upd.ofBelow hb _),h.blk.below hb h.blk.lt,h.rbn,h.bbl,h.pk.below hb,h.hv.below hb,Blk.below h.bk hb (Blk.lt h.bk),h.tk,h.kp.below hb h.kp.lt⟩
theorem RnW.below (h:RnW w0 wx rb E S) (hb:Below wx.heap.size wx wy):RnW w0 wy rb E S :=
 ⟨h.toRnC.below hb,h.lc.below hb,h.ou.below hb⟩
theorem RnC.ne (h:RnC w0 wx rb E S):rb≠E.bb:=by have:=h.rbn; have:=h.bbl; omega
theorem own_set {w:World} {rb:Nat} {C:Array Value} (hk:Blk w rb 142 C) {B:Nat} {e:TypeId} {size n:Nat} {v:Value} {xs:List Value} (hne:e≠142) (ho:w.ownsRow B e size v n xs) (i:Nat) (u:Value):(w.setCell ⟨rb,i,none⟩ u).ownsRow B e size v n xs :=
 ownsRow_setCell_other (a:=⟨rb,i,none⟩) ho (own_blk_ne ho hk hne) u
theorem Rows8.set {w:World} {rb:Nat} {C:Array Value} (hk:Blk w rb 142 C) {B:Nat} {v:Value} {L:List By} (h:Rows8 B w v L) (i:Nat) (u:Value):Rows8 B (w.setCell ⟨rb,i,none⟩ u) v L:=by
 obtain ⟨us,a,b,c⟩:=h
 exact ⟨us,own_set hk (by decide) a i u,b,fun k x hx=>by obtain ⟨v,e,r⟩:=c k x hx; exact ⟨v,e,own_set hk (by decide) r i u⟩⟩
theorem Snts.set {w:World} {rb:Nat} {C:Array Value} (hk:Blk w rb 142 C) {B:Nat} {v:Value} {L:List (Int × By)} (h:Snts B w v L) (i:Nat) (u:Value):Snts B (w.setCell ⟨rb,i,none⟩ u) v L:=by
 obtain ⟨Z,a,b,c⟩:=h
 exact ⟨Z,a,own_set hk (by decide) b i u,fun z hz=>own_set hk (by decide) (c z hz) i u⟩
theorem PkR.set {S S':Rs} (h:RnC w0 wx rb E S) (h1:PkR w0 wx E.bb S') (i:Nat) (u:Value):PkR w0 (wx.setCell ⟨rb,i,none⟩ u) E.bb S':=by
 have hup:=upd_set wx rb i u
 unfold PkR at h1 ⊢
 split at h1
 ·exact own_set h.blk (by decide) h1 i u
 ·exact h1.keep (hup.same (I:=fun k=>k < w0.heap.size∧k≠E.bb) fun k (e:k=rb) hI=>by have:=h.rbn; omega)
theorem RnC.put (h:RnC w0 wx rb E S) {i:Nat} {u:Value} {S':Rs} (hu:(rnA E S).setIfInBounds i u=rnA E S') (h1:PkR w0 wx E.bb S') (h2:Row8 w0.heap.size wx S'.hv S'.h.opts) (h5:S'.tok=S.tok) :
  RnC w0 (wx.setCell ⟨rb,i,none⟩ u) rb E S':=by
 have hup:=upd_set wx rb i u
 refine ⟨h.upd.trans hup fun k (e:k=rb)=>.inr (by rw [e]; exact h.rbn),by rw [← hu]; exact h.blk.set_ i u,h.rbn,h.bbl,PkR.set h h1 i u,own_set h.blk (by decide) h2 i u,?_,by rw [h5]; exact h.tk,Blk.far (p:=⟨rb,i,none⟩) h.kp (blk_tne h.kp h.blk (by decide)) u⟩
 rw [h5]
 exact Blk.far (p:=⟨rb,i,none⟩) h.bk h.ne.symm u
theorem RnW.put (h:RnW w0 wx rb E S) {i:Nat} {u:Value} {S':Rs} (hu:(rnA E S).setIfInBounds i u=rnA E S') (h1:PkR w0 wx E.bb S') (h2:Row8 w0.heap.size wx S'.hv S'.h.opts) (h3:Rows8 w0.heap.size wx S'.lv S'.ft.loc) (h4:Snts w0.heap.size wx S'.ov S'.ft.out) (h5:S'.tok=S.tok) :
  RnW w0 (wx.setCell ⟨rb,i,none⟩ u) rb E S' :=
 ⟨h.toRnC.put hu h1 h2 h5,h3.set h.blk i u,h4.set h.blk i u⟩
theorem RnC.grown (h:RnC w0 wx rb E S) {e:TypeId} {size n:Nat} {v:Value} {xs:List Value} (ho:wx.ownsRow w0.heap.size e size v n xs) (n1:e≠142) (n2:e≠5) (hg:wx.grownBy wy v.ownBlock) (n3:e≠26:=by decide):RnC w0 wy rb E S:=by
 have hlo:∀ k,v.ownBlock=some k→w0.heap.size≤k:=fun k hk=>(own_lt ho hk).1
 have hrow:∀ {B n:Nat} {u:Value} {ys:List Value},wx.ownsRow B 5 1 u n ys→wy.ownsRow B 5 1 u n ys:=fun hr=>own_type hr hg.size fun k cs hk hb=>hg.block k hk fun e=>own_blk_ne ho hb n2 e.symm
 refine ⟨h.upd.grown hg fun k hk=>.inr (hlo k hk),(hg.block rb h.blk.lt fun e=>own_blk_ne ho h.blk n1 e.symm).trans h.blk,h.rbn,h.bbl,?_,hrow h.hv,(hg.block E.bb (Blk.lt h.bk) fun e=>by have:=hlo _ e.symm; have:=h.bbl; omega).trans h.bk,h.tk,(hg.block E.kb h.kp.lt fun e=>own_blk_ne ho h.kp n3 e.symm).trans h.kp⟩
 have hpk:=h.pk
 unfold PkR at hpk ⊢
 split at hpk
 ·exact hrow hpk
 ·exact hpk.lt.keep ⟨hg.size,fun k hI hk=>hg.block k hk fun e=>by have:=hlo _ e.symm; omega⟩ |>.mono fun k hk=>hk.1
end
theorem st_dr {w:World} {g i:Nat} {u:Value} (hu:w.cell? ⟨g,i,none⟩=some u) (hf:w.frozen? ⟨g,i,none⟩=false) (z:Int):(Instr.storeAt 66 (.pointer (some ⟨g,i,none⟩)) (.int .i64 z)).run Tryz.prog w=.ok () (w.setCell ⟨g,i,none⟩ (.int .i64 z)):=by
 simp [go_sem,hu,hf]
set_option maxRecDepth 100000 in
attribute [-go_sem] Instr.storeAt Instr.loadAt in
theorem fdrop_any {w0 w:World} {rb:Nat} {E:Re} {S:Rs} (h:RnW w0 w rb E S) (d:Nat) :
  Calls Tryz.prog 124 #[.pointer (some ⟨rb,0,none⟩),.int .i64 (d:Int)] w fun e w'=>e=.returned (.bool true)∧RnW w0 w' rb E { S with ft:=dropF S.ft d }:=by
 have s1:=st_dr (h.blk.cell 18) (h.blk.frozen 18) (d:Int)
 have hp:=h.put (i:=18) (u:=.int .i64 (d:Int)) (S':={ S with ft:=dropF S.ft d }) rfl h.pk h.hv h.lc h.ou rfl
 obtain ⟨W,hW⟩:∃ Z,Z=w.setCell ⟨rb,18,none⟩ (.int .i64 (d:Int)):=⟨_,rfl⟩
 rw [← hW] at s1 hp
 have HP:=Lib.hid hp
 clear hW hp h
 go_enter Tryz.func124,Tryz.ntmps124
 go_wp2_with fail
 go_ret
 exact ⟨rfl,HP.out⟩
end Go.Proofs.YthlommalbkhcjaaGreat
namespace Go.Proofs.YthlommalbkhcjaaGreat
open Go.RowKit Go.Sort
def nmL:List Value:=[.string ⟨#[]⟩,.string ⟨#[115,104,111,114,116]⟩,.string ⟨#[118,101,114,115,105,111,110]⟩,.string ⟨#[108,101,110,103,116,104]⟩,.string ⟨#[116,111,116,97,108]⟩,.string ⟨#[115,117,109]⟩,.string ⟨#[111,112,116,105,111,110,115]⟩,.string ⟨#[115,111,117,114,99,101]⟩,.string ⟨#[100,101,115,116]⟩,.string ⟨#[114,111,117,116,101,100]⟩,.string ⟨#[113,117,105,101,116]⟩,.string ⟨#[116,111,107,101,110,115]⟩,.string ⟨#[104,111,109,101,108,101,115,115]⟩,.string ⟨#[108,111,110,103]⟩,.string ⟨#[108,97,114,103,101]⟩]
def nameV (d:Int):Value:=if 0≤d∧d < 15 then nmL.getD d.toNat undef else .string ⟨#[]⟩
theorem nm_build (w:World):(Instr.buildSlice 97 15 #[(0,.string ⟨#[]⟩),(1,.string ⟨#[115,104,111,114,116]⟩),(2,.string ⟨#[118,101,114,115,105,111,110]⟩),(3,.string ⟨#[108,101,110,103,116,104]⟩),(4,.string ⟨#[116,111,116,97,108]⟩),(5,.string ⟨#[115,117,109]⟩),(6,.string ⟨#[111,112,116,105,111,110,115]⟩),(7,.string ⟨#[115,111,117,114,99,101]⟩),(8,.string ⟨#[100,101,115,116]⟩),(9,.string ⟨#[114,111,117,116,101,100]⟩),(10,.string ⟨#[113,117,105,101,116]⟩),(11,.string ⟨#[116,111,107,101,110,115]⟩),(12,.string ⟨#[104,111,109,101,108,101,115,115]⟩),(13,.string ⟨#[108,111,110,103]⟩),(14,.string ⟨#[108,97,114,103,101]⟩)]).run Tryz.prog w=.ok (.slice (some ⟨w.heap.size,0,none⟩) 15 15) (w.alloc (.cells nmL.toArray 9)):=by kernel_rfl
set_option maxHeartbeats 2000000 in
attribute [-go_sem] Instr.buildSlice in
theorem name_any (d:Int) (w:World):Calls Tryz.prog 41 #[.int .i64 d] w fun e w'=>e=.returned (nameV d)∧Below w.heap.size w w':=by
 obtain ⟨W,hW⟩:∃ Z,Z=w.alloc (.cells nmL.toArray 9):=⟨_,rfl⟩
 have hb:Below w.heap.size w W:=by rw [hW]; exact (Below.refl _ _).alloc (Nat.le_refl _) _
 have hk:Blk W w.heap.size 9 nmL.toArray:=by rw [hW]; exact Blk.new _ _ _
 have HB:=Lib.hid hb
 have HK:=Lib.hid hk
 have bs:=nm_build w
 rw [← hW] at bs
 clear hW hb hk
 by_cases h0:d < 0
 ·have d0:decide (d < 0)=true:=decide_eq_true h0
  have HN:=Lib.hid (show nameV d=.string ⟨#[]⟩ by unfold nameV; rw [if_neg (by omega)])
  go_enter Tryz.func41,Tryz.ntmps41
  go_wp2_with fail
  go_ret
  exact ⟨by rw [HN.out]; rfl,HB.out⟩
 ·have d0:decide (d < 0)=false:=decide_eq_false h0
  by_cases h1:15≤d
  ·have d1:decide (15≤d)=true:=decide_eq_true h1
   have HN:=Lib.hid (show nameV d=.string ⟨#[]⟩ by unfold nameV; rw [if_neg (by omega)])
   go_enter Tryz.func41,Tryz.ntmps41
   go_wp2_with fail
   go_ret
   exact ⟨by rw [HN.out]; rfl,HB.out⟩
  ·have d1:decide (15≤d)=false:=decide_eq_false h1
   obtain ⟨k,rfl⟩:∃ k:Nat,d=(k:Int):=⟨d.toNat,by omega⟩
   have hk15:k < 15:=by omega
   have hi:¬ (k:Int) < 0∧(k:Int) < 15:=⟨by omega,by omega⟩
   obtain ⟨v,hv⟩:∃ v,v=nmL.getD k undef:=⟨_,rfl⟩
   have hc:W.cell? ⟨w.heap.size,k,none⟩=some v:=by
    rw [HK.out.cell,List.getElem?_toArray,hv,List.getElem?_eq_getElem (show k < nmL.length from hk15)]
    simp [List.getD_eq_getElem?_getD,List.getElem?_eq_getElem (show k < nmL.length from hk15)]
   have HN:=Lib.hid (show nameV k=v by unfold nameV; rw [if_pos (by omega),hv]; simp)
   clear hv
   go_enter Tryz.func41,Tryz.ntmps41
   go_wp2_with fail
   go_ret
   exact ⟨by rw [HN.out]; rfl,HB.out⟩
end Go.Proofs.YthlommalbkhcjaaGreat
namespace Go.Proofs.YthlommalbkhcjaaGreat
open Go.RowKit Go.Sort Go.BigFrame
theorem beq_any (A B:Option Addr) (n m c d:Nat) (x y:By) (I J:Nat→Prop) (w:World) (h1:Reads w I 1 A n (bytesV x)) (h2:Reads w J 1 B m (bytesV y)) (hn:x.length=n) (hm:y.length=m) :
  Calls Tryz.prog 82 #[.slice A n c,.slice B m d] w fun e w'=>e=.returned (.bool (x == y))∧w=w':=by
 have s1:=run_str w I A x c (by rw [hn]; exact h1)
 have s2:=run_str w J B y d (by rw [hm]; exact h2)
 rw [hn] at s1
 rw [hm] at s2
 clear h1 h2 hn hm
 go_enter Tryz.func82,Tryz.ntmps82
 go_wp2_with fail
 go_ret
 exact ⟨rfl,rfl⟩
theorem same1_any (A B:Option Addr) (n m c d:Nat) (x y:By) (I J:Nat→Prop) (w:World) (h1:Reads w I 1 A n (bytesV x)) (h2:Reads w J 1 B m (bytesV y)) (hn:x.length=n) (hm:y.length=m) :
  Calls Tryz.prog 81 #[.slice A n c,.slice B m d] w fun e w'=>e=.returned (.bool (x == y))∧w=w':=by
 have HB:=Lib.hid (beq_any A B n m c d x y I J w h1 h2 hn hm)
 clear h1 h2 hn hm
 go_enter Tryz.func81,Tryz.ntmps81
 go_wp2_with fail
 refine HB.out.mono ?_
 rintro e w' ⟨rfl,rfl⟩
 go_wp2_with fail
 go_ret
 exact ⟨rfl,rfl⟩
theorem takes_succ {α:Type} {xs ys:List α} {k:Nat} {x:α} (h:xs.take k=ys.take k) (hx:xs[k]?=some x) (hy:ys[k]?=some x):xs.take (k+1)=ys.take (k+1):=by
 rw [List.take_add_one,List.take_add_one,h,hx,hy]
theorem takes_ne {α:Type} {xs ys:List α} {k:Nat} {x y:α} (hx:xs[k]?=some x) (hy:ys[k]?=some y) (hn:x≠y):xs≠ys:=fun e=>by
 rw [e,hy] at hx
 injection hx with hx
 exact hn hx.symm
set_option maxRecDepth 100000 in
set_option maxHeartbeats 4000000 in
theorem eqf1_any (A B:Option Addr) (n m c1 c2:Nat) (us vs:List Value) (xs ys:List By) (I J:Nat→Prop) (w:World) (ha:Lst8 w I A n us xs) (hb:Lst8 w J B m vs ys) (hn:n≤1000000) :
  Calls Tryz.prog 80 #[.slice A n c1,.slice B m c2,.func (.func 81) #[] #[]] w fun e w'=>e=.returned (.bool (xs == ys))∧w=w':=by
 obtain ⟨R,hR⟩:∃ R,R=(xs == ys):=⟨_,rfl⟩
 rw [← hR]
 have HR:=Lib.hid hR
 have HA:=Lib.hid ha
 have HB:=Lib.hid hb
 clear hR ha hb
 by_cases hnm:n=m
 ·subst hnm
  have d0:((n:Int) != (n:Int))=false:=by simp
  go_enter Tryz.func80,Tryz.ntmps80
  go_wp2_with fail
  go_loopw [17] (fun i wr=>∃ k:Nat,k≤n∧i=.int .i64 (k:Int)∧xs.take k=ys.take k∧wr=w) (fun i _=>n - (intOf i).toNat)
  case atStart=>exact ⟨0,Nat.zero_le _,rfl,rfl,rfl⟩
  case round =>
   obtain ⟨k,hk,rfl,htk,rfl⟩:=hrel
   have HTK:=Lib.hid htk
   clear htk
   by_cases hlt:k < n
   ·have a1:=HA.out
    have b1:=HB.out
    obtain ⟨x,hx⟩:∃ x,xs[k]?=some x:=⟨_,List.getElem?_eq_getElem (by rw [a1.2.1]; exact hlt)⟩
    obtain ⟨y,hy⟩:∃ y,ys[k]?=some y:=⟨_,List.getElem?_eq_getElem (by rw [b1.2.1]; exact hlt)⟩
    obtain ⟨A1,d1,e1,_,r1⟩:=a1.2.2 k x hx
    obtain ⟨B1,d2,e2,_,r2⟩:=b1.2.2 k y hy
    obtain ⟨ad,rfl,_,_,q1⟩:=a1.1.2 (by omega)
    obtain ⟨bd,rfl,_,_,q2⟩:=b1.1.2 (by omega)
    have hc1:wr.cell? (ad.add k)=some (.slice A1 x.length d1):=by have:=q1 _ _ e1; simpa using this
    have hc2:wr.cell? (bd.add k)=some (.slice B1 y.length d2):=by have:=q2 _ _ e2; simpa using this
    have HC:=Lib.hid (same1_any A1 B1 x.length y.length d1 d2 x y I J wr r1 r2 rfl rfl)
    have HS:=Lib.hid (fun e:x=y=>takes_succ HTK.out hx (by rw [e]; exact hy))
    have HN:=Lib.hid (fun e:x≠y=>takes_ne hx hy e)
    obtain ⟨p,hp⟩:∃ p,p=x.length:=⟨_,rfl⟩
    obtain ⟨q,hq⟩:∃ q,q=y.length:=⟨_,rfl⟩
    rw [← hp] at hc1 HC
    rw [← hq] at hc2 HC
    obtain ⟨b,hbb⟩:∃ b,b=(x == y):=⟨_,rfl⟩
    rw [← hbb] at HC
    have HBB:=Lib.hid hbb
    have hi0:(0:Int)≤k:=by omega
    have hi1:(k:Int) < n:=by omega
    have d1:decide ((k:Int) < (n:Int))=true:=decide_eq_true hi1
    clear a1 b1 hx hy e1 e2 r1 r2 q1 q2 hp hq hbb
    cases b with
    | true =>
      have hs:=Lib.hid (HS.out (by have:=HBB.out; simpa using this.symm))
      go_wp2_with fail
      refine HC.out.mono ?_
      rintro e w2 ⟨rfl,rfl⟩
      go_wp2_with fail
      go_roundw
      case rel=>exact ⟨k+1,by omega,rfl,hs.out,by trivial⟩
      case measure=>simp [intOf]; omega
    | false =>
      have hs:=Lib.hid (show R=false by rw [HR.out]; have:=HN.out (by have:=HBB.out; simpa using this.symm); simpa using this)
      go_wp2_with fail
      refine HC.out.mono ?_
      rintro e w2 ⟨rfl,rfl⟩
      go_wp2_with fail
      go_ret
      exact ⟨by rw [hs.out]; rfl,rfl⟩
   ·obtain rfl:k=n:=by omega
    have d1:decide ((k:Int) < (k:Int))=false:=decide_eq_false (by omega)
    have hs:=Lib.hid (show R=true by
     rw [HR.out]
     have:=HTK.out
     rw [List.take_of_length_le (by rw [HA.out.2.1]; exact Nat.le_refl _),List.take_of_length_le (by rw [HB.out.2.1]; exact Nat.le_refl _)] at this
     simpa using this)
    go_wp2_with fail
    go_ret
    exact ⟨by rw [hs.out]; rfl,by trivial⟩
 ·have d0:((n:Int) != (m:Int))=true:=by rw [bne_iff_ne]; omega
  have hs:=Lib.hid (show R=false by
   rw [HR.out,beq_eq_false_iff_ne]
   intro e
   have h1:=HA.out.2.1
   have h2:=HB.out.2.1
   rw [e] at h1
   omega)
  clear hnm HA HB
  go_enter Tryz.func80,Tryz.ntmps80
  go_wp2_with fail
  go_ret
  exact ⟨by rw [hs.out]; rfl,rfl⟩
structure SnM (w:World) (I:Nat→Prop) (A:Option Addr) (n:Nat) (Z:List Zs):Prop where
 row:Reads w I 2 A n (flatZ Z)
 len:Z.length=n
 each:∀ z ∈ Z,∃ A' c',z.u=.slice A' z.x.length c'∧Reads w I 1 A' z.x.length (bytesV z.x)
def zsP (z:Zs):Int × By:=(z.p,z.x)
theorem SnM.keep {w w':World} {I:Nat→Prop} {A:Option Addr} {n:Nat} {Z:List Zs} (h:SnM w I A n Z) (hs:Same I w w'):SnM w' I A n Z :=
 ⟨h.row.keep hs,h.len,fun z hz=>by obtain ⟨A',c',h1,h2⟩:=h.each z hz; exact ⟨A',c',h1,h2.keep hs⟩⟩
theorem SnM.lt {w:World} {I:Nat→Prop} {A:Option Addr} {n:Nat} {Z:List Zs} (h:SnM w I A n Z):SnM w (fun k=>I k∧k < w.heap.size) A n Z :=
 ⟨h.row.lt,h.len,fun z hz=>by obtain ⟨A',c',h1,h2⟩:=h.each z hz; exact ⟨A',c',h1,h2.lt⟩⟩
theorem flatZ_at:∀ {Z:List Zs} {k j:Nat} {z:Zs},Z[k]?=some z→j < 2→(flatZ Z)[k * 2+j]?=(zsC z)[j]?
 | [],k,j,z,h,_=>by simp at h
 | y :: Z,0,j,z,h,hj=>by
   obtain rfl:y=z:=by simpa using h
   rw [show flatZ (y :: Z)=zsC y++flatZ Z from rfl,List.getElem?_append_left (by show 0 * 2+j < 2; omega),Nat.zero_mul,Nat.zero_add]
 | y :: Z,k+1,j,z,h,hj=>by
   rw [show flatZ (y :: Z)=zsC y++flatZ Z from rfl,List.getElem?_append_right (by show 2≤(k+1) * 2+j; omega),← flatZ_at (Z:=Z) (k:=k) (j:=j) (z:=z) (by simpa using h) hj]
   show (flatZ Z)[(k+1) * 2+j - 2]?=_
   congr 1
   omega
theorem SnM.at {w:World} {I:Nat→Prop} {A:Option Addr} {n:Nat} {Z:List Zs} (h:SnM w I A n Z) {k:Nat} {z:Zs} (hz:Z[k]?=some z) :
  ∃ ad A' c',A=some ad∧z.u=.slice A' z.x.length c'∧w.cell? (ad.add (k * 2))=some (.int .i64 z.p)∧w.cell? ⟨(ad.add (k * 2)).block,(ad.add (k * 2)).off+1,none⟩=some (.slice A' z.x.length c')∧Reads w I 1 A' z.x.length (bytesV z.x):=by
 have hk:k < Z.length:=(List.getElem?_eq_some_iff.1 hz).1
 obtain ⟨A',c',hu,hr⟩:=h.each z (List.mem_of_getElem? hz)
 obtain ⟨ad,rfl,_,_,hc⟩:=h.row.2 (by have:=h.len; omega)
 have f0:=flatZ_at (j:=0) hz (by omega)
 have f1:=flatZ_at (j:=1) hz (by omega)
 rw [Nat.add_zero] at f0
 have c0:=hc (k * 2) (.int .i64 z.p) f0
 have c1:=hc (k * 2+1) z.u f1
 rw [hu] at c1
 refine ⟨ad,A',c',rfl,hu,c0,?_,hr⟩
 have e:ad.add (k * 2+1)=⟨(ad.add (k * 2)).block,(ad.add (k * 2)).off+1,none⟩:=by rw [← add_of_add,add_pos _ 1 (by decide)]
 rw [← e]
 exact c1
theorem same2_any (p q:Int) (A B:Option Addr) (n m c d:Nat) (x y:By) (I J:Nat→Prop) (w:World) (h1:Reads w I 1 A n (bytesV x)) (h2:Reads w J 1 B m (bytesV y)) (hn:x.length=n) (hm:y.length=m) :
  Calls Tryz.prog 84 #[.agg #[.int .i64 p,.slice A n c],.agg #[.int .i64 q,.slice B m d]] w fun e w'=>e=.returned (.bool ((p,x) == (q,y)))∧Below w.heap.size w w':=by
 have HB:=Lib.hid (fun wx (hb:Below w.heap.size w wx)=>beq_any A B n m c d x y (fun k=>I k∧k < w.heap.size) (fun k=>J k∧k < w.heap.size) wx (h1.lt.keep (Same.ofBelow hb fun k hk=>hk.2)) (h2.lt.keep (Same.ofBelow hb fun k hk=>hk.2)) hn hm)
 have hr:((p,x) == (q,y))=(p == q && x == y):=rfl
 rw [hr]
 obtain ⟨W,hW⟩:∃ Z,Z=(w.alloc (.cells #[.int .i64 p,.slice A n c] 83)).alloc (.cells #[.int .i64 q,.slice B m d] 83):=⟨_,rfl⟩
 have hbW:Below w.heap.size w W:=by rw [hW]; exact ((Below.refl _ _).alloc (Nat.le_refl _) _).alloc (by simp) _
 have k1:Blk W w.heap.size 83 #[.int .i64 p,.slice A n c]:=by rw [hW]; exact (Blk.new w _ _).alloc _
 have k2:Blk W (w.heap.size+1) 83 #[.int .i64 q,.slice B m d]:=by
  rw [hW]
  have:=Blk.new (w.alloc (.cells #[.int .i64 p,.slice A n c] 83)) 83 #[.int .i64 q,.slice B m d]
  simpa using this
 have q0:=(show W.cell? ⟨w.heap.size,0,none⟩=some (.int .i64 p) from k1.cell 0)
 have q1:=(show W.cell? ⟨w.heap.size,1,none⟩=some (.slice A n c) from k1.cell 1)
 have r0:=(show W.cell? ⟨w.heap.size+1,0,none⟩=some (.int .i64 q) from k2.cell 0)
 have r1:=(show W.cell? ⟨w.heap.size+1,1,none⟩=some (.slice B m d) from k2.cell 1)
 have HC:=Lib.hid (HB.out W hbW)
 have HW:=Lib.hid hW
 have HBW:=Lib.hid hbW
 obtain ⟨b,hb⟩:∃ b,b=(x == y):=⟨_,rfl⟩
 rw [← hb] at HC ⊢
 clear h1 h2 hn hm hr hW hbW k1 k2 HB hb
 cases hp:(p == q) with
 | true =>
   go_enter Tryz.func84,Tryz.ntmps84
   go_upto_region 1 with (fail)
   rw [← HW.out]
   go_wp2_with fail
   refine HC.out.mono ?_
   rintro e w' ⟨rfl,rfl⟩
   go_wp2_with fail
   go_ret
   exact ⟨rfl,HBW.out⟩
 | false =>
   go_enter Tryz.func84,Tryz.ntmps84
   go_upto_region 1 with (fail)
   rw [← HW.out]
   go_wp2_with fail
   go_ret
   exact ⟨rfl,HBW.out⟩
end Go.Proofs.YthlommalbkhcjaaGreat
namespace Go.Proofs.YthlommalbkhcjaaGreat
open Go.RowKit
attribute [-go_sem] Instr.storeAt Instr.loadAt in
set_option maxRecDepth 100000 in
set_option maxHeartbeats 4000000 in
theorem ffits_any (A:Option Addr) (n c:Nat) (x:By) (m:Int) (I:Nat→Prop) (w:World) (h:Reads w I 1 A n (bytesV x)) (hn:x.length=n) (hc:n≤c) (hsm:n≤1000000) :
  Calls Tryz.prog 132 #[.slice A n c,.int .i64 m] w fun e w'=>e=.returned (.tuple #[.bool (fitsF x m).1,.int .i64 ((fitsF x m).2:Int)])∧Below w.heap.size w w':=by
 have hpa:=parse_any A n c x I w h hn hc hsm
 have hpl:=prs_len x
 have hms:(prsF x).2.2=0→sizeH (prsF x).1=20+(prsF x).1.opts.length:=prs_size
 obtain ⟨F,hF⟩:∃ F,F=fitsF x m:=⟨_,rfl⟩
 rw [← hF]
 unfold fitsF at hF
 obtain ⟨R,hR⟩:∃ R,R=prsF x:=⟨_,rfl⟩
 rw [← hR] at hpa hpl hms hF
 clear hR
 obtain ⟨g,p,f⟩:=R
 simp only at hpl hms hF
 have HPA:=Lib.hid hpa
 have HF:=Lib.hid hF
 have HMS:=Lib.hid hms
 have hp1:p.length≤1000000:=by omega
 have hg1:g.opts.length≤1000000:=by omega
 clear hpa hms hF hpl h hn hc hsm
 have pre:∀ (b1 b2:Bool),decide (m < 68)=b1→decide ((65535:Int) < m)=b2→Calls Tryz.prog 132 #[.slice A n c,.int .i64 m] w fun e w'=>e=.returned (.tuple #[.bool F.1,.int .i64 (F.2:Int)])∧Below w.heap.size w w':=by
  intro b1 b2 d1 d2
  have D1:=Lib.hid d1
  have D2:=Lib.hid d2
  go_enter Tryz.func132,Tryz.ntmps132
  go_wp2_with fail
  refine HPA.out.mono ?_
  rintro e w1 ⟨vo,vp,rfl,ho,hp,hdj,hb1⟩
  obtain ⟨Ao,co,rfl,_⟩:=ho.form
  obtain ⟨Ap,cp,rfl,_⟩:=hp.form
  obtain ⟨w2,hst,hb2,hb12,hk2⟩:=hd_var hb1 hb1.size g Ao g.opts.length co
  have HB2:=Lib.hid hb2
  have hl2:=hd_load hk2 rfl
  have HSZ:=Lib.hid (size_any g (.slice Ao g.opts.length co) _ w2 (row_sl (ho.below hb12)) hg1)
  simp only
  clear ho hp hdj hb1 hb2 hb12 hk2
  cases b1 with
  | true =>
    have e1:=of_decide_eq_true d1
    go_wp2_with fail
    go_ret2
    refine ⟨?_,HB2.out⟩
    rw [HF.out,if_pos (.inl e1)]
    rfl
  | false =>
    cases b2 with
    | true =>
      have e1:=of_decide_eq_true d2
      go_wp2_with fail
      go_ret2
      refine ⟨?_,HB2.out⟩
      rw [HF.out,if_pos (.inr e1)]
      rfl
    | false =>
      have e1:=of_decide_eq_false d1
      have e2:=of_decide_eq_false d2
      by_cases hf:f=0
      ·subst hf
       have hs:=HMS.out rfl
       rw [hs] at HSZ
       have hF2:=HF.out
       rw [if_neg (by omega),if_neg (by simp)] at hF2
       have HF2:=Lib.hid hF2
       clear hs hF2
       go_wp2_with fail
       refine HSZ.out.mono ?_
       rintro e w3 ⟨rfl,hb3⟩
       have HB3:=Lib.hid (HB2.out.trans (hb3.mono HB2.out.size))
       clear hb3
       go_wp2_with fail
       go_ret2
       refine ⟨?_,HB3.out⟩
       rw [HF2.out]
       simp [Int.natCast_add]
      ·have hf1:((f:Int) != 0)=true:=by rw [bne_iff_ne]; omega
       have hf2:(f != 0)=true:=by rw [bne_iff_ne]; exact hf
       go_wp2_with fail
       go_ret2
       refine ⟨?_,HB2.out⟩
       rw [HF.out,if_neg (by omega),if_pos hf]
       rfl
 exact pre _ _ rfl rfl
end Go.Proofs.YthlommalbkhcjaaGreat
namespace Go.Proofs.YthlommalbkhcjaaGreat
open Go.RowKit Go.Sort Go.BigFrame
end Go.Proofs.YthlommalbkhcjaaGreat
