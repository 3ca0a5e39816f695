/- frag.Fits, law15 num, SameLists. -/
import Derived.Test.YthlommalbkhcjaaGreatNq22
import Derived.Test.YthlommalbkhcjaaGreatNq18
import Derived.Test.YthlommalbkhcjaaGreatNq29
import Derived.Test.YthlommalbkhcjaaGreatNq34
import Derived.Test.YthlommalbkhcjaaGreatNq23
import Derived.Deep.QuietTactic
import Derived.BigQuiet
namespace Go.Proofs.YthlommalbkhcjaaGreat
open Go.RowKit Go.Sort Go.BigFrame
theorem info_sl8:(Tryz.prog.info? 61).map (fun i=>(i.zero,i.size,i.bytes))=some (some (.slice none 0 0),1,24):=by kernel_rfl
def Rows8 (B:Nat) (w:World) (v:Value) (L:List By):Prop :=
 ∃ us,w.ownsRow B 61 1 v L.length us∧us.length=L.length∧∀ (k:Nat) (x:By),L[k]?=some x→∃ u,us[k]?=some u∧w.ownsRow B 5 1 u x.length (bytesV x)
section
variable {w w':World} {B:Nat} {v:Value} {L:List By}
theorem Rows8.nil (B:Nat) (w:World):Rows8 B w (.slice none 0 0) []:=⟨[],World.ownsRow_nil _ _ _ _,rfl,fun k x h=>by simp at h⟩
theorem Rows8.form (h:Rows8 B w v L):∃ A c,v=.slice A L.length c∧L.length≤c:=by
 obtain ⟨us,h1,_⟩:=h
 exact own_form h1
theorem Rows8.types (h:Rows8 B w v L) (hs:w.heap.size≤w'.heap.size) (h1:∀ k (cs:Array Value),k < w.heap.size→Blk w k 61 cs→w'.heap[k]?=w.heap[k]?) (h2:∀ k (cs:Array Value),k < w.heap.size→Blk w k 5 cs→w'.heap[k]?=w.heap[k]?):Rows8 B w' v L:=by
 obtain ⟨us,ho,hl,hu⟩:=h
 exact ⟨us,own_type ho hs h1,hl,fun k x hx=>by obtain ⟨u,e,r⟩:=hu k x hx; exact ⟨u,e,own_type r hs h2⟩⟩
theorem Rows8.below (h:Rows8 B w v L) (hb:Below w.heap.size w w'):Rows8 B w' v L:=h.types hb.size (fun k _ hk _=>hb.block k hk) fun k _ hk _=>hb.block k hk
theorem Rows8.own {row:Option Nat} (h:Rows8 B w v L) (hg:w.grownBy w' row) (hr:∀ r,row=some r→∃ o:Obj,w.heap[r]?=some o∧o.isCells=false):Rows8 B w' v L :=
 h.types hg.size (fun k cs hk hb=>hg.block k hk fun e=>by
  obtain ⟨o,ho,hc⟩:=hr k e.symm
  unfold Blk at hb
  rw [ho] at hb
  injection hb with hb
  rw [hb] at hc
  cases hc) fun k cs hk hb=>hg.block k hk fun e=>by
  obtain ⟨o,ho,hc⟩:=hr k e.symm
  unfold Blk at hb
  rw [ho] at hb
  injection hb with hb
  rw [hb] at hc
  cases hc
theorem Rows8.push {us:List Value} {v2 u:Value} {x:By} (h1:w'.ownsRow B 61 1 v2 (L.length+1) (us++[u])) (hv:w.ownsRow B 61 1 v L.length us) (hl:us.length=L.length) (hg:w.grownBy w' v.ownBlock)
  (hu:∀ (k:Nat) (x:By),L[k]?=some x→∃ u,us[k]?=some u∧w.ownsRow B 5 1 u x.length (bytesV x)) (hx:w.ownsRow B 5 1 u x.length (bytesV x)):Rows8 B w' v2 (L++[x]):=by
 have hk:∀ k (cs:Array Value),k < w.heap.size→Blk w k 5 cs→w'.heap[k]?=w.heap[k]?:=fun k cs hk hb=>hg.block k hk fun e=>own_blk_ne hv hb (by decide) e.symm
 refine ⟨us++[u],by rw [List.length_append,List.length_singleton]; exact h1,by simp [hl],fun k y hy=>?_⟩
 rcases Nat.lt_or_ge k L.length with hlt | hge
 ·rw [List.getElem?_append_left hlt] at hy
  obtain ⟨u',e,r⟩:=hu k y hy
  exact ⟨u',by rw [List.getElem?_append_left (by rw [hl]; exact hlt)]; exact e,own_type r hg.size hk⟩
 ·rw [List.getElem?_append_right hge] at hy
  obtain ⟨e0,rfl⟩:k - L.length=0∧y=x:=by
   cases hkl:k - L.length with
   | zero=>rw [hkl] at hy; simpa using hy.symm
   | succ j=>rw [hkl] at hy; simp at hy
  exact ⟨u,by rw [List.getElem?_append_right (by rw [hl]; exact hge),hl,e0]; rfl,own_type hx hg.size hk⟩
end
end Go.Proofs.YthlommalbkhcjaaGreat
namespace Go.Proofs.YthlommalbkhcjaaGreat
open Go.RowKit Go.Sort Go.BigFrame
structure Zs where
 p:Int
 x:By
 u:Value
def zsC (z:Zs):List Value:=[.int .i64 z.p,z.u]
def flatZ (Z:List Zs):List Value:=Z.flatMap zsC
def Snts (B:Nat) (w:World) (v:Value) (L:List (Int × By)):Prop :=
 ∃ Z:List Zs,(Z.map fun z=>(z.p,z.x))=L∧w.ownsRow B 83 2 v Z.length (flatZ Z)∧∀ z ∈ Z,Row8 B w z.u z.x
theorem Snts.nil (B:Nat) (w:World):Snts B w (.slice none 0 0) []:=⟨[],rfl,World.ownsRow_nil _ _ _ _,fun _ h=>by cases h⟩
theorem Snts.below {B:Nat} {w w':World} {v:Value} {L:List (Int × By)} (h:Snts B w v L) (hb:Below w.heap.size w w'):Snts B w' v L:=by
 obtain ⟨Z,h1,h2,h3⟩:=h
 exact ⟨Z,h1,own_below h2 hb,fun z hz=>(h3 z hz).below hb⟩
structure Re where
 fb:Nat
 own:Nat
 Am:Option Addr
 cm:Nat
 mtus:List Int
 bb:Nat
 kb:Nat
 kc:Array Value
structure Rs where
 cl:Bool
 pv:Value
 x:By
 hv:Value
 h:Hd
 kd:Int
 po:Int
 lv:Value
 ov:Value
 ft:Ft
 tok:Int
def rnL (E:Re) (S:Rs):List Value:=[.pointer (some ⟨E.fb,0,none⟩),.int .u32 (E.own:Int),.slice E.Am E.mtus.length E.cm,.pointer (some ⟨E.bb,0,none⟩),S.pv,
 .int .u8 (S.h.tos:Int),.int .u16 (S.h.id:Int),.bool S.h.evil,.bool S.h.df,.bool S.h.mf,.int .i64 S.h.off,.int .u8 (S.h.ttl:Int),.int .u8 (S.h.proto:Int),.int .u32 (S.h.src:Int),.int .u32 (S.h.dst:Int),S.hv,
 .int .i64 S.kd,.int .i64 S.po,.int .i64 (S.ft.drop:Int),.int .i64 (S.ft.err:Int),S.lv,S.ov]
def rnA (E:Re) (S:Rs):Array Value:=(rnL E S).toArray
theorem rnA_size (E:Re) (S:Rs):(rnA E S).size=22:=rfl
def PkR (w0 wx:World) (bb:Nat) (S:Rs):Prop:=match S.cl with
 | true=>Row8 w0.heap.size wx S.pv S.x
 | false=>Sl8 wx (fun k=>k < w0.heap.size∧k≠bb) S.pv S.x
theorem PkR.below {w0 wx wy:World} {bb:Nat} {S:Rs} (h:PkR w0 wx bb S) (hb:Below wx.heap.size wx wy):PkR w0 wy bb S:=by
 unfold PkR at h ⊢
 split at h
 ·exact h.below hb
 ·exact (h.lt.keep (Same.ofBelow hb fun k hk=>hk.2)).mono fun k hk=>hk.1
structure RnC (w0 wx:World) (rb:Nat) (E:Re) (S:Rs):Prop where
 upd:Upd (fun k=>k=E.bb) w0 wx
 blk:Blk wx rb 142 (rnA E S)
 rbn:w0.heap.size≤rb
 bbl:E.bb < w0.heap.size
 pk:PkR w0 wx E.bb S
 hv:Row8 w0.heap.size wx S.hv S.h.opts
 bk:IsBk wx E.bb 64 1 S.tok 0
 tk:0≤S.tok∧S.tok≤64
 kp:Blk wx E.kb 26 E.kc
structure RnW (w0 wx:World) (rb:Nat) (E:Re) (S:Rs):Prop extends RnC w0 wx rb E S where
 lc:Rows8 w0.heap.size wx S.lv S.ft.loc
 ou:Snts w0.heap.size wx S.ov S.ft.out
theorem blk_tne {w:World} {a b:Nat} {t u:TypeId} {x y:Array Value} (h:Blk w a t x) (k:Blk w b u y) (n:t≠u):a≠b:=fun e=>by
 unfold Blk at h k
 rw [e,k] at h
 injection h with h
 injection h with _ h
 exact n h.symm
section
variable {w0 wx wy:World} {rb:Nat} {E:Re} {S:Rs}
theorem RnC.below (h:RnC w0 wx rb E S) (hb:Below wx.heap.size wx wy):RnC w0 wy rb E S :=
 ⟨h.upd.trans_ (Upd.ofBelow hb _),h.blk.below hb h.blk.lt,h.rbn,h.bbl,h.pk.below hb,h.hv.below hb,Blk.below h.bk hb (Blk.lt h.bk),h.tk,h.kp.below hb h.kp.lt⟩
theorem RnW.below (h:RnW w0 wx rb E S) (hb:Below wx.heap.size wx wy):RnW w0 wy rb E S :=
 ⟨h.toRnC.below hb,h.lc.below hb,h.ou.below hb⟩
theorem RnC.ne (h:RnC w0 wx rb E S):rb≠E.bb:=by have:=h.rbn; have:=h.bbl; omega
theorem own_set {w:World} {rb:Nat} {C:Array Value} (hk:Blk w rb 142 C) {B:Nat} {e:TypeId} {size n:Nat} {v:Value} {xs:List Value} (hne:e≠142) (ho:w.ownsRow B e size v n xs) (i:Nat) (u:Value):(w.setCell ⟨rb,i,none⟩ u).ownsRow B e size v n xs :=
 ownsRow_setCell_other (a:=⟨rb,i,none⟩) ho (own_blk_ne ho hk hne) u
theorem Rows8.set {w:World} {rb:Nat} {C:Array Value} (hk:Blk w rb 142 C) {B:Nat} {v:Value} {L:List By} (h:Rows8 B w v L) (i:Nat) (u:Value):Rows8 B (w.setCell ⟨rb,i,none⟩ u) v L:=by
 obtain ⟨us,a,b,c⟩:=h
 exact ⟨us,own_set hk (by decide) a i u,b,fun k x hx=>by obtain ⟨v,e,r⟩:=c k x hx; exact ⟨v,e,own_set hk (by decide) r i u⟩⟩
theorem Snts.set {w:World} {rb:Nat} {C:Array Value} (hk:Blk w rb 142 C) {B:Nat} {v:Value} {L:List (Int × By)} (h:Snts B w v L) (i:Nat) (u:Value):Snts B (w.setCell ⟨rb,i,none⟩ u) v L:=by
 obtain ⟨Z,a,b,c⟩:=h
 exact ⟨Z,a,own_set hk (by decide) b i u,fun z hz=>own_set hk (by decide) (c z hz) i u⟩
theorem PkR.set {S S':Rs} (h:RnC w0 wx rb E S) (h1:PkR w0 wx E.bb S') (i:Nat) (u:Value):PkR w0 (wx.setCell ⟨rb,i,none⟩ u) E.bb S':=by
 have hup:=upd_set wx rb i u
 unfold PkR at h1 ⊢
 split at h1
 ·exact own_set h.blk (by decide) h1 i u
 ·exact h1.keep (hup.same (I:=fun k=>k < w0.heap.size∧k≠E.bb) fun k (e:k=rb) hI=>by have:=h.rbn; omega)
theorem RnC.put (h:RnC w0 wx rb E S) {i:Nat} {u:Value} {S':Rs} (hu:(rnA E S).setIfInBounds i u=rnA E S') (h1:PkR w0 wx E.bb S') (h2:Row8 w0.heap.size wx S'.hv S'.h.opts) (h5:S'.tok=S.tok) :
  RnC w0 (wx.setCell ⟨rb,i,none⟩ u) rb E S':=by
 have hup:=upd_set wx rb i u
 refine ⟨h.upd.trans hup fun k (e:k=rb)=>.inr (by rw [e]; exact h.rbn),by rw [← hu]; exact h.blk.set_ i u,h.rbn,h.bbl,PkR.set h h1 i u,own_set h.blk (by decide) h2 i u,?_,by rw [h5]; exact h.tk,Blk.far (p:=⟨rb,i,none⟩) h.kp (blk_tne h.kp h.blk (by decide)) u⟩
 rw [h5]
 exact Blk.far (p:=⟨rb,i,none⟩) h.bk h.ne.symm u
theorem RnW.put (h:RnW w0 wx rb E S) {i:Nat} {u:Value} {S':Rs} (hu:(rnA E S).setIfInBounds i u=rnA E S') (h1:PkR w0 wx E.bb S') (h2:Row8 w0.heap.size wx S'.hv S'.h.opts) (h3:Rows8 w0.heap.size wx S'.lv S'.ft.loc) (h4:Snts w0.heap.size wx S'.ov S'.ft.out) (h5:S'.tok=S.tok) :
  RnW w0 (wx.setCell ⟨rb,i,none⟩ u) rb E S' :=
 ⟨h.toRnC.put hu h1 h2 h5,h3.set h.blk i u,h4.set h.blk i u⟩
theorem RnC.grown (h:RnC w0 wx rb E S) {e:TypeId} {size n:Nat} {v:Value} {xs:List Value} (ho:wx.ownsRow w0.heap.size e size v n xs) (n1:e≠142) (n2:e≠5) (hg:wx.grownBy wy v.ownBlock) (n3:e≠26:=by decide):RnC w0 wy rb E S:=by
 have hlo:∀ k,v.ownBlock=some k→w0.heap.size≤k:=fun k hk=>(own_lt ho hk).1
 have hrow:∀ {B n:Nat} {u:Value} {ys:List Value},wx.ownsRow B 5 1 u n ys→wy.ownsRow B 5 1 u n ys:=fun hr=>own_type hr hg.size fun k cs hk hb=>hg.block k hk fun e=>own_blk_ne ho hb n2 e.symm
 refine ⟨h.upd.grown hg fun k hk=>.inr (hlo k hk),(hg.block rb h.blk.lt fun e=>own_blk_ne ho h.blk n1 e.symm).trans h.blk,h.rbn,h.bbl,?_,hrow h.hv,(hg.block E.bb (Blk.lt h.bk) fun e=>by have:=hlo _ e.symm; have:=h.bbl; omega).trans h.bk,h.tk,(hg.block E.kb h.kp.lt fun e=>own_blk_ne ho h.kp n3 e.symm).trans h.kp⟩
 have hpk:=h.pk
 unfold PkR at hpk ⊢
 split at hpk
 ·exact hrow hpk
 ·exact hpk.lt.keep ⟨hg.size,fun k hI hk=>hg.block k hk fun e=>by have:=hlo _ e.symm; omega⟩ |>.mono fun k hk=>hk.1
end
theorem st_dr {w:World} {g i:Nat} {u:Value} (hu:w.cell? ⟨g,i,none⟩=some u) (hf:w.frozen? ⟨g,i,none⟩=false) (z:Int):(Instr.storeAt 66 (.pointer (some ⟨g,i,none⟩)) (.int .i64 z)).run Tryz.prog w=.ok () (w.setCell ⟨g,i,none⟩ (.int .i64 z)):=by
 simp [go_sem,hu,hf]
set_option maxRecDepth 100000 in
attribute [-go_sem] Instr.storeAt Instr.loadAt in
theorem fdrop_any {w0 w:World} {rb:Nat} {E:Re} {S:Rs} (h:RnW w0 w rb E S) (d:Nat) :
  Calls Tryz.prog 124 #[.pointer (some ⟨rb,0,none⟩),.int .i64 (d:Int)] w fun e w'=>e=.returned (.bool true)∧RnW w0 w' rb E { S with ft:=dropF S.ft d }:=by
 have s1:=st_dr (h.blk.cell 18) (h.blk.frozen 18) (d:Int)
 have hp:=h.put (i:=18) (u:=.int .i64 (d:Int)) (S':={ S with ft:=dropF S.ft d }) rfl h.pk h.hv h.lc h.ou rfl
 obtain ⟨W,hW⟩:∃ Z,Z=w.setCell ⟨rb,18,none⟩ (.int .i64 (d:Int)):=⟨_,rfl⟩
 rw [← hW] at s1 hp
 have HP:=Lib.hid hp
 clear hW hp h
 go_enter Tryz.func124,Tryz.ntmps124
 go_wp2_with fail
 go_ret
 exact ⟨rfl,HP.out⟩
end Go.Proofs.YthlommalbkhcjaaGreat
namespace Go.Proofs.YthlommalbkhcjaaGreat
open Go.RowKit
attribute [-go_sem] Instr.storeAt Instr.loadAt in
set_option maxRecDepth 100000 in
set_option maxHeartbeats 4000000 in
theorem ffits_any (A:Option Addr) (n c:Nat) (x:By) (m:Int) (I:Nat→Prop) (w:World) (h:Reads w I 1 A n (bytesV x)) (hn:x.length=n) (hc:n≤c) (hsm:n≤1000000) :
  Calls Tryz.prog 132 #[.slice A n c,.int .i64 m] w fun e w'=>e=.returned (.tuple #[.bool (fitsF x m).1,.int .i64 ((fitsF x m).2:Int)])∧Below w.heap.size w w':=by
 have hpa:=parse_any A n c x I w h hn hc hsm
 have hpl:=prs_len x
 have hms:(prsF x).2.2=0→sizeH (prsF x).1=20+(prsF x).1.opts.length:=prs_size
 obtain ⟨F,hF⟩:∃ F,F=fitsF x m:=⟨_,rfl⟩
 rw [← hF]
 unfold fitsF at hF
 obtain ⟨R,hR⟩:∃ R,R=prsF x:=⟨_,rfl⟩
 rw [← hR] at hpa hpl hms hF
 clear hR
 obtain ⟨g,p,f⟩:=R
 simp only at hpl hms hF
 have HPA:=Lib.hid hpa
 have HF:=Lib.hid hF
 have HMS:=Lib.hid hms
 have hp1:p.length≤1000000:=by omega
 have hg1:g.opts.length≤1000000:=by omega
 clear hpa hms hF hpl h hn hc hsm
 have pre:∀ (b1 b2:Bool),decide (m < 68)=b1→decide ((65535:Int) < m)=b2→Calls Tryz.prog 132 #[.slice A n c,.int .i64 m] w fun e w'=>e=.returned (.tuple #[.bool F.1,.int .i64 (F.2:Int)])∧Below w.heap.size w w':=by
  intro b1 b2 d1 d2
  have D1:=Lib.hid d1
  have D2:=Lib.hid d2
  go_enter Tryz.func132,Tryz.ntmps132
  go_wp2_with fail
  refine HPA.out.mono ?_
  rintro e w1 ⟨vo,vp,rfl,ho,hp,hdj,hb1⟩
  obtain ⟨Ao,co,rfl,_⟩:=ho.form
  obtain ⟨Ap,cp,rfl,_⟩:=hp.form
  obtain ⟨w2,hst,hb2,hb12,hk2⟩:=hd_var hb1 hb1.size g Ao g.opts.length co
  have HB2:=Lib.hid hb2
  have hl2:=hd_load hk2 rfl
  have HSZ:=Lib.hid (size_any g (.slice Ao g.opts.length co) _ w2 (row_sl (ho.below hb12)) hg1)
  simp only
  clear ho hp hdj hb1 hb2 hb12 hk2
  cases b1 with
  | true =>
    have e1:=of_decide_eq_true d1
    go_wp2_with fail
    go_ret2
    refine ⟨?_,HB2.out⟩
    rw [HF.out,if_pos (.inl e1)]
    rfl
  | false =>
    cases b2 with
    | true =>
      have e1:=of_decide_eq_true d2
      go_wp2_with fail
      go_ret2
      refine ⟨?_,HB2.out⟩
      rw [HF.out,if_pos (.inr e1)]
      rfl
    | false =>
      have e1:=of_decide_eq_false d1
      have e2:=of_decide_eq_false d2
      by_cases hf:f=0
      ·subst hf
       have hs:=HMS.out rfl
       rw [hs] at HSZ
       have hF2:=HF.out
       rw [if_neg (by omega),if_neg (by simp)] at hF2
       have HF2:=Lib.hid hF2
       clear hs hF2
       go_wp2_with fail
       refine HSZ.out.mono ?_
       rintro e w3 ⟨rfl,hb3⟩
       have HB3:=Lib.hid (HB2.out.trans (hb3.mono HB2.out.size))
       clear hb3
       go_wp2_with fail
       go_ret2
       refine ⟨?_,HB3.out⟩
       rw [HF2.out]
       simp [Int.natCast_add]
      ·have hf1:((f:Int) != 0)=true:=by rw [bne_iff_ne]; omega
       have hf2:(f != 0)=true:=by rw [bne_iff_ne]; exact hf
       go_wp2_with fail
       go_ret2
       refine ⟨?_,HB2.out⟩
       rw [HF.out,if_neg (by omega),if_pos hf]
       rfl
 exact pre _ _ rfl rfl
end Go.Proofs.YthlommalbkhcjaaGreat
namespace Go.Proofs.YthlommalbkhcjaaGreat
open Go.RowKit Go.Sort Go.BigFrame
end Go.Proofs.YthlommalbkhcjaaGreat
