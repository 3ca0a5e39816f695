/- Icmp: Echo of both. -/
import Derived.Test.YthlommalbkhcjaaGreatNm41
import Derived.Test.YthlommalbkhcjaaGreatNm12
namespace Go.Proofs.YthlommalbkhcjaaGreat
open Go.RowKit Go.Sort Go.BigFrame
def setMany:List Value→Nat→Array Value→Array Value
 | [],_,cs=>cs
 | v :: r,o,cs=>setMany r (o+1) (cs.setIfInBounds o v)
def setManyL:List Value→Nat→List Value→List Value
 | [],_,cs=>cs
 | v :: r,o,cs=>setManyL r (o+1) (cs.set o v)
theorem setMany_list:∀ (l:List Value) (o:Nat) (cs:List Value),setMany l o cs.toArray=(setManyL l o cs).toArray
 | [],_,_=>rfl
 | v :: r,o,cs=>by
   unfold setMany setManyL
   rw [List.setIfInBounds_toArray]
   exact setMany_list r (o+1) _
theorem hdr_many (E:Re) (S:Rs) (g:Hd) (v:Value):setMany (hdC g v).toList 5 (rnA E S)=rnA E { S with hv:=v,h:=g }:=by
 unfold rnA
 rw [setMany_list]
 rfl
theorem blk_many {g:Nat} {t:TypeId}:∀ (l:List Value) (o:Nat) (cs:Array Value) (w:World),Blk w g t cs→Blk (w.setCells g o l) g t (setMany l o cs)
 | [],_,_,_,h=>h
 | v :: r,o,_,_,h=>blk_many r (o+1) _ _ (h.set_ o v)
theorem own_many {rb:Nat} {B:Nat} {e:TypeId} {size n:Nat} {v:Value} {xs:List Value} (hne:e≠142):∀ (l:List Value) (o:Nat) (C:Array Value) (w:World),Blk w rb 142 C→w.ownsRow B e size v n xs→(w.setCells rb o l).ownsRow B e size v n xs
 | [],_,_,_,_,h=>h
 | u :: r,o,_,_,hk,h=>own_many hne r (o+1) _ _ (hk.set_ o u) (own_set hk hne h o u)
theorem st_bys {w:World} {g i:Nat} {u:Value} (hu:w.cell? ⟨g,i,none⟩=some u) (hf:w.frozen? ⟨g,i,none⟩=false) (A:Option Addr) (n c:Nat):(Instr.storeAt 61 (.pointer (some ⟨g,i,none⟩)) (.slice A n c)).run Tryz.prog w=.ok () (w.setCell ⟨g,i,none⟩ (.slice A n c)):=by
 simp [go_sem,hu,hf]
theorem st_hdr {w:World} {rb:Nat} {C:Array Value} (hk:Blk w rb 142 C) (hs:C.size=22) (h:Hd) (A:Option Addr) (n c:Nat):(Instr.storeAt 76 (.pointer (some ⟨rb,5,none⟩)) (hdV h (.slice A n c))).run Tryz.prog w=.ok () (w.setCells rb 5 (hdC h (.slice A n c)).toList):=by
 refine run_storeAt_mid w rb 5 _ (hdC h (.slice A n c)) (fun j hj=>?_) hd_info (by simp [hdC,Value.oneCell'])
 have hj11:j < 11:=hj
 have:=blk_there hk (5+j) (by omega)
 rwa [Nat.zero_add] at this
section
variable {w0 w wx wy:World} {rb:Nat} {E:Re} {S:Rs} {pk:Nat→Nat→Int × Int}
theorem RnW.many (h:RnW w0 wx rb E S) {l:List Value} {o:Nat} {S':Rs} (hu:setMany l o (rnA E S)=rnA E S') (h1:PkR w0 wx E.bb S') (h2:Row8 w0.heap.size wx S'.hv S'.h.opts) (h3:Rows8 w0.heap.size wx S'.lv S'.ft.loc) (h4:Snts w0.heap.size wx S'.ov S'.ft.out) (h5:S'.tok=S.tok) :
  RnW w0 (wx.setCells rb o l) rb E S':=by
 have hup:Upd (fun k=>k=rb) wx (wx.setCells rb o l):=Upd.setCells l o wx (Upd.refl _ _) (.inl rfl)
 have hrow:∀ {B:Nat} {e:TypeId} {size n:Nat} {v:Value} {xs:List Value},e≠142→wx.ownsRow B e size v n xs→(wx.setCells rb o l).ownsRow B e size v n xs:=fun hne hr=>own_many hne l o _ _ h.blk hr
 refine ⟨⟨h.upd.trans hup fun k (e:k=rb)=>.inr (by rw [e]; exact h.rbn),by rw [← hu]; exact blk_many l o _ _ h.blk,h.rbn,h.bbl,?_,hrow (by decide) h2,?_,by rw [h5]; exact h.tk,blk_far_setCells (blk_tne h.kp h.blk (by decide)) l o wx h.kp⟩,?_,?_⟩
 ·unfold PkR at h1 ⊢
  split at h1
  ·exact hrow (by decide) h1
  ·exact h1.keep (hup.same (I:=fun k=>k < w0.heap.size∧k≠E.bb) fun k (e:k=rb) hI=>by have:=h.rbn; omega)
 ·rw [h5]
  exact blk_far_setCells h.ne.symm l o wx h.bk
 ·obtain ⟨us,a,b,c⟩:=h3
  exact ⟨us,hrow (by decide) a,b,fun k x hx=>by obtain ⟨v,e,r⟩:=c k x hx; exact ⟨v,e,hrow (by decide) r⟩⟩
 ·obtain ⟨Z,a,b,c⟩:=h4
  exact ⟨Z,a,hrow (by decide) b,fun z hz=>hrow (by decide) (c z hz)⟩
def WhC (w0:World) (rb:Nat) (E:Re) (S:Rs) (gh:Nat) (g:Hd) (v:Value) (a:World):Prop:=(∃ hv h,RnW w0 a rb E { S with hv:=hv,h:=h })∧Blk a gh 76 (hdC g v)∧Row8 w0.heap.size a v g.opts
theorem WhC.below {gh:Nat} {g:Hd} {v:Value} (h:WhC w0 rb E S gh g v wx) (k:Below wx.heap.size wx wy):WhC w0 rb E S gh g v wy:=by
 obtain ⟨⟨hv,hh,h1⟩,h2,h3⟩:=h
 exact ⟨⟨hv,hh,h1.below k⟩,h2.below k h2.lt,h3.below k⟩
theorem WhC.of {gh:Nat} {g:Hd} {v:Value} (h:RnW w0 wx rb E S) (h2:Blk wx gh 76 (hdC g v)) (h3:Row8 w0.heap.size wx v g.opts):WhC w0 rb E S gh g v wx:=⟨⟨S.hv,S.h,h⟩,h2,h3⟩
def WhPost (w0:World) (rb:Nat) (E:Re) (S:Rs) (e:Ending) (w':World):Prop :=
 if (prsF S.x).2.2=0 then e=.returned (.bool false)∧∃ pv hv,RnW w0 w' rb E { S with cl:=true,pv:=pv,x:=S.x.take (20+(prsF S.x).1.opts.length+(prsF S.x).2.1.length),hv:=hv,h:=(prsF S.x).1 }
 else e=.returned (.bool true)∧RnW w0 w' rb E { S with ft:=dropF S.ft (prsF S.x).2.2 }
set_option maxRecDepth 100000 in
set_option maxHeartbeats 8000000 in
attribute [-go_sem] Instr.storeAt Instr.loadAt in
theorem fwhole_any (h:RnW w0 w rb E S) (hsm:S.x.length≤100000) :
  Calls Tryz.prog 68 #[.pointer (some ⟨rb,0,none⟩)] w (WhPost w0 rb E S):=by
 obtain ⟨A,n,c,hpv,hn,hc,hrd⟩:=h.pkt
 have HP:=Lib.hid (parse_any A n c S.x _ w (hrd w (Below.refl _ _)) hn hc (by omega))
 have hwh:=prs_whole (x:=S.x)
 have hsz:=prs_size (x:=S.x)
 have hpl:=prs_len S.x
 have l4:=ld_bys (w:=w) (a:=⟨rb,4,none⟩) (A:=A) (n:=n) (c:=c) (by rw [← hpv]; exact h.blk.cell 4)
 have HW0:Hid (∀ (w':World) (pv hv:Value),(prsF S.x).2.2=0→RnW w0 w' rb E { S with cl:=true,pv:=pv,x:=S.x.take (20+(prsF S.x).1.opts.length+(prsF S.x).2.1.length),hv:=hv,h:=(prsF S.x).1 }→WhPost w0 rb E S (.returned (.bool false)) w'):=Lib.hid fun w' pv hv hf hr=>by
  unfold WhPost
  rw [if_pos hf]
  exact ⟨rfl,pv,hv,hr⟩
 have HW1:Hid (∀ (w':World),(prsF S.x).2.2≠0→RnW w0 w' rb E { S with ft:=dropF S.ft (prsF S.x).2.2 }→WhPost w0 rb E S (.returned (.bool true)) w'):=Lib.hid fun w' hf hr=>by
  unfold WhPost
  rw [if_neg hf]
  exact ⟨rfl,hr⟩
 obtain ⟨x,hx⟩:∃ x,x=S.x:=⟨_,rfl⟩
 obtain ⟨R,hR⟩:∃ R,R=prsF S.x:=⟨_,rfl⟩
 rw [← hR] at HP hwh hsz hpl HW0 HW1
 rw [← hx] at hwh hn hsm hrd hpl HW0
 obtain ⟨g,y,f⟩:=R
 simp only at hwh hsz hpl HW0 HW1
 have HH:=Lib.hid h
 have HPV:=Lib.hid hpv
 have HRD:=Lib.hid hrd
 have HN:=Lib.hid hn
 have hgo:g.opts.length≤1000000:=by omega
 obtain ⟨q,hq⟩:∃ q,q=y.length:=⟨_,rfl⟩
 have HQ:=Lib.hid hq
 rw [← hq] at hwh HW0
 clear h hpv hrd hR hn hq hpl hx
 by_cases hf:f=0
 ·subst hf
  have hwh2:=hwh rfl
  have hsz2:=hsz rfl
  clear hwh hsz
  obtain ⟨s,hs⟩:∃ s,s=20+g.opts.length:=⟨_,rfl⟩
  rw [← hs] at hwh2 hsz2 HW0
  have HSZ:=Lib.hid hsz2
  clear hs hsz2 HW1
  go_enter Tryz.func68,Tryz.ntmps68
  go_wp2_with fail
  refine HP.out.mono ?_
  rintro e w1 ⟨vo,vp,rfl,ho,hp,hdj,hb1⟩
  obtain ⟨Ao,co,rfl,_⟩:=ho.form
  obtain ⟨Ap,cp,rfl,_⟩:=hp.form
  obtain ⟨w2,hst,hb2,hb12,hk2⟩:=hd_var hb1 hb1.size g Ao g.opts.length co
  have HB2:=Lib.hid hb2
  have HO2:=Lib.hid (own_base (Row8.below ho hb12) (HH.out.upd.size))
  obtain ⟨gh,hgh⟩:∃ k,k=w1.heap.size:=⟨_,rfl⟩
  rw [← hgh] at hk2
  have HG:=Lib.hid hgh
  have HK2:=Lib.hid hk2
  simp only
  rw [show (List.length y)=q from HQ.out.symm]
  clear ho hp hdj hb1 hb2 hb12 hk2 HP hgh
  go_upto_region 4 with (fail)
  rw [← HG.out]
  clear hst l4
  have HCC:=Lib.hid (show RnW w0 w2 rb E S∧Blk w2 gh 76 (hdC g (.slice Ao g.opts.length co))∧Row8 w0.heap.size w2 (.slice Ao g.opts.length co) g.opts from ⟨HH.out.below HB2.out,HK2.out,HO2.out⟩)
  have hcl:∀ a b:World,(RnW w0 a rb E S∧Blk a gh 76 (hdC g (.slice Ao g.opts.length co))∧Row8 w0.heap.size a (.slice Ao g.opts.length co) g.opts)→Below a.heap.size a b→(RnW w0 b rb E S∧Blk b gh 76 (hdC g (.slice Ao g.opts.length co))∧Row8 w0.heap.size b (.slice Ao g.opts.length co) g.opts):=fun a b h k=>⟨h.1.below k,h.2.1.below k h.2.1.lt,h.2.2.below k⟩
  have HCL:=Lib.hid hcl
  clear hcl
  have hcc:s+q≤c:=by have:=HN.out; omega
  refine wp_region_mix [(true,13),(false,7)] 4 (by kernel_rfl) (WhC w0 rb E S gh g (.slice Ao g.opts.length co)) (fun _ _ h k=>h.below k) (by kernel_rfl) (WhC.of HCC.out.1 HCC.out.2.1 HCC.out.2.2) (a':=?_) (fun wz hz=>?_) fun wz hz=>?_
  rotate_left
  ·obtain ⟨⟨hv',h',hz0⟩,hz1,hz2⟩:=hz
   have l76:=fun (d:Nat) (os:Array Obj)=>(hd_load (hz1.below (below_regrown wz d os) hz1.lt) rfl:(Instr.loadAt 76 (.pointer (some ⟨gh,0,none⟩))).run Tryz.prog (grow (redrawn wz d) os)=.ok (hdV g (.slice Ao g.opts.length co)) (grow (redrawn wz d) os))
   have l4:=fun (d:Nat) (os:Array Obj)=>ld_bys (cell_regrown (show wz.cell? ⟨rb,4,none⟩=some (.slice A n c) by rw [← HPV.out]; exact hz0.blk.cell 4) d os)
   have q28:=fun (d:Nat) (os:Array Obj)=>Calls.regrown_of (size_any g (.slice Ao g.opts.length co) _ (grow (redrawn wz d) os) ((hz2.below (below_regrown wz d os)).sl) hgo)
   rw [HSZ.out] at q28
   simp only [hdV] at q28 l76
   have hcut:=fun wx=>sl_hi A n c wx (s+q) hcc
   clear hz0 hz1 hz2
   simp only [pick_nil,pick_tt,pick_ft,List.take_succ_cons,List.take_zero,List.drop_succ_cons,List.drop_zero,List.append_nil]
   repeat (go_big_quiet_step (with_reducible exact q28 _ _))
   refine wpQuiet_nil ?_
   rfl
  simp only [pick_nil,pick_ff,pick_tf,List.take_succ_cons,List.take_zero,List.drop_succ_cons,List.drop_zero,List.append_nil]
  have HZ:=Lib.hid (HCL.out _ _ HCC.out hz)
  have HBZ:=Lib.hid (HB2.out.trans (hz.mono HB2.out.size))
  clear hz
  refine wpMix_step (WhC.of HZ.out.1 HZ.out.2.1 HZ.out.2.2) fun wa ha=>?_
  have HA:=Lib.hid (HCL.out _ _ HZ.out ha)
  have HBA:=Lib.hid (HBZ.out.trans (ha.mono HBZ.out.size))
  obtain ⟨e1,e2,hrt⟩:=(cut_hi (cap:=c) (k:=s+q) (by rw [HN.out]; exact HRD.out wa HBA.out) hwh2 hcc).len
  rw [← e1] at hrt
  have HCN:=Lib.hid (clone8_any A (s+q) c (bytesV (x.take (s+q))) _ wa hrt (bytesV_one _) (by omega))
  have HE1:=Lib.hid e1
  clear e1 e2 hrt ha
  go_wp2_with fail
  refine HCN.out.mono ?_
  rintro e wb ⟨v4,rfl,h4,hb4⟩
  obtain ⟨A4,c4,rfl,_⟩:=own_form h4
  have HB:=Lib.hid (HCL.out _ _ HA.out hb4)
  have H4:=Lib.hid (own_base h4 HA.out.1.upd.size)
  clear h4 hb4 HCN
  go_wp2_with fail
  refine wpMix_step (WhC.of HB.out.1 HB.out.2.1 HB.out.2.2) fun wc hc=>?_
  have HC:=Lib.hid (HCL.out _ _ HB.out hc)
  have H5:=Lib.hid (own_below H4.out hc)
  clear hc
  go_wp2_with fail
  refine wpMix_step (WhC.of HC.out.1 HC.out.2.1 HC.out.2.2) fun wd hd=>?_
  have HD:=Lib.hid (HCL.out _ _ HC.out hd)
  have H6:=Lib.hid (own_below H5.out hd)
  clear hd
  go_wp2_with fail
  refine wpMix_step (WhC.of HD.out.1 HD.out.2.1 HD.out.2.2) fun we he=>?_
  have HE:=Lib.hid (HCL.out _ _ HD.out he)
  have H7:=Lib.hid (own_below H6.out he)
  clear he
  have s5:=st_hdr HE.out.1.blk (rnA_size E S) g Ao g.opts.length co
  have h6:=HE.out.1.many (l:=(hdC g (.slice Ao g.opts.length co)).toList) (o:=5) (S':={ S with hv:=.slice Ao g.opts.length co,h:=g }) (hdr_many E S g _) HE.out.1.pk HE.out.2.2 HE.out.1.lc HE.out.1.ou rfl
  have h5:=own_many (by decide) (hdC g (.slice Ao g.opts.length co)).toList 5 _ _ HE.out.1.blk H7.out
  have h8:=blk_far_setCells (k:=gh) (fun e=>by have:=HE.out.2.1; have k2:=HE.out.1.blk; unfold Blk at this k2; rw [e,k2] at this; injection this with this; injection this with _ this; revert this; decide) (hdC g (.slice Ao g.opts.length co)).toList 5 _ HE.out.2.1
  obtain ⟨w6,hw6⟩:∃ w6,w6=we.setCells rb 5 (hdC g (.slice Ao g.opts.length co)).toList:=⟨_,rfl⟩
  rw [← hw6] at s5 h6 h5 h8
  unfold hdV at s5
  have H8:=Lib.hid h6
  have H9:=Lib.hid h5
  have H10:=Lib.hid h8
  clear h5 h6 h8 hw6
  go_wp2_with fail
  refine wpMix_step (show WhC w0 rb E S gh g (.slice Ao g.opts.length co) w6 from ⟨⟨_,_,H8.out⟩,H10.out,H8.out.hv⟩) fun wf hf=>?_
  have h6:=H8.out.below hf
  have h5:=own_below H9.out hf
  have s4:=st_bys (h6.blk.cell 4) (h6.blk.frozen 4) A4 (s+q) c4
  have h7:=h6.put (i:=4) (u:=.slice A4 (s+q) c4) (S':={ S with cl:=true,pv:=.slice A4 (s+q) c4,x:=x.take (s+q),hv:=.slice Ao g.opts.length co,h:=g }) rfl (show Row8 _ _ _ _ by unfold Row8; rw [← HE1.out]; exact h5) h6.hv h6.lc h6.ou rfl
  have HF:=Lib.hid (HW0.out _ _ _ (by trivial) h7)
  clear h5 h6 h7 hf s5
  go_wp2_with fail
  refine wpMix_plain ?_
  go_wp2_with fail
  go_ret
  exact HF.out
 ·have hfb:((f:Int) != 0)=true:=by rw [bne_iff_ne]; omega
  have hfb2:(f != 0)=true:=by rw [bne_iff_ne]; exact hf
  have HD:=Lib.hid (fun wx (hb:Below w.heap.size w wx)=>fdrop_any (HH.out.below hb) f)
  clear hwh hsz HW0
  go_enter Tryz.func68,Tryz.ntmps68
  go_wp2_with fail
  refine HP.out.mono ?_
  rintro e w1 ⟨vo,vp,rfl,ho,hp,hdj,hb1⟩
  obtain ⟨Ao,co,rfl,_⟩:=ho.form
  obtain ⟨w2,hst,hb2,hb12,hk2⟩:=hd_var hb1 hb1.size g Ao g.opts.length co
  have HD2:=Lib.hid (HD.out w2 hb2)
  simp only
  clear ho hp hdj hb1 hb2 hb12 hk2 HP
  go_wp2_with fail
  refine HD2.out.mono ?_
  rintro e w3 ⟨rfl,hw3⟩
  have HW:=Lib.hid hw3
  clear hw3
  go_wp2_with fail
  go_ret
  exact HW1.out w3 hf HW.out
end
end Go.Proofs.YthlommalbkhcjaaGreat
namespace Go.Proofs.YthlommalbkhcjaaGreat
open Go.RowKit Go.Sort Go.BigFrame
theorem odd_any (a:Nat) (w:World):Calls Tryz.prog 125 #[.int .u32 (a:Int)] w fun e w'=>e=.returned (.bool (oddF a))∧w=w':=by
 have HM:=Lib.hid (multi_any a w)
 have hm:oddF a=(decide (a=0) || multiF a):=rfl
 obtain ⟨b,hb⟩:∃ b,b=multiF a:=⟨_,rfl⟩
 rw [← hb] at HM hm
 clear hb
 by_cases h0:a=0
 ·have hz:((a:Int) == 0)=true:=by rw [beq_iff_eq]; omega
  have hr:oddF a=true:=by rw [hm,decide_eq_true h0]; rfl
  rw [hr]
  clear hm hr h0
  go_enter Tryz.func125,Tryz.ntmps125
  go_wp2_with fail
  go_ret
  exact ⟨rfl,rfl⟩
 ·have hz:((a:Int) == 0)=false:=by rw [beq_eq_false_iff_ne]; omega
  have hr:oddF a=b:=by rw [hm,decide_eq_false h0]; rfl
  rw [hr]
  clear hm hr h0
  go_enter Tryz.func125,Tryz.ntmps125
  go_wp2_with fail
  refine HM.out.mono ?_
  rintro e w' ⟨rfl,rfl⟩
  go_wp2_with fail
  go_ret
  exact ⟨rfl,rfl⟩
theorem st_wkd {w:World} {g i:Nat} {u:Value} (hu:w.cell? ⟨g,i,none⟩=some u) (hf:w.frozen? ⟨g,i,none⟩=false) (z:Int):(Instr.storeAt 38 (.pointer (some ⟨g,i,none⟩)) (.int .i64 z)).run Tryz.prog w=.ok () (w.setCell ⟨g,i,none⟩ (.int .i64 z)):=by
 simp [go_sem,hu,hf]
theorem ld_wkd {w:World} {a:Addr} {z:Int} (hu:w.cell? a=some (.int .i64 z)):(Instr.loadAt 38 (.pointer (some a))).run Tryz.prog w=.ok (.int .i64 z) w:=by
 simp [go_sem,hu]
section
variable {w0 w wx wy:World} {rb:Nat} {E:Re} {S:Rs} {pk:Nat→Nat→Int × Int}
theorem RnW.pkA (h:RnW w0 w rb E S) {A:Option Addr} {n c:Nat} (hpv:S.pv=.slice A n c):Reads w (fun k=>k < w.heap.size) 1 A n (bytesV S.x):=by
 obtain ⟨A',n',c',e,_,_,hr⟩:=h.pkt
 rw [hpv] at e
 injection e with e1 e2 e3
 subst e1 e2 e3
 exact hr w (Below.refl _ _)
def FnPost (w0:World) (rb:Nat) (E:Re) (S:Rs) (pk:Nat→Nat→Int × Int) (e:Ending) (w':World):Prop :=
 if oddF S.h.src=true then e=.returned (.bool true)∧RnW w0 w' rb E { S with ft:=dropF S.ft 7 }
 else if oddF S.h.dst=true then e=.returned (.bool true)∧RnW w0 w' rb E { S with ft:=dropF S.ft 8 }
 else if routedF S.h.opts=true then e=.returned (.bool true)∧RnW w0 w' rb E { S with ft:=dropF S.ft 9 }
 else e=.returned (.bool false)∧RnW w0 w' rb E { S with kd:=(fwWay pk E.mtus.length S.x S.h.dst).1,po:=(fwWay pk E.mtus.length S.x S.h.dst).2 }
set_option maxRecDepth 100000 in
set_option maxHeartbeats 8000000 in
attribute [-go_sem] Instr.storeAt Instr.loadAt in
theorem ffine_any (H:TbE w0 E pk) (h:RnW w0 w rb E S) (hsm:S.x.length≤100000) (hdt:S.h.dst < 2 ^ 32) (hol:S.h.opts.length≤1000000) :
  Calls Tryz.prog 69 #[.pointer (some ⟨rb,0,none⟩)] w (FnPost w0 rb E S pk):=by
 obtain ⟨A,n,c,hpv,hn,hc,_⟩:=h.pkt
 obtain ⟨Ah,ch,hhv,_⟩:=h.hv.form
 have l13:=ld_adr (w:=w) (a:=⟨rb,13,none⟩) (z:=(S.h.src:Int)) (h.blk.cell 13)
 have l14:=ld_adr (w:=w) (a:=⟨rb,14,none⟩) (z:=(S.h.dst:Int)) (h.blk.cell 14)
 have l15:=ld_bys (w:=w) (a:=⟨rb,15,none⟩) (A:=Ah) (n:=S.h.opts.length) (c:=ch) (by rw [← hhv]; exact h.blk.cell 15)
 have HO1:=Lib.hid (odd_any S.h.src w)
 have HO2:=Lib.hid (odd_any S.h.dst w)
 have HR:=Lib.hid (routed_any (.slice Ah S.h.opts.length ch) S.h.opts _ w (by rw [← hhv]; exact row_sl h.hv) hol)
 have HW:=Lib.hid (fun wz kd (hz:RnW w0 wz rb E { S with kd:=kd })=>fway_any H hz A n c S.x (fun k=>k < wz.heap.size) (hz.pkA hpv) hn hc (by omega) S.h.dst hdt)
 obtain ⟨Wy,hWy⟩:∃ z,z=fwWay pk E.mtus.length S.x S.h.dst:=⟨_,rfl⟩
 have HD:=Lib.hid (fun d=>fdrop_any h d)
 have HP:Hid (∀ e w',(if oddF S.h.src=true then e=.returned (.bool true)∧RnW w0 w' rb E { S with ft:=dropF S.ft 7 }
  else if oddF S.h.dst=true then e=.returned (.bool true)∧RnW w0 w' rb E { S with ft:=dropF S.ft 8 }
  else if routedF S.h.opts=true then e=.returned (.bool true)∧RnW w0 w' rb E { S with ft:=dropF S.ft 9 }
  else e=.returned (.bool false)∧RnW w0 w' rb E { S with kd:=(fwWay pk E.mtus.length S.x S.h.dst).1,po:=(fwWay pk E.mtus.length S.x S.h.dst).2 })→FnPost w0 rb E S pk e w'):=Lib.hid fun _ _ h=>h
 rw [← hWy] at HW HP
 obtain ⟨kd,po⟩:=Wy
 simp only at HW HP
 obtain ⟨o1,ho1⟩:∃ b,b=oddF S.h.src:=⟨_,rfl⟩
 obtain ⟨o2,ho2⟩:∃ b,b=oddF S.h.dst:=⟨_,rfl⟩
 obtain ⟨o3,ho3⟩:∃ b,b=routedF S.h.opts:=⟨_,rfl⟩
 rw [← ho1] at HO1 HP
 rw [← ho2] at HO2 HP
 rw [← ho3] at HR HP
 have HH:=Lib.hid h
 have HPV:=Lib.hid hpv
 clear h hpv hn hc hhv hWy ho1 ho2 ho3 H
 cases o1 with
 | true =>
   have hd:=HD.out 7
   go_enter Tryz.func69,Tryz.ntmps69
   go_wp2_with fail
   refine HO1.out.mono ?_
   rintro e w' ⟨rfl,rfl⟩
   go_wp2_with fail
   refine hd.mono ?_
   rintro e w3 ⟨rfl,hw⟩
   have HF:=Lib.hid hw
   clear hw hd
   go_wp2_with fail
   go_ret
   exact HP.out _ _ (by rw [if_pos (by trivial)]; exact ⟨rfl,HF.out⟩)
 | false =>
 cases o2 with
 | true =>
   have hd:=HD.out 8
   go_enter Tryz.func69,Tryz.ntmps69
   go_wp2_with fail
   refine HO1.out.mono ?_
   rintro e w' ⟨rfl,rfl⟩
   go_wp2_with fail
   refine HO2.out.mono ?_
   rintro e w' ⟨rfl,rfl⟩
   go_wp2_with fail
   refine hd.mono ?_
   rintro e w3 ⟨rfl,hw⟩
   have HF:=Lib.hid hw
   clear hw hd
   go_wp2_with fail
   go_ret
   exact HP.out _ _ (by rw [if_neg (by decide),if_pos (by trivial)]; exact ⟨rfl,HF.out⟩)
 | false =>
 have HDB:=Lib.hid (fun wx (hb:Below w.heap.size w wx)=>fdrop_any (HH.out.below hb) 9)
 go_enter Tryz.func69,Tryz.ntmps69
 go_wp2_with fail
 refine HO1.out.mono ?_
 rintro e w' ⟨rfl,rfl⟩
 go_wp2_with fail
 refine HO2.out.mono ?_
 rintro e w' ⟨rfl,rfl⟩
 go_wp2_with fail
 refine HR.out.mono ?_
 rintro e w1 ⟨rfl,hb1⟩
 have HB1:=Lib.hid hb1
 clear hb1
 cases o3 with
 | true =>
   have hd:=HDB.out w1 HB1.out
   go_wp2_with fail
   refine hd.mono ?_
   rintro e w3 ⟨rfl,hw⟩
   have HF:=Lib.hid hw
   clear hw hd
   go_wp2_with fail
   go_ret
   exact HP.out _ _ (by rw [if_neg (by decide),if_neg (by decide),if_pos (by trivial)]; exact ⟨rfl,HF.out⟩)
 | false =>
   have H1:=Lib.hid (HH.out.below HB1.out)
   clear l13 l14 l15 HD HDB HO1 HO2 HR
   go_upto_region 7 with (fail)
   refine wp_region_mix [(true,16),(false,6)] 3 (by kernel_rfl) (fun a=>∃ kd,RnW w0 a rb E { S with kd:=kd }) (fun _ _ h k=>by obtain ⟨kd,h⟩:=h; exact ⟨kd,h.below k⟩) (by kernel_rfl) ⟨S.kd,H1.out⟩ (a':=?_) (fun wz hz=>?_) fun wz hz=>?_
   rotate_left
   ·obtain ⟨kd',hz⟩:=hz
    have l4:=fun (d:Nat) (os:Array Obj)=>ld_bys (cell_regrown (show wz.cell? ⟨rb,4,none⟩=some (.slice A n c) by rw [← HPV.out]; exact hz.blk.cell 4) d os)
    have l14:=fun (d:Nat) (os:Array Obj)=>ld_adr (cell_regrown (show wz.cell? ⟨rb,14,none⟩=some (.int .u32 (S.h.dst:Int)) from hz.blk.cell 14) d os)
    have qc:=fun (d:Nat) (os:Array Obj)=>Calls.regrown_of (HW.out (grow (redrawn wz d) os) kd' (hz.below (below_regrown wz d os)))
    clear hz
    simp only [pick_nil,pick_tt,pick_ft,List.take_succ_cons,List.take_zero,List.drop_succ_cons,List.drop_zero,List.append_nil]
    repeat (go_big_quiet_step (with_reducible exact qc _ _))
    refine wpQuiet_nil ?_
    rfl
   simp only [pick_nil,pick_ff,pick_tf,List.take_succ_cons,List.take_zero,List.drop_succ_cons,List.drop_zero,List.append_nil]
   have HZ:=Lib.hid (H1.out.below hz)
   clear hz
   refine wpMix_step ⟨S.kd,HZ.out⟩ fun wa ha=>?_
   have HA:=Lib.hid (HZ.out.below ha)
   clear ha
   go_wp2_with fail
   refine wpMix_step ⟨S.kd,HA.out⟩ fun wb hb=>?_
   have HB:=Lib.hid (HA.out.below hb)
   clear hb
   go_wp2_with fail
   refine wpMix_step ⟨S.kd,HB.out⟩ fun wc hc=>?_
   have HC:=Lib.hid (HB.out.below hc)
   clear hc
   have s16:=st_wkd (HC.out.blk.cell 16) (HC.out.blk.frozen 16) kd
   have h2:=HC.out.put (i:=16) (u:=.int .i64 kd) (S':={ S with kd:=kd }) rfl HC.out.pk HC.out.hv HC.out.lc HC.out.ou rfl
   obtain ⟨w2,hw2⟩:∃ w2,w2=wc.setCell ⟨rb,16,none⟩ (.int .i64 kd):=⟨_,rfl⟩
   rw [← hw2] at s16 h2
   have H2:=Lib.hid h2
   clear h2 hw2
   go_wp2_with fail
   refine wpMix_step ⟨kd,H2.out⟩ fun wd hd=>?_
   have H3:=Lib.hid (H2.out.below hd)
   clear hd s16
   have s17:=st_int (H3.out.blk.cell 17) (H3.out.blk.frozen 17) po
   have h3:=H3.out.put (i:=17) (u:=.int .i64 po) (S':={ S with kd:=kd,po:=po }) rfl H3.out.pk H3.out.hv H3.out.lc H3.out.ou rfl
   have HF:=Lib.hid h3
   clear h3
   go_wp2_with fail
   refine wpMix_plain ?_
   go_wp2_with fail
   go_ret
   exact HP.out _ _ (by rw [if_neg (by decide),if_neg (by decide),if_neg (by decide)]; exact ⟨rfl,HF.out⟩)
end
end Go.Proofs.YthlommalbkhcjaaGreat
namespace Go.Proofs.YthlommalbkhcjaaGreat
open Go.RowKit Go.Sort Go.BigFrame
theorem u8_eq (t:UInt8) (k:UInt8):(t == k)=decide ((t.toNat:Int)=(k.toNat:Int)):=by
 rw [Bool.eq_iff_iff,beq_iff_eq,decide_eq_true_eq]
 exact ⟨fun h=>by rw [h],fun h=>UInt8.toNat_inj.1 (by omega)⟩
theorem echo_steps (h:Hd) (p:By):echoH h p=(!fragH h && (decide (h.proto=1) && (decide ((icOf p).2=0) && (decide (((icOf p).1.ty.toNat:Int)=8) && decide (((icOf p).1.co.toNat:Int)=0))))):=by
 unfold echoH
 rw [u8_eq,u8_eq]
 simp [Bool.and_assoc]
attribute [-go_sem] Instr.storeAt Instr.loadAt in
set_option maxRecDepth 100000 in
set_option maxHeartbeats 8000000 in
theorem echo_any (A:Option Addr) (n c:Nat) (x:By) (I:Nat→Prop) (w:World) (h:Reads w I 1 A n (bytesV x)) (hn:x.length=n) (hc:n≤c) (hsm:n≤1000000) :
  Calls Tryz.prog 128 #[.slice A n c] w fun e w'=>e=.returned (.bool (echoF x))∧Below w.heap.size w w':=by
 have hpa:=parse_any A n c x I w h hn hc hsm
 have hpl:=prs_len x
 obtain ⟨E,hE⟩:∃ E,E=echoF x:=⟨_,rfl⟩
 rw [← hE]
 unfold echoF at hE
 rw [echo_steps] at hE
 obtain ⟨R,hR⟩:∃ R,R=prsF x:=⟨_,rfl⟩
 rw [← hR] at hpa hE hpl
 obtain ⟨g,y,f⟩:=R
 simp only at hE hpl
 have HPA:=Lib.hid hpa
 obtain ⟨O,hO⟩:∃ O,O=icOf y:=⟨_,rfl⟩
 rw [← hO] at hE
 have HO:=Lib.hid hO
 obtain ⟨q,hq⟩:∃ q,q=y.length:=⟨_,rfl⟩
 have HQ:=Lib.hid hq
 have hqs:q≤1000000:=by omega
 obtain ⟨fg,hfg⟩:∃ b,b=fragH g:=⟨_,rfl⟩
 obtain ⟨pr,hpr⟩:∃ z,z=g.proto:=⟨_,rfl⟩
 obtain ⟨ty,hty⟩:∃ z:Int,z=(O.1.ty.toNat:Int):=⟨_,rfl⟩
 obtain ⟨co,hco⟩:∃ z:Int,z=(O.1.co.toNat:Int):=⟨_,rfl⟩
 obtain ⟨er,her⟩:∃ z,z=O.2:=⟨_,rfl⟩
 rw [← hfg,← hpr,← hty,← hco,← her] at hE
 have HE:=Lib.hid hE
 have HFG:=Lib.hid hfg
 have HPR:=Lib.hid hpr
 have HTY:=Lib.hid hty
 have HCO:=Lib.hid hco
 have HER:=Lib.hid her
 clear hpa hE hR h hn hc hsm hO hq hfg hpr hty hco her hpl
 go_enter Tryz.func128,Tryz.ntmps128
 go_upto_region 2 with
  (go_at_call 33
   refine HPA.out.mono ?_
   rintro e w1 ⟨vo,vq,rfl,ho,hq,_,hb⟩
   obtain ⟨Ao,co',rfl,_⟩:=ho.form
   obtain ⟨Aq,cq,rfl,hcq⟩:=hq.form
   rw [show (g,y,f).2.1.length=q from HQ.out.symm] at hcq ⊢
   obtain ⟨w2,hst,hb2,hb12,hk2⟩:=hd_var hb hb.size g Ao g.opts.length co'
   have HB2:=Lib.hid hb2
   have HH2:=Lib.hid hk2
   have HQ2:=Lib.hid (hq.below hb12)
   clear ho hq hb hb2 hb12 hk2)
 have hq2:=HQ2.out.reads.2
 rw [show (g,y,f).2.1.length=q from HQ.out.symm] at hq2
 have hof:=icof_any Aq q cq y _ w2 hq2 HQ.out.symm hcq hqs
 rw [← HO.out] at hof
 have HOF:=Lib.hid hof
 clear hq2 hof hst
 obtain ⟨gh,hgh⟩:∃ z,z=w1.heap.size:=⟨_,rfl⟩
 rw [← hgh] at HH2 ⊢
 clear hgh
 go_upto_region 3 with
  (go_at_call 34
   refine HOF.out.mono ?_
   rintro e w3 ⟨v3,rfl,h3,hb3⟩
   obtain ⟨A3,c3,rfl,_⟩:=h3.form
   have hb3':=HB2.out.trans (hb3.mono HB2.out.size)
   have hh3:=HH2.out.below hb3 HH2.out.lt
   obtain ⟨w4,hst4,hb4,hb34,hk4⟩:=ic_var hb3' hb3'.size O.1 A3 O.1.body.length c3
   have HH4:=Lib.hid (hh3.below hb34 hh3.lt)
   have HB4:=Lib.hid hb4
   have HK4:=Lib.hid hk4
   rw [← HER.out]
   unfold icV
   clear h3 hb3 hb3' hh3 hb4 hb34 hk4)
 have hld:=hd_load HH4.out rfl
 have k7:w4.cell? ⟨gh,7,none⟩=some (.int .u8 (pr:Int)):=by rw [HPR.out]; exact HH4.out.cell 7
 have t0:w4.cell? ⟨w3.heap.size,0,none⟩=some (.int .u8 ty):=by rw [HTY.out]; exact HK4.out.cell 0
 have t1:w4.cell? ⟨w3.heap.size,1,none⟩=some (.int .u8 co):=by rw [HCO.out]; exact HK4.out.cell 1
 by_cases c1:f=0
 rotate_left
 ·have hE:=HE.out
  rw [decide_eq_false c1,Bool.false_and] at hE
  subst hE
  have b1:((f:Int) == 0)=false:=beq_eq_false_iff_ne.2 (by omega)
  clear c1
  go_wp2_with fail
  go_ret
  exact ⟨rfl,HB4.out⟩
 have b1:((f:Int) == 0)=true:=beq_iff_eq.2 (by omega)
 have hE:=HE.out
 rw [decide_eq_true c1,Bool.true_and] at hE
 clear c1 HE
 have hfr:=frag_any g Ao g.opts.length co' w4
 rw [← HFG.out] at hfr
 have HFR:=Lib.hid hfr
 clear hfr
 have hl5:∀ w5,Below w4.heap.size w4 w5→w5.cell? ⟨gh,7,none⟩=some (.int .u8 (pr:Int))∧w5.cell? ⟨w3.heap.size,0,none⟩=some (.int .u8 ty)∧w5.cell? ⟨w3.heap.size,1,none⟩=some (.int .u8 co):=fun w5 hb=>⟨(hb.cell (block_lt_of_cell k7)).trans k7,(hb.cell (block_lt_of_cell t0)).trans t0,(hb.cell (block_lt_of_cell t1)).trans t1⟩
 have HL5:=Lib.hid hl5
 clear hl5 k7 t0 t1
 cases fg with
 | true =>
   rw [Bool.not_true,Bool.false_and] at hE
   subst hE
   go_wp2_with (go_at_call 96; refine HFR.out.mono ?_; rintro e w5 ⟨rfl,hb5⟩; have HB5:=Lib.hid (HB4.out.trans (hb5.mono HB4.out.size)); clear hb5)
   go_ret
   exact ⟨rfl,HB5.out⟩
 | false =>
 rw [Bool.not_false,Bool.true_and] at hE
 by_cases c2:pr=1
 rotate_left
 ·rw [decide_eq_false c2,Bool.false_and] at hE
  subst hE
  have b2:(((pr:Int)) == 1)=false:=beq_eq_false_iff_ne.2 (by omega)
  clear c2
  go_wp2_with (go_at_call 96; refine HFR.out.mono ?_; rintro e w5 ⟨rfl,hb5⟩; have HB5:=Lib.hid (HB4.out.trans (hb5.mono HB4.out.size)); obtain ⟨k7,t0,t1⟩:=HL5.out _ hb5; have k7:=ld_u8s k7; have t0:=ld_u8s t0; have t1:=ld_u8s t1; clear hb5)
  go_ret
  exact ⟨rfl,HB5.out⟩
 rw [decide_eq_true c2,Bool.true_and] at hE
 have b2:(((pr:Int)) == 1)=true:=beq_iff_eq.2 (by omega)
 clear c2
 by_cases c3:er=0
 rotate_left
 ·rw [decide_eq_false c3,Bool.false_and] at hE
  subst hE
  have b3:(((er:Int)) == 0)=false:=beq_eq_false_iff_ne.2 (by omega)
  clear c3
  go_wp2_with (go_at_call 96; refine HFR.out.mono ?_; rintro e w5 ⟨rfl,hb5⟩; have HB5:=Lib.hid (HB4.out.trans (hb5.mono HB4.out.size)); obtain ⟨k7,t0,t1⟩:=HL5.out _ hb5; have k7:=ld_u8s k7; have t0:=ld_u8s t0; have t1:=ld_u8s t1; clear hb5)
  go_ret
  exact ⟨rfl,HB5.out⟩
 rw [decide_eq_true c3,Bool.true_and] at hE
 have b3:(((er:Int)) == 0)=true:=beq_iff_eq.2 (by omega)
 clear c3
 by_cases c4:ty=8
 rotate_left
 ·rw [decide_eq_false c4,Bool.false_and] at hE
  subst hE
  have b4:((ty) == 8)=false:=beq_eq_false_iff_ne.2 (by omega)
  clear c4
  go_wp2_with (go_at_call 96; refine HFR.out.mono ?_; rintro e w5 ⟨rfl,hb5⟩; have HB5:=Lib.hid (HB4.out.trans (hb5.mono HB4.out.size)); obtain ⟨k7,t0,t1⟩:=HL5.out _ hb5; have k7:=ld_u8s k7; have t0:=ld_u8s t0; have t1:=ld_u8s t1; clear hb5)
  go_ret
  exact ⟨rfl,HB5.out⟩
 rw [decide_eq_true c4,Bool.true_and] at hE
 have b4:((ty) == 8)=true:=beq_iff_eq.2 (by omega)
 clear c4
 by_cases c5:co=0
 rotate_left
 ·rw [decide_eq_false c5] at hE
  subst hE
  have b5:((co) == 0)=false:=beq_eq_false_iff_ne.2 (by omega)
  clear c5
  go_wp2_with (go_at_call 96; refine HFR.out.mono ?_; rintro e w5 ⟨rfl,hb5⟩; have HB5:=Lib.hid (HB4.out.trans (hb5.mono HB4.out.size)); obtain ⟨k7,t0,t1⟩:=HL5.out _ hb5; have k7:=ld_u8s k7; have t0:=ld_u8s t0; have t1:=ld_u8s t1; clear hb5)
  go_ret
  exact ⟨rfl,HB5.out⟩
 rw [decide_eq_true c5] at hE
 have b5:((co) == 0)=true:=beq_iff_eq.2 (by omega)
 clear c5
 subst hE
 go_wp2_with (go_at_call 96; refine HFR.out.mono ?_; rintro e w5 ⟨rfl,hb5⟩; have HB5:=Lib.hid (HB4.out.trans (hb5.mono HB4.out.size)); obtain ⟨k7,t0,t1⟩:=HL5.out _ hb5; have k7:=ld_u8s k7; have t0:=ld_u8s t0; have t1:=ld_u8s t1; clear hb5)
 go_ret
 exact ⟨rfl,HB5.out⟩
end Go.Proofs.YthlommalbkhcjaaGreat
