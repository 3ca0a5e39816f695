/- Layer 18: whole. -/
import Derived.Test.YthlommalbkhcjaaGreatNq42
import Derived.Test.YthlommalbkhcjaaGreatNq44
import Derived.Test.YthlommalbkhcjaaGreatNq45
namespace Go.Proofs.YthlommalbkhcjaaGreat
open Go.RowKit Go.Sort Go.BigFrame
theorem err_le (k:Int) (x:By) (fr:Nat) (mtu:Int):(errF k x fr mtu).1.length≤100:=by
 unfold errF
 split
 ·exact Nat.zero_le _
 ·split
  ·exact Nat.zero_le _
  ·split
   ·exact Nat.zero_le _
   ·have:=quote_len x
    show (bytesF _ _).length≤100
    rw [bytesF_len,icB_len]
    show 20+0+(8+(quoteF x).1.length)≤100
    omega
theorem ld_ptb {w:World} {a:Addr} {b:Nat} (hu:w.cell? a=some (.pointer (some ⟨b,0,none⟩))):(Instr.loadAt 63 (.pointer (some a))).run Tryz.prog w=.ok (.pointer (some ⟨b,0,none⟩)) w:=by
 simp [go_sem,hu]
theorem ld_bys {w:World} {a:Addr} {A:Option Addr} {n c:Nat} (hu:w.cell? a=some (.slice A n c)):(Instr.loadAt 61 (.pointer (some a))).run Tryz.prog w=.ok (.slice A n c) w:=by
 simp [go_sem,hu]
theorem ld_adr {w:World} {a:Addr} {z:Int} (hu:w.cell? a=some (.int .u32 z)):(Instr.loadAt 35 (.pointer (some a))).run Tryz.prog w=.ok (.int .u32 z) w:=by
 simp [go_sem,hu]
theorem st_er {w:World} {g i:Nat} {u:Value} (hu:w.cell? ⟨g,i,none⟩=some u) (hf:w.frozen? ⟨g,i,none⟩=false) (z:Int):(Instr.storeAt 67 (.pointer (some ⟨g,i,none⟩)) (.int .i64 z)).run Tryz.prog w=.ok () (w.setCell ⟨g,i,none⟩ (.int .i64 z)):=by
 simp [go_sem,hu,hf]
section
variable {w0 w wx wy:World} {rb:Nat} {E:Re} {S:Rs} {pk:Nat→Nat→Int × Int}
theorem RnW.take (h:RnW w0 w rb E S) {t:Int} (hu:Upd (only E.bb) w wy) (hb:IsBk wy E.bb 64 1 t 0) (ht:0≤t∧t≤64):RnW w0 wy rb E { S with tok:=t }:=by
 have hlo:=h.bbl
 have hrow:∀ {e:TypeId} {size n:Nat} {v:Value} {xs:List Value},w.ownsRow w0.heap.size e size v n xs→wy.ownsRow w0.heap.size e size v n xs:=fun hr=>own_keep hr (hu.same (I:=fun k=>w0.heap.size≤k) fun k (e:k=E.bb) hI=>by omega) fun g hg=>(own_lt hr hg).1
 refine ⟨⟨h.upd.trans hu fun k (e:k=E.bb)=>.inl e,h.blk.upd hu fun (e:rb=E.bb)=>by have:=h.rbn; omega,h.rbn,h.bbl,?_,hrow h.hv,hb,ht,h.kp.upd hu (blk_tne h.kp h.bk (by decide))⟩,?_,?_⟩
 ·have hpk:=h.pk
  show PkR w0 wy E.bb S
  unfold PkR at hpk ⊢
  split at hpk
  ·exact hrow hpk
  ·exact hpk.keep (hu.same fun k (e:k=E.bb) hI=>hI.2 e)
 ·obtain ⟨us,a,b,c⟩:=h.lc
  exact ⟨us,hrow a,b,fun k x hx=>by obtain ⟨v,e,r⟩:=c k x hx; exact ⟨v,e,hrow r⟩⟩
 ·obtain ⟨Z,a,b,c⟩:=h.ou
  exact ⟨Z,a,hrow b,fun z hz=>hrow (c z hz)⟩
theorem RnW.pkt (h:RnW w0 w rb E S):∃ A n c,S.pv=.slice A n c∧S.x.length=n∧n≤c∧∀ wx,Below w.heap.size w wx→Reads wx (fun k=>k < w.heap.size) 1 A n (bytesV S.x):=by
 have hp:=h.pk
 unfold PkR at hp
 split at hp
 ·obtain ⟨A,c,e,_⟩:=hp.form
  rw [e] at hp
  obtain ⟨h1,h2,h3⟩:=hp.rd
  exact ⟨A,_,c,e,h1,h2,fun wx hb=>(h3.mono fun k hk=>hk.2).keep (Same.ofBelow hb fun k hk=>hk)⟩
 ·obtain ⟨A,c,e,hc,hr⟩:=hp
  exact ⟨A,_,c,e,rfl,hc,fun wx hb=>(hr.lt.mono fun k hk=>hk.2).keep (Same.ofBelow hb fun k hk=>hk)⟩
set_option maxRecDepth 100000 in
set_option maxHeartbeats 8000000 in
attribute [-go_sem] Instr.storeAt Instr.loadAt in
theorem ftell_any (H:TbE w0 E pk) (hp0:PkPos pk) (h:RnW w0 w rb E S) (k:Nat) (hk:k≤3) (mtu:Int) (hsm:S.x.length≤100000) (hl:S.ft.out.length≤100000) (hl2:S.ft.loc.length≤100000) :
  Calls Tryz.prog 130 #[.pointer (some ⟨rb,0,none⟩),.int .i64 (k:Int),.int .i64 mtu] w (FtPost w0 rb E S (fwTell pk E.mtus E.own S.tok k mtu S.x S.ft).1 (fwTell pk E.mtus E.own S.tok k mtu S.x S.ft).2):=by
 obtain ⟨A,n,c,hpv,hn,hc,hrd⟩:=h.pkt
 have HM:=Lib.hid (icmayp_any A n c S.x _ w (hrd w (Below.refl _ _)) hn hc (by omega))
 have HE:=Lib.hid (fun wx (hb:Below w.heap.size w wx)=>icerror_any (k:Int) mtu E.own A n c S.x _ wx (by have:k=0∨k=1∨k=2∨k=3:=(by omega); rcases this with rfl | rfl | rfl | rfl <;> rfl) H.own (hrd wx hb) hn hc (by omega))
 obtain ⟨F,hF⟩:∃ F,F=fwTell pk E.mtus E.own S.tok k mtu S.x S.ft:=⟨_,rfl⟩
 rw [← hF]
 unfold fwTell at hF
 have q4:w.cell? ⟨rb,4,none⟩=some (.slice A n c):=by rw [← hpv]; exact h.blk.cell 4
 have l4:=ld_bys q4
 have HH:=Lib.hid h
 have HPV:=Lib.hid hpv
 have HLE:=Lib.hid (err_le (k:Int) S.x E.own mtu)
 obtain ⟨M,hM⟩:∃ M,M=emayF S.x:=⟨_,rfl⟩
 rw [← hM] at HM hF
 cases M with
 | false =>
   rw [if_pos rfl] at hF
   have HFF:=Lib.hid hF
   have HD:=Lib.hid (fun wx (hb:Below w.heap.size w wx)=>(fdrop_any (h.below hb) 10:Calls Tryz.prog 124 #[.pointer (some ⟨rb,0,none⟩),.int .i64 10] wx fun e w'=>e=.returned (.bool true)∧RnW w0 w' rb E { S with ft:=dropF S.ft 10 }))
   clear hF hM h hpv hn hc hrd HE q4
   go_enter Tryz.func130,Tryz.ntmps130
   go_wp2_with fail
   refine HM.out.mono ?_
   rintro e w1 ⟨rfl,hb1⟩
   have HD1:=Lib.hid (HD.out w1 hb1)
   clear hb1
   go_wp2_with fail
   refine HD1.out.mono ?_
   rintro e w2 ⟨rfl,hw2⟩
   have HF:=Lib.hid hw2
   clear hw2
   go_wp2_with fail
   go_ret
   rw [HFF.out]
   exact ⟨rfl,_,_,HF.out⟩
 | true =>
   rw [if_neg (by decide)] at hF
   have hbk:IsBk w E.bb 64 1 S.tok 0:=h.bk
   have HBT:=Lib.hid (fun wx (hb:Below w.heap.size w wx)=>btake_any E.bb 64 1 S.tok 0 wx (Blk.below hbk hb (Blk.lt hbk)) ⟨by decide,by decide,by decide,by decide,h.tk.1,h.tk.2,by decide,by decide⟩)
   have htk:=h.tk
   have HTK:=Lib.hid htk
   clear hM h hpv hn hc hrd q4 hbk
   by_cases ht:S.tok≤0
   ·rw [if_pos ht] at hF
    have HFF:=Lib.hid hF
    clear hF HE
    have d0:decide (0 < S.tok)=false:=decide_eq_false (by omega)
    have tk0:takeN S.tok=S.tok:=by unfold takeN; rw [if_neg (by omega)]
    rw [d0,tk0] at HBT
    go_enter Tryz.func130,Tryz.ntmps130
    go_wp2_with fail
    refine HM.out.mono ?_
    rintro e w1 ⟨rfl,hb1⟩
    have HB1:=Lib.hid (HBT.out w1 hb1)
    have HH1:=Lib.hid (HH.out.below hb1)
    have l3:=ld_ptb (w:=w1) (a:=⟨rb,3,none⟩) (HH1.out.blk.cell 3)
    clear hb1 HBT l4
    go_wp2_with fail
    refine HB1.out.mono ?_
    rintro e w2 ⟨rfl,hk2,hu2⟩
    have HD:=Lib.hid (show Calls Tryz.prog 124 #[.pointer (some ⟨rb,0,none⟩),.int .i64 11] w2 fun e w'=>e=.returned (.bool true)∧RnW w0 w' rb E { S with ft:=dropF S.ft 11 } from fdrop_any (HH1.out.take hu2 hk2 HTK.out) 11)
    clear hk2 hu2 l3
    go_wp2_with fail
    refine HD.out.mono ?_
    rintro e w3 ⟨rfl,hw3⟩
    have HF:=Lib.hid hw3
    clear hw3
    go_wp2_with fail
    go_ret
    rw [HFF.out]
    exact ⟨rfl,_,_,HF.out⟩
   ·rw [if_neg ht] at hF
    have HFF:=Lib.hid hF
    clear hF
    have d0:decide (0 < S.tok)=true:=decide_eq_true (by omega)
    have tk0:takeN S.tok=S.tok - 1:=by unfold takeN; rw [if_pos (by omega)]
    rw [d0,tk0] at HBT
    go_enter Tryz.func130,Tryz.ntmps130
    go_wp2_with fail
    refine HM.out.mono ?_
    rintro e w1 ⟨rfl,hb1⟩
    have HB1:=Lib.hid (HBT.out w1 hb1)
    have HH1:=Lib.hid (HH.out.below hb1)
    have l3:=ld_ptb (w:=w1) (a:=⟨rb,3,none⟩) (HH1.out.blk.cell 3)
    clear hb1 HBT l4 HE
    go_wp2_with fail
    refine HB1.out.mono ?_
    rintro e w2 ⟨rfl,hk2,hu2⟩
    have h2:RnW w0 w2 rb E { S with tok:=S.tok - 1 }:=HH1.out.take hu2 hk2 ⟨by have:=HTK.out; omega,by have:=HTK.out; omega⟩
    have s19:=st_er (h2.blk.cell 19) (h2.blk.frozen 19) (k:Int)
    have h3:=h2.put (i:=19) (u:=.int .i64 (k:Int)) (S':={ S with tok:=S.tok - 1,ft:={ S.ft with err:=k } }) rfl h2.pk h2.hv h2.lc h2.ou rfl
    obtain ⟨W,hW⟩:∃ W,W=w2.setCell ⟨rb,19,none⟩ (.int .i64 (k:Int)):=⟨_,rfl⟩
    rw [← hW] at s19 h3
    have H3:=Lib.hid h3
    clear hk2 hu2 l3 h2 h3 hW
    go_upto_region 6 with (fail)
    clear s19
    have HSN:=Lib.hid (fun wx (hw:RnW w0 wx rb E { S with tok:=S.tok - 1,ft:={ S.ft with err:=k } }) (A:Option Addr) (n c:Nat) (y:By) (hy:Row8 w0.heap.size wx (.slice A n c) y) (hl3:y.length≤100000)=>fsend_any H hp0 hw hy hl3 hl hl2)
    obtain ⟨A3,n3,c3,hpv3,hn3,hc3,hrd3⟩:=H3.out.pkt
    have HE:=Lib.hid (fun wx (hb:Below W.heap.size W wx)=>icerror_any (k:Int) mtu E.own A3 n3 c3 S.x _ wx (by have:k=0∨k=1∨k=2∨k=3:=(by omega); rcases this with rfl | rfl | rfl | rfl <;> rfl) H.own (hrd3 wx hb) hn3 hc3 (by have:S.x.length=n3:=hn3; omega))
    have HP3:=Lib.hid hpv3
    obtain ⟨Y,hY⟩:∃ Y,Y=errF (k:Int) S.x E.own mtu:=⟨_,rfl⟩
    rw [← hY] at HE HLE HFF
    clear hpv3 hn3 hc3 hrd3 hsm hl hl2 hp0 H hY HM HB1 HH1 HH HPV HTK ht d0 tk0
    refine wp_region_stages [(true,10),(false,1),(true,5)] (by kernel_rfl) (by kernel_rfl) fun wz hz _=>?_
    have HZ:=Lib.hid (H3.out.below hz)
    have HBZ:=Lib.hid hz
    have l4:=fun (d:Nat) (os:Array Obj)=>ld_bys (cell_regrown (show wz.cell? ⟨rb,4,none⟩=some (.slice A3 n3 c3) by rw [← HP3.out]; exact HZ.out.blk.cell 4) d os)
    have l1:=fun (d:Nat) (os:Array Obj)=>ld_adr (cell_regrown (show wz.cell? ⟨rb,1,none⟩=some (.int .u32 (E.own:Int)) from HZ.out.blk.cell 1) d os)
    clear hz H3
    refine wpSt_q ?_
    simp only [List.take_succ_cons,List.take_zero,List.drop_succ_cons,List.drop_zero]
    repeat (go_big_quiet_step (fail))
    refine wpQuiet_nil ?_
    intro _ hw'
    obtain ⟨⟨dq,osq⟩,hw''⟩:=hw'
    subst hw''
    have hq:=below_regrown wz dq osq
    generalize grow (redrawn wz dq) osq=wa at hq ⊢
    have HA:=Lib.hid (HZ.out.below hq)
    have HEA:=Lib.hid (HE.out wa (HBZ.out.trans (hq.mono HBZ.out.size)))
    clear hq l4 l1 HZ HE HBZ
    refine wpSt_l ?_
    go_wp2_with (refine HEA.out.mono ?_; rintro e wb0 ⟨v,rfl,hr,hb0⟩; obtain ⟨Ay,cy,rfl,_⟩:=hr.form)
    refine wpSt_q ?_
    simp only [List.take_succ_cons,List.take_zero,List.drop_succ_cons,List.drop_zero]
    repeat (go_big_quiet_step (fail))
    refine wpQuiet_nil ?_
    intro _ hw'
    obtain ⟨⟨dr,osr⟩,hw''⟩:=hw'
    subst hw''
    have hbr:=below_regrown wb0 dr osr
    generalize grow (redrawn wb0 dr) osr=wb at hbr ⊢
    refine wpSt_end ?_
    have hb:=hb0.trans (hbr.mono hb0.size)
    have hr2:=own_base (Row8.below hr hbr) HA.out.upd.size
    have HS:=Lib.hid (HSN.out wb (HA.out.below hb) Ay Y.1.length cy Y.1 hr2 (by have:=HLE.out; omega))
    clear hb hr hr2 hb0 hbr HEA HSN HA
    go_wp2_with fail
    refine HS.out.mono ?_
    rintro e wc ⟨rfl,lv,ov,hw⟩
    have HF:=Lib.hid hw
    clear hw
    go_wp2_with fail
    go_ret
    rw [HFF.out]
    exact ⟨rfl,lv,ov,HF.out⟩
end
end Go.Proofs.YthlommalbkhcjaaGreat
namespace Go.Proofs.YthlommalbkhcjaaGreat
open Go.RowKit Go.Sort Go.BigFrame
def setMany:List Value→Nat→Array Value→Array Value
 | [],_,cs=>cs
 | v :: r,o,cs=>setMany r (o+1) (cs.setIfInBounds o v)
def setManyL:List Value→Nat→List Value→List Value
 | [],_,cs=>cs
 | v :: r,o,cs=>setManyL r (o+1) (cs.set o v)
theorem setMany_list:∀ (l:List Value) (o:Nat) (cs:List Value),setMany l o cs.toArray=(setManyL l o cs).toArray
 | [],_,_=>rfl
 | v :: r,o,cs=>by
   unfold setMany setManyL
   rw [List.setIfInBounds_toArray]
   exact setMany_list r (o+1) _
theorem hdr_many (E:Re) (S:Rs) (g:Hd) (v:Value):setMany (hdC g v).toList 5 (rnA E S)=rnA E { S with hv:=v,h:=g }:=by
 unfold rnA
 rw [setMany_list]
 rfl
theorem blk_many {g:Nat} {t:TypeId}:∀ (l:List Value) (o:Nat) (cs:Array Value) (w:World),Blk w g t cs→Blk (w.setCells g o l) g t (setMany l o cs)
 | [],_,_,_,h=>h
 | v :: r,o,_,_,h=>blk_many r (o+1) _ _ (h.set_ o v)
theorem own_many {rb:Nat} {B:Nat} {e:TypeId} {size n:Nat} {v:Value} {xs:List Value} (hne:e≠142):∀ (l:List Value) (o:Nat) (C:Array Value) (w:World),Blk w rb 142 C→w.ownsRow B e size v n xs→(w.setCells rb o l).ownsRow B e size v n xs
 | [],_,_,_,_,h=>h
 | u :: r,o,_,_,hk,h=>own_many hne r (o+1) _ _ (hk.set_ o u) (own_set hk hne h o u)
theorem st_bys {w:World} {g i:Nat} {u:Value} (hu:w.cell? ⟨g,i,none⟩=some u) (hf:w.frozen? ⟨g,i,none⟩=false) (A:Option Addr) (n c:Nat):(Instr.storeAt 61 (.pointer (some ⟨g,i,none⟩)) (.slice A n c)).run Tryz.prog w=.ok () (w.setCell ⟨g,i,none⟩ (.slice A n c)):=by
 simp [go_sem,hu,hf]
theorem st_hdr {w:World} {rb:Nat} {C:Array Value} (hk:Blk w rb 142 C) (hs:C.size=22) (h:Hd) (A:Option Addr) (n c:Nat):(Instr.storeAt 76 (.pointer (some ⟨rb,5,none⟩)) (hdV h (.slice A n c))).run Tryz.prog w=.ok () (w.setCells rb 5 (hdC h (.slice A n c)).toList):=by
 refine run_storeAt_mid w rb 5 _ (hdC h (.slice A n c)) (fun j hj=>?_) hd_info (by simp [hdC,Value.oneCell'])
 have hj11:j < 11:=hj
 have:=blk_there hk (5+j) (by omega)
 rwa [Nat.zero_add] at this
section
variable {w0 w wx wy:World} {rb:Nat} {E:Re} {S:Rs} {pk:Nat→Nat→Int × Int}
theorem RnW.many (h:RnW w0 wx rb E S) {l:List Value} {o:Nat} {S':Rs} (hu:setMany l o (rnA E S)=rnA E S') (h1:PkR w0 wx E.bb S') (h2:Row8 w0.heap.size wx S'.hv S'.h.opts) (h3:Rows8 w0.heap.size wx S'.lv S'.ft.loc) (h4:Snts w0.heap.size wx S'.ov S'.ft.out) (h5:S'.tok=S.tok) :
  RnW w0 (wx.setCells rb o l) rb E S':=by
 have hup:Upd (fun k=>k=rb) wx (wx.setCells rb o l):=Upd.setCells l o wx (Upd.refl _ _) (.inl rfl)
 have hrow:∀ {B:Nat} {e:TypeId} {size n:Nat} {v:Value} {xs:List Value},e≠142→wx.ownsRow B e size v n xs→(wx.setCells rb o l).ownsRow B e size v n xs:=fun hne hr=>own_many hne l o _ _ h.blk hr
 refine ⟨⟨h.upd.trans hup fun k (e:k=rb)=>.inr (by rw [e]; exact h.rbn),by rw [← hu]; exact blk_many l o _ _ h.blk,h.rbn,h.bbl,?_,hrow (by decide) h2,?_,by rw [h5]; exact h.tk,blk_far_setCells (blk_tne h.kp h.blk (by decide)) l o wx h.kp⟩,?_,?_⟩
 ·unfold PkR at h1 ⊢
  split at h1
  ·exact hrow (by decide) h1
  ·exact h1.keep (hup.same (I:=fun k=>k < w0.heap.size∧k≠E.bb) fun k (e:k=rb) hI=>by have:=h.rbn; omega)
 ·rw [h5]
  exact blk_far_setCells h.ne.symm l o wx h.bk
 ·obtain ⟨us,a,b,c⟩:=h3
  exact ⟨us,hrow (by decide) a,b,fun k x hx=>by obtain ⟨v,e,r⟩:=c k x hx; exact ⟨v,e,hrow (by decide) r⟩⟩
 ·obtain ⟨Z,a,b,c⟩:=h4
  exact ⟨Z,a,hrow (by decide) b,fun z hz=>hrow (by decide) (c z hz)⟩
def WhC (w0:World) (rb:Nat) (E:Re) (S:Rs) (gh:Nat) (g:Hd) (v:Value) (a:World):Prop:=(∃ hv h,RnW w0 a rb E { S with hv:=hv,h:=h })∧Blk a gh 76 (hdC g v)∧Row8 w0.heap.size a v g.opts
theorem WhC.below {gh:Nat} {g:Hd} {v:Value} (h:WhC w0 rb E S gh g v wx) (k:Below wx.heap.size wx wy):WhC w0 rb E S gh g v wy:=by
 obtain ⟨⟨hv,hh,h1⟩,h2,h3⟩:=h
 exact ⟨⟨hv,hh,h1.below k⟩,h2.below k h2.lt,h3.below k⟩
theorem WhC.of {gh:Nat} {g:Hd} {v:Value} (h:RnW w0 wx rb E S) (h2:Blk wx gh 76 (hdC g v)) (h3:Row8 w0.heap.size wx v g.opts):WhC w0 rb E S gh g v wx:=⟨⟨S.hv,S.h,h⟩,h2,h3⟩
def WhPost (w0:World) (rb:Nat) (E:Re) (S:Rs) (e:Ending) (w':World):Prop :=
 if (prsF S.x).2.2=0 then e=.returned (.bool false)∧∃ pv hv,RnW w0 w' rb E { S with cl:=true,pv:=pv,x:=S.x.take (20+(prsF S.x).1.opts.length+(prsF S.x).2.1.length),hv:=hv,h:=(prsF S.x).1 }
 else e=.returned (.bool true)∧RnW w0 w' rb E { S with ft:=dropF S.ft (prsF S.x).2.2 }
set_option maxRecDepth 100000 in
set_option maxHeartbeats 8000000 in
attribute [-go_sem] Instr.storeAt Instr.loadAt in
theorem fwhole_any (h:RnW w0 w rb E S) (hsm:S.x.length≤100000) :
  Calls Tryz.prog 68 #[.pointer (some ⟨rb,0,none⟩)] w (WhPost w0 rb E S):=by
 obtain ⟨A,n,c,hpv,hn,hc,hrd⟩:=h.pkt
 have HP:=Lib.hid (parse_any A n c S.x _ w (hrd w (Below.refl _ _)) hn hc (by omega))
 have hwh:=prs_whole (x:=S.x)
 have hsz:=prs_size (x:=S.x)
 have hpl:=prs_len S.x
 have l4:=ld_bys (w:=w) (a:=⟨rb,4,none⟩) (A:=A) (n:=n) (c:=c) (by rw [← hpv]; exact h.blk.cell 4)
 have HW0:Hid (∀ (w':World) (pv hv:Value),(prsF S.x).2.2=0→RnW w0 w' rb E { S with cl:=true,pv:=pv,x:=S.x.take (20+(prsF S.x).1.opts.length+(prsF S.x).2.1.length),hv:=hv,h:=(prsF S.x).1 }→WhPost w0 rb E S (.returned (.bool false)) w'):=Lib.hid fun w' pv hv hf hr=>by
  unfold WhPost
  rw [if_pos hf]
  exact ⟨rfl,pv,hv,hr⟩
 have HW1:Hid (∀ (w':World),(prsF S.x).2.2≠0→RnW w0 w' rb E { S with ft:=dropF S.ft (prsF S.x).2.2 }→WhPost w0 rb E S (.returned (.bool true)) w'):=Lib.hid fun w' hf hr=>by
  unfold WhPost
  rw [if_neg hf]
  exact ⟨rfl,hr⟩
 obtain ⟨x,hx⟩:∃ x,x=S.x:=⟨_,rfl⟩
 obtain ⟨R,hR⟩:∃ R,R=prsF S.x:=⟨_,rfl⟩
 rw [← hR] at HP hwh hsz hpl HW0 HW1
 rw [← hx] at hwh hn hsm hrd hpl HW0
 obtain ⟨g,y,f⟩:=R
 simp only at hwh hsz hpl HW0 HW1
 have HH:=Lib.hid h
 have HPV:=Lib.hid hpv
 have HRD:=Lib.hid hrd
 have HN:=Lib.hid hn
 have hgo:g.opts.length≤1000000:=by omega
 obtain ⟨q,hq⟩:∃ q,q=y.length:=⟨_,rfl⟩
 have HQ:=Lib.hid hq
 rw [← hq] at hwh HW0
 clear h hpv hrd hR hn hq hpl hx
 by_cases hf:f=0
 ·subst hf
  have hwh2:=hwh rfl
  have hsz2:=hsz rfl
  clear hwh hsz
  obtain ⟨s,hs⟩:∃ s,s=20+g.opts.length:=⟨_,rfl⟩
  rw [← hs] at hwh2 hsz2 HW0
  have HSZ:=Lib.hid hsz2
  clear hs hsz2 HW1
  go_enter Tryz.func68,Tryz.ntmps68
  go_wp2_with fail
  refine HP.out.mono ?_
  rintro e w1 ⟨vo,vp,rfl,ho,hp,hdj,hb1⟩
  obtain ⟨Ao,co,rfl,_⟩:=ho.form
  obtain ⟨Ap,cp,rfl,_⟩:=hp.form
  obtain ⟨w2,hst,hb2,hb12,hk2⟩:=hd_var hb1 hb1.size g Ao g.opts.length co
  have HB2:=Lib.hid hb2
  have HO2:=Lib.hid (own_base (Row8.below ho hb12) (HH.out.upd.size))
  obtain ⟨gh,hgh⟩:∃ k,k=w1.heap.size:=⟨_,rfl⟩
  rw [← hgh] at hk2
  have HG:=Lib.hid hgh
  have HK2:=Lib.hid hk2
  simp only
  rw [show (List.length y)=q from HQ.out.symm]
  clear ho hp hdj hb1 hb2 hb12 hk2 HP hgh
  go_upto_region 4 with (fail)
  rw [← HG.out]
  clear hst l4
  have HCC:=Lib.hid (show RnW w0 w2 rb E S∧Blk w2 gh 76 (hdC g (.slice Ao g.opts.length co))∧Row8 w0.heap.size w2 (.slice Ao g.opts.length co) g.opts from ⟨HH.out.below HB2.out,HK2.out,HO2.out⟩)
  have hcl:∀ a b:World,(RnW w0 a rb E S∧Blk a gh 76 (hdC g (.slice Ao g.opts.length co))∧Row8 w0.heap.size a (.slice Ao g.opts.length co) g.opts)→Below a.heap.size a b→(RnW w0 b rb E S∧Blk b gh 76 (hdC g (.slice Ao g.opts.length co))∧Row8 w0.heap.size b (.slice Ao g.opts.length co) g.opts):=fun a b h k=>⟨h.1.below k,h.2.1.below k h.2.1.lt,h.2.2.below k⟩
  have HCL:=Lib.hid hcl
  clear hcl
  have hcc:s+q≤c:=by have:=HN.out; omega
  refine wp_region_mix [(true,13),(false,7)] 4 (by kernel_rfl) (WhC w0 rb E S gh g (.slice Ao g.opts.length co)) (fun _ _ h k=>h.below k) (by kernel_rfl) (WhC.of HCC.out.1 HCC.out.2.1 HCC.out.2.2) (a':=?_) (fun wz hz=>?_) fun wz hz=>?_
  rotate_left
  ·obtain ⟨⟨hv',h',hz0⟩,hz1,hz2⟩:=hz
   have l76:=fun (d:Nat) (os:Array Obj)=>(hd_load (hz1.below (below_regrown wz d os) hz1.lt) rfl:(Instr.loadAt 76 (.pointer (some ⟨gh,0,none⟩))).run Tryz.prog (grow (redrawn wz d) os)=.ok (hdV g (.slice Ao g.opts.length co)) (grow (redrawn wz d) os))
   have l4:=fun (d:Nat) (os:Array Obj)=>ld_bys (cell_regrown (show wz.cell? ⟨rb,4,none⟩=some (.slice A n c) by rw [← HPV.out]; exact hz0.blk.cell 4) d os)
   have q28:=fun (d:Nat) (os:Array Obj)=>Calls.regrown_of (size_any g (.slice Ao g.opts.length co) _ (grow (redrawn wz d) os) ((hz2.below (below_regrown wz d os)).sl) hgo)
   rw [HSZ.out] at q28
   simp only [hdV] at q28 l76
   have hcut:=fun wx=>sl_hi A n c wx (s+q) hcc
   clear hz0 hz1 hz2
   simp only [pick_nil,pick_tt,pick_ft,List.take_succ_cons,List.take_zero,List.drop_succ_cons,List.drop_zero,List.append_nil]
   repeat (go_big_quiet_step (with_reducible exact q28 _ _))
   refine wpQuiet_nil ?_
   rfl
  simp only [pick_nil,pick_ff,pick_tf,List.take_succ_cons,List.take_zero,List.drop_succ_cons,List.drop_zero,List.append_nil]
  have HZ:=Lib.hid (HCL.out _ _ HCC.out hz)
  have HBZ:=Lib.hid (HB2.out.trans (hz.mono HB2.out.size))
  clear hz
  refine wpMix_step (WhC.of HZ.out.1 HZ.out.2.1 HZ.out.2.2) fun wa ha=>?_
  have HA:=Lib.hid (HCL.out _ _ HZ.out ha)
  have HBA:=Lib.hid (HBZ.out.trans (ha.mono HBZ.out.size))
  obtain ⟨e1,e2,hrt⟩:=(cut_hi (cap:=c) (k:=s+q) (by rw [HN.out]; exact HRD.out wa HBA.out) hwh2 hcc).len
  rw [← e1] at hrt
  have HCN:=Lib.hid (clone8_any A (s+q) c (bytesV (x.take (s+q))) _ wa hrt (bytesV_one _) (by omega))
  have HE1:=Lib.hid e1
  clear e1 e2 hrt ha
  go_wp2_with fail
  refine HCN.out.mono ?_
  rintro e wb ⟨v4,rfl,h4,hb4⟩
  obtain ⟨A4,c4,rfl,_⟩:=own_form h4
  have HB:=Lib.hid (HCL.out _ _ HA.out hb4)
  have H4:=Lib.hid (own_base h4 HA.out.1.upd.size)
  clear h4 hb4 HCN
  go_wp2_with fail
  refine wpMix_step (WhC.of HB.out.1 HB.out.2.1 HB.out.2.2) fun wc hc=>?_
  have HC:=Lib.hid (HCL.out _ _ HB.out hc)
  have H5:=Lib.hid (own_below H4.out hc)
  clear hc
  go_wp2_with fail
  refine wpMix_step (WhC.of HC.out.1 HC.out.2.1 HC.out.2.2) fun wd hd=>?_
  have HD:=Lib.hid (HCL.out _ _ HC.out hd)
  have H6:=Lib.hid (own_below H5.out hd)
  clear hd
  go_wp2_with fail
  refine wpMix_step (WhC.of HD.out.1 HD.out.2.1 HD.out.2.2) fun we he=>?_
  have HE:=Lib.hid (HCL.out _ _ HD.out he)
  have H7:=Lib.hid (own_below H6.out he)
  clear he
  have s5:=st_hdr HE.out.1.blk (rnA_size E S) g Ao g.opts.length co
  have h6:=HE.out.1.many (l:=(hdC g (.slice Ao g.opts.length co)).toList) (o:=5) (S':={ S with hv:=.slice Ao g.opts.length co,h:=g }) (hdr_many E S g _) HE.out.1.pk HE.out.2.2 HE.out.1.lc HE.out.1.ou rfl
  have h5:=own_many (by decide) (hdC g (.slice Ao g.opts.length co)).toList 5 _ _ HE.out.1.blk H7.out
  have h8:=blk_far_setCells (k:=gh) (fun e=>by have:=HE.out.2.1; have k2:=HE.out.1.blk; unfold Blk at this k2; rw [e,k2] at this; injection this with this; injection this with _ this; revert this; decide) (hdC g (.slice Ao g.opts.length co)).toList 5 _ HE.out.2.1
  obtain ⟨w6,hw6⟩:∃ w6,w6=we.setCells rb 5 (hdC g (.slice Ao g.opts.length co)).toList:=⟨_,rfl⟩
  rw [← hw6] at s5 h6 h5 h8
  unfold hdV at s5
  have H8:=Lib.hid h6
  have H9:=Lib.hid h5
  have H10:=Lib.hid h8
  clear h5 h6 h8 hw6
  go_wp2_with fail
  refine wpMix_step (show WhC w0 rb E S gh g (.slice Ao g.opts.length co) w6 from ⟨⟨_,_,H8.out⟩,H10.out,H8.out.hv⟩) fun wf hf=>?_
  have h6:=H8.out.below hf
  have h5:=own_below H9.out hf
  have s4:=st_bys (h6.blk.cell 4) (h6.blk.frozen 4) A4 (s+q) c4
  have h7:=h6.put (i:=4) (u:=.slice A4 (s+q) c4) (S':={ S with cl:=true,pv:=.slice A4 (s+q) c4,x:=x.take (s+q),hv:=.slice Ao g.opts.length co,h:=g }) rfl (show Row8 _ _ _ _ by unfold Row8; rw [← HE1.out]; exact h5) h6.hv h6.lc h6.ou rfl
  have HF:=Lib.hid (HW0.out _ _ _ (by trivial) h7)
  clear h5 h6 h7 hf s5
  go_wp2_with fail
  refine wpMix_plain ?_
  go_wp2_with fail
  go_ret
  exact HF.out
 ·have hfb:((f:Int) != 0)=true:=by rw [bne_iff_ne]; omega
  have hfb2:(f != 0)=true:=by rw [bne_iff_ne]; exact hf
  have HD:=Lib.hid (fun wx (hb:Below w.heap.size w wx)=>fdrop_any (HH.out.below hb) f)
  clear hwh hsz HW0
  go_enter Tryz.func68,Tryz.ntmps68
  go_wp2_with fail
  refine HP.out.mono ?_
  rintro e w1 ⟨vo,vp,rfl,ho,hp,hdj,hb1⟩
  obtain ⟨Ao,co,rfl,_⟩:=ho.form
  obtain ⟨w2,hst,hb2,hb12,hk2⟩:=hd_var hb1 hb1.size g Ao g.opts.length co
  have HD2:=Lib.hid (HD.out w2 hb2)
  simp only
  clear ho hp hdj hb1 hb2 hb12 hk2 HP
  go_wp2_with fail
  refine HD2.out.mono ?_
  rintro e w3 ⟨rfl,hw3⟩
  have HW:=Lib.hid hw3
  clear hw3
  go_wp2_with fail
  go_ret
  exact HW1.out w3 hf HW.out
end
end Go.Proofs.YthlommalbkhcjaaGreat
