/- Change of a checksum. -/
import Derived.Test.YthlommalbkhcjaaGreatNm42
import Derived.Test.YthlommalbkhcjaaGreatNm03
namespace Go.Proofs.YthlommalbkhcjaaGreat
open Go.RowKit Go.Sort Go.BigFrame
theorem ld_u16s {w:World} {a:Addr} {z:Int} (hu:w.cell? a=some (.int .u16 z)):(Instr.loadAt 74 (.pointer (some a))).run Tryz.prog w=.ok (.int .u16 z) w:=by
 simp [go_sem,hu]
theorem hd_build5 (w:World) (t i s d:Int) (b:Bool):(Instr.build 76 #[(0,.int .u8 t),(1,.int .u16 i),(3,.bool b),(8,.int .u32 s),(9,.int .u32 d)]).run Tryz.prog w=.ok (.agg #[.int .u8 t,.int .u16 i,.bool false,.bool b,.bool false,.int .i64 0,.int .u8 0,.int .u8 0,.int .u32 s,.int .u32 d,.slice none 0 0]) w:=by kernel_rfl
attribute [-go_sem] Instr.storeAt Instr.loadAt in
set_option maxRecDepth 100000 in
set_option maxHeartbeats 8000000 in
theorem reply_any (A:Option Addr) (n c:Nat) (x:By) (I:Nat→Prop) (w:World) (h:Reads w I 1 A n (bytesV x)) (hn:x.length=n) (hc:n≤c) (hsm:n≤1000000) :
  Calls Tryz.prog 129 #[.slice A n c] w (BytPost w (replyF x).1 ((replyF x).2:Int)):=by
 have hpa:=parse_any A n c x I w h hn hc hsm
 have hok:=prs_ok x
 have hpl:=prs_len x
 have hfit:echoF x=true→fitsH (replyH (prsF x).1) (icB { (icOf (prsF x).2.1).1 with ty:=0 })=true:=fun he=>replyH_fits _ (by rw [icB_len]; exact reply_len he)
 have hbl:echoF x=true→(icOf (prsF x).2.1).1.body.length≤65535:=fun he=>by have:=reply_len he; omega
 have HEC:=Lib.hid (fun wx (hb:Below w.heap.size w wx)=>echo_any A n c x (fun j=>I j∧j < w.heap.size) wx (h.lt.keep (Same.ofBelow hb fun j hj=>hj.2)) hn hc hsm)
 obtain ⟨E,hE⟩:∃ E,E=replyF x:=⟨_,rfl⟩
 rw [← hE]
 unfold replyF at hE
 obtain ⟨ec,hec⟩:∃ b,b=echoF x:=⟨_,rfl⟩
 rw [← hec] at HEC hE hfit hbl
 obtain ⟨R,hR⟩:∃ R,R=prsF x:=⟨_,rfl⟩
 rw [← hR] at hpa hE hok hpl hfit hbl
 obtain ⟨g,y,f⟩:=R
 simp only at hE hok hpl hfit hbl
 obtain ⟨O,hO⟩:∃ O,O=icOf y:=⟨_,rfl⟩
 rw [← hO] at hE hfit hbl
 have HO:=Lib.hid hO
 have HPA:=Lib.hid hpa
 have HE:=Lib.hid hE
 have HOK:=Lib.hid hok
 have HFIT:=Lib.hid hfit
 have HBL:=Lib.hid hbl
 obtain ⟨q,hq⟩:∃ q,q=y.length:=⟨_,rfl⟩
 have HQ:=Lib.hid hq
 have hqs:q≤1000000:=by omega
 clear hpa hE hR h hn hc hsm hO hq hpl hok hfit hbl hec
 go_enter Tryz.func129,Tryz.ntmps129
 go_upto_region 2 with
  (go_at_call 33
   refine HPA.out.mono ?_
   rintro e w1 ⟨vo,vq,rfl,ho,hq,_,hb⟩
   obtain ⟨Ao,co,rfl,_⟩:=ho.form
   obtain ⟨Aq,cq,rfl,hcq⟩:=hq.form
   rw [show (g,y,f).2.1.length=q from HQ.out.symm] at hcq ⊢
   obtain ⟨w2,hst,hb2,hb12,hk2⟩:=hd_var hb hb.size g Ao g.opts.length co
   have HB2:=Lib.hid hb2
   have HH2:=Lib.hid hk2
   have HQ2:=Lib.hid ((hq.below hb12).reads.2)
   clear ho hq hb hb2 hb12 hk2)
 rw [show (g,y,f).2.1.length=q from HQ.out.symm] at HQ2
 by_cases c1:f≠0
 ·have hE:=HE.out
  rw [if_pos c1] at hE
  subst hE
  have b1:((f:Int) != 0)=true:=by rw [bne_iff_ne]; omega
  clear c1
  go_wp2_with fail
  go_ret2
  exact ⟨_,rfl,Row8.nil _ _,HB2.out⟩
 have b1:((f:Int) != 0)=false:=by rw [bne_eq_false_iff_eq]; omega
 have hE:=HE.out
 rw [if_neg c1] at hE
 clear c1 HE
 obtain ⟨gh,hgh⟩:∃ z,z=w1.heap.size:=⟨_,rfl⟩
 rw [← hgh] at HH2 ⊢
 clear hgh hst
 cases ec with
 | false =>
   rw [if_pos rfl] at hE
   subst hE
   go_wp2_with (go_at_call 128; refine (HEC.out _ HB2.out).mono ?_; rintro e w3 ⟨rfl,hb3⟩; have HB3:=Lib.hid (HB2.out.trans (hb3.mono HB2.out.size)); clear hb3)
   go_ret2
   exact ⟨_,rfl,Row8.nil _ _,HB3.out⟩
 | true =>
 rw [if_neg (by simp)] at hE
 have HE:=Lib.hid hE
 clear hE
 have HOF:=Lib.hid (fun wx (hb:Below w2.heap.size w2 wx)=>icof_any Aq q cq y _ wx (HQ2.out.lt.keep (Same.ofBelow hb fun j hj=>hj.2)) HQ.out.symm hcq hqs)
 rw [← HO.out] at HOF
 obtain ⟨er,her⟩:∃ z,z=O.2:=⟨_,rfl⟩
 rw [← her] at *
 go_upto_region 7 with
  (first
   | (go_at_call 128; refine (HEC.out _ HB2.out).mono ?_; rintro e w3 ⟨rfl,hb3⟩; have HB3:=Lib.hid (HB2.out.trans (hb3.mono HB2.out.size)); have HB23:=Lib.hid hb3; clear hb3)
   | (go_at_call 34
      refine (HOF.out _ HB23.out).mono ?_
      rintro e w4 ⟨v4,rfl,h4,hb4⟩
      obtain ⟨A4,c4,rfl,_⟩:=h4.form
      have hb4':=HB3.out.trans (hb4.mono HB3.out.size)
      have hh4:=HH2.out.below (HB23.out.trans (hb4.mono HB23.out.size)) HH2.out.lt
      obtain ⟨w5,hst5,hb5,hb45,hk5⟩:=ic_var hb4' hb4'.size O.1 A4 O.1.body.length c4
      have HH5:=Lib.hid (hh4.below hb45 hh4.lt)
      have HB5:=Lib.hid hb5
      have HK5:=Lib.hid hk5
      have HS5:=Lib.hid (show Sl8 w5 (fun k=>k < w4.heap.size) (.slice A4 O.1.body.length c4) O.1.body from (h4.sl.mono fun k hk=>hk.2).keep (Same.ofBelow hb45 fun k hk=>hk))
      have HNE:=Lib.hid (show gh≠w4.heap.size by have:=hh4.lt; omega)
      have HGI:=Lib.hid hb4'.size
      unfold icV
      clear h4 hb4 hb4' hh4 hb5 hb45 hk5))
 obtain ⟨gi,hgi⟩:∃ z,z=w4.heap.size:=⟨_,rfl⟩
 rw [← hgi] at HK5 HNE HGI HS5 ⊢
 clear hgi hst5
 have hs6:=st8 (HK5.out.cell 0) (HK5.out.frozen 0) 0
 obtain ⟨W6,hW6⟩:∃ W,W=w5.setCell ⟨gi,0,none⟩ (.int .u8 0):=⟨_,rfl⟩
 have hu6:=upd_set w5 gi 0 (.int .u8 0)
 obtain ⟨N,hN⟩:∃ N:Ic,N={ O.1 with ty:=0 }:=⟨_,rfl⟩
 have hnb:N.body=O.1.body:=by rw [hN]
 have K6:=Lib.hid (show Blk W6 gi 86 (icC N (.slice A4 O.1.body.length c4)) from by rw [hW6,hN]; exact HK5.out.set_ 0 _)
 rw [← hW6] at hu6 hs6
 have HB6:=Lib.hid (HB5.out.trans (hu6.below (B:=w.heap.size) (fun j (hj:j=gi)=>by have:=HGI.out; omega) HB5.out.size))
 have HH6:=Lib.hid (show Blk W6 gh 76 (hdC g (.slice Ao g.opts.length co)) from (hu6.block _ HH5.out.lt (fun (e:gh=gi)=>HNE.out e)).trans HH5.out)
 obtain ⟨bl,hbl⟩:∃ z,z=O.1.body.length:=⟨_,rfl⟩
 have HOB:=Lib.hid hbl
 have HS6:=Lib.hid (show Sl8 W6 (fun _=>True) (.slice A4 O.1.body.length c4) N.body from by
  rw [hnb]
  exact (HS5.out.keep (hu6.same fun j (hj:j=gi) hi=>by omega)).mono fun _ _=>trivial)
 have HN:=Lib.hid hN
 clear hu6 hW6 hN
 go_upto_region 8 with (fail)
 clear hs6
 have l1:=ic_load K6.out rfl
 obtain ⟨tos,hto⟩:∃ z:Int,z=(g.tos:Int):=⟨_,rfl⟩
 obtain ⟨idn,hid⟩:∃ z:Int,z=(g.id:Int):=⟨_,rfl⟩
 obtain ⟨dfb,hdf⟩:∃ z,z=g.df:=⟨_,rfl⟩
 obtain ⟨sr,hsr⟩:∃ z:Int,z=(g.src:Int):=⟨_,rfl⟩
 obtain ⟨ds,hds⟩:∃ z:Int,z=(g.dst:Int):=⟨_,rfl⟩
 have l2:=ld_u8s (show W6.cell? ⟨gh,0,none⟩=some (.int .u8 tos) by rw [hto]; exact HH6.out.cell 0)
 have l3:=ld_u16s (show W6.cell? ⟨gh,1,none⟩=some (.int .u16 idn) by rw [hid]; exact HH6.out.cell 1)
 have l4:=ld_bool (show W6.cell? ⟨gh,3,none⟩=some (.bool dfb) by rw [hdf]; exact HH6.out.cell 3)
 have l5:=ld_u32s (show W6.cell? ⟨gh,9,none⟩=some (.int .u32 ds) by rw [hds]; exact HH6.out.cell 9)
 have l6:=ld_u32s (show W6.cell? ⟨gh,8,none⟩=some (.int .u32 sr) by rw [hsr]; exact HH6.out.cell 8)
 have bd:=fun wx=>hd_build5 wx tos idn ds sr dfb
 have hsn:Calls Tryz.prog 167 #[.agg (icC N (.slice A4 O.1.body.length c4)),.agg #[.int .u8 tos,.int .u16 idn,.bool false,.bool dfb,.bool false,.int .i64 0,.int .u8 0,.int .u8 0,.int .u32 ds,.int .u32 sr,.slice none 0 0]] W6 (BytPost W6 (bytesF (replyH g) (icB N)) 0):=by
  rw [hto,hid,hdf,hsr,hds]
  exact send_any N (.slice A4 O.1.body.length c4) { hd0 with tos:=g.tos,id:=g.id,df:=g.df,src:=g.dst,dst:=g.src } (.slice none 0 0) (fun _=>True) W6 HS6.out (sl_nil _ _) (by rw [hnb]; have:=HBL.out (by trivial); omega) (replyH_ok HOK.out) (by
   have:=HFIT.out (by trivial)
   rw [HN.out]
   exact this)
 have HSN:=Lib.hid hsn
 clear hsn hto hid hdf hsr hds hnb
 go_wp2_with fail
 refine HSN.out.mono ?_
 rintro e w9 ⟨v9,rfl,h9,hb9⟩
 obtain ⟨A9,c9,rfl,_⟩:=h9.form
 have H9:=Lib.hid (own_base h9 HB6.out.size)
 have HB9:=Lib.hid (HB6.out.trans (hb9.mono HB6.out.size))
 clear h9 hb9
 go_wp2_with fail
 go_ret2
 rw [HE.out]
 refine ⟨_,rfl,?_,HB9.out⟩
 simp only
 rw [← HN.out]
 exact H9.out
end Go.Proofs.YthlommalbkhcjaaGreat
namespace Go.Proofs.YthlommalbkhcjaaGreat
open Go.RowKit Go.Sort Go.BigFrame
theorem rep_small (x:By):(replyF x).1.length≤65535:=by
 unfold replyF
 split
 ·exact Nat.zero_le _
 split
 ·exact Nat.zero_le _
 rename_i a1 a2
 have he:echoF x=true:=by simpa using a2
 have hl:=reply_len he
 show (bytesF _ _).length≤_
 rw [bytesF_len,icB_len]
 show 20+0+(8+(icOf (prsF x).2.1).1.body.length)≤65535
 omega
section
variable {w0 w wx wy:World} {rb:Nat} {E:Re} {S:Rs} {pk:Nat→Nat→Int × Int}
def HrPost (w0:World) (rb:Nat) (E:Re) (S:Rs) (pk:Nat→Nat→Int × Int) (e:Ending) (w':World):Prop :=
 if S.kd=1 then FtPost w0 rb E S (fwHere pk E.mtus E.own S.h S.x S.ft) S.tok e w' else e=.returned (.bool false)∧RnW w0 w' rb E S
theorem PkR.row (h:RnW w0 w rb E S) (hcl:S.cl=true):Row8 w0.heap.size w S.pv S.x:=by
 have:=h.pk
 unfold PkR at this
 rw [hcl] at this
 exact this
set_option maxRecDepth 100000 in
set_option maxHeartbeats 8000000 in
attribute [-go_sem] Instr.storeAt Instr.loadAt in
theorem fhere_any (H:TbE w0 E pk) (hp0:PkPos pk) (h:RnW w0 w rb E S) (hcl:S.cl=true) (hsm:S.x.length≤100000) (hl:S.ft.out.length≤100000) (hl2:S.ft.loc.length≤100000) :
  Calls Tryz.prog 70 #[.pointer (some ⟨rb,0,none⟩)] w (HrPost w0 rb E S pk):=by
 have l16:=ld_wkd (w:=w) (a:=⟨rb,16,none⟩) (z:=S.kd) (h.blk.cell 16)
 by_cases k1:S.kd=1
 ·have hP:∀ e w',FtPost w0 rb E S (fwHere pk E.mtus E.own S.h S.x S.ft) S.tok e w'→HrPost w0 rb E S pk e w':=fun e w' hh=>by
   unfold HrPost
   rw [if_pos k1]
   exact hh
  have HP:=Lib.hid hP
  rw [k1] at l16
  obtain ⟨A,n,c,hpv,hn,hc,_⟩:=h.pkt
  have HH:=Lib.hid h
  have HPV:=Lib.hid hpv
  have HN:=Lib.hid hn
  obtain ⟨F,hF⟩:∃ F,F=fwHere pk E.mtus E.own S.h S.x S.ft:=⟨_,rfl⟩
  rw [← hF] at HP
  unfold fwHere at hF
  have HEC:=Lib.hid (fun wx (hx:RnW w0 wx rb E S)=>echo_any A n c S.x _ wx (hx.pkA hpv) hn hc (by omega))
  have HRP:=Lib.hid (fun wx (hx:RnW w0 wx rb E S)=>reply_any A n c S.x _ wx (hx.pkA hpv) hn hc (by omega))
  have HSN:=Lib.hid (fun wx (hx:RnW w0 wx rb E S) (A:Option Addr) (n c:Nat) (y:By) (hy:Row8 w0.heap.size wx (.slice A n c) y) (hy2:y.length≤100000)=>fsend_any H hp0 hx hy hy2 hl hl2)
  have HRW:=Lib.hid (fun wx (hx:RnW w0 wx rb E S)=>PkR.row hx hcl)
  have hrs:=rep_small S.x
  obtain ⟨Y,hY⟩:∃ Y,Y=replyF S.x:=⟨_,rfl⟩
  rw [← hY] at HRP hF hrs
  obtain ⟨y,ye⟩:=Y
  simp only at HRP hF hrs
  have HRS:=Lib.hid hrs
  obtain ⟨ec,hec⟩:∃ b,b=echoF S.x:=⟨_,rfl⟩
  rw [← hec] at HEC hF
  obtain ⟨dt,hdt⟩:∃ z,z=S.h.dst:=⟨_,rfl⟩
  obtain ⟨ow,how⟩:∃ z,z=E.own:=⟨_,rfl⟩
  rw [← hdt,← how] at hF
  have HDT:=Lib.hid hdt
  have HOW:=Lib.hid how
  clear hP hpv hn hc hY hec hdt how h k1 hrs H hsm hl hl2
  have key:∀ (b:Bool),((dt:Int) == (ow:Int))=b→Calls Tryz.prog 70 #[.pointer (some ⟨rb,0,none⟩)] w (HrPost w0 rb E S pk):=by
   intro b hb
   have hF2:F=if (b && ec)=true then fwSend pk E.mtus y S.ft else { S.ft with loc:=[S.x] }:=by
    rw [hF]
    have:(dt=ow∧ec=true)=((b && ec)=true):=by
     rw [← hb,Bool.and_eq_true,beq_iff_eq]
     congr 1
     exact propext ⟨fun e=>by rw [e],fun e=>by omega⟩
    by_cases hq:dt=ow∧ec=true
    ·rw [if_pos hq,if_pos (this ▸ hq)]
    ·rw [if_neg hq,if_neg (this ▸ hq)]
   have HF:=Lib.hid hF2
   clear hF hF2
   go_enter Tryz.func70,Tryz.ntmps70
   go_upto_region 3 with (fail)
   clear l16
   obtain ⟨g,hg⟩:∃ g,g=(b && ec):=⟨_,rfl⟩
   rw [← hg] at HF
   have HG:=Lib.hid hg
   clear hg
   refine wp_region_stages [(true,17)] (by kernel_rfl) (by kernel_rfl) fun wz hz hz2=>?_
   have HZ:=Lib.hid (HH.out.below hz)
   clear hz hz2
   have l14:=fun (d:Nat) (os:Array Obj)=>ld_adr (cell_regrown (show wz.cell? ⟨rb,14,none⟩=some (.int .u32 (dt:Int)) by rw [HDT.out]; exact HZ.out.blk.cell 14) d os)
   have l1:=fun (d:Nat) (os:Array Obj)=>ld_adr (cell_regrown (show wz.cell? ⟨rb,1,none⟩=some (.int .u32 (ow:Int)) by rw [HOW.out]; exact HZ.out.blk.cell 1) d os)
   have l4:=fun (d:Nat) (os:Array Obj)=>ld_bys (cell_regrown (show wz.cell? ⟨rb,4,none⟩=some (.slice A n c) by rw [← HPV.out]; exact HZ.out.blk.cell 4) d os)
   have qc:=fun (d:Nat) (os:Array Obj)=>Calls.regrown_of (HEC.out (grow (redrawn wz d) os) (HZ.out.below (below_regrown wz d os)))
   refine wpSt_q ?_
   simp only [List.take_succ_cons,List.take_zero,List.drop_succ_cons,List.drop_zero]
   cases b with
   | false =>
     repeat (go_big_quiet_step (with_reducible exact qc _ _))
     refine wpQuiet_nil ?_
     intro _ hw'
     obtain ⟨⟨dq,osq⟩,hw''⟩:=hw'
     subst hw''
     have HB:=Lib.hid (HZ.out.below (below_regrown wz dq osq))
     clear l14 l1 l4 qc
     generalize grow (redrawn wz dq) osq=wb at HB ⊢
     refine wpSt_end ?_
     have l4:=ld_bys (show wb.cell? ⟨rb,4,none⟩=some (.slice A n c) by rw [← HPV.out]; exact HB.out.blk.cell 4)
     go_upto_region 6 with (fail)
     have hp2:F={ S.ft with loc:=[S.x] }:=by rw [HF.out,HG.out]; rfl
     have HF2:=Lib.hid hp2
     have hb1:=(Below.refl wb.heap.size wb).alloc (Nat.le_refl _) (.cells #[.slice A n c] 61)
     have ho1:=World.ownsRow_lit (base:=w0.heap.size) (e:=61) (size:=1) wb #[.slice A n c] 1 HB.out.upd.size (by decide) rfl
     obtain ⟨w1,hw1⟩:∃ w1,w1=wb.alloc (.cells #[.slice A n c] 61):=⟨_,rfl⟩
     rw [← hw1] at hb1 ho1
     have h1:=HB.out.below hb1
     have hr1:=HRW.out w1 h1
     have hl1:Rows8 w0.heap.size w1 (.slice (some ⟨wb.heap.size,0,none⟩) 1 1) [S.x]:=⟨[.slice A n c],ho1,rfl,fun k x hx=>by
      match k,hx with
      | 0,hx =>
        injection hx with hx
        subst hx
        exact ⟨_,rfl,by rw [← HPV.out]; exact hr1⟩⟩
     have s20:=st_rows (h1.blk.cell 20) (h1.blk.frozen 20) (some ⟨wb.heap.size,0,none⟩) 1 1
     have h2:=h1.put (i:=20) (u:=.slice (some ⟨wb.heap.size,0,none⟩) 1 1) (S':={ S with lv:=.slice (some ⟨wb.heap.size,0,none⟩) 1 1,ft:={ S.ft with loc:=[S.x] } }) rfl h1.pk h1.hv hl1 h1.ou rfl
     have H2:=Lib.hid h2
     rw [hw1] at s20
     clear hp2 hb1 ho1 h1 hr1 hl1 h2
     go_wp2_with fail
     go_ret
     refine HP.out _ _ ⟨rfl,.slice (some ⟨wb.heap.size,0,none⟩) 1 1,S.ov,?_⟩
     rw [HF2.out]
     have:=H2.out
     rw [hw1] at this
     exact this
   | true =>
     repeat (go_big_quiet_step (with_reducible exact qc _ _))
     refine wpQuiet_nil ?_
     intro _ hw'
     obtain ⟨⟨dq,osq⟩,hw''⟩:=hw'
     subst hw''
     have HB:=Lib.hid (HZ.out.below (below_regrown wz dq osq))
     clear l14 l1 l4 qc
     generalize grow (redrawn wz dq) osq=wb at HB ⊢
     refine wpSt_end ?_
     have l4:=ld_bys (show wb.cell? ⟨rb,4,none⟩=some (.slice A n c) by rw [← HPV.out]; exact HB.out.blk.cell 4)
     cases ec with
     | false =>
       go_upto_region 6 with (fail)
       have hp2:F={ S.ft with loc:=[S.x] }:=by rw [HF.out,HG.out]; rfl
       have HF2:=Lib.hid hp2
       have hb1:=(Below.refl wb.heap.size wb).alloc (Nat.le_refl _) (.cells #[.slice A n c] 61)
       have ho1:=World.ownsRow_lit (base:=w0.heap.size) (e:=61) (size:=1) wb #[.slice A n c] 1 HB.out.upd.size (by decide) rfl
       obtain ⟨w1,hw1⟩:∃ w1,w1=wb.alloc (.cells #[.slice A n c] 61):=⟨_,rfl⟩
       rw [← hw1] at hb1 ho1
       have h1:=HB.out.below hb1
       have hr1:=HRW.out w1 h1
       have hl1:Rows8 w0.heap.size w1 (.slice (some ⟨wb.heap.size,0,none⟩) 1 1) [S.x]:=⟨[.slice A n c],ho1,rfl,fun k x hx=>by
        match k,hx with
        | 0,hx =>
          injection hx with hx
          subst hx
          exact ⟨_,rfl,by rw [← HPV.out]; exact hr1⟩⟩
       have s20:=st_rows (h1.blk.cell 20) (h1.blk.frozen 20) (some ⟨wb.heap.size,0,none⟩) 1 1
       have h2:=h1.put (i:=20) (u:=.slice (some ⟨wb.heap.size,0,none⟩) 1 1) (S':={ S with lv:=.slice (some ⟨wb.heap.size,0,none⟩) 1 1,ft:={ S.ft with loc:=[S.x] } }) rfl h1.pk h1.hv hl1 h1.ou rfl
       have H2:=Lib.hid h2
       rw [hw1] at s20
       clear hp2 hb1 ho1 h1 hr1 hl1 h2
       go_wp2_with fail
       go_ret
       refine HP.out _ _ ⟨rfl,.slice (some ⟨wb.heap.size,0,none⟩) 1 1,S.ov,?_⟩
       rw [HF2.out]
       have:=H2.out
       rw [hw1] at this
       exact this
     | true =>
       have HR:=Lib.hid (HRP.out wb HB.out)
       have hp2:F=fwSend pk E.mtus y S.ft:=by rw [HF.out,HG.out]; rfl
       have HF2:=Lib.hid hp2
       clear hp2
       go_wp2_with fail
       refine HR.out.mono ?_
       rintro e w1 ⟨v,rfl,hr,hb1⟩
       obtain ⟨Ay,cy,rfl,_⟩:=hr.form
       have HS:=Lib.hid (HSN.out w1 (HB.out.below hb1) Ay y.length cy y (own_base hr HB.out.upd.size) (by have:=HRS.out; omega))
       clear hr hb1 l4 HR
       go_wp2_with fail
       refine HS.out.mono ?_
       rintro e wc ⟨rfl,lv,ov,hw⟩
       have HF3:=Lib.hid hw
       clear hw
       go_wp2_with fail
       go_ret
       refine HP.out _ _ ⟨rfl,lv,ov,?_⟩
       rw [HF2.out]
       exact HF3.out
  exact key _ rfl
 ·have k1b:(S.kd != 1)=true:=by rw [bne_iff_ne]; exact k1
  have hP:∀ w',RnW w0 w' rb E S→HrPost w0 rb E S pk (.returned (.bool false)) w':=fun w' hh=>by
   unfold HrPost
   rw [if_neg k1]
   exact ⟨rfl,hh⟩
  have HP:=Lib.hid (hP w h)
  obtain ⟨kd,hkd⟩:∃ z,z=S.kd:=⟨_,rfl⟩
  rw [← hkd] at l16 k1b
  clear hP h k1 hkd H
  go_enter Tryz.func70,Tryz.ntmps70
  go_wp2_with fail
  go_ret
  exact HP.out
end
end Go.Proofs.YthlommalbkhcjaaGreat
namespace Go.Proofs.YthlommalbkhcjaaGreat
open Go.RowKit
theorem change_any (c m n:Nat) (w:World) (hc:c < 65536) (hm:m < 65536) (hn:n < 65536) :
  Calls Tryz.prog 171 #[.int .u16 (c:Int),.int .u16 (m:Int),.int .u16 (n:Int)] w fun e w'=>e=.returned (.int .u16 (changeF c m n:Int))∧w=w':=by
 have hA:=fun (x y:Nat) (hx:x < 65536) (hy:y < 65536)=>add_any x y w hx hy
 have l1:=addF_lt (x:=65535 - c) (y:=65535 - m) (by omega) (by omega)
 have l2:=addF_lt (x:=addF (65535 - c) (65535 - m)) (y:=n) l1 hn
 have HA:=Lib.hid hA
 have H1:=Lib.hid (not16 c hc)
 have H2:=Lib.hid (not16 m hm)
 clear hA
 go_enter Tryz.func171,Tryz.ntmps171
 go_wp2_with fail
 rw [H1.out,H2.out]
 refine (HA.out _ _ (by omega) (by omega)).mono ?_
 rintro e w' ⟨rfl,rfl⟩
 go_wp2_with fail
 refine (HA.out _ _ l1 hn).mono ?_
 rintro e w' ⟨rfl,rfl⟩
 go_wp2_with fail
 rw [not16 _ l2]
 go_ret
 exact ⟨rfl,rfl⟩
end Go.Proofs.YthlommalbkhcjaaGreat
