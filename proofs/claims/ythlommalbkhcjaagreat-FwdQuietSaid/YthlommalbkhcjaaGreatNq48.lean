/- Change of a checksum. -/
import Derived.Test.YthlommalbkhcjaaGreatNq47
import Derived.Test.YthlommalbkhcjaaGreatNq16
namespace Go.Proofs.YthlommalbkhcjaaGreat
open Go.RowKit Go.Sort Go.BigFrame
theorem rep_small (x:By):(replyF x).1.length≤65535:=by
 unfold replyF
 split
 ·exact Nat.zero_le _
 split
 ·exact Nat.zero_le _
 rename_i a1 a2
 have he:echoF x=true:=by simpa using a2
 have hl:=reply_len he
 show (bytesF _ _).length≤_
 rw [bytesF_len,icB_len]
 show 20+0+(8+(icOf (prsF x).2.1).1.body.length)≤65535
 omega
section
variable {w0 w wx wy:World} {rb:Nat} {E:Re} {S:Rs} {pk:Nat→Nat→Int × Int}
def HrPost (w0:World) (rb:Nat) (E:Re) (S:Rs) (pk:Nat→Nat→Int × Int) (e:Ending) (w':World):Prop :=
 if S.kd=1 then FtPost w0 rb E S (fwHere pk E.mtus E.own S.h S.x S.ft) S.tok e w' else e=.returned (.bool false)∧RnW w0 w' rb E S
theorem PkR.row (h:RnW w0 w rb E S) (hcl:S.cl=true):Row8 w0.heap.size w S.pv S.x:=by
 have:=h.pk
 unfold PkR at this
 rw [hcl] at this
 exact this
set_option maxRecDepth 100000 in
set_option maxHeartbeats 8000000 in
attribute [-go_sem] Instr.storeAt Instr.loadAt in
theorem fhere_any (H:TbE w0 E pk) (hp0:PkPos pk) (h:RnW w0 w rb E S) (hcl:S.cl=true) (hsm:S.x.length≤100000) (hl:S.ft.out.length≤100000) (hl2:S.ft.loc.length≤100000) :
  Calls Tryz.prog 70 #[.pointer (some ⟨rb,0,none⟩)] w (HrPost w0 rb E S pk):=by
 have l16:=ld_wkd (w:=w) (a:=⟨rb,16,none⟩) (z:=S.kd) (h.blk.cell 16)
 by_cases k1:S.kd=1
 ·have hP:∀ e w',FtPost w0 rb E S (fwHere pk E.mtus E.own S.h S.x S.ft) S.tok e w'→HrPost w0 rb E S pk e w':=fun e w' hh=>by
   unfold HrPost
   rw [if_pos k1]
   exact hh
  have HP:=Lib.hid hP
  rw [k1] at l16
  obtain ⟨A,n,c,hpv,hn,hc,_⟩:=h.pkt
  have HH:=Lib.hid h
  have HPV:=Lib.hid hpv
  have HN:=Lib.hid hn
  obtain ⟨F,hF⟩:∃ F,F=fwHere pk E.mtus E.own S.h S.x S.ft:=⟨_,rfl⟩
  rw [← hF] at HP
  unfold fwHere at hF
  have HEC:=Lib.hid (fun wx (hx:RnW w0 wx rb E S)=>echo_any A n c S.x _ wx (hx.pkA hpv) hn hc (by omega))
  have HRP:=Lib.hid (fun wx (hx:RnW w0 wx rb E S)=>reply_any A n c S.x _ wx (hx.pkA hpv) hn hc (by omega))
  have HSN:=Lib.hid (fun wx (hx:RnW w0 wx rb E S) (A:Option Addr) (n c:Nat) (y:By) (hy:Row8 w0.heap.size wx (.slice A n c) y) (hy2:y.length≤100000)=>fsend_any H hp0 hx hy hy2 hl hl2)
  have HRW:=Lib.hid (fun wx (hx:RnW w0 wx rb E S)=>PkR.row hx hcl)
  have hrs:=rep_small S.x
  obtain ⟨Y,hY⟩:∃ Y,Y=replyF S.x:=⟨_,rfl⟩
  rw [← hY] at HRP hF hrs
  obtain ⟨y,ye⟩:=Y
  simp only at HRP hF hrs
  have HRS:=Lib.hid hrs
  obtain ⟨ec,hec⟩:∃ b,b=echoF S.x:=⟨_,rfl⟩
  rw [← hec] at HEC hF
  obtain ⟨dt,hdt⟩:∃ z,z=S.h.dst:=⟨_,rfl⟩
  obtain ⟨ow,how⟩:∃ z,z=E.own:=⟨_,rfl⟩
  rw [← hdt,← how] at hF
  have HDT:=Lib.hid hdt
  have HOW:=Lib.hid how
  clear hP hpv hn hc hY hec hdt how h k1 hrs H hsm hl hl2
  have key:∀ (b:Bool),((dt:Int) == (ow:Int))=b→Calls Tryz.prog 70 #[.pointer (some ⟨rb,0,none⟩)] w (HrPost w0 rb E S pk):=by
   intro b hb
   have hF2:F=if (b && ec)=true then fwSend pk E.mtus y S.ft else { S.ft with loc:=[S.x] }:=by
    rw [hF]
    have:(dt=ow∧ec=true)=((b && ec)=true):=by
     rw [← hb,Bool.and_eq_true,beq_iff_eq]
     congr 1
     exact propext ⟨fun e=>by rw [e],fun e=>by omega⟩
    by_cases hq:dt=ow∧ec=true
    ·rw [if_pos hq,if_pos (this ▸ hq)]
    ·rw [if_neg hq,if_neg (this ▸ hq)]
   have HF:=Lib.hid hF2
   clear hF hF2
   go_enter Tryz.func70,Tryz.ntmps70
   go_upto_region 3 with (fail)
   clear l16
   obtain ⟨g,hg⟩:∃ g,g=(b && ec):=⟨_,rfl⟩
   rw [← hg] at HF
   have HG:=Lib.hid hg
   clear hg
   refine wp_region_stages [(true,17)] (by kernel_rfl) (by kernel_rfl) fun wz hz hz2=>?_
   have HZ:=Lib.hid (HH.out.below hz)
   clear hz hz2
   have l14:=fun (d:Nat) (os:Array Obj)=>ld_adr (cell_regrown (show wz.cell? ⟨rb,14,none⟩=some (.int .u32 (dt:Int)) by rw [HDT.out]; exact HZ.out.blk.cell 14) d os)
   have l1:=fun (d:Nat) (os:Array Obj)=>ld_adr (cell_regrown (show wz.cell? ⟨rb,1,none⟩=some (.int .u32 (ow:Int)) by rw [HOW.out]; exact HZ.out.blk.cell 1) d os)
   have l4:=fun (d:Nat) (os:Array Obj)=>ld_bys (cell_regrown (show wz.cell? ⟨rb,4,none⟩=some (.slice A n c) by rw [← HPV.out]; exact HZ.out.blk.cell 4) d os)
   have qc:=fun (d:Nat) (os:Array Obj)=>Calls.regrown_of (HEC.out (grow (redrawn wz d) os) (HZ.out.below (below_regrown wz d os)))
   refine wpSt_q ?_
   simp only [List.take_succ_cons,List.take_zero,List.drop_succ_cons,List.drop_zero]
   cases b with
   | false =>
     repeat (go_big_quiet_step (with_reducible exact qc _ _))
     refine wpQuiet_nil ?_
     intro _ hw'
     obtain ⟨⟨dq,osq⟩,hw''⟩:=hw'
     subst hw''
     have HB:=Lib.hid (HZ.out.below (below_regrown wz dq osq))
     clear l14 l1 l4 qc
     generalize grow (redrawn wz dq) osq=wb at HB ⊢
     refine wpSt_end ?_
     have l4:=ld_bys (show wb.cell? ⟨rb,4,none⟩=some (.slice A n c) by rw [← HPV.out]; exact HB.out.blk.cell 4)
     go_upto_region 6 with (fail)
     have hp2:F={ S.ft with loc:=[S.x] }:=by rw [HF.out,HG.out]; rfl
     have HF2:=Lib.hid hp2
     have hb1:=(Below.refl wb.heap.size wb).alloc (Nat.le_refl _) (.cells #[.slice A n c] 61)
     have ho1:=World.ownsRow_lit (base:=w0.heap.size) (e:=61) (size:=1) wb #[.slice A n c] 1 HB.out.upd.size (by decide) rfl
     obtain ⟨w1,hw1⟩:∃ w1,w1=wb.alloc (.cells #[.slice A n c] 61):=⟨_,rfl⟩
     rw [← hw1] at hb1 ho1
     have h1:=HB.out.below hb1
     have hr1:=HRW.out w1 h1
     have hl1:Rows8 w0.heap.size w1 (.slice (some ⟨wb.heap.size,0,none⟩) 1 1) [S.x]:=⟨[.slice A n c],ho1,rfl,fun k x hx=>by
      match k,hx with
      | 0,hx =>
        injection hx with hx
        subst hx
        exact ⟨_,rfl,by rw [← HPV.out]; exact hr1⟩⟩
     have s20:=st_rows (h1.blk.cell 20) (h1.blk.frozen 20) (some ⟨wb.heap.size,0,none⟩) 1 1
     have h2:=h1.put (i:=20) (u:=.slice (some ⟨wb.heap.size,0,none⟩) 1 1) (S':={ S with lv:=.slice (some ⟨wb.heap.size,0,none⟩) 1 1,ft:={ S.ft with loc:=[S.x] } }) rfl h1.pk h1.hv hl1 h1.ou rfl
     have H2:=Lib.hid h2
     rw [hw1] at s20
     clear hp2 hb1 ho1 h1 hr1 hl1 h2
     go_wp2_with fail
     go_ret
     refine HP.out _ _ ⟨rfl,.slice (some ⟨wb.heap.size,0,none⟩) 1 1,S.ov,?_⟩
     rw [HF2.out]
     have:=H2.out
     rw [hw1] at this
     exact this
   | true =>
     repeat (go_big_quiet_step (with_reducible exact qc _ _))
     refine wpQuiet_nil ?_
     intro _ hw'
     obtain ⟨⟨dq,osq⟩,hw''⟩:=hw'
     subst hw''
     have HB:=Lib.hid (HZ.out.below (below_regrown wz dq osq))
     clear l14 l1 l4 qc
     generalize grow (redrawn wz dq) osq=wb at HB ⊢
     refine wpSt_end ?_
     have l4:=ld_bys (show wb.cell? ⟨rb,4,none⟩=some (.slice A n c) by rw [← HPV.out]; exact HB.out.blk.cell 4)
     cases ec with
     | false =>
       go_upto_region 6 with (fail)
       have hp2:F={ S.ft with loc:=[S.x] }:=by rw [HF.out,HG.out]; rfl
       have HF2:=Lib.hid hp2
       have hb1:=(Below.refl wb.heap.size wb).alloc (Nat.le_refl _) (.cells #[.slice A n c] 61)
       have ho1:=World.ownsRow_lit (base:=w0.heap.size) (e:=61) (size:=1) wb #[.slice A n c] 1 HB.out.upd.size (by decide) rfl
       obtain ⟨w1,hw1⟩:∃ w1,w1=wb.alloc (.cells #[.slice A n c] 61):=⟨_,rfl⟩
       rw [← hw1] at hb1 ho1
       have h1:=HB.out.below hb1
       have hr1:=HRW.out w1 h1
       have hl1:Rows8 w0.heap.size w1 (.slice (some ⟨wb.heap.size,0,none⟩) 1 1) [S.x]:=⟨[.slice A n c],ho1,rfl,fun k x hx=>by
        match k,hx with
        | 0,hx =>
          injection hx with hx
          subst hx
          exact ⟨_,rfl,by rw [← HPV.out]; exact hr1⟩⟩
       have s20:=st_rows (h1.blk.cell 20) (h1.blk.frozen 20) (some ⟨wb.heap.size,0,none⟩) 1 1
       have h2:=h1.put (i:=20) (u:=.slice (some ⟨wb.heap.size,0,none⟩) 1 1) (S':={ S with lv:=.slice (some ⟨wb.heap.size,0,none⟩) 1 1,ft:={ S.ft with loc:=[S.x] } }) rfl h1.pk h1.hv hl1 h1.ou rfl
       have H2:=Lib.hid h2
       rw [hw1] at s20
       clear hp2 hb1 ho1 h1 hr1 hl1 h2
       go_wp2_with fail
       go_ret
       refine HP.out _ _ ⟨rfl,.slice (some ⟨wb.heap.size,0,none⟩) 1 1,S.ov,?_⟩
       rw [HF2.out]
       have:=H2.out
       rw [hw1] at this
       exact this
     | true =>
       have HR:=Lib.hid (HRP.out wb HB.out)
       have hp2:F=fwSend pk E.mtus y S.ft:=by rw [HF.out,HG.out]; rfl
       have HF2:=Lib.hid hp2
       clear hp2
       go_wp2_with fail
       refine HR.out.mono ?_
       rintro e w1 ⟨v,rfl,hr,hb1⟩
       obtain ⟨Ay,cy,rfl,_⟩:=hr.form
       have HS:=Lib.hid (HSN.out w1 (HB.out.below hb1) Ay y.length cy y (own_base hr HB.out.upd.size) (by have:=HRS.out; omega))
       clear hr hb1 l4 HR
       go_wp2_with fail
       refine HS.out.mono ?_
       rintro e wc ⟨rfl,lv,ov,hw⟩
       have HF3:=Lib.hid hw
       clear hw
       go_wp2_with fail
       go_ret
       refine HP.out _ _ ⟨rfl,lv,ov,?_⟩
       rw [HF2.out]
       exact HF3.out
  exact key _ rfl
 ·have k1b:(S.kd != 1)=true:=by rw [bne_iff_ne]; exact k1
  have hP:∀ w',RnW w0 w' rb E S→HrPost w0 rb E S pk (.returned (.bool false)) w':=fun w' hh=>by
   unfold HrPost
   rw [if_neg k1]
   exact ⟨rfl,hh⟩
  have HP:=Lib.hid (hP w h)
  obtain ⟨kd,hkd⟩:∃ z,z=S.kd:=⟨_,rfl⟩
  rw [← hkd] at l16 k1b
  clear hP h k1 hkd H
  go_enter Tryz.func70,Tryz.ntmps70
  go_wp2_with fail
  go_ret
  exact HP.out
end
end Go.Proofs.YthlommalbkhcjaaGreat
namespace Go.Proofs.YthlommalbkhcjaaGreat
open Go.RowKit
theorem change_any (c m n:Nat) (w:World) (hc:c < 65536) (hm:m < 65536) (hn:n < 65536) :
  Calls Tryz.prog 171 #[.int .u16 (c:Int),.int .u16 (m:Int),.int .u16 (n:Int)] w fun e w'=>e=.returned (.int .u16 (changeF c m n:Int))∧w=w':=by
 have hA:=fun (x y:Nat) (hx:x < 65536) (hy:y < 65536)=>add_any x y w hx hy
 have l1:=addF_lt (x:=65535 - c) (y:=65535 - m) (by omega) (by omega)
 have l2:=addF_lt (x:=addF (65535 - c) (65535 - m)) (y:=n) l1 hn
 have HA:=Lib.hid hA
 have H1:=Lib.hid (not16 c hc)
 have H2:=Lib.hid (not16 m hm)
 clear hA
 go_enter Tryz.func171,Tryz.ntmps171
 go_wp2_with fail
 rw [H1.out,H2.out]
 refine (HA.out _ _ (by omega) (by omega)).mono ?_
 rintro e w' ⟨rfl,rfl⟩
 go_wp2_with fail
 refine (HA.out _ _ l1 hn).mono ?_
 rintro e w' ⟨rfl,rfl⟩
 go_wp2_with fail
 rw [not16 _ l2]
 go_ret
 exact ⟨rfl,rfl⟩
end Go.Proofs.YthlommalbkhcjaaGreat
