/- Layer 18: FwdQuiet. -/
import Derived.Test.YthlommalbkhcjaaGreatNq53
import Derived.Test.YthlommalbkhcjaaGreatNq51
import Derived.Test.YthlommalbkhcjaaGreatNq44
import Derived.Deep.CutRange
import Derived.Deep.CutBlock
import Derived.Deep.LoopGhost
namespace Go.Proofs.YthlommalbkhcjaaGreat
open Go.RowKit Go.Sort Go.BigFrame
theorem row8_rd {B:Nat} {w:World} {A:Option Addr} {n c:Nat} {x:By} (h:Row8 B w (.slice A n c) x):x.length=n∧n≤c∧Reads w (fun k=>B≤k∧k < w.heap.size) 1 A n (bytesV x):=by
 obtain ⟨e,hr⟩:=h.reads
 obtain ⟨A1,c1,e1,hc⟩:=h.form
 injection e1 with e1 e2 e3
 subst e1 e2 e3
 exact ⟨rfl,hc,hr⟩
theorem asks_of {q:AskM} {T:TT} (hm:mayQ q=true) (hl:q.mtus.length=q.nm):Asks (pkF (wkL q.rts) T) q.mtus:=⟨pk_pos _ _,(may_mtus hm hl).2⟩
set_option maxRecDepth 100000 in
set_option maxHeartbeats 16000000 in
attribute [-go_sem] Instr.storeAt Instr.loadAt in
theorem fwdquiet_any (q:AskM) (A:Option Addr) (n c:Nat) (x:By) (w:World) (hq:AskRd w q) (hx:Reads w (fun k=>k < w.heap.size) 1 A n (bytesV x)) (hn:x.length=n) (hc:n≤c) :
  Calls Tryz.prog 4 #[.agg (askC q),.slice A n c] w fun e w'=>e=.returned (.bool true)∧Below w.heap.size w w':=by
 obtain ⟨W,hW⟩:∃ Z,Z=w.alloc (.cells (askC q) 60):=⟨_,rfl⟩
 have hbW:Below w.heap.size w W:=by rw [hW]; exact (Below.refl _ _).alloc (Nat.le_refl _) _
 have hkW:Blk W w.heap.size 60 (askC q):=by rw [hW]; exact Blk.new w _ _
 obtain ⟨ga,hga⟩:∃ g,g=w.heap.size:=⟨_,rfl⟩
 rw [← hga] at hkW
 have HK:=Lib.hid (fun wx (hb:Below W.heap.size W wx)=>hkW.below hb hkW.lt)
 have hld:=fun wx (hb:Below W.heap.size W wx)=>(stc_load Tryz.underlying60 rfl ask_info (HK.out wx hb) rfl:(Instr.loadAt 60 (.pointer (some ⟨ga,0,none⟩))).run Tryz.prog wx=.ok (.agg (askC q)) wx)
 have HLD:=Lib.hid hld
 have HKN:=Lib.hid (fun wx=>known18_any wx)
 have HFW:=Lib.hid (few18_any q W)
 have HMY:=Lib.hid (fun wx (hb:Below W.heap.size W wx)=>may18_any q (fun k=>k < w.heap.size) wx (hq.md.keep (Same.ofBelow (hbW.trans (hb.mono hbW.size)) fun k hk=>hk)) hq.ml)
 have hfq:fewQ q=true→q.nr≤40∧q.nm≤20∧0≤q.tok∧q.tok≤64:=fun h=>by
  unfold fewQ at h
  simp only [Bool.and_eq_true,decide_eq_true_eq] at h
  exact ⟨h.1,h.2.1,h.2.2.1,h.2.2.2⟩
 have HFQ:=Lib.hid hfq
 have HQ:=Lib.hid hq
 have HX:=Lib.hid hx
 have HN:=Lib.hid hn
 have HC:=Lib.hid hc
 have HBW:=Lib.hid hbW
 have HW:=Lib.hid hW
 have HGA:=Lib.hid hga
 have HMQ:=Lib.hid (fun h:mayQ q=true=>may_mtus h hq.ml)
 obtain ⟨fb,hfb⟩:∃ b,b=fewQ q:=⟨_,rfl⟩
 obtain ⟨mb,hmb⟩:∃ b,b=mayQ q:=⟨_,rfl⟩
 rw [← hfb] at HFW HFQ
 rw [← hmb] at HMY HMQ
 have HMB:=Lib.hid hmb
 have lw:=hld W (Below.refl _ _)
 clear hld hfq hq hx hn hc hbW hW hkW hga hfb hmb
 cases fb with
 | false =>
   clear HMY HFQ HMQ HMB
   go_enter Tryz.func4,Tryz.ntmps4
   go_upto_region 1 with (fail)
   rw [← HW.out,← HGA.out]
   go_wp2_with fail
   refine HFW.out.mono ?_
   rintro e w1 ⟨rfl,hb1⟩
   have HB1:=Lib.hid (HBW.out.trans (hb1.mono HBW.out.size))
   clear hb1 lw
   go_wp2_with fail
   refine (HKN.out w1).mono ?_
   rintro e w2 ⟨rfl,hb2⟩
   have HB2:=Lib.hid (HB1.out.trans (hb2.mono HB1.out.size))
   clear hb2
   go_wp2_with fail
   go_ret
   exact ⟨rfl,HB2.out⟩
 | true =>
 obtain ⟨f1,f2,f3,f4⟩:=HFQ.out rfl
 have HF:=Lib.hid (⟨f1,f2,f3,f4⟩:q.nr≤40∧q.nm≤20∧0≤q.tok∧q.tok≤64)
 have HMY:=Lib.hid (fun wx hb=>HMY.out wx hb (by have:=HF.out; omega))
 clear f1 f2 f3 f4 HFQ
 cases mb with
 | false =>
   go_enter Tryz.func4,Tryz.ntmps4
   go_upto_region 1 with (fail)
   rw [← HW.out,← HGA.out]
   go_wp2_with fail
   refine HFW.out.mono ?_
   rintro e w1 ⟨rfl,hb1⟩
   have l1:=HLD.out w1 hb1
   have HM1:=Lib.hid (HMY.out w1 hb1)
   have HB1:=Lib.hid (HBW.out.trans (hb1.mono HBW.out.size))
   clear hb1 lw
   go_wp2_with fail
   refine HM1.out.mono ?_
   rintro e w2 ⟨rfl,hb2⟩
   have HB2:=Lib.hid (HB1.out.trans (hb2.mono HB1.out.size))
   clear hb2 l1
   go_wp2_with fail
   refine (HKN.out w2).mono ?_
   rintro e w3 ⟨rfl,hb3⟩
   have HB3:=Lib.hid (HB2.out.trans (hb3.mono HB2.out.size))
   clear hb3
   go_wp2_with fail
   go_ret
   exact ⟨rfl,HB3.out⟩
 | true =>
 by_cases h2:2048 < n
 ·have d2:decide ((n:Int) > 2048)=true:=decide_eq_true (by omega)
  clear h2
  go_enter Tryz.func4,Tryz.ntmps4
  go_upto_region 1 with (fail)
  rw [← HW.out,← HGA.out]
  go_wp2_with fail
  refine HFW.out.mono ?_
  rintro e w1 ⟨rfl,hb1⟩
  have l1:=HLD.out w1 hb1
  have HM1:=Lib.hid (HMY.out w1 hb1)
  have HB1:=Lib.hid (HBW.out.trans (hb1.mono HBW.out.size))
  clear hb1 lw
  go_wp2_with fail
  refine HM1.out.mono ?_
  rintro e w2 ⟨rfl,hb2⟩
  have HB2:=Lib.hid (HB1.out.trans (hb2.mono HB1.out.size))
  clear hb2 l1
  go_wp2_with fail
  refine (HKN.out w2).mono ?_
  rintro e w3 ⟨rfl,hb3⟩
  have HB3:=Lib.hid (HB2.out.trans (hb3.mono HB2.out.size))
  clear hb3
  go_wp2_with fail
  go_ret
  exact ⟨rfl,HB3.out⟩
 have d2:decide ((n:Int) > 2048)=false:=decide_eq_false (by omega)
 have HN2:=Lib.hid (show n≤2048 by omega)
 clear h2
 go_enter Tryz.func4,Tryz.ntmps4
 go_upto_region 1 with (fail)
 rw [← HW.out,← HGA.out]
 go_wp2_with fail
 refine HFW.out.mono ?_
 rintro e w1 ⟨rfl,hb1⟩
 have l1:=HLD.out w1 hb1
 have HM1:=Lib.hid (HMY.out w1 hb1)
 have HB1:=Lib.hid hb1
 clear hb1 lw HFW HMY
 go_wp2_with fail
 refine HM1.out.mono ?_
 rintro e w2 ⟨rfl,hb2⟩
 have HB2:=Lib.hid (HB1.out.trans (hb2.mono HB1.out.size))
 have l2:=HLD.out w2 HB2.out
 clear hb2 l1 HM1 HB1
 have HBX:=Lib.hid (HBW.out.trans (HB2.out.mono HBW.out.size))
 have hl:=laid18_any (dcL_ok q.rts) vk q.Ar q.nr q.cr q.rts q.own q.Am q.nm q.cm q.tok w2 (((rts_of HQ.out).keep (Same.ofBelow HBX.out fun k hk=>hk)).mono fun k hk=>Nat.lt_of_lt_of_le hk HBX.out.size) (by have:=HF.out; omega) (fun i r h hm=>dcL_at i r h hm) HF.out.2.2
 obtain ⟨R,hR⟩:∃ R,R=mkT vk 0 q.rts .nil:=⟨_,rfl⟩
 rw [← hR] at hl
 have HL:=Lib.hid (show Calls Tryz.prog 27 #[.agg (askC q)] w2 (LdPost (dcL q.rts) w2 R q.tok) from hl)
 have HR:=Lib.hid hR
 clear hl hR
 cases R with
 | none =>
   go_wp2_with fail
   refine HL.out.mono ?_
   rintro e w3 ⟨rfl,hb3⟩
   have HB3:=Lib.hid (HBX.out.trans (hb3.mono HBX.out.size))
   clear hb3 l2
   go_wp2_with fail
   refine (HKN.out w3).mono ?_
   rintro e w4 ⟨rfl,hb4⟩
   have HB4:=Lib.hid (HB3.out.trans (hb4.mono HB3.out.size))
   clear hb4
   go_wp2_with fail
   go_ret
   exact ⟨rfl,HB4.out⟩
 | some T =>
 go_wp2_with fail
 refine HL.out.mono ?_
 rintro e w3 ⟨fb,bb,rfl,hm3⟩
 have hb3:=HBX.out.trans (hm3.bl.mono HBX.out.size)
 have hbb:=Nat.le_trans HBX.out.size hm3.bb
 have hak:=HK.out w3 (HB2.out.trans (hm3.bl.mono HB2.out.size))
 have htb:=as_tbe (tok:=q.tok) HQ.out hb3 HMB.out.symm (by rw [HQ.out.rl]; have:=HF.out; omega) HR.out.symm hm3 HBX.out.size
 have HJ:=Lib.hid (as_judge HQ.out htb (pk_pos _ _) hm3.bk HF.out.2.2 hbb hb3 HX.out HN.out HC.out HN2.out)
 have HQL:=Lib.hid (quiet_law (asks_of (T:=T) HMB.out.symm HQ.out.ml) HQ.out.own q.tok x)
 obtain ⟨G,hG⟩:∃ G,G=fwJudge (pkF (wkL q.rts) T) q.mtus q.own q.tok x:=⟨_,rfl⟩
 rw [← hG] at HJ HQL
 obtain ⟨F,t⟩:=G
 simp only at HQL
 have HM3:=Lib.hid (⟨hb3,hbb,hak,hm3.bk⟩:_∧_∧_∧_)
 have m1:=ld_adr (show w3.cell? ⟨ga,1,none⟩=some (.int .u32 (q.own:Int)) from hak.cell 1)
 have m2:=ld_ints (show w3.cell? ⟨ga,2,none⟩=some (.slice q.Am q.nm q.cm) from hak.cell 2)
 clear hb3 hbb hak htb hm3 hG l2 HL HR HMQ HB2 HBX HMB d2
 go_wp2_with fail
 refine HJ.out.mono ?_
 rintro e w4 ⟨lv,ov,rfl,hu,hk,ht4,hlc,hou⟩
 obtain ⟨w5,hst,hb5,hf5⟩:=ft_var w4 hlc hou (F.drop:Int) (F.err:Int)
 obtain ⟨hb3,hbb,hak,hbk⟩:=HM3.out
 have HJD:=Lib.hid (show JdC w w5 q ga w4.heap.size bb w3.heap.size lv ov F t A n x from as_jdc (R:=(F,t)) hak hb3 hbb hbk HX.out hu hk hlc hou hb5 hf5)
 clear hu hk ht4 hlc hou hb5 hf5 hb3 hbb hak hbk HM3 HJ m1 m2
 go_upto_region 9 with (fail)
 obtain ⟨gx,hgx⟩:∃ g,g=w4.heap.size:=⟨_,rfl⟩
 rw [← hgx] at HJD ⊢
 clear hst hgx
 have lf:=ld_erk (show w5.cell? ⟨gx,1,none⟩=some (.int .i64 (F.err:Int)) from HJD.out.ft.cell 1)
 by_cases he0:F.err=0
 ·have d0:((F.err:Int) == 0)=true:=by rw [he0]; rfl
  have ht:t=q.tok:=by have:=HQL.out; rwa [if_pos he0] at this
  obtain ⟨tk,htk⟩:∃ z,z=q.tok:=⟨_,rfl⟩
  have HTK:=Lib.hid (ht.trans htk.symm)
  have l3:=Lib.hid (fun wx (hb:Below w5.heap.size w5 wx)=>ld_int (show wx.cell? ⟨ga,3,none⟩=some (.int .i64 tk) by rw [htk]; exact (HJD.out.below hb).ak.cell 3))
  clear he0 ht htk HQL
  go_upto_region 10 with (fail)
  refine wp_region_stages [(true,9)] (by kernel_rfl) (by kernel_rfl) fun wz hz hz2=>?_
  have HZ:=Lib.hid hz
  clear hz hz2 lf
  have z1:=fun (dd:Nat) (os:Array Obj)=>l3.out (grow (redrawn wz dd) os) (HZ.out.trans ((below_regrown wz dd os).mono HZ.out.size))
  have r1:=fun (dd:Nat) (os:Array Obj)=>Calls.regrown_of ((bhas_any bb 64 1 tk 0 (grow (redrawn wz dd) os) (by rw [← HTK.out]; exact (HJD.out.below (HZ.out.trans ((below_regrown wz dd os).mono HZ.out.size))).bk)).mono fun e w' ⟨h,hw⟩=>(⟨h,hw ▸ Below.refl _ _⟩:_∧_))
  have r2:=fun (dd:Nat) (os:Array Obj)=>Calls.regrown_of (HKN.out (grow (redrawn wz dd) os))
  refine wpSt_q ?_
  simp only [List.take_succ_cons,List.take_zero,List.drop_succ_cons,List.drop_zero]
  repeat (go_big_quiet_step (first | with_reducible exact r1 _ _ | with_reducible exact r2 _ _))
  refine wpQuiet_nil ?_
  intro _ hw'
  obtain ⟨⟨dq,osq⟩,hw''⟩:=hw'
  subst hw''
  have HBQ:=Lib.hid (HJD.out.bl.trans ((HZ.out.trans ((below_regrown wz dq osq).mono HZ.out.size)).mono HJD.out.bl.size))
  clear z1 r1 r2
  generalize grow (redrawn wz dq) osq=wq at HBQ ⊢
  refine wpSt_end ?_
  go_wp2_with fail
  go_ret
  exact ⟨rfl,HBQ.out⟩
 have d0:((F.err:Int) == 0)=false:=by rw [beq_eq_false_iff_ne]; omega
 have hql:=HQL.out
 rw [if_neg he0] at hql
 obtain ⟨hpf,hT⟩:=hql
 have HT:=Lib.hid hT
 have HP:=Lib.hid (rparse_any A n c x (fun k=>k < w.heap.size) w5 HJD.out.pk HN.out HC.out (by have:=HN2.out; omega))
 have hsrc:=(prs_ok x).2.2.2.2.1
 have hpw:=prs_whole (x:=x) hpf
 obtain ⟨P,hP⟩:∃ P,P=prsF x:=⟨_,rfl⟩
 rw [← hP] at HP hpf HT hsrc hpw
 obtain ⟨h,p,f⟩:=P
 simp only at HP hpf HT hsrc hpw
 subst hpf
 have HSRC:=Lib.hid hsrc
 have HPW:=Lib.hid hpw
 clear he0 hT HQL hP hsrc hpw
 go_wp2_with fail
 refine HP.out.mono ?_
 rintro e w6 ⟨vh,vp,rfl,hvh,hvp,hb6⟩
 obtain ⟨Ah,ch,rfl,_,hrh⟩:=hvh
 obtain ⟨Ap,cp,rfl,_,hrp⟩:=hvp
 obtain ⟨w7,hst,hb7,hb67,hk7⟩:=hd_var hb6 hb6.size h Ah h.opts.length ch
 have HJ7:=Lib.hid (HJD.out.below hb7)
 have HRP:=Lib.hid (fun wx (hb:Below w7.heap.size w7 wx)=>(hrp.lt.keep (Same.ofBelow hb67 fun k hk=>hk.2)).keep (Same.ofBelow hb fun k hk=>Nat.lt_of_lt_of_le hk.2 hb67.size))
 obtain ⟨gh,hgh⟩:∃ g,g=w6.heap.size:=⟨_,rfl⟩
 have HKH:=Lib.hid (show Blk w7 gh 76 (hdC h (.slice Ah h.opts.length ch)) by rw [hgh]; exact hk7)
 obtain ⟨no,hno⟩:∃ z,z=h.opts.length:=⟨_,rfl⟩
 obtain ⟨np,hnp⟩:∃ z,z=p.length:=⟨_,rfl⟩
 rw [← hno] at hst HKH ⊢
 rw [← hnp] at HRP ⊢
 have HNO:=Lib.hid hno
 have HNP:=Lib.hid hnp
 simp only
 clear hrh hrp hb6 hb7 hb67 hk7 HP lf hno hnp HJD
 go_upto_region 12 with (fail)
 rw [← hgh]
 clear hst hgh
 go_cut [124] from 79 to 124 (fun s124 wx=>s124=.bool false∧Below w7.heap.size w7 wx)
 case first =>
  obtain ⟨tk,htk⟩:∃ z,z=q.tok:=⟨_,rfl⟩
  have HTK:=Lib.hid (show t=tk - 1 by rw [htk]; exact HT.out.tk.2)
  have HTK2:=Lib.hid htk
  have tk1:0 < tk:=by rw [htk]; exact HT.out.tk.1
  have tk2:tk≤64:=by rw [htk]; exact HF.out.2.2.2
  have tz:(tk == 0)=false:=by rw [beq_eq_false_iff_ne]; omega
  have tw:IntKind.i64.wrap (tk - 1)=tk - 1:=IntWalk.i64_in _ (by omega)
  obtain ⟨sr,hsr⟩:∃ z,z=h.src:=⟨_,rfl⟩
  have sz:((sr:Int) == 0)=false:=by rw [beq_eq_false_iff_ne,hsr]; have:=HT.out.src.1; omega
  have HSR:=Lib.hid hsr
  have HMU:=Lib.hid (fun wx=>rmulti_any sr wx (by rw [hsr]; exact HSRC.out))
  rw [show multiF sr=false by rw [hsr]; exact HT.out.src.2] at HMU
  obtain ⟨pr,hpr⟩:∃ z,z=h.proto:=⟨_,rfl⟩
  have HPR:=Lib.hid hpr
  clear htk hsr hpr
  have st:∀ wz,Below w7.heap.size w7 wz→∀ dd os,Hid ((Instr.loadAt 3 (.pointer (some ⟨ga,3,none⟩))).run Tryz.prog (grow (redrawn wz dd) os)=.ok (.int .i64 tk) (grow (redrawn wz dd) os) ∧
    (Instr.loadAt 3 (.pointer (some ⟨gh,5,none⟩))).run Tryz.prog (grow (redrawn wz dd) os)=.ok (.int .i64 0) (grow (redrawn wz dd) os) ∧
    (Instr.loadAt 35 (.pointer (some ⟨gh,8,none⟩))).run Tryz.prog (grow (redrawn wz dd) os)=.ok (.int .u32 (sr:Int)) (grow (redrawn wz dd) os) ∧
    (Instr.loadAt 5 (.pointer (some ⟨gh,7,none⟩))).run Tryz.prog (grow (redrawn wz dd) os)=.ok (.int .u8 (pr:Int)) (grow (redrawn wz dd) os)):=fun wz hz dd os=>by
   have hb:=hz.trans ((below_regrown wz dd os).mono hz.size)
   have k1:=(HJ7.out.below hb).ak
   have k2:=HKH.out.below hb HKH.out.lt
   refine Lib.hid ⟨ld_int (by rw [HTK2.out]; exact k1.cell 3),ld_int ?_,ld_adr (by rw [HSR.out]; exact k2.cell 8),ld_u8s (by rw [HPR.out]; exact k2.cell 7)⟩
   rw [← HT.out.off]
   exact k2.cell 5
  have ST:=Lib.hid st
  have HBH:=Lib.hid (fun wz (hz:Below w7.heap.size w7 wz)=>(bhas_any bb 64 1 (tk - 1) 0 wz (by rw [← HTK.out]; exact (HJ7.out.below hz).bk)).mono fun e w' ⟨h,hw⟩=>(⟨h,hw ▸ Below.refl _ _⟩:_∧Below wz.heap.size wz w'))
  clear st
  by_cases hp1:pr=1
  ·have pz:((pr:Int) == 1)=true:=by rw [hp1]; rfl
   obtain ⟨h8,het⟩:8≤np∧errT (p.getD 0 0)=false:=by
    rcases HT.out.body with hb | ⟨hb1,hb2⟩
    ·exact absurd (HPR.out.symm.trans hp1) hb
    ·exact ⟨by rw [HNP.out]; exact hb1,hb2⟩
   have d8:decide ((np:Int) < 8)=false:=decide_eq_false (by omega)
   obtain ⟨b0,hb0⟩:∃ b,b=p.getD 0 0:=⟨_,rfl⟩
   rw [← hb0] at het
   have HIE:=Lib.hid (fun wx=>ricerr_any b0 wx)
   rw [het] at HIE
   have hrow:∃ ad,Ap=some ad∧∀ wx,Below w7.heap.size w7 wx→wx.cell? ad=some (.int .u8 (b0.toNat:Int)):=by
    obtain ⟨ad,e,_⟩:=(HRP.out w7 (Below.refl _ _)).2 (by omega)
    refine ⟨ad,e,fun wx hb=>?_⟩
    obtain ⟨ad2,e2,_,_,hc⟩:=(HRP.out wx hb).2 (by omega)
    rw [e] at e2
    injection e2 with e2
    subst e2
    have:=hc 0 (.int .u8 (b0.toNat:Int)) (by rw [hb0]; unfold bytesV; rw [List.getElem?_map,List.getElem?_eq_getElem (show 0 < p.length by have:=HNP.out; omega)]; simp [List.getD_eq_getElem?_getD,List.getElem?_eq_getElem (show 0 < p.length by have:=HNP.out; omega)])
    rw [show ad.add 0=ad from by unfold Addr.add; rfl] at this
    exact this
   obtain ⟨ad,rfl,hrow⟩:=hrow
   have HROW:=Lib.hid hrow
   have i0:(0:Int) < (np:Int):=by omega
   clear hrow hb0 het hp1 h8 tk1 tk2
   refine wp_region_stages [(true,46)] (by kernel_rfl) (by kernel_rfl) fun wz hz hz2=>?_
   have HZ:=Lib.hid hz
   clear hz hz2
   have z1:=fun (dd:Nat) (os:Array Obj)=>(ST.out wz HZ.out dd os).out.1
   have z2:=fun (dd:Nat) (os:Array Obj)=>(ST.out wz HZ.out dd os).out.2.1
   have z3:=fun (dd:Nat) (os:Array Obj)=>(ST.out wz HZ.out dd os).out.2.2.1
   have z4:=fun (dd:Nat) (os:Array Obj)=>(ST.out wz HZ.out dd os).out.2.2.2
   have z5:=fun (dd:Nat) (os:Array Obj)=>ld_u8a (HROW.out _ (HZ.out.trans ((below_regrown wz dd os).mono HZ.out.size)))
   have r1:=fun (dd:Nat) (os:Array Obj)=>Calls.regrown_of (HBH.out (grow (redrawn wz dd) os) (HZ.out.trans ((below_regrown wz dd os).mono HZ.out.size)))
   have r2:=fun (dd:Nat) (os:Array Obj)=>Calls.regrown_of ((HMU.out (grow (redrawn wz dd) os)).mono fun e w' ⟨h,hw⟩=>(⟨h,hw ▸ Below.refl _ _⟩:_∧Below (grow (redrawn wz dd) os).heap.size (grow (redrawn wz dd) os) w'))
   have r3:=fun (dd:Nat) (os:Array Obj)=>Calls.regrown_of ((HIE.out (grow (redrawn wz dd) os)).mono fun e w' ⟨h,hw⟩=>(⟨h,hw ▸ Below.refl _ _⟩:_∧Below (grow (redrawn wz dd) os).heap.size (grow (redrawn wz dd) os) w'))
   refine wpSt_q ?_
   simp only [List.take_succ_cons,List.take_zero,List.drop_succ_cons,List.drop_zero]
   repeat (go_big_quiet_step (first | with_reducible exact r1 _ _ | with_reducible exact r2 _ _ | with_reducible exact r3 _ _))
   refine wpQuiet_nil ?_
   intro _ hw'
   obtain ⟨⟨dq,osq⟩,hw''⟩:=hw'
   subst hw''
   have HZQ:=Lib.hid (HZ.out.trans ((below_regrown wz dq osq).mono HZ.out.size))
   clear z1 z2 z3 z4 z5 r1 r2 r3
   refine wpSt_end ?_
   go_wp2_with fail
   go_meet
   case rel=>exact ⟨rfl,HZQ.out⟩
  ·have pz:((pr:Int) == 1)=false:=by rw [beq_eq_false_iff_ne]; omega
   clear hp1 tk1 tk2
   refine wp_region_stages [(true,46)] (by kernel_rfl) (by kernel_rfl) fun wz hz hz2=>?_
   have HZ:=Lib.hid hz
   clear hz hz2
   have z1:=fun (dd:Nat) (os:Array Obj)=>(ST.out wz HZ.out dd os).out.1
   have z2:=fun (dd:Nat) (os:Array Obj)=>(ST.out wz HZ.out dd os).out.2.1
   have z3:=fun (dd:Nat) (os:Array Obj)=>(ST.out wz HZ.out dd os).out.2.2.1
   have z4:=fun (dd:Nat) (os:Array Obj)=>(ST.out wz HZ.out dd os).out.2.2.2
   have r1:=fun (dd:Nat) (os:Array Obj)=>Calls.regrown_of (HBH.out (grow (redrawn wz dd) os) (HZ.out.trans ((below_regrown wz dd os).mono HZ.out.size)))
   have r2:=fun (dd:Nat) (os:Array Obj)=>Calls.regrown_of ((HMU.out (grow (redrawn wz dd) os)).mono fun e w' ⟨h,hw⟩=>(⟨h,hw ▸ Below.refl _ _⟩:_∧Below (grow (redrawn wz dd) os).heap.size (grow (redrawn wz dd) os) w'))
   refine wpSt_q ?_
   simp only [List.take_succ_cons,List.take_zero,List.drop_succ_cons,List.drop_zero]
   repeat (go_big_quiet_step (first | with_reducible exact r1 _ _ | with_reducible exact r2 _ _))
   refine wpQuiet_nil ?_
   intro _ hw'
   obtain ⟨⟨dq,osq⟩,hw''⟩:=hw'
   subst hw''
   have HZQ:=Lib.hid (HZ.out.trans ((below_regrown wz dq osq).mono HZ.out.size))
   clear z1 z2 z3 z4 r1 r2
   refine wpSt_end ?_
   go_wp2_with fail
   go_meet
   case rel=>exact ⟨rfl,HZQ.out⟩
 case rest =>
  obtain ⟨rfl,hb8⟩:=hcut
  have HJ8:=Lib.hid (HJ7.out.below hb8)
  have HK8:=Lib.hid (HKH.out.below hb8 HKH.out.lt)
  have HRP8:=Lib.hid (fun wx (hb:Below wc.heap.size wc wx)=>HRP.out wx (hb8.trans (hb.mono hb8.size)))
  clear hb8 HJ7 HKH HRP
  obtain ⟨Z,hZ,hZo,hZu⟩:=HJ8.out.ou
  obtain ⟨Ao,co,hov,_⟩:=own_form hZo
  obtain ⟨us2,hl1,hl2,hl3⟩:=HJ8.out.lc
  obtain ⟨Al,cl,hlv,_⟩:=own_form hl1
  subst hov hlv
  obtain ⟨N,hN⟩:∃ N,N=Z.length:=⟨_,rfl⟩
  obtain ⟨M,hM⟩:∃ M,M=F.loc.length:=⟨_,rfl⟩
  obtain ⟨us,hus⟩:∃ us,us=Z.map (·.u):=⟨_,rfl⟩
  obtain ⟨B,hB⟩:∃ B,B=w3.heap.size:=⟨_,rfl⟩
  rw [← hB] at HJ8 hZo hZu hl1 hl3
  rw [← hN] at hZo HJ8
  rw [← hM] at hl1 HJ8
  have HZ:=Lib.hid (⟨hZ,hZo,hZu,hN,hus⟩:_∧_∧_∧_∧_)
  have HL:=Lib.hid (⟨hl1,hl2,hl3,hM⟩:_∧_∧_∧_)
  have HNL:=Lib.hid (show N≤1000∧M≤1000 from by
   have h1:=HT.out.len
   unfold leaveF at h1
   rw [List.length_append,List.length_map,← hZ,List.length_map] at h1
   omega)
  clear hZ hZo hZu hN hus hl1 hl2 hl3 hM hB
  have HOV:=Lib.hid (fun wx (hb:Below wc.heap.size wc wx)=>ld_snts (show wx.cell? ⟨gx,3,none⟩=some (.slice Ao N co) from (HJ8.out.below hb).ft.cell 3))
  obtain ⟨i0,hi,hz0,hz1,hz2⟩:=info_parts info_sl8
  go_upto_region 15 with (fail)
  go_wp2_with fail
  go_loopw [13,14] (fun v i wr=>∃ k:Nat,k≤N∧i=.int .i64 (k:Int)∧wr.ownsRow wc.heap.size 61 1 v k (us.take k)∧Below wc.heap.size wc wr) (fun _ i _=>N - (intOf i).toNat)
  case atStart=>exact ⟨0,Nat.zero_le _,rfl,World.ownsRow_nil _ _ _ _,Below.refl _ _⟩
  case round =>
   obtain ⟨k,hk,rfl,hv,hbr⟩:=hrel
   obtain ⟨Av,cv,rfl,_⟩:=own_form hv
   have lo:=HOV.out wr hbr
   have HV:=Lib.hid hv
   have HBR:=Lib.hid hbr
   by_cases hlt:k < N
   ·obtain ⟨z,hz⟩:∃ z,Z[k]?=some z:=⟨_,List.getElem?_eq_getElem (by rw [← HZ.out.2.2.2.1]; exact hlt)⟩
    have hro:=own_below HZ.out.2.1 hbr
    obtain ⟨g,c1,e1,_⟩:=own_form1 hro (by omega)
    injection e1 with e1 _ _
    subst e1
    have hcell:wr.cell? ⟨g,k * 2+1,none⟩=some z.u:=by
     rw [hro.cellAt (k * 2+1) (by omega)]
     have e:∀ (Z:List Zs) (k:Nat) (z:Zs),Z[k]?=some z→(flatZ Z)[k * 2+1]?=some z.u:=by
      intro Z
      induction Z with
      | nil=>intro k z h; simp at h
      | cons y Z ih =>
        intro k z h
        cases k with
        | zero =>
          obtain rfl:y=z:=by simpa using h
          rfl
        | succ k =>
          have:=ih k z (by simpa using h)
          rw [show flatZ (y :: Z)=.int .i64 y.p :: y.u :: flatZ Z from rfl,show (k+1) * 2+1=k * 2+1+1+1 by omega]
          simpa using this
     exact e Z k z hz
    have hzr:=HZ.out.2.2.1 z (List.mem_of_getElem? hz)
    obtain ⟨A1,d1,hu1,_⟩:=hzr.form
    rw [hu1] at hcell
    have hsn:us.take k++[.slice A1 z.x.length d1]=us.take (k+1):=by
     rw [List.take_add_one,HZ.out.2.2.2.2,List.getElem?_map,hz,← hu1]
     rfl
    obtain ⟨d,hd⟩:∃ d,d=z.x.length:=⟨_,rfl⟩
    rw [← hd] at hcell hsn
    have lc:=ld_bys hcell
    have HSN:=Lib.hid hsn
    have hi0:(0:Int)≤k:=by omega
    have hi1:(k:Int) < N:=by omega
    have e1:decide ((k:Int) < (N:Int))=true:=decide_eq_true hi1
    have hmx:k+1≤maxLen:=by unfold maxLen; have:=HNL.out; omega
    have hmb:(k+1) * 24≤140737488355328:=by have:=HNL.out; omega
    clear hv hbr hz hro hcell hzr hu1 hsn hd
    go_wp2_with (at_builtin; refine wpList_push1 wr rfl (.tmp 132) (.tmp 139) _ 61 rfl rfl i0 _ 24 Tryz.underlying68 hi hz0 hz1 hz2 rfl wc.heap.size (.slice Av k cv) k _ (.slice A1 d d1) rfl rfl HV.out rfl hmx hmb HBR.out.size ?_; intro v2 w2 h2 hg2 _; obtain ⟨Av2,cv2,rfl,_⟩:=own_form h2; have HV2:=Lib.hid h2; have HB2:=Lib.hid (HBR.out.grown hg2 HBR.out.size fun j hj=>(own_lt HV.out hj).1); clear h2 hg2)
    go_roundw
    case rel=>exact ⟨k+1,by omega,rfl,by rw [← HSN.out]; exact HV2.out,HB2.out⟩
    case measure=>simp [intOf]; omega
   ·obtain rfl:k=N:=by omega
    have e1:decide ((k:Int) < (k:Int))=false:=decide_eq_false (by omega)
    clear hv hbr hlt
    go_upto_region 19 with (fail)
    have hul:us.length=k:=by rw [HZ.out.2.2.2.2,List.length_map]; exact HZ.out.2.2.2.1.symm
    have hv2:=HV.out
    rw [List.take_of_length_le (by rw [hul]; exact Nat.le_refl _)] at hv2
    have HV2:=Lib.hid hv2
    have HUL:=Lib.hid hul
    have HLB:=Lib.hid (own_below HL.out.1 HBR.out)
    have h1:∀ u ∈ us2,u.oneCell'=true:=fun u hu=>by
     obtain ⟨j,hj⟩:=List.getElem?_of_mem hu
     have hjl:j < F.loc.length:=by rw [← HL.out.2.1]; exact (List.getElem?_eq_some_iff.1 hj).1
     obtain ⟨v,e,r⟩:=HL.out.2.2.1 j _ (List.getElem?_eq_getElem hjl)
     rw [hj] at e
     injection e with e
     obtain ⟨A',c',e2,_⟩:=own_form r
     rw [e,e2]
     rfl
    have H1:=Lib.hid h1
    have ll:=ld_rows (show wr.cell? ⟨gx,2,none⟩=some (.slice Al M cl) from (HJ8.out.below HBR.out).ft.cell 2)
    have hmx:k+M≤maxLen:=by unfold maxLen; have:=HNL.out; omega
    have hmb:(k+M) * 24≤140737488355328:=by have:=HNL.out; omega
    clear hul hv2 h1 lo e1 HV
    go_upto_region 20 with (at_builtin; refine wpList_append_any wr rfl (.tmp 141) (.tmp 143) _ rfl wc.heap.size 61 i0 _ 1 24 Tryz.underlying68 hi hz0 hz1 hz2 rfl (by decide) (.slice Av k cv) k us rfl HV2.out (fun _=>True) Al M cl us2 rfl (Reads.of_own HLB.out fun _ _=>trivial) H1.out hmx hmb HBR.out.size ?_; intro v2 wa h2 hg2 _; obtain ⟨Aw,cw,rfl,_⟩:=own_form h2; have HV3:=Lib.hid h2; have HB2:=Lib.hid (HBR.out.grown hg2 HBR.out.size fun j hj=>(own_lt HV2.out hj).1); clear h2 hg2)
    have hel:∀ (j:Nat) (y:By),(leaveF F)[j]?=some y→∃ u,(us++us2)[j]?=some u∧Row8 B wc u y:=fun j y hj=>by
     unfold leaveF at hj
     by_cases hjk:j < k
     ·rw [List.getElem?_append_left (by rw [List.length_map,← HZ.out.1,List.length_map,← HZ.out.2.2.2.1]; exact hjk)] at hj
      rw [← HZ.out.1,List.map_map,List.getElem?_map] at hj
      obtain ⟨z,hz,hzy⟩:=Option.map_eq_some_iff.1 hj
      refine ⟨z.u,?_,?_⟩
      ·rw [List.getElem?_append_left (by rw [HUL.out]; exact hjk),HZ.out.2.2.2.2,List.getElem?_map,hz]
       rfl
      ·rw [← hzy]
       exact HZ.out.2.2.1 z (List.mem_of_getElem? hz)
     ·have hkl:(F.out.map (·.2)).length=k:=by rw [List.length_map,← HZ.out.1,List.length_map]; exact HZ.out.2.2.2.1.symm
      rw [List.getElem?_append_right (by rw [hkl]; omega),hkl] at hj
      obtain ⟨u,e,r⟩:=HL.out.2.2.1 _ y hj
      exact ⟨u,by rw [List.getElem?_append_right (by rw [HUL.out]; omega),HUL.out]; exact e,r⟩
    have hll:(leaveF F).length=k+M:=by
     unfold leaveF
     rw [List.length_append,List.length_map,← HZ.out.1,List.length_map,← HZ.out.2.2.2.1,HL.out.2.2.2]
    obtain ⟨V,hV⟩:∃ V,V=us++us2:=⟨_,rfl⟩
    rw [← hV] at HV3 hel
    obtain ⟨X,hX⟩:∃ X,X=leaveF F:=⟨_,rfl⟩
    rw [← hX] at hel hll
    obtain ⟨NM,hNM⟩:∃ z,z=k+M:=⟨_,rfl⟩
    rw [← hNM] at HV3 hll ⊢
    have HEL:=Lib.hid hel
    have HLL:=Lib.hid hll
    have HXX:=Lib.hid hX
    have HNM2:=Lib.hid (show NM≤2000 by have:=HNL.out; omega)
    have HJA:=Lib.hid (HJ8.out.below HB2.out)
    have HKA:=Lib.hid (HK8.out.below HB2.out HK8.out.lt)
    clear hel hll hV hX hNM HV2 HUL HLB H1 ll hmx hmb HBR HL HZ HNL hk
    go_wp2_with fail
    go_loopw [15] (fun i wr=>∃ j:Nat,j≤NM∧i=.int .i64 (j:Int)∧Below wa.heap.size wa wr) (fun i _=>NM - (intOf i).toNat)
    case atStart=>exact ⟨0,Nat.zero_le _,rfl,Below.refl _ _⟩
    case round =>
     obtain ⟨j,hj,rfl,hbr⟩:=hrel
     have HBR:=Lib.hid hbr
     have HBC:=Lib.hid (HB2.out.trans (hbr.mono HB2.out.size))
     by_cases hlt:j < NM
     ·obtain ⟨y,hy⟩:∃ y,X[j]?=some y:=⟨_,List.getElem?_eq_getElem (by rw [HLL.out]; exact hlt)⟩
      obtain ⟨u,hu,hr⟩:=HEL.out j y hy
      obtain ⟨A1,d1,rfl,_⟩:=hr.form
      have hro:=own_below HV3.out hbr
      obtain ⟨g1,c1,e1,_⟩:=own_form1 hro (by omega)
      injection e1 with e1 _ _
      subst e1
      have hcell:wr.cell? ⟨g1,j,none⟩=some (.slice A1 y.length d1):=(hro.cellAt j (by omega)).trans hu
      have hym:y ∈ leaveF F:=by rw [← HXX.out]; exact List.mem_of_getElem? hy
      obtain ⟨g,qy,hpy,g2,g3,g4,hyl⟩:=HT.out.all y hym
      have hr2:=Row8.below hr HBC.out
      obtain ⟨r1,r2,r3⟩:=row8_rd hr2
      have hpp:=parse_any A1 y.length d1 y _ wr r3 rfl r2 (by omega)
      rw [hpy] at hpp
      have HPP:=Lib.hid hpp
      obtain ⟨d,hd⟩:∃ d,d=y.length:=⟨_,rfl⟩
      rw [← hd] at hcell HPP
      have lc:=ld_bys hcell
      have HG:=Lib.hid (⟨g2,g3,g4⟩:_∧_∧_)
      have hi0:(0:Int)≤j:=by omega
      have hi1:(j:Int) < NM:=by omega
      have hi2:(j:Int) < 2000:=by have:=HNM2.out; omega
      have e1:decide ((j:Int) < (NM:Int))=true:=decide_eq_true hi1
      clear hbr hy hu hr hro hcell hym hpy g2 g3 g4 hyl hr2 r1 r2 r3 hpp hd
      go_wp2_with fail
      refine HPP.out.mono ?_
      rintro e wx ⟨vg,vq,rfl,hvg,hvq,_,hbx⟩
      obtain ⟨Ag,cg,rfl,_⟩:=hvg.form
      obtain ⟨Aq,cq,rfl,_⟩:=hvq.form
      obtain ⟨wy,hst,hby,hbxy,hky⟩:=hd_var hbx hbx.size g Ag g.opts.length cg
      have HBY:=Lib.hid (HBR.out.trans (hby.mono HBR.out.size))
      have hb9:=HBC.out.trans (hby.mono HBC.out.size)
      have k8:=ld_adr (show wy.cell? ⟨wx.heap.size,8,none⟩=some (.int .u32 (q.own:Int)) by rw [← HG.out.1]; exact hky.cell 8)
      have k9:=ld_adr (show wy.cell? ⟨wx.heap.size,9,none⟩=some (.int .u32 (h.src:Int)) by rw [← HG.out.2.1]; exact hky.cell 9)
      have k7:=ld_u8s (show wy.cell? ⟨wx.heap.size,7,none⟩=some (.int .u8 1) from (hky.cell 7).trans (by show some (Value.int .u8 (g.proto:Int))=_; rw [HG.out.2.2]; rfl))
      have m1:=ld_adr (show wy.cell? ⟨ga,1,none⟩=some (.int .u32 (q.own:Int)) from (HJ8.out.below hb9).ak.cell 1)
      have m8:=ld_adr (show wy.cell? ⟨gh,8,none⟩=some (.int .u32 (h.src:Int)) from (HK8.out.below hb9 HK8.out.lt).cell 8)
      simp only
      clear hvg hvq hbx hby hbxy hky hb9 lc HG
      go_wp2_with fail
      go_roundw
      case rel=>exact ⟨j+1,by omega,rfl,HBY.out⟩
      case measure=>simp [intOf]; omega
     ·obtain rfl:j=NM:=by omega
      have e1:decide ((j:Int) < (j:Int))=false:=decide_eq_false (by omega)
      have HBF:=Lib.hid (HJ8.out.bl.trans (HBC.out.mono HJ8.out.bl.size))
      clear hbr hlt
      go_upto_region 26 with (fail)
      clear e1
      by_cases h1:j=1
      ·have d1:((j:Int) == 1)=true:=by rw [h1]; rfl
       have hlen:(leaveF F).length=1:=by rw [← HXX.out,HLL.out]; exact h1
       obtain ⟨y,g,qy,m,hX1,hpy,hic,het,hbody⟩:=HT.out.one hlen
       rw [← HXX.out] at hX1
       have hy:X[0]?=some y:=by rw [hX1]; rfl
       obtain ⟨u,hu,hr⟩:=HEL.out 0 y hy
       obtain ⟨A1,d2,rfl,_⟩:=hr.form
       have hro:=own_below HV3.out HBR.out
       obtain ⟨g1,c1,e1,_⟩:=own_form1 hro (by omega)
       injection e1 with e1 _ _
       subst e1
       have hcell:wr.cell? ⟨g1,0,none⟩=some (.slice A1 y.length d2):=(hro.cellAt 0 (by omega)).trans hu
       obtain ⟨_,_,_,_,_,_,hyl⟩:=HT.out.all y (by rw [← HXX.out]; exact List.mem_of_getElem? hy)
       have hr2:=Row8.below hr HBC.out
       obtain ⟨r1,r2,r3⟩:=row8_rd hr2
       have hpp:=parse_any A1 y.length d2 y _ wr r3 rfl r2 (by omega)
       rw [hpy] at hpp
       have HPP:=Lib.hid hpp
       have hql:=(prs_len y).1
       rw [hpy] at hql
       have HQY:=Lib.hid (show qy.length≤2000 from Nat.le_trans hql hyl)
       obtain ⟨d,hd⟩:∃ d,d=y.length:=⟨_,rfl⟩
       rw [← hd] at hcell HPP
       have lc:=ld_bys hcell
       have HIC0:=Lib.hid hic
       have HBD:=Lib.hid hbody
       have HET:=Lib.hid het
       have i0:(0:Int) < (j:Int):=by omega
       clear h1 hlen hX1 hpy hic het hbody hy hu hr hro hcell hyl hr2 r1 r2 r3 hpp hql hd
       go_upto_region 28 with (go_at_call 33
                               refine HPP.out.mono ?_
                               rintro e wx ⟨vg,vq,rfl,hvg,hvq,_,hbx⟩
                               obtain ⟨Ag,cg,rfl,_⟩:=hvg.form
                               obtain ⟨Aq,cq,rfl,_⟩:=hvq.form
                               obtain ⟨wy,hst,hby,hbxy,_⟩:=hd_var hbx hbx.size g Ag g.opts.length cg
                               have HBY:=Lib.hid (HBC.out.trans (hby.mono HBC.out.size))
                               have HVQ:=Lib.hid (Row8.below hvq hbxy)
                               simp only
                               clear hvg hvq hbx hby hbxy lc)
       clear hst
       have hof:=(row8_rd HVQ.out)
       have HOF0:=icof_any Aq qy.length cq qy _ wy hof.2.2 rfl hof.2.1 (by have:=HQY.out; omega)
       rw [HIC0.out] at HOF0
       have HOF:=Lib.hid HOF0
       obtain ⟨nq,hnq⟩:∃ z,z=qy.length:=⟨_,rfl⟩
       rw [← hnq] at HOF ⊢
       clear hof HOF0 hnq HVQ
       go_upto_region 29 with (go_at_call 34
                               refine HOF.out.mono ?_
                               rintro e wu ⟨vm,rfl,hvm,hbu⟩
                               obtain ⟨Am,cm,rfl,_⟩:=hvm.form
                               obtain ⟨wv,hst,hbv,hbuv,hkv⟩:=ic_var hbu hbu.size m Am m.body.length cm
                               have HBV:=Lib.hid (HBY.out.trans (hbv.mono HBY.out.size))
                               have HVM:=Lib.hid (Row8.below hvm hbuv)
                               have HIC:=Lib.hid hkv
                               unfold icV
                               clear hvm hbu hbv hbuv hkv)
       clear hst
       obtain ⟨gi,hgi⟩:∃ z,z=wu.heap.size:=⟨_,rfl⟩
       rw [← hgi] at HIC ⊢
       have HBG:=Lib.hid (HJ8.out.bl.trans (HBV.out.mono HJ8.out.bl.size))
       have HIE:=Lib.hid (fun wx=>icerr_any m (.slice Am m.body.length cm) wx rfl)
       rw [HET.out] at HIE
       have HPK:=Lib.hid (fun wx (hb:Below wv.heap.size wv wx)=>(HJ8.out.below (HBV.out.trans (hb.mono HBV.out.size))).pk)
       obtain ⟨K,hK⟩:∃ K,K=20+h.opts.length+min 8 p.length:=⟨_,rfl⟩
       have hkb:K≤x.length:=by have:=HPW.out; omega
       have HKK0:=Lib.hid (show K=20+no+min 8 np by rw [hK,← HNO.out,← HNP.out])
       have HKB:=Lib.hid hkb
       have hbd:=HBD.out
       rw [← hK] at hbd
       have hbl:(x.take K).length=K:=by rw [List.length_take]; omega
       have HCU:=Lib.hid (fun wx (hb:Below wv.heap.size wv wx)=>(show (convert 61 9 (.slice A K c)).run Tryz.prog wx=.ok (.string ⟨(x.take K).toArray⟩) wx from by
        have h9:=run_str wx (fun k=>k < w.heap.size) A (x.take K) c (by
         rw [hbl]
         exact reads_take (by rw [HN.out]; exact HPK.out wx hb) hkb)
        rwa [hbl] at h9))
       have HRM:=Lib.hid (fun wx (hb:Below wv.heap.size wv wx)=>(show (convert 61 9 (.slice Am m.body.length cm)).run Tryz.prog wx=.ok (.string ⟨(x.take K).toArray⟩) wx from by
        have h9:=run_str wx _ Am m.body cm (row8_rd (Row8.below HVM.out hb)).2.2
        rwa [hbd] at h9 ⊢))
       obtain ⟨bq,hbq⟩:∃ b,b=x.take K:=⟨_,rfl⟩
       rw [← hbq] at HCU HRM
       obtain ⟨nm,hnm⟩:∃ z,z=m.body.length:=⟨_,rfl⟩
       rw [← hnm] at HIC HIE HRM ⊢
       have l10:=ld_bys (show wv.cell? ⟨gh,10,none⟩=some (.slice Ah no ch) from (HK8.out.below HBV.out HK8.out.lt).cell 10)
       have no1:(no:Int)≤2048:=by have:=HPW.out; have:=HNO.out; have:=HN.out; have:=HN2.out; omega
       have no2:(0:Int)≤(no:Int):=by omega
       have np2:(0:Int)≤(np:Int):=by omega
       clear hgi hK hkb hbd hbl hbq hnm
       by_cases hk8:np < 8
       ·have HKK:=Lib.hid (show (K:Int)=20+(no:Int)+(np:Int) by have:=HKK0.out; omega)
        have np1:(np:Int) < 8:=by omega
        have HSL:=Lib.hid (fun wx:World=>(show (Instr.slice 61 (.slice A n c) none (some (.int .i64 (20+(no:Int)+(np:Int)))) none).run Tryz.prog wx=.ok (.slice A K c) wx from by
         have:=sl_hi (A:=A) (n:=n) (cap:=c) (w:=wx) K (by have:=HKB.out; have:=HN.out; have:=HC.out; omega)
         rwa [show (K:Int)=20+(no:Int)+(np:Int) from by have:=HKK.out; omega] at this))
        have d8:decide ((np:Int) < 8)=true:=decide_eq_true (by omega)
        clear hk8
        go_upto_region 33 with (fail)
        refine wp_region_stages [(true,17)] (by kernel_rfl) (by kernel_rfl) fun wz hz hz2=>?_
        have HZ:=Lib.hid hz
        clear hz hz2
        have z1:=fun (dd:Nat) (os:Array Obj)=>ic_load (cs:=icC m (.slice Am nm cm)) (HIC.out.below (HZ.out.trans ((below_regrown wz dd os).mono HZ.out.size)) HIC.out.lt) rfl
        have z2:=fun (dd:Nat) (os:Array Obj)=>ld_bys (show (grow (redrawn wz dd) os).cell? ⟨gi,6,none⟩=some (.slice Am nm cm) from (HIC.out.below (HZ.out.trans ((below_regrown wz dd os).mono HZ.out.size)) HIC.out.lt).cell 6)
        have z3:=fun (dd:Nat) (os:Array Obj)=>HRM.out (grow (redrawn wz dd) os) (HZ.out.trans ((below_regrown wz dd os).mono HZ.out.size))
        have z4:=fun (dd:Nat) (os:Array Obj)=>HCU.out (grow (redrawn wz dd) os) (HZ.out.trans ((below_regrown wz dd os).mono HZ.out.size))
        have z5:=fun wx=>HSL.out wx
        have r1:=fun (dd:Nat) (os:Array Obj)=>Calls.regrown_of (HIE.out (grow (redrawn wz dd) os))
        unfold icV at r1
        refine wpSt_q ?_
        simp only [List.take_succ_cons,List.take_zero,List.drop_succ_cons,List.drop_zero]
        repeat (go_big_quiet_step (first | with_reducible exact r1 _ _ | (rw [z3]; exact ⟨rfl,rfl⟩) | (rw [z4]; exact ⟨rfl,rfl⟩)))
        refine wpQuiet_nil ?_
        intro _ hw'
        obtain ⟨⟨dq,osq⟩,hw''⟩:=hw'
        subst hw''
        have HZQ:=Lib.hid (HBG.out.trans ((HZ.out.trans ((below_regrown wz dq osq).mono HZ.out.size)).mono HBG.out.size))
        clear z1 z2 z3 z4 z5 r1
        generalize grow (redrawn wz dq) osq=wq at HZQ ⊢
        refine wpSt_end ?_
        go_wp2_with fail
        refine (HKN.out wq).mono ?_
        rintro e wr2 ⟨rfl,hbk⟩
        have HBK:=Lib.hid (HZQ.out.trans (hbk.mono HZQ.out.size))
        clear hbk
        go_wp2_with fail
        go_ret
        exact ⟨rfl,HBK.out⟩
       ·have HKK:=Lib.hid (show (K:Int)=20+(no:Int)+8 by have:=HKK0.out; omega)
        have HSL:=Lib.hid (fun wx:World=>(show (Instr.slice 61 (.slice A n c) none (some (.int .i64 (20+(no:Int)+8))) none).run Tryz.prog wx=.ok (.slice A K c) wx from by
         have:=sl_hi (A:=A) (n:=n) (cap:=c) (w:=wx) K (by have:=HKB.out; have:=HN.out; have:=HC.out; omega)
         rwa [show (K:Int)=20+(no:Int)+8 from by have:=HKK.out; omega] at this))
        have d8:decide ((np:Int) < 8)=false:=decide_eq_false (by omega)
        clear hk8
        go_upto_region 33 with (fail)
        refine wp_region_stages [(true,17)] (by kernel_rfl) (by kernel_rfl) fun wz hz hz2=>?_
        have HZ:=Lib.hid hz
        clear hz hz2
        have z1:=fun (dd:Nat) (os:Array Obj)=>ic_load (cs:=icC m (.slice Am nm cm)) (HIC.out.below (HZ.out.trans ((below_regrown wz dd os).mono HZ.out.size)) HIC.out.lt) rfl
        have z2:=fun (dd:Nat) (os:Array Obj)=>ld_bys (show (grow (redrawn wz dd) os).cell? ⟨gi,6,none⟩=some (.slice Am nm cm) from (HIC.out.below (HZ.out.trans ((below_regrown wz dd os).mono HZ.out.size)) HIC.out.lt).cell 6)
        have z3:=fun (dd:Nat) (os:Array Obj)=>HRM.out (grow (redrawn wz dd) os) (HZ.out.trans ((below_regrown wz dd os).mono HZ.out.size))
        have z4:=fun (dd:Nat) (os:Array Obj)=>HCU.out (grow (redrawn wz dd) os) (HZ.out.trans ((below_regrown wz dd os).mono HZ.out.size))
        have z5:=fun wx=>HSL.out wx
        have r1:=fun (dd:Nat) (os:Array Obj)=>Calls.regrown_of (HIE.out (grow (redrawn wz dd) os))
        unfold icV at r1
        refine wpSt_q ?_
        simp only [List.take_succ_cons,List.take_zero,List.drop_succ_cons,List.drop_zero]
        repeat (go_big_quiet_step (first | with_reducible exact r1 _ _ | (rw [z3]; exact ⟨rfl,rfl⟩) | (rw [z4]; exact ⟨rfl,rfl⟩)))
        refine wpQuiet_nil ?_
        intro _ hw'
        obtain ⟨⟨dq,osq⟩,hw''⟩:=hw'
        subst hw''
        have HZQ:=Lib.hid (HBG.out.trans ((HZ.out.trans ((below_regrown wz dq osq).mono HZ.out.size)).mono HBG.out.size))
        clear z1 z2 z3 z4 z5 r1
        generalize grow (redrawn wz dq) osq=wq at HZQ ⊢
        refine wpSt_end ?_
        go_wp2_with fail
        refine (HKN.out wq).mono ?_
        rintro e wr2 ⟨rfl,hbk⟩
        have HBK:=Lib.hid (HZQ.out.trans (hbk.mono HZQ.out.size))
        clear hbk
        go_wp2_with fail
        go_ret
        exact ⟨rfl,HBK.out⟩
      ·have d1:((j:Int) == 1)=false:=by rw [beq_eq_false_iff_ne]; omega
       clear h1
       go_wp2_with fail
       refine (HKN.out wr).mono ?_
       rintro e wx ⟨rfl,hbk⟩
       have HBK:=Lib.hid (HBF.out.trans (hbk.mono HBF.out.size))
       clear hbk
       go_wp2_with fail
       go_ret
       exact ⟨rfl,HBK.out⟩
end Go.Proofs.YthlommalbkhcjaaGreat
