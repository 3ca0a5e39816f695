/- Icmp: Reply of both. -/
import Derived.Test.YthlommalbkhcjaaGreatNq46
import Derived.Test.YthlommalbkhcjaaGreatNq45
import Derived.Test.YthlommalbkhcjaaGreatNq26
namespace Go.Proofs.YthlommalbkhcjaaGreat
open Go.RowKit Go.Sort Go.BigFrame
theorem odd_any (a:Nat) (w:World):Calls Tryz.prog 125 #[.int .u32 (a:Int)] w fun e w'=>e=.returned (.bool (oddF a))∧w=w':=by
 have HM:=Lib.hid (multi_any a w)
 have hm:oddF a=(decide (a=0) || multiF a):=rfl
 obtain ⟨b,hb⟩:∃ b,b=multiF a:=⟨_,rfl⟩
 rw [← hb] at HM hm
 clear hb
 by_cases h0:a=0
 ·have hz:((a:Int) == 0)=true:=by rw [beq_iff_eq]; omega
  have hr:oddF a=true:=by rw [hm,decide_eq_true h0]; rfl
  rw [hr]
  clear hm hr h0
  go_enter Tryz.func125,Tryz.ntmps125
  go_wp2_with fail
  go_ret
  exact ⟨rfl,rfl⟩
 ·have hz:((a:Int) == 0)=false:=by rw [beq_eq_false_iff_ne]; omega
  have hr:oddF a=b:=by rw [hm,decide_eq_false h0]; rfl
  rw [hr]
  clear hm hr h0
  go_enter Tryz.func125,Tryz.ntmps125
  go_wp2_with fail
  refine HM.out.mono ?_
  rintro e w' ⟨rfl,rfl⟩
  go_wp2_with fail
  go_ret
  exact ⟨rfl,rfl⟩
theorem st_wkd {w:World} {g i:Nat} {u:Value} (hu:w.cell? ⟨g,i,none⟩=some u) (hf:w.frozen? ⟨g,i,none⟩=false) (z:Int):(Instr.storeAt 38 (.pointer (some ⟨g,i,none⟩)) (.int .i64 z)).run Tryz.prog w=.ok () (w.setCell ⟨g,i,none⟩ (.int .i64 z)):=by
 simp [go_sem,hu,hf]
theorem ld_wkd {w:World} {a:Addr} {z:Int} (hu:w.cell? a=some (.int .i64 z)):(Instr.loadAt 38 (.pointer (some a))).run Tryz.prog w=.ok (.int .i64 z) w:=by
 simp [go_sem,hu]
section
variable {w0 w wx wy:World} {rb:Nat} {E:Re} {S:Rs} {pk:Nat→Nat→Int × Int}
theorem RnW.pkA (h:RnW w0 w rb E S) {A:Option Addr} {n c:Nat} (hpv:S.pv=.slice A n c):Reads w (fun k=>k < w.heap.size) 1 A n (bytesV S.x):=by
 obtain ⟨A',n',c',e,_,_,hr⟩:=h.pkt
 rw [hpv] at e
 injection e with e1 e2 e3
 subst e1 e2 e3
 exact hr w (Below.refl _ _)
def FnPost (w0:World) (rb:Nat) (E:Re) (S:Rs) (pk:Nat→Nat→Int × Int) (e:Ending) (w':World):Prop :=
 if oddF S.h.src=true then e=.returned (.bool true)∧RnW w0 w' rb E { S with ft:=dropF S.ft 7 }
 else if oddF S.h.dst=true then e=.returned (.bool true)∧RnW w0 w' rb E { S with ft:=dropF S.ft 8 }
 else if routedF S.h.opts=true then e=.returned (.bool true)∧RnW w0 w' rb E { S with ft:=dropF S.ft 9 }
 else e=.returned (.bool false)∧RnW w0 w' rb E { S with kd:=(fwWay pk E.mtus.length S.x S.h.dst).1,po:=(fwWay pk E.mtus.length S.x S.h.dst).2 }
set_option maxRecDepth 100000 in
set_option maxHeartbeats 8000000 in
attribute [-go_sem] Instr.storeAt Instr.loadAt in
theorem ffine_any (H:TbE w0 E pk) (h:RnW w0 w rb E S) (hsm:S.x.length≤100000) (hdt:S.h.dst < 2 ^ 32) (hol:S.h.opts.length≤1000000) :
  Calls Tryz.prog 69 #[.pointer (some ⟨rb,0,none⟩)] w (FnPost w0 rb E S pk):=by
 obtain ⟨A,n,c,hpv,hn,hc,_⟩:=h.pkt
 obtain ⟨Ah,ch,hhv,_⟩:=h.hv.form
 have l13:=ld_adr (w:=w) (a:=⟨rb,13,none⟩) (z:=(S.h.src:Int)) (h.blk.cell 13)
 have l14:=ld_adr (w:=w) (a:=⟨rb,14,none⟩) (z:=(S.h.dst:Int)) (h.blk.cell 14)
 have l15:=ld_bys (w:=w) (a:=⟨rb,15,none⟩) (A:=Ah) (n:=S.h.opts.length) (c:=ch) (by rw [← hhv]; exact h.blk.cell 15)
 have HO1:=Lib.hid (odd_any S.h.src w)
 have HO2:=Lib.hid (odd_any S.h.dst w)
 have HR:=Lib.hid (routed_any (.slice Ah S.h.opts.length ch) S.h.opts _ w (by rw [← hhv]; exact row_sl h.hv) hol)
 have HW:=Lib.hid (fun wz kd (hz:RnW w0 wz rb E { S with kd:=kd })=>fway_any H hz A n c S.x (fun k=>k < wz.heap.size) (hz.pkA hpv) hn hc (by omega) S.h.dst hdt)
 obtain ⟨Wy,hWy⟩:∃ z,z=fwWay pk E.mtus.length S.x S.h.dst:=⟨_,rfl⟩
 have HD:=Lib.hid (fun d=>fdrop_any h d)
 have HP:Hid (∀ e w',(if oddF S.h.src=true then e=.returned (.bool true)∧RnW w0 w' rb E { S with ft:=dropF S.ft 7 }
  else if oddF S.h.dst=true then e=.returned (.bool true)∧RnW w0 w' rb E { S with ft:=dropF S.ft 8 }
  else if routedF S.h.opts=true then e=.returned (.bool true)∧RnW w0 w' rb E { S with ft:=dropF S.ft 9 }
  else e=.returned (.bool false)∧RnW w0 w' rb E { S with kd:=(fwWay pk E.mtus.length S.x S.h.dst).1,po:=(fwWay pk E.mtus.length S.x S.h.dst).2 })→FnPost w0 rb E S pk e w'):=Lib.hid fun _ _ h=>h
 rw [← hWy] at HW HP
 obtain ⟨kd,po⟩:=Wy
 simp only at HW HP
 obtain ⟨o1,ho1⟩:∃ b,b=oddF S.h.src:=⟨_,rfl⟩
 obtain ⟨o2,ho2⟩:∃ b,b=oddF S.h.dst:=⟨_,rfl⟩
 obtain ⟨o3,ho3⟩:∃ b,b=routedF S.h.opts:=⟨_,rfl⟩
 rw [← ho1] at HO1 HP
 rw [← ho2] at HO2 HP
 rw [← ho3] at HR HP
 have HH:=Lib.hid h
 have HPV:=Lib.hid hpv
 clear h hpv hn hc hhv hWy ho1 ho2 ho3 H
 cases o1 with
 | true =>
   have hd:=HD.out 7
   go_enter Tryz.func69,Tryz.ntmps69
   go_wp2_with fail
   refine HO1.out.mono ?_
   rintro e w' ⟨rfl,rfl⟩
   go_wp2_with fail
   refine hd.mono ?_
   rintro e w3 ⟨rfl,hw⟩
   have HF:=Lib.hid hw
   clear hw hd
   go_wp2_with fail
   go_ret
   exact HP.out _ _ (by rw [if_pos (by trivial)]; exact ⟨rfl,HF.out⟩)
 | false =>
 cases o2 with
 | true =>
   have hd:=HD.out 8
   go_enter Tryz.func69,Tryz.ntmps69
   go_wp2_with fail
   refine HO1.out.mono ?_
   rintro e w' ⟨rfl,rfl⟩
   go_wp2_with fail
   refine HO2.out.mono ?_
   rintro e w' ⟨rfl,rfl⟩
   go_wp2_with fail
   refine hd.mono ?_
   rintro e w3 ⟨rfl,hw⟩
   have HF:=Lib.hid hw
   clear hw hd
   go_wp2_with fail
   go_ret
   exact HP.out _ _ (by rw [if_neg (by decide),if_pos (by trivial)]; exact ⟨rfl,HF.out⟩)
 | false =>
 have HDB:=Lib.hid (fun wx (hb:Below w.heap.size w wx)=>fdrop_any (HH.out.below hb) 9)
 go_enter Tryz.func69,Tryz.ntmps69
 go_wp2_with fail
 refine HO1.out.mono ?_
 rintro e w' ⟨rfl,rfl⟩
 go_wp2_with fail
 refine HO2.out.mono ?_
 rintro e w' ⟨rfl,rfl⟩
 go_wp2_with fail
 refine HR.out.mono ?_
 rintro e w1 ⟨rfl,hb1⟩
 have HB1:=Lib.hid hb1
 clear hb1
 cases o3 with
 | true =>
   have hd:=HDB.out w1 HB1.out
   go_wp2_with fail
   refine hd.mono ?_
   rintro e w3 ⟨rfl,hw⟩
   have HF:=Lib.hid hw
   clear hw hd
   go_wp2_with fail
   go_ret
   exact HP.out _ _ (by rw [if_neg (by decide),if_neg (by decide),if_pos (by trivial)]; exact ⟨rfl,HF.out⟩)
 | false =>
   have H1:=Lib.hid (HH.out.below HB1.out)
   clear l13 l14 l15 HD HDB HO1 HO2 HR
   go_upto_region 7 with (fail)
   refine wp_region_mix [(true,16),(false,6)] 3 (by kernel_rfl) (fun a=>∃ kd,RnW w0 a rb E { S with kd:=kd }) (fun _ _ h k=>by obtain ⟨kd,h⟩:=h; exact ⟨kd,h.below k⟩) (by kernel_rfl) ⟨S.kd,H1.out⟩ (a':=?_) (fun wz hz=>?_) fun wz hz=>?_
   rotate_left
   ·obtain ⟨kd',hz⟩:=hz
    have l4:=fun (d:Nat) (os:Array Obj)=>ld_bys (cell_regrown (show wz.cell? ⟨rb,4,none⟩=some (.slice A n c) by rw [← HPV.out]; exact hz.blk.cell 4) d os)
    have l14:=fun (d:Nat) (os:Array Obj)=>ld_adr (cell_regrown (show wz.cell? ⟨rb,14,none⟩=some (.int .u32 (S.h.dst:Int)) from hz.blk.cell 14) d os)
    have qc:=fun (d:Nat) (os:Array Obj)=>Calls.regrown_of (HW.out (grow (redrawn wz d) os) kd' (hz.below (below_regrown wz d os)))
    clear hz
    simp only [pick_nil,pick_tt,pick_ft,List.take_succ_cons,List.take_zero,List.drop_succ_cons,List.drop_zero,List.append_nil]
    repeat (go_big_quiet_step (with_reducible exact qc _ _))
    refine wpQuiet_nil ?_
    rfl
   simp only [pick_nil,pick_ff,pick_tf,List.take_succ_cons,List.take_zero,List.drop_succ_cons,List.drop_zero,List.append_nil]
   have HZ:=Lib.hid (H1.out.below hz)
   clear hz
   refine wpMix_step ⟨S.kd,HZ.out⟩ fun wa ha=>?_
   have HA:=Lib.hid (HZ.out.below ha)
   clear ha
   go_wp2_with fail
   refine wpMix_step ⟨S.kd,HA.out⟩ fun wb hb=>?_
   have HB:=Lib.hid (HA.out.below hb)
   clear hb
   go_wp2_with fail
   refine wpMix_step ⟨S.kd,HB.out⟩ fun wc hc=>?_
   have HC:=Lib.hid (HB.out.below hc)
   clear hc
   have s16:=st_wkd (HC.out.blk.cell 16) (HC.out.blk.frozen 16) kd
   have h2:=HC.out.put (i:=16) (u:=.int .i64 kd) (S':={ S with kd:=kd }) rfl HC.out.pk HC.out.hv HC.out.lc HC.out.ou rfl
   obtain ⟨w2,hw2⟩:∃ w2,w2=wc.setCell ⟨rb,16,none⟩ (.int .i64 kd):=⟨_,rfl⟩
   rw [← hw2] at s16 h2
   have H2:=Lib.hid h2
   clear h2 hw2
   go_wp2_with fail
   refine wpMix_step ⟨kd,H2.out⟩ fun wd hd=>?_
   have H3:=Lib.hid (H2.out.below hd)
   clear hd s16
   have s17:=st_int (H3.out.blk.cell 17) (H3.out.blk.frozen 17) po
   have h3:=H3.out.put (i:=17) (u:=.int .i64 po) (S':={ S with kd:=kd,po:=po }) rfl H3.out.pk H3.out.hv H3.out.lc H3.out.ou rfl
   have HF:=Lib.hid h3
   clear h3
   go_wp2_with fail
   refine wpMix_plain ?_
   go_wp2_with fail
   go_ret
   exact HP.out _ _ (by rw [if_neg (by decide),if_neg (by decide),if_neg (by decide)]; exact ⟨rfl,HF.out⟩)
end
end Go.Proofs.YthlommalbkhcjaaGreat
namespace Go.Proofs.YthlommalbkhcjaaGreat
open Go.RowKit Go.Sort Go.BigFrame
theorem u8_eq (t:UInt8) (k:UInt8):(t == k)=decide ((t.toNat:Int)=(k.toNat:Int)):=by
 rw [Bool.eq_iff_iff,beq_iff_eq,decide_eq_true_eq]
 exact ⟨fun h=>by rw [h],fun h=>UInt8.toNat_inj.1 (by omega)⟩
theorem echo_steps (h:Hd) (p:By):echoH h p=(!fragH h && (decide (h.proto=1) && (decide ((icOf p).2=0) && (decide (((icOf p).1.ty.toNat:Int)=8) && decide (((icOf p).1.co.toNat:Int)=0))))):=by
 unfold echoH
 rw [u8_eq,u8_eq]
 simp [Bool.and_assoc]
attribute [-go_sem] Instr.storeAt Instr.loadAt in
set_option maxRecDepth 100000 in
set_option maxHeartbeats 8000000 in
theorem echo_any (A:Option Addr) (n c:Nat) (x:By) (I:Nat→Prop) (w:World) (h:Reads w I 1 A n (bytesV x)) (hn:x.length=n) (hc:n≤c) (hsm:n≤1000000) :
  Calls Tryz.prog 128 #[.slice A n c] w fun e w'=>e=.returned (.bool (echoF x))∧Below w.heap.size w w':=by
 have hpa:=parse_any A n c x I w h hn hc hsm
 have hpl:=prs_len x
 obtain ⟨E,hE⟩:∃ E,E=echoF x:=⟨_,rfl⟩
 rw [← hE]
 unfold echoF at hE
 rw [echo_steps] at hE
 obtain ⟨R,hR⟩:∃ R,R=prsF x:=⟨_,rfl⟩
 rw [← hR] at hpa hE hpl
 obtain ⟨g,y,f⟩:=R
 simp only at hE hpl
 have HPA:=Lib.hid hpa
 obtain ⟨O,hO⟩:∃ O,O=icOf y:=⟨_,rfl⟩
 rw [← hO] at hE
 have HO:=Lib.hid hO
 obtain ⟨q,hq⟩:∃ q,q=y.length:=⟨_,rfl⟩
 have HQ:=Lib.hid hq
 have hqs:q≤1000000:=by omega
 obtain ⟨fg,hfg⟩:∃ b,b=fragH g:=⟨_,rfl⟩
 obtain ⟨pr,hpr⟩:∃ z,z=g.proto:=⟨_,rfl⟩
 obtain ⟨ty,hty⟩:∃ z:Int,z=(O.1.ty.toNat:Int):=⟨_,rfl⟩
 obtain ⟨co,hco⟩:∃ z:Int,z=(O.1.co.toNat:Int):=⟨_,rfl⟩
 obtain ⟨er,her⟩:∃ z,z=O.2:=⟨_,rfl⟩
 rw [← hfg,← hpr,← hty,← hco,← her] at hE
 have HE:=Lib.hid hE
 have HFG:=Lib.hid hfg
 have HPR:=Lib.hid hpr
 have HTY:=Lib.hid hty
 have HCO:=Lib.hid hco
 have HER:=Lib.hid her
 clear hpa hE hR h hn hc hsm hO hq hfg hpr hty hco her hpl
 go_enter Tryz.func128,Tryz.ntmps128
 go_upto_region 2 with
  (go_at_call 33
   refine HPA.out.mono ?_
   rintro e w1 ⟨vo,vq,rfl,ho,hq,_,hb⟩
   obtain ⟨Ao,co',rfl,_⟩:=ho.form
   obtain ⟨Aq,cq,rfl,hcq⟩:=hq.form
   rw [show (g,y,f).2.1.length=q from HQ.out.symm] at hcq ⊢
   obtain ⟨w2,hst,hb2,hb12,hk2⟩:=hd_var hb hb.size g Ao g.opts.length co'
   have HB2:=Lib.hid hb2
   have HH2:=Lib.hid hk2
   have HQ2:=Lib.hid (hq.below hb12)
   clear ho hq hb hb2 hb12 hk2)
 have hq2:=HQ2.out.reads.2
 rw [show (g,y,f).2.1.length=q from HQ.out.symm] at hq2
 have hof:=icof_any Aq q cq y _ w2 hq2 HQ.out.symm hcq hqs
 rw [← HO.out] at hof
 have HOF:=Lib.hid hof
 clear hq2 hof hst
 obtain ⟨gh,hgh⟩:∃ z,z=w1.heap.size:=⟨_,rfl⟩
 rw [← hgh] at HH2 ⊢
 clear hgh
 go_upto_region 3 with
  (go_at_call 34
   refine HOF.out.mono ?_
   rintro e w3 ⟨v3,rfl,h3,hb3⟩
   obtain ⟨A3,c3,rfl,_⟩:=h3.form
   have hb3':=HB2.out.trans (hb3.mono HB2.out.size)
   have hh3:=HH2.out.below hb3 HH2.out.lt
   obtain ⟨w4,hst4,hb4,hb34,hk4⟩:=ic_var hb3' hb3'.size O.1 A3 O.1.body.length c3
   have HH4:=Lib.hid (hh3.below hb34 hh3.lt)
   have HB4:=Lib.hid hb4
   have HK4:=Lib.hid hk4
   rw [← HER.out]
   unfold icV
   clear h3 hb3 hb3' hh3 hb4 hb34 hk4)
 have hld:=hd_load HH4.out rfl
 have k7:w4.cell? ⟨gh,7,none⟩=some (.int .u8 (pr:Int)):=by rw [HPR.out]; exact HH4.out.cell 7
 have t0:w4.cell? ⟨w3.heap.size,0,none⟩=some (.int .u8 ty):=by rw [HTY.out]; exact HK4.out.cell 0
 have t1:w4.cell? ⟨w3.heap.size,1,none⟩=some (.int .u8 co):=by rw [HCO.out]; exact HK4.out.cell 1
 by_cases c1:f=0
 rotate_left
 ·have hE:=HE.out
  rw [decide_eq_false c1,Bool.false_and] at hE
  subst hE
  have b1:((f:Int) == 0)=false:=beq_eq_false_iff_ne.2 (by omega)
  clear c1
  go_wp2_with fail
  go_ret
  exact ⟨rfl,HB4.out⟩
 have b1:((f:Int) == 0)=true:=beq_iff_eq.2 (by omega)
 have hE:=HE.out
 rw [decide_eq_true c1,Bool.true_and] at hE
 clear c1 HE
 have hfr:=frag_any g Ao g.opts.length co' w4
 rw [← HFG.out] at hfr
 have HFR:=Lib.hid hfr
 clear hfr
 have hl5:∀ w5,Below w4.heap.size w4 w5→w5.cell? ⟨gh,7,none⟩=some (.int .u8 (pr:Int))∧w5.cell? ⟨w3.heap.size,0,none⟩=some (.int .u8 ty)∧w5.cell? ⟨w3.heap.size,1,none⟩=some (.int .u8 co):=fun w5 hb=>⟨(hb.cell (block_lt_of_cell k7)).trans k7,(hb.cell (block_lt_of_cell t0)).trans t0,(hb.cell (block_lt_of_cell t1)).trans t1⟩
 have HL5:=Lib.hid hl5
 clear hl5 k7 t0 t1
 cases fg with
 | true =>
   rw [Bool.not_true,Bool.false_and] at hE
   subst hE
   go_wp2_with (go_at_call 96; refine HFR.out.mono ?_; rintro e w5 ⟨rfl,hb5⟩; have HB5:=Lib.hid (HB4.out.trans (hb5.mono HB4.out.size)); clear hb5)
   go_ret
   exact ⟨rfl,HB5.out⟩
 | false =>
 rw [Bool.not_false,Bool.true_and] at hE
 by_cases c2:pr=1
 rotate_left
 ·rw [decide_eq_false c2,Bool.false_and] at hE
  subst hE
  have b2:(((pr:Int)) == 1)=false:=beq_eq_false_iff_ne.2 (by omega)
  clear c2
  go_wp2_with (go_at_call 96; refine HFR.out.mono ?_; rintro e w5 ⟨rfl,hb5⟩; have HB5:=Lib.hid (HB4.out.trans (hb5.mono HB4.out.size)); obtain ⟨k7,t0,t1⟩:=HL5.out _ hb5; have k7:=ld_u8s k7; have t0:=ld_u8s t0; have t1:=ld_u8s t1; clear hb5)
  go_ret
  exact ⟨rfl,HB5.out⟩
 rw [decide_eq_true c2,Bool.true_and] at hE
 have b2:(((pr:Int)) == 1)=true:=beq_iff_eq.2 (by omega)
 clear c2
 by_cases c3:er=0
 rotate_left
 ·rw [decide_eq_false c3,Bool.false_and] at hE
  subst hE
  have b3:(((er:Int)) == 0)=false:=beq_eq_false_iff_ne.2 (by omega)
  clear c3
  go_wp2_with (go_at_call 96; refine HFR.out.mono ?_; rintro e w5 ⟨rfl,hb5⟩; have HB5:=Lib.hid (HB4.out.trans (hb5.mono HB4.out.size)); obtain ⟨k7,t0,t1⟩:=HL5.out _ hb5; have k7:=ld_u8s k7; have t0:=ld_u8s t0; have t1:=ld_u8s t1; clear hb5)
  go_ret
  exact ⟨rfl,HB5.out⟩
 rw [decide_eq_true c3,Bool.true_and] at hE
 have b3:(((er:Int)) == 0)=true:=beq_iff_eq.2 (by omega)
 clear c3
 by_cases c4:ty=8
 rotate_left
 ·rw [decide_eq_false c4,Bool.false_and] at hE
  subst hE
  have b4:((ty) == 8)=false:=beq_eq_false_iff_ne.2 (by omega)
  clear c4
  go_wp2_with (go_at_call 96; refine HFR.out.mono ?_; rintro e w5 ⟨rfl,hb5⟩; have HB5:=Lib.hid (HB4.out.trans (hb5.mono HB4.out.size)); obtain ⟨k7,t0,t1⟩:=HL5.out _ hb5; have k7:=ld_u8s k7; have t0:=ld_u8s t0; have t1:=ld_u8s t1; clear hb5)
  go_ret
  exact ⟨rfl,HB5.out⟩
 rw [decide_eq_true c4,Bool.true_and] at hE
 have b4:((ty) == 8)=true:=beq_iff_eq.2 (by omega)
 clear c4
 by_cases c5:co=0
 rotate_left
 ·rw [decide_eq_false c5] at hE
  subst hE
  have b5:((co) == 0)=false:=beq_eq_false_iff_ne.2 (by omega)
  clear c5
  go_wp2_with (go_at_call 96; refine HFR.out.mono ?_; rintro e w5 ⟨rfl,hb5⟩; have HB5:=Lib.hid (HB4.out.trans (hb5.mono HB4.out.size)); obtain ⟨k7,t0,t1⟩:=HL5.out _ hb5; have k7:=ld_u8s k7; have t0:=ld_u8s t0; have t1:=ld_u8s t1; clear hb5)
  go_ret
  exact ⟨rfl,HB5.out⟩
 rw [decide_eq_true c5] at hE
 have b5:((co) == 0)=true:=beq_iff_eq.2 (by omega)
 clear c5
 subst hE
 go_wp2_with (go_at_call 96; refine HFR.out.mono ?_; rintro e w5 ⟨rfl,hb5⟩; have HB5:=Lib.hid (HB4.out.trans (hb5.mono HB4.out.size)); obtain ⟨k7,t0,t1⟩:=HL5.out _ hb5; have k7:=ld_u8s k7; have t0:=ld_u8s t0; have t1:=ld_u8s t1; clear hb5)
 go_ret
 exact ⟨rfl,HB5.out⟩
end Go.Proofs.YthlommalbkhcjaaGreat
namespace Go.Proofs.YthlommalbkhcjaaGreat
open Go.RowKit Go.Sort Go.BigFrame
theorem ld_u16s {w:World} {a:Addr} {z:Int} (hu:w.cell? a=some (.int .u16 z)):(Instr.loadAt 74 (.pointer (some a))).run Tryz.prog w=.ok (.int .u16 z) w:=by
 simp [go_sem,hu]
theorem hd_build5 (w:World) (t i s d:Int) (b:Bool):(Instr.build 76 #[(0,.int .u8 t),(1,.int .u16 i),(3,.bool b),(8,.int .u32 s),(9,.int .u32 d)]).run Tryz.prog w=.ok (.agg #[.int .u8 t,.int .u16 i,.bool false,.bool b,.bool false,.int .i64 0,.int .u8 0,.int .u8 0,.int .u32 s,.int .u32 d,.slice none 0 0]) w:=by kernel_rfl
attribute [-go_sem] Instr.storeAt Instr.loadAt in
set_option maxRecDepth 100000 in
set_option maxHeartbeats 8000000 in
theorem reply_any (A:Option Addr) (n c:Nat) (x:By) (I:Nat→Prop) (w:World) (h:Reads w I 1 A n (bytesV x)) (hn:x.length=n) (hc:n≤c) (hsm:n≤1000000) :
  Calls Tryz.prog 129 #[.slice A n c] w (BytPost w (replyF x).1 ((replyF x).2:Int)):=by
 have hpa:=parse_any A n c x I w h hn hc hsm
 have hok:=prs_ok x
 have hpl:=prs_len x
 have hfit:echoF x=true→fitsH (replyH (prsF x).1) (icB { (icOf (prsF x).2.1).1 with ty:=0 })=true:=fun he=>replyH_fits _ (by rw [icB_len]; exact reply_len he)
 have hbl:echoF x=true→(icOf (prsF x).2.1).1.body.length≤65535:=fun he=>by have:=reply_len he; omega
 have HEC:=Lib.hid (fun wx (hb:Below w.heap.size w wx)=>echo_any A n c x (fun j=>I j∧j < w.heap.size) wx (h.lt.keep (Same.ofBelow hb fun j hj=>hj.2)) hn hc hsm)
 obtain ⟨E,hE⟩:∃ E,E=replyF x:=⟨_,rfl⟩
 rw [← hE]
 unfold replyF at hE
 obtain ⟨ec,hec⟩:∃ b,b=echoF x:=⟨_,rfl⟩
 rw [← hec] at HEC hE hfit hbl
 obtain ⟨R,hR⟩:∃ R,R=prsF x:=⟨_,rfl⟩
 rw [← hR] at hpa hE hok hpl hfit hbl
 obtain ⟨g,y,f⟩:=R
 simp only at hE hok hpl hfit hbl
 obtain ⟨O,hO⟩:∃ O,O=icOf y:=⟨_,rfl⟩
 rw [← hO] at hE hfit hbl
 have HO:=Lib.hid hO
 have HPA:=Lib.hid hpa
 have HE:=Lib.hid hE
 have HOK:=Lib.hid hok
 have HFIT:=Lib.hid hfit
 have HBL:=Lib.hid hbl
 obtain ⟨q,hq⟩:∃ q,q=y.length:=⟨_,rfl⟩
 have HQ:=Lib.hid hq
 have hqs:q≤1000000:=by omega
 clear hpa hE hR h hn hc hsm hO hq hpl hok hfit hbl hec
 go_enter Tryz.func129,Tryz.ntmps129
 go_upto_region 2 with
  (go_at_call 33
   refine HPA.out.mono ?_
   rintro e w1 ⟨vo,vq,rfl,ho,hq,_,hb⟩
   obtain ⟨Ao,co,rfl,_⟩:=ho.form
   obtain ⟨Aq,cq,rfl,hcq⟩:=hq.form
   rw [show (g,y,f).2.1.length=q from HQ.out.symm] at hcq ⊢
   obtain ⟨w2,hst,hb2,hb12,hk2⟩:=hd_var hb hb.size g Ao g.opts.length co
   have HB2:=Lib.hid hb2
   have HH2:=Lib.hid hk2
   have HQ2:=Lib.hid ((hq.below hb12).reads.2)
   clear ho hq hb hb2 hb12 hk2)
 rw [show (g,y,f).2.1.length=q from HQ.out.symm] at HQ2
 by_cases c1:f≠0
 ·have hE:=HE.out
  rw [if_pos c1] at hE
  subst hE
  have b1:((f:Int) != 0)=true:=by rw [bne_iff_ne]; omega
  clear c1
  go_wp2_with fail
  go_ret2
  exact ⟨_,rfl,Row8.nil _ _,HB2.out⟩
 have b1:((f:Int) != 0)=false:=by rw [bne_eq_false_iff_eq]; omega
 have hE:=HE.out
 rw [if_neg c1] at hE
 clear c1 HE
 obtain ⟨gh,hgh⟩:∃ z,z=w1.heap.size:=⟨_,rfl⟩
 rw [← hgh] at HH2 ⊢
 clear hgh hst
 cases ec with
 | false =>
   rw [if_pos rfl] at hE
   subst hE
   go_wp2_with (go_at_call 128; refine (HEC.out _ HB2.out).mono ?_; rintro e w3 ⟨rfl,hb3⟩; have HB3:=Lib.hid (HB2.out.trans (hb3.mono HB2.out.size)); clear hb3)
   go_ret2
   exact ⟨_,rfl,Row8.nil _ _,HB3.out⟩
 | true =>
 rw [if_neg (by simp)] at hE
 have HE:=Lib.hid hE
 clear hE
 have HOF:=Lib.hid (fun wx (hb:Below w2.heap.size w2 wx)=>icof_any Aq q cq y _ wx (HQ2.out.lt.keep (Same.ofBelow hb fun j hj=>hj.2)) HQ.out.symm hcq hqs)
 rw [← HO.out] at HOF
 obtain ⟨er,her⟩:∃ z,z=O.2:=⟨_,rfl⟩
 rw [← her] at *
 go_upto_region 7 with
  (first
   | (go_at_call 128; refine (HEC.out _ HB2.out).mono ?_; rintro e w3 ⟨rfl,hb3⟩; have HB3:=Lib.hid (HB2.out.trans (hb3.mono HB2.out.size)); have HB23:=Lib.hid hb3; clear hb3)
   | (go_at_call 34
      refine (HOF.out _ HB23.out).mono ?_
      rintro e w4 ⟨v4,rfl,h4,hb4⟩
      obtain ⟨A4,c4,rfl,_⟩:=h4.form
      have hb4':=HB3.out.trans (hb4.mono HB3.out.size)
      have hh4:=HH2.out.below (HB23.out.trans (hb4.mono HB23.out.size)) HH2.out.lt
      obtain ⟨w5,hst5,hb5,hb45,hk5⟩:=ic_var hb4' hb4'.size O.1 A4 O.1.body.length c4
      have HH5:=Lib.hid (hh4.below hb45 hh4.lt)
      have HB5:=Lib.hid hb5
      have HK5:=Lib.hid hk5
      have HS5:=Lib.hid (show Sl8 w5 (fun k=>k < w4.heap.size) (.slice A4 O.1.body.length c4) O.1.body from (h4.sl.mono fun k hk=>hk.2).keep (Same.ofBelow hb45 fun k hk=>hk))
      have HNE:=Lib.hid (show gh≠w4.heap.size by have:=hh4.lt; omega)
      have HGI:=Lib.hid hb4'.size
      unfold icV
      clear h4 hb4 hb4' hh4 hb5 hb45 hk5))
 obtain ⟨gi,hgi⟩:∃ z,z=w4.heap.size:=⟨_,rfl⟩
 rw [← hgi] at HK5 HNE HGI HS5 ⊢
 clear hgi hst5
 have hs6:=st8 (HK5.out.cell 0) (HK5.out.frozen 0) 0
 obtain ⟨W6,hW6⟩:∃ W,W=w5.setCell ⟨gi,0,none⟩ (.int .u8 0):=⟨_,rfl⟩
 have hu6:=upd_set w5 gi 0 (.int .u8 0)
 obtain ⟨N,hN⟩:∃ N:Ic,N={ O.1 with ty:=0 }:=⟨_,rfl⟩
 have hnb:N.body=O.1.body:=by rw [hN]
 have K6:=Lib.hid (show Blk W6 gi 86 (icC N (.slice A4 O.1.body.length c4)) from by rw [hW6,hN]; exact HK5.out.set_ 0 _)
 rw [← hW6] at hu6 hs6
 have HB6:=Lib.hid (HB5.out.trans (hu6.below (B:=w.heap.size) (fun j (hj:j=gi)=>by have:=HGI.out; omega) HB5.out.size))
 have HH6:=Lib.hid (show Blk W6 gh 76 (hdC g (.slice Ao g.opts.length co)) from (hu6.block _ HH5.out.lt (fun (e:gh=gi)=>HNE.out e)).trans HH5.out)
 obtain ⟨bl,hbl⟩:∃ z,z=O.1.body.length:=⟨_,rfl⟩
 have HOB:=Lib.hid hbl
 have HS6:=Lib.hid (show Sl8 W6 (fun _=>True) (.slice A4 O.1.body.length c4) N.body from by
  rw [hnb]
  exact (HS5.out.keep (hu6.same fun j (hj:j=gi) hi=>by omega)).mono fun _ _=>trivial)
 have HN:=Lib.hid hN
 clear hu6 hW6 hN
 go_upto_region 8 with (fail)
 clear hs6
 have l1:=ic_load K6.out rfl
 obtain ⟨tos,hto⟩:∃ z:Int,z=(g.tos:Int):=⟨_,rfl⟩
 obtain ⟨idn,hid⟩:∃ z:Int,z=(g.id:Int):=⟨_,rfl⟩
 obtain ⟨dfb,hdf⟩:∃ z,z=g.df:=⟨_,rfl⟩
 obtain ⟨sr,hsr⟩:∃ z:Int,z=(g.src:Int):=⟨_,rfl⟩
 obtain ⟨ds,hds⟩:∃ z:Int,z=(g.dst:Int):=⟨_,rfl⟩
 have l2:=ld_u8s (show W6.cell? ⟨gh,0,none⟩=some (.int .u8 tos) by rw [hto]; exact HH6.out.cell 0)
 have l3:=ld_u16s (show W6.cell? ⟨gh,1,none⟩=some (.int .u16 idn) by rw [hid]; exact HH6.out.cell 1)
 have l4:=ld_bool (show W6.cell? ⟨gh,3,none⟩=some (.bool dfb) by rw [hdf]; exact HH6.out.cell 3)
 have l5:=ld_u32s (show W6.cell? ⟨gh,9,none⟩=some (.int .u32 ds) by rw [hds]; exact HH6.out.cell 9)
 have l6:=ld_u32s (show W6.cell? ⟨gh,8,none⟩=some (.int .u32 sr) by rw [hsr]; exact HH6.out.cell 8)
 have bd:=fun wx=>hd_build5 wx tos idn ds sr dfb
 have hsn:Calls Tryz.prog 167 #[.agg (icC N (.slice A4 O.1.body.length c4)),.agg #[.int .u8 tos,.int .u16 idn,.bool false,.bool dfb,.bool false,.int .i64 0,.int .u8 0,.int .u8 0,.int .u32 ds,.int .u32 sr,.slice none 0 0]] W6 (BytPost W6 (bytesF (replyH g) (icB N)) 0):=by
  rw [hto,hid,hdf,hsr,hds]
  exact send_any N (.slice A4 O.1.body.length c4) { hd0 with tos:=g.tos,id:=g.id,df:=g.df,src:=g.dst,dst:=g.src } (.slice none 0 0) (fun _=>True) W6 HS6.out (sl_nil _ _) (by rw [hnb]; have:=HBL.out (by trivial); omega) (replyH_ok HOK.out) (by
   have:=HFIT.out (by trivial)
   rw [HN.out]
   exact this)
 have HSN:=Lib.hid hsn
 clear hsn hto hid hdf hsr hds hnb
 go_wp2_with fail
 refine HSN.out.mono ?_
 rintro e w9 ⟨v9,rfl,h9,hb9⟩
 obtain ⟨A9,c9,rfl,_⟩:=h9.form
 have H9:=Lib.hid (own_base h9 HB6.out.size)
 have HB9:=Lib.hid (HB6.out.trans (hb9.mono HB6.out.size))
 clear h9 hb9
 go_wp2_with fail
 go_ret2
 rw [HE.out]
 refine ⟨_,rfl,?_,HB9.out⟩
 simp only
 rw [← HN.out]
 exact H9.out
end Go.Proofs.YthlommalbkhcjaaGreat
