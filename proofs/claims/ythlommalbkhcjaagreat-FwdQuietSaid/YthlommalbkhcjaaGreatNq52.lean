/- Layer 18: known. -/
import Derived.Test.YthlommalbkhcjaaGreatNq50
import Derived.Test.YthlommalbkhcjaaGreatNq51
import Derived.Test.YthlommalbkhcjaaGreatNq26
import Derived.LoopN
namespace Go.Proofs.YthlommalbkhcjaaGreat
open Go.RowKit Go.Sort Go.BigFrame
section
variable {w0 w wx wy:World} {rb:Nat} {E:Re} {S:Rs} {pk:Nat→Nat→Int × Int}
theorem TbE.below (h:TbE w0 E pk) (hb:Below w0.heap.size w0 wx) (kb:Nat) (kc:Array Value):TbE wx { E with kb:=kb,kc:=kc } pk:=by
 refine ⟨?_,?_,h.ml,h.own,h.m8⟩
 ·obtain ⟨dc,wk,T,M,tb,limit,h1,h2,h3,h4,h5,h6⟩:=h.ex
  exact ⟨dc,wk,T,M,tb,limit,h1,h2,h3.below hb,h4,h5,h6⟩
 ·have:=h.mt.lt.keep (Same.ofBelow hb fun k hk=>hk.2)
  exact this.mono fun k hk=>⟨Nat.lt_of_lt_of_le hk.2 hb.size,hk.1.2⟩
theorem wrong_zero {l:List Int} {n:Nat} (h1:l.length≤8) (h2:∀ m ∈ l,68≤m∧m≤1500) (h3:n≤2048):wrongM l n=0:=by
 unfold wrongM
 have:l.any badM=false:=List.any_eq_false.2 fun m hm=>by
  have:=h2 m hm
  unfold badM
  simp
  omega
 rw [if_neg (by omega),this,if_neg (by decide),if_neg (by omega)]
def fwRest (pk:Nat→Nat→Int × Int) (mtus:List Int) (own:Nat) (tok:Int) (h:Hd) (x:By):Ft × Int :=
 if oddF h.src=true then (dropF ft0 7,tok)
 else if oddF h.dst=true then (dropF ft0 8,tok)
 else if routedF h.opts=true then (dropF ft0 9,tok)
 else if (fwWay pk mtus.length x h.dst).1=1 then (fwHere pk mtus own h x ft0,tok)
 else fwOn pk mtus own tok h (fwWay pk mtus.length x h.dst).1 (fwWay pk mtus.length x h.dst).2 x ft0
theorem judge_rest (b:By) (mtus:List Int) (own:Nat) (tok:Int):fwJudge pk mtus own tok b=if (prsF b).2.2=0 then fwRest pk mtus own tok (prsF b).1 (b.take (20+(prsF b).1.opts.length+(prsF b).2.1.length)) else (dropF ft0 (prsF b).2.2,tok):=by
 unfold fwJudge fwRest
 by_cases h:(prsF b).2.2=0
 ·rw [if_neg (by omega),if_pos h]
 ·rw [if_pos h,if_neg h]
theorem fn_cases (hft:S.ft=ft0) {e:Ending} {w':World} (h:FnPost w0 rb E S pk e w') :
  (e=.returned (.bool true)∧∃ F,fwRest pk E.mtus E.own S.tok S.h S.x=(F,S.tok)∧RnW w0 w' rb E { S with ft:=F }) ∨
  (e=.returned (.bool false)∧RnW w0 w' rb E { S with kd:=(fwWay pk E.mtus.length S.x S.h.dst).1,po:=(fwWay pk E.mtus.length S.x S.h.dst).2 } ∧
   fwRest pk E.mtus E.own S.tok S.h S.x=if (fwWay pk E.mtus.length S.x S.h.dst).1=1 then (fwHere pk E.mtus E.own S.h S.x S.ft,S.tok) else fwOn pk E.mtus E.own S.tok S.h (fwWay pk E.mtus.length S.x S.h.dst).1 (fwWay pk E.mtus.length S.x S.h.dst).2 S.x S.ft):=by
 unfold FnPost at h
 unfold fwRest
 rw [hft] at h ⊢
 split at h
 ·rename_i c1
  exact .inl ⟨h.1,_,by rw [if_pos c1],h.2⟩
 rename_i c1
 split at h
 ·rename_i c2
  exact .inl ⟨h.1,_,by rw [if_neg c1,if_pos c2],h.2⟩
 rename_i c2
 split at h
 ·rename_i c3
  exact .inl ⟨h.1,_,by rw [if_neg c1,if_neg c2,if_pos c3],h.2⟩
 rename_i c3
 exact .inr ⟨h.1,h.2,by rw [if_neg c1,if_neg c2,if_neg c3]⟩
def rn0 (fb own:Nat) (Am:Option Addr) (m cm bb:Nat) (A:Option Addr) (n c:Nat):Array Value:=#[.pointer (some ⟨fb,0,none⟩),.int .u32 (own:Int),.slice Am m cm,.pointer (some ⟨bb,0,none⟩),.slice A n c,
 .int .u8 0,.int .u16 0,.bool false,.bool false,.bool false,.int .i64 0,.int .u8 0,.int .u8 0,.int .u32 0,.int .u32 0,.slice none 0 0,.int .i64 0,.int .i64 0,.int .i64 0,.int .i64 0,.slice none 0 0,.slice none 0 0]
theorem bd_run (fb own:Nat) (Am:Option Addr) (m cm bb:Nat) (A:Option Addr) (n c:Nat) (w:World):(Instr.build 142 #[(0,.pointer (some ⟨fb,0,none⟩)),(1,.int .u32 (own:Int)),(2,.slice Am m cm),(3,.pointer (some ⟨bb,0,none⟩)),(4,.slice A n c)]).run Tryz.prog w=.ok (.agg (rn0 fb own Am m cm bb A n c)) w:=by kernel_rfl
theorem box_run (fb own:Nat) (Am:Option Addr) (m cm bb:Nat) (A:Option Addr) (n c:Nat) (w:World):(Instr.box 142 (.agg (rn0 fb own Am m cm bb A n c))).run Tryz.prog w=.ok (.pointer (some ⟨w.heap.size,0,none⟩)) (w.alloc (.cells (rn0 fb own Am m cm bb A n c) 142)):=by kernel_rfl
set_option maxRecDepth 100000 in
set_option maxHeartbeats 16000000 in
attribute [-go_sem] Instr.storeAt Instr.loadAt Instr.build Instr.box in
theorem fjudge_any (H:TbE w E pk) (hp0:PkPos pk) {tok:Int} (hbk:IsBk w E.bb 64 1 tok 0) (htk:0≤tok∧tok≤64) {A:Option Addr} {n c:Nat} {x:By} (hx:Reads w (fun k=>k < w.heap.size∧k≠E.bb) 1 A n (bytesV x)) (hn:x.length=n) (hc:n≤c) (hsm:n≤2048) :
  Calls Tryz.prog 28 #[.pointer (some ⟨E.fb,0,none⟩),.int .u32 (E.own:Int),.slice E.Am E.mtus.length E.cm,.pointer (some ⟨E.bb,0,none⟩),.slice A n c] w (JgPost w E.bb (fwJudge pk E.mtus E.own tok x)):=by
 have hbl:E.bb < w.heap.size:=Blk.lt hbk
 obtain ⟨W0,hW0⟩:∃ Z,Z=w.alloc (.cells #[.int .i64 0,.int .i64 0,.slice none 0 0,.slice none 0 0] 71):=⟨_,rfl⟩
 have hb0:Below w.heap.size w W0:=by rw [hW0]; exact (Below.refl _ _).alloc (Nat.le_refl _) _
 have hg0:Blk W0 w.heap.size 71 #[.int .i64 0,.int .i64 0,.slice none 0 0,.slice none 0 0]:=by rw [hW0]; exact Blk.new w _ _
 have HCP:=Lib.hid (bcopy_any E.bb 64 1 tok 0 W0 (Blk.below hbk hb0 hbl) ⟨by decide,by decide,by decide,by decide,htk.1,htk.2,by decide,by decide⟩)
 obtain ⟨V,hV⟩:∃ Z,Z=W0.alloc (.cells #[.int .i64 64,.int .i64 1,.int .i64 tok,.int .i64 0] 145):=⟨_,rfl⟩
 rw [← hV] at HCP
 have hbV:Below w.heap.size w V:=by rw [hV]; exact hb0.alloc hb0.size _
 have hgV:Blk V w.heap.size 71 #[.int .i64 0,.int .i64 0,.slice none 0 0,.slice none 0 0]:=by rw [hV]; exact hg0.alloc _
 have hwr:=fwrong_any E.fb E.Am E.mtus.length E.cm E.mtus _ A n c V ((H.below hbV 0 #[]).mt) rfl
 rw [wrong_zero H.ml H.m8 hsm] at hwr
 have HWR:=Lib.hid hwr
 obtain ⟨m,hm⟩:∃ m,m=E.mtus.length:=⟨_,rfl⟩
 rw [← hm] at HWR ⊢
 have HW0:=Lib.hid hW0
 have HH:=Lib.hid H
 have HBV:=Lib.hid hbV
 have HGV:=Lib.hid hgV
 have HBK:=Lib.hid hbk
 have HTK:=Lib.hid htk
 have HX:=Lib.hid hx
 have HN:=Lib.hid hn
 have HC:=Lib.hid hc
 have HM:=Lib.hid hm
 clear hwr hW0 hV H hbV hgV hbk htk hx hn hm hb0 hg0 hc
 go_enter Tryz.func28,Tryz.ntmps28
 go_wp2_with fail
 rw [← HW0.out]
 refine HCP.out.mono ?_
 rintro e V ⟨rfl,rfl⟩
 obtain ⟨g,hg⟩:∃ g,g=w.heap.size:=⟨_,rfl⟩
 rw [← hg]
 have HG:=Lib.hid hg
 clear hg HW0 HCP
 go_wp2_with fail
 refine HWR.out.mono ?_
 rintro e V ⟨rfl,rfl⟩
 clear HWR
 have b1:=bd_run E.fb E.own E.Am m E.cm E.bb A n c V
 have f1:=box_run E.fb E.own E.Am m E.cm E.bb A n c V
 go_upto_region 7 with (fail)
 clear b1 f1
 obtain ⟨rb,hrb⟩:∃ k,k=V.heap.size:=⟨_,rfl⟩
 rw [← hrb]
 obtain ⟨V1,hV1⟩:∃ Z,Z=V.alloc (.cells (rn0 E.fb E.own E.Am m E.cm E.bb A n c) 142):=⟨_,rfl⟩
 rw [← hV1]
 have hk1:Blk V1 rb 142 (rn0 E.fb E.own E.Am m E.cm E.bb A n c):=by rw [hV1,hrb]; exact Blk.new V _ _
 have hb1:Below V.heap.size V V1:=by rw [hV1]; exact (Below.refl _ _).alloc (Nat.le_refl _) _
 obtain ⟨kb,hkb⟩:∃ k,k=V1.heap.size:=⟨_,rfl⟩
 obtain ⟨W,hW⟩:∃ Z,Z=V1.alloc (.cells #[.func (.func 68) #[.pointer (some ⟨rb,0,none⟩)] #[],.func (.func 69) #[.pointer (some ⟨rb,0,none⟩)] #[],.func (.func 70) #[.pointer (some ⟨rb,0,none⟩)] #[],.func (.func 71) #[.pointer (some ⟨rb,0,none⟩)] #[]] 26):=⟨_,rfl⟩
 have hkW:Blk W kb 26 (fnC rb):=by rw [hW,hkb]; exact Blk.new V1 _ _
 have hk2:Blk W rb 142 (rn0 E.fb E.own E.Am m E.cm E.bb A n c):=by rw [hW]; exact hk1.alloc _
 have hbW:Below V.heap.size V W:=by rw [hW]; exact hb1.alloc hb1.size _
 have hrun:RnW V W rb { E with kb:=kb,kc:=fnC rb } (rs0 (.slice A n c) x tok):=by
  have h1:Sl8 V (fun k=>k < V.heap.size∧k≠E.bb) (.slice A n c) x:=by
   refine ⟨A,c,by rw [HN.out],by rw [HN.out]; exact HC.out,?_⟩
   rw [HN.out]
   exact (HX.out.keep (Same.ofBelow HBV.out fun k hk=>hk.1)).mono fun k hk=>⟨Nat.lt_of_lt_of_le hk.1 HBV.out.size,hk.2⟩
  refine ⟨⟨Upd.ofBelow hbW _,?_,by rw [hrb]; exact Nat.le_refl _,Nat.lt_of_lt_of_le (Blk.lt HBK.out) HBV.out.size,?_,World.ownsRow_nil _ _ _ _,Blk.below (Blk.below HBK.out HBV.out (Blk.lt HBK.out)) hbW (Nat.lt_of_lt_of_le (Blk.lt HBK.out) HBV.out.size),HTK.out,hkW⟩,Rows8.nil _ _,Snts.nil _ _⟩
  ·rw [HM.out] at hk2
   exact hk2
  ·exact h1.keep (Same.ofBelow hbW fun k hk=>hk.1)
 have HT:=Lib.hid (HH.out.below HBV.out kb (fnC rb))
 have HR0:=Lib.hid hrun
 have HGV:=Lib.hid HGV.out
 have HW:=Lib.hid hW
 have HKB:=Lib.hid hkb
 clear hW hkW hk2 hbW hrun hk1 hb1 hV1 hkb hrb
 go_wp2_with fail
 rw [← HW.out,← HKB.out]
 have HSM:=Lib.hid (show x.length≤2048 by have:=HN.out; omega)
 clear HW HKB HM HX HC HN
 have hg0:w.heap.size≤g:=by rw [HG.out]; exact Nat.le_refl _
 have hgn:g≠E.bb:=by have:=Blk.lt HBK.out; rw [HG.out]; omega
 have hgv:Blk V g 71 #[.int .i64 0,.int .i64 0,.slice none 0 0,.slice none 0 0]:=by rw [HG.out]; exact HGV.out
 have HEND:=Lib.hid (fun (wx:World) (S:Rs) (R:Ft × Int) (lv ov:Value) (hw:RnW V wx rb { E with kb:=kb,kc:=fnC rb } { S with ft:=R.1,tok:=R.2,lv:=lv,ov:=ov })=>jg_end (w1:=w) (g:=g) (R:=R) (lv:=lv) (ov:=ov) hw (hgv.upd hw.upd hgn) HBV.out hg0 (Blk.lt HBK.out))
 clear hg0 hgn hgv HGV
 obtain ⟨R,hR⟩:∃ R,R=fwJudge pk E.mtus E.own tok x:=⟨_,rfl⟩
 have HRJ:=Lib.hid hR
 rw [judge_rest] at hR
 have HR:=Lib.hid hR
 obtain ⟨P,hP⟩:∃ P,P=prsF x:=⟨_,rfl⟩
 have hdt:=(prs_ok x).2.2.2.2.2
 have hpl:=prs_len x
 have HS0:=Lib.hid (fwhole_any HR0.out (show x.length≤100000 by have:=HSM.out; omega))
 unfold WhPost at HS0
 change Hid (Calls _ _ _ _ fun e w'=>if (prsF x).2.2=0 then e=.returned (.bool false)∧∃ pv hv,RnW V w' rb { E with kb:=kb,kc:=fnC rb } ⟨true,pv,x.take (20+(prsF x).1.opts.length+(prsF x).2.1.length),hv,(prsF x).1,0,0,.slice none 0 0,.slice none 0 0,ft0,tok⟩ else e=.returned (.bool true)∧RnW V w' rb { E with kb:=kb,kc:=fnC rb } ⟨false,.slice A n c,x,.slice none 0 0,hd0,0,0,.slice none 0 0,.slice none 0 0,dropF ft0 (prsF x).2.2,tok⟩) at HS0
 rw [← hP] at HS0 HR hdt hpl
 obtain ⟨h,p,f⟩:=P
 simp only at HS0 HR hdt hpl
 have l0:=ld_fnb (f:=68) (show W.cell? ⟨kb,0,none⟩=_ from HR0.out.kp.cell 0)
 clear hR hP hsm
 refine wp_loop_rounds 5 ?_
 rw [rounds_succ]
 go_wp2_with fail
 by_cases hf:f≠0
 ·have HS1:=Lib.hid (HS0.out.mono fun e w' hh=>by rw [if_neg hf] at hh; exact hh)
  have HR:=Lib.hid (HR.out.trans (if_neg hf))
  clear HS0
  refine HS1.out.mono ?_
  rintro e wa ⟨rfl,hw⟩
  obtain ⟨J1,J2,J3,J4⟩:=HEND.out wa ⟨false,.slice A n c,x,.slice none 0 0,hd0,0,0,.slice none 0 0,.slice none 0 0,dropF ft0 f,tok⟩ R (.slice none 0 0) (.slice none 0 0) (by rw [HR.out]; exact hw)
  have K3:=Lib.hid J3
  have K4:=Lib.hid J4
  clear hw J3 J4 hf l0 hdt hpl
  go_wp2_with fail
  refine bodyPost_ret_by (res_ft rfl _ rfl K3.out rfl) rfl ?_
  rw [← HRJ.out]
  exact K4.out
 have hf0:f=0:=by omega
 have HS1:=Lib.hid (HS0.out.mono fun e w' hh=>by rw [if_pos hf0] at hh; exact hh)
 have HR:=Lib.hid (HR.out.trans (if_pos hf0))
 refine HS1.out.mono ?_
 rintro e wa ⟨rfl,pv,hv,hr1⟩
 obtain ⟨y,hy⟩:∃ y,y=x.take (20+h.opts.length+p.length):=⟨_,rfl⟩
 rw [← hy] at hr1 HR
 have hyl:y.length≤2048:=by rw [hy,List.length_take]; have:=HSM.out; omega
 have HR1:=Lib.hid hr1
 clear hr1 HS0 HS1 hf hf0 hy l0
 go_wp2_with fail
 have HF0:=Lib.hid (ffine_any HT.out HR1.out (show y.length≤100000 by omega) hdt (show h.opts.length≤1000000 by have:=HSM.out; omega))
 have l1:=ld_fnb (f:=69) (show wa.cell? ⟨kb,1,none⟩=_ from HR1.out.kp.cell 1)
 rw [rounds_succ]
 go_wp2_with fail
 refine HF0.out.mono ?_
 intro e wb hpost
 rcases fn_cases (S:=⟨true,pv,y,hv,h,0,0,.slice none 0 0,.slice none 0 0,ft0,tok⟩) rfl hpost with ⟨rfl,F,hF,hw⟩ | ⟨rfl,hw,hF⟩
 ·have HR:=Lib.hid (HR.out.trans hF)
  obtain ⟨J1,J2,J3,J4⟩:=HEND.out wb ⟨true,pv,y,hv,h,0,0,.slice none 0 0,.slice none 0 0,F,tok⟩ R (.slice none 0 0) (.slice none 0 0) (by rw [HR.out]; exact hw)
  have K3:=Lib.hid J3
  have K4:=Lib.hid J4
  clear hw J3 J4 l1 hdt hpl hpost hF
  go_wp2_with fail
  refine bodyPost_ret_by (res_ft rfl _ rfl K3.out rfl) rfl ?_
  rw [← HRJ.out]
  exact K4.out
 have HR:=Lib.hid (HR.out.trans hF)
 have hwo:=hp0.way (ports:=E.mtus.length) (x:=y) (dt:=h.dst)
 obtain ⟨Wy,hWy⟩:∃ z,z=fwWay pk E.mtus.length y h.dst:=⟨_,rfl⟩
 change RnW V wb rb { E with kb:=kb,kc:=fnC rb } ⟨true,pv,y,hv,h,(fwWay pk E.mtus.length y h.dst).1,(fwWay pk E.mtus.length y h.dst).2,.slice none 0 0,.slice none 0 0,ft0,tok⟩ at hw
 rw [← hWy] at hw hwo
 have hR2:R=if Wy.1=1 then (fwHere pk E.mtus E.own h y ft0,tok) else fwOn pk E.mtus E.own tok h Wy.1 Wy.2 y ft0:=by
  rw [hWy]
  exact HR.out
 obtain ⟨kd,po⟩:=Wy
 simp only at hw hwo hR2
 have HR2:=Lib.hid hw
 have HRB:=Lib.hid hR2
 have HWO:=Lib.hid hwo
 clear HR hw hR2 hwo hpost hF hWy l1 HF0
 have HH0:=Lib.hid (fhere_any HT.out hp0 HR2.out rfl (show y.length≤100000 by omega) (Nat.zero_le _) (Nat.zero_le _))
 unfold HrPost at HH0
 go_wp2_with fail
 have l2:=ld_fnb (f:=70) (show wb.cell? ⟨kb,2,none⟩=_ from HR2.out.kp.cell 2)
 rw [rounds_succ]
 go_wp2_with fail
 by_cases hk1:kd=1
 ·have HH1:=Lib.hid (HH0.out.mono fun e w' hh=>by rw [if_pos hk1] at hh; exact hh)
  have HRC:=Lib.hid (HRB.out.trans (if_pos hk1))
  refine HH1.out.mono ?_
  rintro e wc ⟨rfl,lv,ov,hw⟩
  obtain ⟨J1,J2,J3,J4⟩:=HEND.out wc ⟨true,pv,y,hv,h,kd,po,lv,ov,fwHere pk E.mtus E.own h y ft0,tok⟩ R lv ov (by rw [HRC.out]; exact hw)
  have K3:=Lib.hid J3
  have K4:=Lib.hid J4
  clear hw J3 J4 l2 hdt hpl HH0 HH1 hk1
  go_wp2_with fail
  refine bodyPost_ret_by (res_ft rfl _ rfl K3.out rfl) rfl ?_
  rw [← HRJ.out]
  exact K4.out
 have HH1:=Lib.hid (HH0.out.mono fun e w' hh=>by rw [if_neg hk1] at hh; exact hh)
 have HRC:=Lib.hid (HRB.out.trans (if_neg hk1))
 refine HH1.out.mono ?_
 rintro e wc ⟨rfl,hw⟩
 have HR3:=Lib.hid hw
 clear hw l2 HH0 HH1 hk1
 go_wp2_with fail
 have l3:=ld_fnb (f:=71) (show wc.cell? ⟨kb,3,none⟩=_ from HR3.out.kp.cell 3)
 have HO:=Lib.hid (fon_any HT.out hp0 HR3.out HWO.out (show y.length≤100000 by omega) (Nat.zero_le _) (Nat.zero_le _))
 rw [rounds_succ]
 go_wp2_with fail
 refine HO.out.mono ?_
 rintro e wd ⟨rfl,lv,ov,hw⟩
 obtain ⟨J1,J2,J3,J4⟩:=HEND.out wd ⟨true,pv,y,hv,h,kd,po,lv,ov,ft0,tok⟩ R lv ov (by rw [HRC.out]; exact hw)
 have K3:=Lib.hid J3
 have K4:=Lib.hid J4
 clear hw J3 J4 l3 HO
 go_wp2_with fail
 refine bodyPost_ret_by (res_ft rfl _ rfl K3.out rfl) rfl ?_
 rw [← HRJ.out]
 exact K4.out
end
end Go.Proofs.YthlommalbkhcjaaGreat
namespace Go.Proofs.YthlommalbkhcjaaGreat
open Go.RowKit Go.Sort Go.BigFrame
theorem ld_erk {w:World} {a:Addr} {z:Int} (hu:w.cell? a=some (.int .i64 z)):(Instr.loadAt 67 (.pointer (some a))).run Tryz.prog w=.ok (.int .i64 z) w:=by
 simp [go_sem,hu]
theorem ld_drk {w:World} {a:Addr} {z:Int} (hu:w.cell? a=some (.int .i64 z)):(Instr.loadAt 66 (.pointer (some a))).run Tryz.prog w=.ok (.int .i64 z) w:=by
 simp [go_sem,hu]
section
variable {w0 w wx wy:World} {rb:Nat} {E:Re} {S:Rs} {pk:Nat→Nat→Int × Int}
theorem TbE.upd (h:TbE w0 E pk) (hu:Upd (fun k=>k=E.bb) w0 wx):TbE wx E pk:=by
 refine ⟨?_,?_,h.ml,h.own,h.m8⟩
 ·obtain ⟨dc,wk,T,M,tb,limit,h1,h2,h3,h4,h5,h6⟩:=h.ex
  exact ⟨dc,wk,T,M,tb,limit,h1,h2,TbE.fbm h3 h5 hu,h4,h5,h6⟩
 ·have:=h.mt.keep (hu.same fun k (e:k=E.bb) hI=>hI.2 e)
  exact this.mono fun k hk=>⟨Nat.lt_of_lt_of_le hk.1 hu.size,hk.2⟩
theorem TbE.same (h:TbE w0 E pk) (hb:Below w0.heap.size w0 wx):TbE wx E pk:=h.upd (Upd.ofBelow hb _)
theorem Snts.at {B:Nat} {v:Value} {L:List (Int × By)} (h:Snts B w v L):∃ A c,v=.slice A L.length c∧∀ k p x,L[k]?=some (p,x)→∃ g u,A=some ⟨g,0,none⟩∧w.cell? ⟨g,k * 2,none⟩=some (.int .i64 p)∧w.cell? ⟨g,k * 2+1,none⟩=some u∧Row8 B w u x:=by
 obtain ⟨Z,h1,h2,h3⟩:=h
 have hl:Z.length=L.length:=by rw [← h1,List.length_map]
 obtain ⟨A,c,e,_⟩:=own_form h2
 refine ⟨A,c,by rw [e,hl],fun k p x hx=>?_⟩
 rw [← h1,List.getElem?_map] at hx
 obtain ⟨z,hz,hzx⟩:=Option.map_eq_some_iff.1 hx
 injection hzx with e1 e2
 subst e1 e2
 have hk:k < Z.length:=(List.getElem?_eq_some_iff.1 hz).1
 obtain ⟨g,c1,e1,_⟩:=own_form1 h2 (by omega)
 rw [e] at e1
 injection e1 with e1 _ _
 subst e1
 rw [e] at h2
 have hf:∀ (Z:List Zs) (k j:Nat) (z:Zs),Z[k]?=some z→j < 2→(flatZ Z)[k * 2+j]?=(zsC z)[j]?:=by
  intro Z
  induction Z with
  | nil=>intro k j z h; simp at h
  | cons y Z ih =>
    intro k j z h hj
    have e:flatZ (y :: Z)=zsC y++flatZ Z:=rfl
    rw [e]
    cases k with
    | zero =>
      obtain rfl:y=z:=by simpa using h
      rw [List.getElem?_append_left (by show 0 * 2+j < 2; omega),Nat.zero_mul,Nat.zero_add]
    | succ k =>
      rw [List.getElem?_append_right (by show 2≤(k+1) * 2+j; omega),← ih k j z (by simpa using h) hj]
      show (flatZ Z)[(k+1) * 2+j - 2]?=_
      congr 1
      omega
 have c0:=h2.cellAt (k * 2) (by omega)
 have c1:=h2.cellAt (k * 2+1) (by omega)
 have f0:=hf Z k 0 z hz (by omega)
 rw [Nat.add_zero] at f0
 rw [f0] at c0
 rw [hf Z k 1 z hz (by omega)] at c1
 exact ⟨g,z.u,rfl,c0,c1,h3 z (List.mem_of_getElem? hz)⟩
theorem own_turn {B bb:Nat} {e:TypeId} {size n:Nat} {v:Value} {xs:List Value} (h:w.ownsRow B e size v n xs) (hu:Upd (fun k=>k=bb) w wx) (hb:bb < B):wx.ownsRow B e size v n xs :=
 own_keep h (hu.same (I:=fun k=>B≤k) fun k (e:k=bb) hI=>by omega) fun g hg=>(own_lt h hg).1
theorem Snts.turn {B bb:Nat} {v:Value} {L:List (Int × By)} (h:Snts B w v L) (hu:Upd (fun k=>k=bb) w wx) (hb:bb < B):Snts B wx v L:=by
 obtain ⟨Z,a,b,c⟩:=h
 exact ⟨Z,a,own_turn b hu hb,fun z hz=>own_turn (c z hz) hu hb⟩
theorem ft_var (w:World) {lv ov:Value} {L:List By} {O:List (Int × By)} {B:Nat} (hl:Rows8 B w lv L) (ho:Snts B w ov O) (d e:Int):∃ w2,(Instr.storeAt 71 (.pointer (some ⟨w.heap.size,0,none⟩)) (.agg #[.int .i64 d,.int .i64 e,lv,ov])).run Tryz.prog (w.alloc (.cells #[.int .i64 0,.int .i64 0,.slice none 0 0,.slice none 0 0] 71))=.ok () w2∧Below w.heap.size w w2∧Blk w2 w.heap.size 71 (ftC d e lv ov):=by
 obtain ⟨Al,cl,rfl,_⟩:=hl.form
 obtain ⟨Ao,co,rfl,_⟩:=ho.at
 exact ⟨_,stc_store ft_info (Blk.new w _ _) rfl rfl (by simp [Value.oneCell']),below_setCells (Nat.le_refl _) _ _ _ ((Below.refl _ _).alloc (Nat.le_refl _) _),blk_setCells (Blk.new w _ _) rfl⟩
def knE (fb bb:Nat) (Am:Option Addr):Re:=⟨fb,167772161,Am,2,[1500,600],bb,0,#[]⟩
structure KnC (w0 wx:World) (ga fb bb:Nat) (Ar Am:Option Addr) (pk:Nat→Nat→Int × Int) (tok:Int):Prop where
 ak:Blk wx ga 60 (askV Ar 3 3 167772161 Am 2 2 5)
 tb:TbE wx (knE fb bb Am) pk
 bk:IsBk wx bb 64 1 tok 0
 bl:Below w0.heap.size w0 wx
 nb:w0.heap.size≤bb
variable {ga fb bb:Nat} {Ar Am:Option Addr} {tok t2:Int}
theorem KnC.below (h:KnC w0 wx ga fb bb Ar Am pk tok) (hb:Below wx.heap.size wx wy):KnC w0 wy ga fb bb Ar Am pk tok :=
 ⟨h.ak.below hb h.ak.lt,h.tb.same hb,Blk.below h.bk hb (Blk.lt h.bk),h.bl.trans (hb.mono h.bl.size),h.nb⟩
theorem KnC.turn (h:KnC w0 wx ga fb bb Ar Am pk tok) (hu:Upd (fun k=>k=bb) wx wy) (hk:IsBk wy bb 64 1 t2 0):KnC w0 wy ga fb bb Ar Am pk t2 :=
 ⟨h.ak.upd hu (blk_tne h.ak h.bk (by decide)),h.tb.upd hu,hk,below_upd h.bl hu (fun k (e:k=bb)=>by rw [e]; exact h.nb) h.bl.size,h.nb⟩
theorem kn_judge_any (hp0:PkPos pk) (h:KnC w0 wx ga fb bb Ar Am pk tok) (htk:0≤tok∧tok≤64) {A:Option Addr} {n c:Nat} {x:By} (hx:Row8 w0.heap.size wx (.slice A n c) x) (hnb:∀ k,(Value.slice A n c).ownBlock=some k→k≠bb) (hsm:n≤2048) :
  Calls Tryz.prog 28 #[.pointer (some ⟨fb,0,none⟩),.int .u32 167772161,.slice Am 2 2,.pointer (some ⟨bb,0,none⟩),.slice A n c] wx (JgPost wx bb (fwJudge pk [1500,600] 167772161 tok x)):=by
 obtain ⟨h1,h2,h3⟩:=hx.rd
 refine fjudge_any (E:=knE fb bb Am) h.tb hp0 h.bk htk (A:=A) (n:=n) (c:=c) (x:=x) ?_ h1 h2 hsm
 by_cases hn:n=0
 ·exact ⟨h3.1,fun hh=>absurd hn (by omega)⟩
 ·obtain ⟨ad,e,hI,hlt,hc⟩:=h3.2 (by omega)
  refine ⟨h3.1,fun hh=>⟨ad,e,⟨hlt,?_⟩,hlt,hc⟩⟩
  subst e
  refine hnb _ ?_
  obtain ⟨g,c1,e1,_⟩:=own_form1 hx (by rw [h1]; omega)
  injection e1 with e1 _ _
  injection e1 with e1
  subst e1
  rfl
end
end Go.Proofs.YthlommalbkhcjaaGreat
