/- OWN LAW: a drawn region of quiet operations mixed with a chain, in a round. -/
import Derived.Test.YthlommalbkhcjaaGreatNq29
import Derived.Test.YthlommalbkhcjaaGreatNq04
import Derived.Deep.LoopGhost
namespace Go.Proofs.YthlommalbkhcjaaGreat
open Go.RowKit Go.Sort Go.BigFrame
variable {dc:Int→Array Value}
def CovPost (dc:Int→Array Value) (w:World) (T:TT) (A:Bs) (e:Ending) (w':World):Prop:=∃ f,e=.returned f∧SeqOf dc w' (fun k=>w.heap.size≤k) f (T.cov A)∧Below w.heap.size w w'
theorem cov_len (T:TT) (A:Bs):(T.cov A).length≤T.list.length:=by
 induction T with
 | nil=>exact Nat.le_refl _
 | node q x h l r ihl ihr =>
   unfold TT.cov
   simp only [TT.list]
   split
   ·rw [List.length_append,List.length_append,List.length_append]
    have:(if q.length=32 then [] else if nth A q.length then r.cov A else l.cov A).length≤l.list.length+r.list.length:=by
     split
     ·exact Nat.zero_le _
     ·split
      ·omega
      ·omega
    omega
   ·exact Nat.zero_le _
theorem cov_close {w w1:World} {T:TT} {A:Bs} {acc:List (Bs × Int)} {n:Nat} {Al:Option Addr} {cl:Nat} (ho:w1.ownsRow w.heap.size 242 259 (.slice Al n cl) n (flatN dc acc)) (hb:Below w.heap.size w w1) (hc:T.cov A=acc) (hn:n=acc.length) :
  CovPost dc w T A (.returned (.func (.func 192) #[] #[.pointer (some ⟨w1.heap.size,0,none⟩)])) (w1.alloc (.cells #[.slice Al n cl] 240)):=by
 subst hn
 subst hc
 obtain ⟨A2,c2,e2,hs⟩:=seq_new ho hb
 exact ⟨_,rfl,hs,hb.alloc hb.size _⟩
theorem IsT.ptr {w:World} {M:Nat→Prop} {pv:Value} {T:TT} (h:IsT dc w M pv T):∃ u:Option Addr,pv=.pointer u:=by
 rcases h.form with ⟨e,_⟩ | ⟨b,e,_⟩
 ·exact ⟨_,e⟩
 ·exact ⟨_,e⟩
set_option maxRecDepth 100000 in
set_option maxHeartbeats 16000000 in
attribute [-go_sem] Instr.storeAt Instr.loadAt Instr.build Instr.buildSlice in
theorem covers_any (hd:Dc dc) (a tb:Nat) (M:Nat→Prop) (limit:Int) (T:TT) (w:World) (h:IsTr dc w M tb limit T) (ha:a < 2 ^ 32) (hsm:T.list.length≤1000000) :
  Calls Tryz.prog 111 #[.pointer (some ⟨tb,0,none⟩),.int .u32 (a:Int)] w (CovPost dc w T (bitsB a 32)):=by
 obtain ⟨pv,hk,ht⟩:=h.ex
 have t0:w.cell? ⟨tb,0,none⟩=some pv:=hk.cell 0
 have HT:=Lib.hid (there_any tb _ _ _ w hk)
 have HT0:=Lib.hid ht
 have hcl:=cov_len T (bitsB a 32)
 have HWF:=Lib.hid h.wf
 have HCL:=Lib.hid (Nat.le_trans hcl hsm)
 have HD:=Lib.hid hd
 obtain ⟨pu,rfl⟩:=ht.ptr
 have lt:=ld_ptN t0
 clear h hk ht hcl hsm hd t0
 go_enter Tryz.func111,Tryz.ntmps111
 go_wp2_with (go_at_call 103; refine (HT.out).mono ?_; rintro e w' ⟨rfl,rfl⟩)
 go_step3
 go_wp2_with fail
 go_step3
 go_wp2_with fail
 clear lt
 go_loopg [5,6] T.size (fun g s5 s6 wr=>∃ (acc:List (Bs × Int)) (S:TT) (pv:Value) (Ms:Nat→Prop) (lv:Value),s5=lv∧s6=pv∧S.size≤g∧Below w.heap.size w wr∧wr.ownsRow w.heap.size 242 259 lv acc.length (flatN dc acc)∧IsT dc w Ms pv S∧(∃ c,S.wf c)∧T.cov (bitsB a 32)=acc++S.cov (bitsB a 32))
 case atStart=>exact ⟨[],T,_,_,_,rfl,rfl,Nat.le_refl _,Below.refl _ _,World.ownsRow_nil _ _ _ _,HT0.out,⟨[],HWF.out⟩,rfl⟩
 case round =>
  obtain ⟨acc,S,pv,Ms,lv,rfl,rfl,hg,hbl,hown,ht,⟨c,hwf⟩,hcv⟩:=hrel
  obtain ⟨m,hm⟩:∃ m,m=acc.length:=⟨_,rfl⟩
  rw [← hm] at hown
  obtain ⟨Al,cl,rfl,_⟩:=own_form hown
  have HM:=Lib.hid hm
  have HOW:=Lib.hid hown
  have HB:=Lib.hid hbl
  have HG:=Lib.hid hg
  have HCV:=Lib.hid hcv
  clear hg hcv hown hbl hm
  cases S with
  | nil =>
    obtain rfl:u6=.pointer none:=ht
    have HCC:=Lib.hid (show T.cov (bitsB a 32)=acc by rw [HCV.out,TT.cov,List.append_nil])
    go_wp2_with fail
    rw [Exit.noGoto_normal]
    go_wp2_with (go_at_call 156; refine (over_any _ _ _ _ rfl _).mono ?_; rintro e w' ⟨rfl,rfl⟩)
    go_ret
    exact cov_close (acc:=acc) HOW.out HB.out HCC.out HM.out
  | node q x g l r =>
    obtain ⟨b,pvl,pvr,Ml,Mr,h1,h2,h3,h4,h5,h6,h7,h8⟩:=ht
    obtain ⟨w1,w2,w3,w4,w5⟩:=hwf
    subst h1
    obtain ⟨pl,rfl⟩:=h7.ptr
    obtain ⟨pr,rfl⟩:=h8.ptr
    have hkb:=h2.below HB.out h2.lt
    unfold ndC at hkb
    obtain ⟨qa,hqa⟩:∃ qa,qa=padB q:=⟨_,rfl⟩
    obtain ⟨qn,hqn⟩:∃ qn,qn=q.length:=⟨_,rfl⟩
    rw [← hqa,← hqn] at hkb
    have K0:=Lib.hid hkb
    have hq32:qn≤32:=by rw [hqn]; exact w2
    have hand:=and_maskN ha hq32
    have HQA:=Lib.hid hqa
    have HQN:=Lib.hid hqn
    have HTL:=Lib.hid h7
    have HTR:=Lib.hid h8
    have W4:=Lib.hid w4
    have W5:=Lib.hid w5
    clear hqa hqn h2 h3 h4 h5 h6 h7 h8 w1 w2 w3 w4 w5 hkb
    by_cases hpre:q <+: bitsB a 32
    case neg =>
     obtain ⟨fa,hfa⟩:∃ fa,fa=firstB a qn:=⟨_,rfl⟩
     have hne:fa≠qa:=fun e=>hpre ((has_iff (by rw [← HQN.out]; exact hq32) ha).1 (by rw [← HQN.out,← HQA.out,← e,hfa]))
     rw [← hfa] at hand
     have hn1:((fa:Int) != (qa:Int))=true:=bne_iff_ne.2 (by omega)
     have hn2:(fa != qa)=true:=bne_iff_ne.2 hne
     have hcv:T.cov (bitsB a 32)=acc:=by rw [HCV.out,TT.cov,if_neg hpre,List.append_nil]
     have HCC:=Lib.hid hcv
     clear hcv hpre hfa hne
     go_wp2_with fail
     refine wp_region_stages [(true,14)] (by kernel_rfl) (by kernel_rfl) fun wz hz hz2=>?_
     have ZK:=Lib.hid (K0.out.below hz K0.out.lt)
     have ZO:=Lib.hid (own_below HOW.out hz)
     have ZB:=Lib.hid (HB.out.trans (hz.mono HB.out.size))
     clear hz hz2
     have q0:=fun (dd:Nat) (os:Array Obj)=>ld_ndN (ZK.out.below (below_regrown wz dd os) ZK.out.lt)
     have q1:=fun (dd:Nat) (os:Array Obj)=>ld_ndA (ZK.out.below (below_regrown wz dd os) ZK.out.lt)
     have q2:=fun (dd:Nat) (os:Array Obj)=>Calls.regrown_of ((mask_any qn (grow (redrawn wz dd) os) hq32).mono fun _ _ ⟨h,hw⟩=>⟨h,hw ▸ Below.refl _ _⟩)
     refine wpSt_q ?_
     simp only [List.take_succ_cons,List.take_zero,List.drop_succ_cons,List.drop_zero]
     repeat (go_big_quiet_step (with_reducible exact q2 _ _))
     refine wpQuiet_nil ?_
     intro _ hw'
     obtain ⟨⟨dq,osq⟩,hw''⟩:=hw'
     subst hw''
     have hbq:=below_regrown wz dq osq
     clear q0 q1 q2
     generalize grow (redrawn wz dq) osq=wq1 at hbq ⊢
     have K1:=Lib.hid (ZK.out.below hbq ZK.out.lt)
     have HO1:=Lib.hid (own_below ZO.out hbq)
     have HB1:=Lib.hid (ZB.out.trans (hbq.mono ZB.out.size))
     clear hbq ZK ZO ZB dq osq wz
     refine wpSt_end ?_
     go_wp2_with fail
     rw [Exit.noGoto_normal]
     go_wp2_with (go_at_call 156; refine (over_any _ _ _ _ rfl _).mono ?_; rintro e w' ⟨rfl,rfl⟩)
     go_ret
     exact cov_close (acc:=acc) HO1.out HB1.out HCC.out HM.out
    case pos =>
     have hfa:firstB a qn=qa:=by rw [HQN.out,HQA.out]; exact (has_iff (by rw [← HQN.out]; exact hq32) ha).2 hpre
     rw [hfa] at hand
     have HPRE:=Lib.hid hpre
     clear hpre hfa
     go_wp2_with fail
     refine wp_region_stages [(true,14)] (by kernel_rfl) (by kernel_rfl) fun wz hz hz2=>?_
     have ZK:=Lib.hid (K0.out.below hz K0.out.lt)
     have ZO:=Lib.hid (own_below HOW.out hz)
     have ZB:=Lib.hid (HB.out.trans (hz.mono HB.out.size))
     clear hz hz2
     have q0:=fun (dd:Nat) (os:Array Obj)=>ld_ndN (ZK.out.below (below_regrown wz dd os) ZK.out.lt)
     have q1:=fun (dd:Nat) (os:Array Obj)=>ld_ndA (ZK.out.below (below_regrown wz dd os) ZK.out.lt)
     have q2:=fun (dd:Nat) (os:Array Obj)=>Calls.regrown_of ((mask_any qn (grow (redrawn wz dd) os) hq32).mono fun _ _ ⟨h,hw⟩=>⟨h,hw ▸ Below.refl _ _⟩)
     refine wpSt_q ?_
     simp only [List.take_succ_cons,List.take_zero,List.drop_succ_cons,List.drop_zero]
     repeat (go_big_quiet_step (with_reducible exact q2 _ _))
     refine wpQuiet_nil ?_
     intro _ hw'
     obtain ⟨⟨dq,osq⟩,hw''⟩:=hw'
     subst hw''
     have hbq:=below_regrown wz dq osq
     clear q0 q1 q2
     generalize grow (redrawn wz dq) osq=wq1 at hbq ⊢
     have K1:=Lib.hid (ZK.out.below hbq ZK.out.lt)
     have HO1:=Lib.hid (own_below ZO.out hbq)
     have HB1:=Lib.hid (ZB.out.trans (hbq.mono ZB.out.size))
     clear hbq ZK ZO ZB dq osq wz
     refine wpSt_end ?_
     have lh:=ld_ndH K1.out (HD.out.sz x)
     cases g with
     | false =>
       have ln:=ld_ndN K1.out
       by_cases h32:q.length=32
       ·have hq32:qn=32:=by rw [HQN.out]; exact h32
        subst hq32
        have hcv:T.cov (bitsB a 32)=acc:=by rw [HCV.out,TT.cov,if_pos HPRE.out,if_pos h32]; simp
        have HCC:=Lib.hid hcv
        clear h32 hcv
        go_wp2_with fail
        rw [Exit.noGoto_normal]
        go_wp2_with (go_at_call 156; refine (over_any _ _ _ _ rfl _).mono ?_; rintro e w' ⟨rfl,rfl⟩)
        go_ret
        exact cov_close (acc:=acc) HO1.out HB1.out HCC.out HM.out
       ·have hq33:qn≠32:=by rw [HQN.out]; exact h32
        have hq31:qn≤31:=by omega
        have hq34:((qn:Int) == 32)=false:=beq_eq_false_iff_ne.2 (by omega)
        have hcv:T.cov (bitsB a 32)=acc++(if nth (bitsB a 32) q.length then r else l).cov (bitsB a 32):=by
         rw [HCV.out,TT.cov,if_pos HPRE.out,if_neg h32]
         cases nth (bitsB a 32) q.length <;> simp
        have hbi:bitI a qn=if nth (bitsB a 32) q.length then 1 else 0:=by
         unfold bitI bitB nth
         rw [HQN.out,bitsB_get a 32 q.length (by rw [← HQN.out]; omega)]
        have hbc:=fun (wx:World)=>tbit_any a qn wx hq31 ha
        clear h32
        cases hdir:nth (bitsB a 32) q.length with
        | false =>
          rw [hdir,if_neg (by decide)] at hbi hcv
          rw [hbi] at hbc
          have HCC:=Lib.hid hcv
          have HBC:=Lib.hid hbc
          clear hbi hcv hdir hbc
          go_upto_region 5 with (fail)
          clear ln
          refine wp_region_stages [(true,13)] (by kernel_rfl) (by kernel_rfl) fun wz hz hz2=>?_
          have ZK:=Lib.hid (K1.out.below hz K1.out.lt)
          have ZO:=Lib.hid (own_below HO1.out hz)
          have ZB:=Lib.hid (HB1.out.trans (hz.mono HB1.out.size))
          clear hz hz2
          have q0:=fun (dd:Nat) (os:Array Obj)=>ld_ndN (ZK.out.below (below_regrown wz dd os) ZK.out.lt)
          have q1:=fun (dd:Nat) (os:Array Obj)=>Calls.regrown_of ((HBC.out (grow (redrawn wz dd) os)).mono fun _ _ ⟨h,hw⟩=>⟨h,hw ▸ Below.refl _ _⟩)
          have q2:=fun (dd:Nat) (os:Array Obj)=>ld_ptN (((ZK.out.below (below_regrown wz dd os) ZK.out.lt).cell 260).trans (ndX_l (HD.out.sz x)))
          refine wpSt_q ?_
          simp only [List.take_succ_cons,List.take_zero,List.drop_succ_cons,List.drop_zero]
          repeat (go_big_quiet_step (with_reducible exact q1 _ _))
          refine wpQuiet_nil ?_
          intro _ hw'
          obtain ⟨⟨dq,osq⟩,hw''⟩:=hw'
          subst hw''
          have hbq:=below_regrown wz dq osq
          clear q0 q1 q2
          generalize grow (redrawn wz dq) osq=wq9 at hbq ⊢
          have K9:=Lib.hid (ZK.out.below hbq ZK.out.lt)
          have HO9:=Lib.hid (own_below ZO.out hbq)
          have HB9:=Lib.hid (ZB.out.trans (hbq.mono ZB.out.size))
          clear hbq ZK ZO ZB dq osq wz
          refine wpSt_end ?_
          go_wp2_with fail
          go_roundg (l.size)
          case measure=>have:=HG.out; simp only [TT.size] at this; omega
          case rel=>exact ⟨acc,l,_,_,_,rfl,rfl,Nat.le_refl _,HB9.out,(by rw [← HM.out]; exact HO9.out),HTL.out,⟨_,W4.out⟩,HCC.out⟩
        | true =>
          rw [hdir,if_pos rfl] at hbi hcv
          rw [hbi] at hbc
          have HCC:=Lib.hid hcv
          have HBC:=Lib.hid hbc
          clear hbi hcv hdir hbc
          go_upto_region 5 with (fail)
          clear ln
          refine wp_region_stages [(true,13)] (by kernel_rfl) (by kernel_rfl) fun wz hz hz2=>?_
          have ZK:=Lib.hid (K1.out.below hz K1.out.lt)
          have ZO:=Lib.hid (own_below HO1.out hz)
          have ZB:=Lib.hid (HB1.out.trans (hz.mono HB1.out.size))
          clear hz hz2
          have q0:=fun (dd:Nat) (os:Array Obj)=>ld_ndN (ZK.out.below (below_regrown wz dd os) ZK.out.lt)
          have q1:=fun (dd:Nat) (os:Array Obj)=>Calls.regrown_of ((HBC.out (grow (redrawn wz dd) os)).mono fun _ _ ⟨h,hw⟩=>⟨h,hw ▸ Below.refl _ _⟩)
          have q2:=fun (dd:Nat) (os:Array Obj)=>ld_ptN (((ZK.out.below (below_regrown wz dd os) ZK.out.lt).cell 261).trans (ndX_r (HD.out.sz x)))
          refine wpSt_q ?_
          simp only [List.take_succ_cons,List.take_zero,List.drop_succ_cons,List.drop_zero]
          repeat (go_big_quiet_step (with_reducible exact q1 _ _))
          refine wpQuiet_nil ?_
          intro _ hw'
          obtain ⟨⟨dq,osq⟩,hw''⟩:=hw'
          subst hw''
          have hbq:=below_regrown wz dq osq
          clear q0 q1 q2
          generalize grow (redrawn wz dq) osq=wq9 at hbq ⊢
          have K9:=Lib.hid (ZK.out.below hbq ZK.out.lt)
          have HO9:=Lib.hid (own_below ZO.out hbq)
          have HB9:=Lib.hid (ZB.out.trans (hbq.mono ZB.out.size))
          clear hbq ZK ZO ZB dq osq wz
          refine wpSt_end ?_
          go_wp2_with fail
          go_roundg (r.size)
          case measure=>have:=HG.out; simp only [TT.size] at this; omega
          case rel=>exact ⟨acc,r,_,_,_,rfl,rfl,Nat.le_refl _,HB9.out,(by rw [← HM.out]; exact HO9.out),HTR.out,⟨_,W5.out⟩,HCC.out⟩
     | true =>
       obtain ⟨z0,hin,hz0,hz1,hz2⟩:=info_parts info_en
       have hal:m≤1000000:=by have:=HCL.out; rw [HCV.out,List.length_append] at this; have:=HM.out; omega
       have hmx:m+1≤maxLen:=by unfold maxLen; omega
       have hmb:(m+1) * 2072≤140737488355328:=by omega
       go_upto_region 8 with (fail)
       clear lh
       refine wp_region_mix [(true,10),(false,3)] 2 (by kernel_rfl) (fun wx=>Blk wx b 192 (ndX (qa:Int) (qn:Int) (dc x) true (.pointer pl) (.pointer pr))) (fun _ _ h k=>h.below k h.lt) (by kernel_rfl) K1.out (a':=?_) (fun wz hz=>?_) fun wz hz=>?_
       rotate_left
       ·have q0:=fun (dd:Nat) (os:Array Obj)=>ld_ndP (hz.below (below_regrown wz dd os) hz.lt)
        have q1:=fun (dd:Nat) (os:Array Obj)=>ld_way (hz.below (below_regrown wz dd os) hz.lt) (HD.out.sz x)
        have q2:=fun wx=>bd_en wx (qa:Int) (qn:Int) (dc x) (HD.out.sz x)
        clear hz
        simp only [pick_nil,pick_tt,pick_ft,List.take_succ_cons,List.take_zero,List.drop_succ_cons,List.drop_zero,List.append_nil]
        repeat (go_big_quiet_step (fail))
        refine wpQuiet_nil ?_
        rfl
       simp only [pick_nil,pick_ff,pick_tf,List.take_succ_cons,List.take_zero,List.drop_succ_cons,List.drop_zero,List.append_nil]
       have HZ:=Lib.hid hz
       clear hz
       refine wpMix_push (fun _ _ h k=>h.below k h.lt) (K1.out.below HZ.out K1.out.lt) 242 (enX (qa:Int) (qn:Int) (dc x)).toList rfl (fun w'=>bs_op w' (qa:Int) (qn:Int) (dc x) (HD.out.sz x) _ _ rfl rfl) rfl (.tmp 45) (.tmp 55) _ rfl rfl w.heap.size z0 _ 259 2072 Tryz.underlying240 hin hz0 hz1 hz2 (by rw [Value.cells]; exact enX_size wy0_size) (by decide) (.slice Al m cl) m (flatN dc acc) (fun _=>rfl) (fun _=>rfl) (own_below HO1.out HZ.out) (by rw [Array.length_toList]; exact enX_size (HD.out.sz x)) (en_oneX (HD.out.one x)) hmx hmb (Nat.le_trans HB1.out.size HZ.out.size) fun gq v2 w2 h2 hg2 h3=>?_
       obtain ⟨A2,c2,rfl,_⟩:=own_form h2
       have hb12:=HB1.out.trans (HZ.out.mono HB1.out.size)
       have HB20:=Lib.hid (hb12.grown hg2 hb12.size fun k hk=>(own_lt (own_below HO1.out HZ.out) hk).1)
       have hkz:=K1.out.below HZ.out K1.out.lt
       have HK20:=Lib.hid (show Blk w2 b 192 (ndX (qa:Int) (qn:Int) (dc x) true (.pointer pl) (.pointer pr)) from (hg2.block b hkz.lt fun e=>own_blk_ne (own_below HO1.out HZ.out) hkz (by decide) e.symm).trans hkz)
       have HO20:=Lib.hid (show w2.ownsRow w.heap.size 242 259 (.slice A2 (m+1) c2) (m+1) (flatN dc (acc++[(q,x)])) by rw [flatN_snoc]; unfold enE; rw [← HQA.out,← HQN.out]; exact h2)
       clear h2 hg2 h3 hb12 hkz
       refine wpMix_step HK20.out fun w3 hw3=>?_
       have HB2:=Lib.hid (HB20.out.trans (hw3.mono HB20.out.size))
       have HK2:=Lib.hid (HK20.out.below hw3 HK20.out.lt)
       have HO2:=Lib.hid (own_below HO20.out hw3)
       clear hw3
       go_wp2_with fail
       refine wpMix_plain ?_
       have ln:=ld_ndN HK2.out
       by_cases h32:q.length=32
       ·have hq32:qn=32:=by rw [HQN.out]; exact h32
        subst hq32
        have hcv:T.cov (bitsB a 32)=(acc++[(q,x)]):=by rw [HCV.out,TT.cov,if_pos HPRE.out,if_pos h32]; simp
        have HCC:=Lib.hid hcv
        clear h32 hcv
        go_wp2_with fail
        rw [Exit.noGoto_normal]
        go_wp2_with (go_at_call 156; refine (over_any _ _ _ _ rfl _).mono ?_; rintro e w' ⟨rfl,rfl⟩)
        go_ret
        exact cov_close (acc:=(acc++[(q,x)])) HO2.out HB2.out HCC.out (by rw [List.length_append,← HM.out]; rfl)
       ·have hq33:qn≠32:=by rw [HQN.out]; exact h32
        have hq31:qn≤31:=by omega
        have hq34:((qn:Int) == 32)=false:=beq_eq_false_iff_ne.2 (by omega)
        have hcv:T.cov (bitsB a 32)=(acc++[(q,x)])++(if nth (bitsB a 32) q.length then r else l).cov (bitsB a 32):=by
         rw [HCV.out,TT.cov,if_pos HPRE.out,if_neg h32]
         cases nth (bitsB a 32) q.length <;> simp
        have hbi:bitI a qn=if nth (bitsB a 32) q.length then 1 else 0:=by
         unfold bitI bitB nth
         rw [HQN.out,bitsB_get a 32 q.length (by rw [← HQN.out]; omega)]
        have hbc:=fun (wx:World)=>tbit_any a qn wx hq31 ha
        clear h32
        cases hdir:nth (bitsB a 32) q.length with
        | false =>
          rw [hdir,if_neg (by decide)] at hbi hcv
          rw [hbi] at hbc
          have HCC:=Lib.hid hcv
          have HBC:=Lib.hid hbc
          clear hbi hcv hdir hbc
          go_upto_region 5 with (fail)
          clear ln
          refine wp_region_stages [(true,13)] (by kernel_rfl) (by kernel_rfl) fun wz hz hz2=>?_
          have ZK:=Lib.hid (HK2.out.below hz HK2.out.lt)
          have ZO:=Lib.hid (own_below HO2.out hz)
          have ZB:=Lib.hid (HB2.out.trans (hz.mono HB2.out.size))
          clear hz hz2
          have q0:=fun (dd:Nat) (os:Array Obj)=>ld_ndN (ZK.out.below (below_regrown wz dd os) ZK.out.lt)
          have q1:=fun (dd:Nat) (os:Array Obj)=>Calls.regrown_of ((HBC.out (grow (redrawn wz dd) os)).mono fun _ _ ⟨h,hw⟩=>⟨h,hw ▸ Below.refl _ _⟩)
          have q2:=fun (dd:Nat) (os:Array Obj)=>ld_ptN (((ZK.out.below (below_regrown wz dd os) ZK.out.lt).cell 260).trans (ndX_l (HD.out.sz x)))
          refine wpSt_q ?_
          simp only [List.take_succ_cons,List.take_zero,List.drop_succ_cons,List.drop_zero]
          repeat (go_big_quiet_step (with_reducible exact q1 _ _))
          refine wpQuiet_nil ?_
          intro _ hw'
          obtain ⟨⟨dq,osq⟩,hw''⟩:=hw'
          subst hw''
          have hbq:=below_regrown wz dq osq
          clear q0 q1 q2
          generalize grow (redrawn wz dq) osq=wq9 at hbq ⊢
          have K9:=Lib.hid (ZK.out.below hbq ZK.out.lt)
          have HO9:=Lib.hid (own_below ZO.out hbq)
          have HB9:=Lib.hid (ZB.out.trans (hbq.mono ZB.out.size))
          clear hbq ZK ZO ZB dq osq wz
          refine wpSt_end ?_
          go_wp2_with fail
          go_roundg (l.size)
          case measure=>have:=HG.out; simp only [TT.size] at this; omega
          case rel=>exact ⟨(acc++[(q,x)]),l,_,_,_,rfl,rfl,Nat.le_refl _,HB9.out,(by rw [List.length_append,← HM.out]; exact HO9.out),HTL.out,⟨_,W4.out⟩,HCC.out⟩
        | true =>
          rw [hdir,if_pos rfl] at hbi hcv
          rw [hbi] at hbc
          have HCC:=Lib.hid hcv
          have HBC:=Lib.hid hbc
          clear hbi hcv hdir hbc
          go_upto_region 5 with (fail)
          clear ln
          refine wp_region_stages [(true,13)] (by kernel_rfl) (by kernel_rfl) fun wz hz hz2=>?_
          have ZK:=Lib.hid (HK2.out.below hz HK2.out.lt)
          have ZO:=Lib.hid (own_below HO2.out hz)
          have ZB:=Lib.hid (HB2.out.trans (hz.mono HB2.out.size))
          clear hz hz2
          have q0:=fun (dd:Nat) (os:Array Obj)=>ld_ndN (ZK.out.below (below_regrown wz dd os) ZK.out.lt)
          have q1:=fun (dd:Nat) (os:Array Obj)=>Calls.regrown_of ((HBC.out (grow (redrawn wz dd) os)).mono fun _ _ ⟨h,hw⟩=>⟨h,hw ▸ Below.refl _ _⟩)
          have q2:=fun (dd:Nat) (os:Array Obj)=>ld_ptN (((ZK.out.below (below_regrown wz dd os) ZK.out.lt).cell 261).trans (ndX_r (HD.out.sz x)))
          refine wpSt_q ?_
          simp only [List.take_succ_cons,List.take_zero,List.drop_succ_cons,List.drop_zero]
          repeat (go_big_quiet_step (with_reducible exact q1 _ _))
          refine wpQuiet_nil ?_
          intro _ hw'
          obtain ⟨⟨dq,osq⟩,hw''⟩:=hw'
          subst hw''
          have hbq:=below_regrown wz dq osq
          clear q0 q1 q2
          generalize grow (redrawn wz dq) osq=wq9 at hbq ⊢
          have K9:=Lib.hid (ZK.out.below hbq ZK.out.lt)
          have HO9:=Lib.hid (own_below ZO.out hbq)
          have HB9:=Lib.hid (ZB.out.trans (hbq.mono ZB.out.size))
          clear hbq ZK ZO ZB dq osq wz
          refine wpSt_end ?_
          go_wp2_with fail
          go_roundg (r.size)
          case measure=>have:=HG.out; simp only [TT.size] at this; omega
          case rel=>exact ⟨(acc++[(q,x)]),r,_,_,_,rfl,rfl,Nat.le_refl _,HB9.out,(by rw [List.length_append,← HM.out]; exact HO9.out),HTR.out,⟨_,W5.out⟩,HCC.out⟩
end Go.Proofs.YthlommalbkhcjaaGreat
namespace Go.Proofs.YthlommalbkhcjaaGreat
open Go.Sort Go.RowKit
section
variable {n0 lp:Nat} {P:Program} {Q:Exit→Act→World→Prop}
theorem mix_anyR {l:List Oper} {a a':Act} {w:World} (ns:List (Bool × Nat)) (c:Nat) (C:World→Prop) (hC:∀ x y,C x→Below x.heap.size x y→C y) (hB:mixB ns (c+1) l a.tmps.size=true) (hw:C w)
  (hq:∀ wz,C wz→wpQuiet P l.toArray (fun w'=>∃ p:Regrown,w'=grow (redrawn wz p.d) p.os) (fun x=>x=a') (pickSeg ns true l) a)
  (h:∀ wz,Below w.heap.size w wz→wpMix P l.toArray C Q (c+1) (pickSeg ns false l) a' wz):wpAny P .any l.toArray Q l.length (Array.replicate l.length false) a { w with drawn:=w.drawn+1 }:=by
 unfold mixB at hB
 simp only [Bool.and_eq_true,decide_eq_true_eq] at hB
 obtain ⟨⟨⟨⟨⟨⟨⟨h1,h2⟩,h3⟩,h4⟩,h5⟩,h6⟩,h7⟩,_⟩:=hB
 have p1:=pick_idx l true ns 0
 have p2:=pick_idx l false ns 0
 rw [List.drop_zero] at p1 p2
 have hw':Below w.heap.size w { w with drawn:=w.drawn+1 }:=⟨rfl,rfl,rfl,Nat.le_refl _,fun _ _=>rfl⟩
 have hx:=h _ hw'
 rw [p2] at hx
 rw [p1] at h2 hq
 have hfalse:∀ k d,(Array.replicate l.length false).getD k d=true→d=true:=fun k d hk=>by
  rw [Array.getD_eq_getD_getElem?,Array.getElem?_replicate] at hk
  split at hk
  ·cases hk
  ·exact hk
 have:=mix_from hC h1 h7 (hC _ _ hw hw') hx (idxSeg ns true 0) (Array.replicate l.length false) a (fun i hi=>⟨await_ok h5 i hi,by have:=List.all_eq_true.1 h6 i hi; simpa using this⟩) (fun j o _ hl=>by have:=hfalse j false hl; cases this) (by
  cases hk:(Array.replicate l.length false).getD (msOf ns (c+1) l.length) false with
  | false=>rfl
  | true=>have:=hfalse _ _ hk; cases this) h3 h2 hq
 rw [h4] at this
 have:=wpX_any this
 simpa using this
theorem wpIn_region_mix {id:Nat} {l:List Oper} {a a':Act} {w:World} (ns:List (Bool × Nat)) (c:Nat) (hd:l.all noDefer=true) (hm:P.follows .mixedOrders=true) (C:World→Prop) (hC:∀ x y,C x→Below x.heap.size x y→C y) (hB:mixB ns (c+1) l a.tmps.size=true) (hw:C w)
  (hq:∀ wz,C wz→wpQuiet P l.toArray (fun w'=>∃ p:Regrown,w'=grow (redrawn wz p.d) p.os) (fun x=>x=a') (pickSeg ns true l) a)
  (h:∀ wz,Below w.heap.size w wz→wpMix P l.toArray C (fun e a w=>e=.normal∧Q .normal a w) (c+1) (pickSeg ns false l) a' wz):(Code.region id l.toArray true).wpIn (Fence.wide.inRound lp) n0 P Q a w :=
 wpIn_region_wide hd hm (mix_anyR ns c C hC hB hw hq h)
end
end Go.Proofs.YthlommalbkhcjaaGreat
