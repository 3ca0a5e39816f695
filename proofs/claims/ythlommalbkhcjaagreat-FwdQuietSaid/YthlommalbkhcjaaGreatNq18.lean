/- ip.steps, and rows of options. -/
import Derived.Test.YthlommalbkhcjaaGreatNq17
import Derived.Test.YthlommalbkhcjaaGreatNq04
import Derived.RangeFuncBound
import Derived.RangeFuncCalls
import Derived.RangeFuncLeaves
import Derived.Shelf.Abstract
import Derived.OwnWalkIn
import Derived.TacticsInMore
import Derived.LoopNIn
import Derived.LoopIn
import Derived.BigQuiet
namespace Go.Proofs.YthlommalbkhcjaaGreat
open Go.RowKit Go.Sort Go.BigFrame
attribute [local go_sem] Oper.semAt_some
abbrev StX:=UInt8 × By × Value
def stP (x:StX):UInt8 × By:=(x.1,x.2.1)
def stV (x:StX):Array Value:=#[.int .u8 (x.1.toNat:Int),x.2.2]
def FitS (I:Nat→Prop) (b:By) (pre:List StX) (x:StX) (W:World):Prop:=(pre++[x]).map stP <+: steps b∧Sl8 W I x.2.2 x.2.1
def lenV:Value→Nat
 | .slice _ n _=>n
 | _=>0
theorem steps_zero (r:By):steps (0 :: r)=[]:=by rw [steps_cons,if_pos rfl]
theorem steps_bad {k:UInt8} {r:By} (hk:k≠0) (hn:stepN (k :: r)=0):steps (k :: r)=[(k,[])]:=by rw [steps_cons,if_neg hk,if_pos hn]
theorem steps_good {k:UInt8} {r:By} (hk:k≠0) (hn:stepN (k :: r)≠0):steps (k :: r)=(k,(k :: r).take (stepN (k :: r))) :: steps ((k :: r).drop (stepN (k :: r))):=by rw [steps_cons,if_neg hk,if_neg hn]
set_option maxRecDepth 100000 in
set_option maxHeartbeats 4000000 in
theorem steps1_in (F:Fence) (n:Nat) (hF:∀ f,F.fn f) (hro:F.round=none) (hn:1≤n) (l Bx:Nat) (I:Nat→Prop) (v0:Value) (b:By) (hsm:b.length≤1000000) (J Jx:List StX→World→Prop)
  (W:World) (hI:∀ k,I k→k < W.heap.size) (hJa:AbidesFrom W.heap.size J)
  (hY:∀ pre x V,J pre V→FitS I b pre x V→YieldAt F (n - 1) Tryz.prog l (stV x) V fun e V' =>
   (e=.returned (.bool true)∧J (pre++[x]) V'∧Same I V V')∨(e=.returned (.bool false)∧Jx (pre++[x]) V'))
  (hBs:W.cell? ⟨Bx,0,none⟩=some v0) (hr:Sl8 W I v0 b) (h0:J [] W) :
  CallsIn F n Tryz.prog 212 #[.func (.yield l) #[] #[],.pointer (some ⟨Bx,0,none⟩)] W fun e W'=>(∃ v,e=.returned v) ∧
   ((∃ ys:List StX,ys.map stP=steps b∧J ys W')∨(∃ pre:List StX,pre.map stP <+: steps b∧Jx pre W')):=by
 have HR:=Lib.hid hr
 have HY:=Lib.hid hY
 have HJ:=Lib.hid hJa
 have HI:=Lib.hid hI
 clear hr hY hJa hI
 refine callsIn_of_wp Tryz.func212 rfl (hF _) ?_ hro
 simp only [Tryz.ntmps212,List.size_toArray,List.length_cons,List.length_nil,Nat.reduceAdd,Nat.reduceSub,Array.replicate_succ,Array.replicate_zero,List.push_toArray,List.append_toArray,List.nil_append,List.cons_append]
 gi_wp2
 gi_loopw [3] (fun s wr=>∃ (ys:List StX) (y:By),steps b=ys.map stP++steps y∧y.length≤1000000∧Sl8 wr I s y∧J ys wr∧Same I W wr) (fun s _=>lenV s)
 case atStart=>exact ⟨[],b,rfl,hsm,HR.out,h0,Same.refl _ _⟩
 case round =>
  obtain ⟨ys,y,hys,hyl,hsl,hJs,hnx⟩:=hrel
  obtain ⟨A,c,rfl,hc,hrd⟩:=hsl
  have HYS:=Lib.hid hys
  have HRD:=Lib.hid hrd
  have HJS:=Lib.hid hJs
  have HNX:=Lib.hid hnx
  clear hys hrd hJs hnx h0
  cases y with
  | nil =>
    gi_wp2
    go_end0
    exact ⟨⟨_,rfl⟩,.inl ⟨ys,by rw [HYS.out,steps_nil,List.append_nil],HJS.out⟩⟩
  | cons k r =>
    obtain ⟨m,hm⟩:∃ m,m=(k :: r).length:=⟨_,rfl⟩
    have hm1:1≤m:=by rw [hm]; simp
    have hc0:=byte_at HRD.out (k:=0) (by simp)
    obtain ⟨ad,rfl,_,hcell⟩:=hc0
    rw [← hm] at hc hyl ⊢
    have hcell0:wr.cell? ad=some (.int .u8 (k.toNat:Int)):=hcell
    have hd0:decide ((0:Int) < (m:Int))=true:=decide_eq_true (by omega)
    have hd1:decide (0 < m)=true:=decide_eq_true (by omega)
    have hi0:(0:Int) < m:=by omega
    have hkl:=k.toNat_lt
    by_cases hk0:k=0
    ·subst hk0
     gi_wp2
     go_end0
     exact ⟨⟨_,rfl⟩,.inl ⟨ys,by rw [HYS.out,steps_zero,List.append_nil],HJS.out⟩⟩
    ·have hkz:k.toNat≠0:=fun e=>hk0 (UInt8.toNat_inj.1 e)
     have HK0:=Lib.hid hk0
     have HM:=Lib.hid hm
     have hb0:((k.toNat:Int) == 0)=false:=by rw [beq_eq_false_iff_ne]; omega
     have hb1:((k.toNat:Int) != 0)=true:=by rw [bne_iff_ne]; omega
     by_cases hk1:k=1
     ·have hst:stepN (k :: r)=1:=by rw [stepN_cons,if_pos hk1]
      have hk1n:k.toNat=1:=by rw [hk1]; rfl
      have hb2:((k.toNat:Int) == 1)=true:=by rw [hk1n]; rfl
      have hb3:((k.toNat:Int) != 1)=false:=by rw [hk1n]; rfl
      clear hk1n hk0 hkz hm
      obtain ⟨xx,hxx⟩:∃ xx:StX,xx=(k,(k :: r).take 1,Value.slice (some ad) 1 1):=⟨_,rfl⟩
      have HXX:=Lib.hid hxx
      have HST:=Lib.hid hst
      have HPRE:=Lib.hid (show (ys++[xx]).map stP <+: steps b from by rw [HYS.out,List.map_append,steps_good HK0.out (by rw [HST.out]; decide),HST.out,HXX.out]; exact ⟨_,by rw [List.append_assoc]; rfl⟩)
      have hmx:∀ wx:World,(Instr.slice 61 (.slice (some ad) m c) none (some (.int .i64 1)) (some (.int .i64 1))).run Tryz.prog wx=.ok (.slice (some ad) 1 1) wx:=fun wx=>sl_max (some ad) m c wx 1 (by omega)
      clear hst hxx hk1
      gi_wp2
      refine wpIn_region_st hF [(true,8),(false,6)] (by kernel_rfl) (by kernel_rfl) (by kernel_rfl) ?_
      refine wpStIn_q ?_
      simp only [List.take_succ_cons,List.take_zero,List.drop_succ_cons,List.drop_zero]
      repeat (go_big_quiet_step (fail))
      refine wpQuiet_nil ?_
      intro wq hw'
      have hh:wq.heap=wr.heap:=by obtain ⟨nq,rfl⟩:=hw'; rfl
      have hg0:wr.grownBy wq none:=by obtain ⟨nq,rfl⟩:=hw'; exact ⟨rfl,rfl,rfl,Nat.le_refl _,fun _ _ _=>rfl⟩
      have SQ:=Lib.hid (Same.ofHeap (w:=wr) I hh)
      have hJq:J ys wq:=HJ.out _ _ _ _ HJS.out hg0 (fun r hr=>by cases hr)
      have hyy:=HY.out ys xx wq hJq ⟨HPRE.out,by
       rw [HXX.out]
       have:=cut_hi (k:=1) (cap:=1) (HRD.out.keep SQ.out) (by rw [← HM.out]; omega) (Nat.le_refl _)
       exact this⟩
      have hsv:stV xx=#[.int .u8 (k.toNat:Int),.slice (some ad) 1 1]:=by rw [HXX.out]; rfl
      rw [hsv] at hyy
      obtain ⟨fn,tmps,assign,body,hy,hR⟩:=hyy
      clear hw' hh hg0 hJq hsv hcell0
      refine wpStIn_l ?_
      simp only [List.take_succ_cons,List.take_zero,List.drop_succ_cons,List.drop_zero]
      gi_wp2
      refine hR.mono ?_
      rintro e3 W3 (⟨rfl,hJ3,hk3⟩ | ⟨rfl,hJx3⟩)
      ·have HJ3:=Lib.hid hJ3
       have hs3:Same I wr W3:=(show Same I wr wq from SQ.out).trans hk3
       have hsm3:=cut_lo (k:=1) (cap:=c) (HRD.out.keep hs3) (by rw [← HM.out]; omega) (by rw [← HM.out]; exact hc)
       rw [← HM.out] at hsm3
       have HS3:=Lib.hid hsm3
       have HN3:=Lib.hid (HNX.out.trans hs3)
       have hlo:∀ wx:World,(Instr.slice 61 (.slice (some ad) m c) (some (.int .i64 1)) none none).run Tryz.prog wx=.ok (.slice (if c=1 then some ad else (some ad:Option Addr).map (·.add 1)) (m - 1) (c - 1)) wx:=fun wx=>sl_lo (some ad) m c wx 1 (by omega)
       obtain ⟨Az,hAz⟩:∃ Az,Az=(if c=1 then some ad else (some ad:Option Addr).map (·.add 1)):=⟨_,rfl⟩
       rw [← hAz] at hlo HS3
       have hyl2:=Lib.hid (show ((k :: r).drop 1).length≤1000000 by rw [List.length_drop,← HM.out]; omega)
       clear hJ3 hk3 hs3 hsm3 hAz
       gi_wp2
       refine wpStIn_end ?_
       gi_wp2
       go_roundw
       case rel=>exact ⟨ys++[xx],_,by rw [HYS.out,List.map_append,List.append_assoc,steps_good HK0.out (by rw [HST.out]; decide),HST.out,HXX.out]; rfl,hyl2.out,HS3.out,HJ3.out,HN3.out⟩
       case measure=>simp [lenV]; omega
      ·gi_wp2
       refine wpStIn_end ?_
       gi_wp2
       refine bodyPost_ret (results_none rfl _ _ _) rfl ?_
       exact ⟨⟨_,rfl⟩,.inr ⟨_,HPRE.out,hJx3⟩⟩
     ·have hk1n:k.toNat≠1:=fun e=>hk1 (UInt8.toNat_inj.1 e)
      have hb2:((k.toNat:Int) == 1)=false:=by rw [beq_eq_false_iff_ne]; omega
      have hb3:((k.toNat:Int) != 1)=true:=by rw [bne_iff_ne]; omega
      by_cases hm2:m=1
      ·have hst:stepN (k :: r)=0:=by
        have hr0:r=[]:=List.eq_nil_of_length_eq_zero (by rw [hm] at hm2; simpa using hm2)
        rw [stepN_cons,if_neg hk1,hr0]
       have hd2:decide ((1:Int) < (m:Int))=false:=decide_eq_false (by omega)
       have hd3:decide (1 < m)=false:=decide_eq_false (by omega)
       have hm3:m≤1:=by omega
       clear hk1n hk0 hkz hm hm2
       obtain ⟨xx,hxx⟩:∃ xx:StX,xx=(k,(k :: r).take 0,Value.slice (some ad) 0 0):=⟨_,rfl⟩
       have HXX:=Lib.hid hxx
       have HST:=Lib.hid hst
       have HPRE:=Lib.hid (show (ys++[xx]).map stP <+: steps b from by rw [HYS.out,List.map_append,steps_bad HK0.out HST.out,HXX.out]; exact List.prefix_refl _)
       have hmx:∀ wx:World,(Instr.slice 61 (.slice (some ad) m c) none (some (.int .i64 0)) (some (.int .i64 0))).run Tryz.prog wx=.ok (.slice (some ad) 0 0) wx:=fun wx=>sl_max (some ad) m c wx 0 (by omega)
       clear hst hxx hk1
       gi_wp2
       refine wpIn_region_st hF [(true,8),(false,6)] (by kernel_rfl) (by kernel_rfl) (by kernel_rfl) ?_
       refine wpStIn_q ?_
       simp only [List.take_succ_cons,List.take_zero,List.drop_succ_cons,List.drop_zero]
       repeat (go_big_quiet_step (fail))
       refine wpQuiet_nil ?_
       intro wq hw'
       have hh:wq.heap=wr.heap:=by obtain ⟨nq,rfl⟩:=hw'; rfl
       have hg0:wr.grownBy wq none:=by obtain ⟨nq,rfl⟩:=hw'; exact ⟨rfl,rfl,rfl,Nat.le_refl _,fun _ _ _=>rfl⟩
       have SQ:=Lib.hid (Same.ofHeap (w:=wr) I hh)
       have hJq:J ys wq:=HJ.out _ _ _ _ HJS.out hg0 (fun r hr=>by cases hr)
       have hyy:=HY.out ys xx wq hJq ⟨HPRE.out,by
        rw [HXX.out]
        have:=cut_hi (k:=0) (cap:=0) (HRD.out.keep SQ.out) (by rw [← HM.out]; omega) (Nat.le_refl _)
        exact this⟩
       have hsv:stV xx=#[.int .u8 (k.toNat:Int),.slice (some ad) 0 0]:=by rw [HXX.out]; rfl
       rw [hsv] at hyy
       obtain ⟨fn,tmps,assign,body,hy,hR⟩:=hyy
       clear hw' hh hg0 hJq hsv hcell0
       refine wpStIn_l ?_
       simp only [List.take_succ_cons,List.take_zero,List.drop_succ_cons,List.drop_zero]
       gi_wp2
       refine hR.mono ?_
       rintro e3 W3 (⟨rfl,hJ3,hk3⟩ | ⟨rfl,hJx3⟩)
       ·gi_wp2
        refine wpStIn_end ?_
        gi_wp2
        refine bodyPost_ret (results_none rfl _ _ _) rfl ?_
        exact ⟨⟨_,rfl⟩,.inl ⟨_,by rw [HYS.out,List.map_append,steps_bad HK0.out HST.out,HXX.out]; rfl,hJ3⟩⟩
       ·gi_wp2
        refine wpStIn_end ?_
        gi_wp2
        refine bodyPost_ret (results_none rfl _ _ _) rfl ?_
        exact ⟨⟨_,rfl⟩,.inr ⟨_,HPRE.out,hJx3⟩⟩
      ·have hd2:decide ((1:Int) < (m:Int))=true:=decide_eq_true (by omega)
       have hd3:decide (1 < m)=true:=decide_eq_true (by omega)
       have hi1:(1:Int) < m:=by omega
       obtain ⟨mm,r2,rfl⟩:∃ mm r2,r=mm :: r2:=by
        cases r with
        | nil=>exact absurd (by rw [hm]; rfl) hm2
        | cons a b=>exact ⟨a,b,rfl⟩
       have hml:m=(mm :: r2).length+1:=by rw [hm]; rfl
       obtain ⟨ad',he,_,hc1⟩:=byte_at HRD.out (k:=1) (by simp)
       injection he with he
       subst he
       have hcell1:wr.cell? ⟨ad.block,ad.off+1,none⟩=some (.int .u8 (mm.toNat:Int)):=by rw [← add_pos ad 1 (by omega)]; exact hc1
       have hqd:stepN (k :: mm :: r2)=if 2≤mm.toNat∧mm.toNat≤m then mm.toNat else 0:=by rw [stepN_cons,if_neg hk1,hml]
       have hmml:=mm.toNat_lt
       obtain ⟨q,hq⟩:∃ q,q=mm.toNat:=⟨_,rfl⟩
       rw [← hq] at hcell1 hqd hmml
       clear hk1n hk0 hkz hm hm2 hml hc1 hq
       by_cases hq2:2≤q
       ·have hd4:decide ((2:Int)≤(q:Int))=true:=decide_eq_true (by omega)
        have hd5:decide (2≤q)=true:=decide_eq_true hq2
        by_cases hqm:q≤m
        ·have hst:stepN (k :: mm :: r2)=q:=by rw [hqd,if_pos ⟨hq2,hqm⟩]
         have hd6:decide ((q:Int)≤(m:Int))=true:=decide_eq_true (by omega)
         have hd7:decide (q≤m)=true:=decide_eq_true hqm
         have hz0:((q:Int) == 0)=false:=by rw [beq_eq_false_iff_ne]; omega
         have hz1:decide ((q:Int)=0)=false:=decide_eq_false (by omega)
         have hz2:decide (q=0)=false:=decide_eq_false (by omega)
         clear hqd
         obtain ⟨xx,hxx⟩:∃ xx:StX,xx=(k,(k :: mm :: r2).take q,Value.slice (some ad) q q):=⟨_,rfl⟩
         have HXX:=Lib.hid hxx
         have HST:=Lib.hid hst
         have HPRE:=Lib.hid (show (ys++[xx]).map stP <+: steps b from by rw [HYS.out,List.map_append,steps_good HK0.out (by rw [HST.out]; omega),HST.out,HXX.out]; exact ⟨_,by rw [List.append_assoc]; rfl⟩)
         have hmx:∀ wx:World,(Instr.slice 61 (.slice (some ad) m c) none (some (.int .i64 (q:Int))) (some (.int .i64 (q:Int)))).run Tryz.prog wx=.ok (.slice (some ad) q q) wx:=fun wx=>sl_max (some ad) m c wx q (by omega)
         clear hst hxx hk1
         gi_wp2
         refine wpIn_region_st hF [(true,8),(false,6)] (by kernel_rfl) (by kernel_rfl) (by kernel_rfl) ?_
         refine wpStIn_q ?_
         simp only [List.take_succ_cons,List.take_zero,List.drop_succ_cons,List.drop_zero]
         repeat (go_big_quiet_step (fail))
         refine wpQuiet_nil ?_
         intro wq hw'
         have hh:wq.heap=wr.heap:=by obtain ⟨nq,rfl⟩:=hw'; rfl
         have hg0:wr.grownBy wq none:=by obtain ⟨nq,rfl⟩:=hw'; exact ⟨rfl,rfl,rfl,Nat.le_refl _,fun _ _ _=>rfl⟩
         have SQ:=Lib.hid (Same.ofHeap (w:=wr) I hh)
         have hJq:J ys wq:=HJ.out _ _ _ _ HJS.out hg0 (fun r hr=>by cases hr)
         have hyy:=HY.out ys xx wq hJq ⟨HPRE.out,by
          rw [HXX.out]
          have:=cut_hi (k:=q) (cap:=q) (HRD.out.keep SQ.out) (by rw [← HM.out]; omega) (Nat.le_refl _)
          exact this⟩
         have hsv:stV xx=#[.int .u8 (k.toNat:Int),.slice (some ad) q q]:=by rw [HXX.out]; rfl
         rw [hsv] at hyy
         obtain ⟨fn,tmps,assign,body,hy,hR⟩:=hyy
         clear hw' hh hg0 hJq hsv hcell0 hcell1
         refine wpStIn_l ?_
         simp only [List.take_succ_cons,List.take_zero,List.drop_succ_cons,List.drop_zero]
         gi_wp2
         refine hR.mono ?_
         rintro e3 W3 (⟨rfl,hJ3,hk3⟩ | ⟨rfl,hJx3⟩)
         ·have HJ3:=Lib.hid hJ3
          have hs3:Same I wr W3:=(show Same I wr wq from SQ.out).trans hk3
          have hsm3:=cut_lo (k:=q) (cap:=c) (HRD.out.keep hs3) (by rw [← HM.out]; omega) (by rw [← HM.out]; exact hc)
          rw [← HM.out] at hsm3
          have HS3:=Lib.hid hsm3
          have HN3:=Lib.hid (HNX.out.trans hs3)
          have hlo:∀ wx:World,(Instr.slice 61 (.slice (some ad) m c) (some (.int .i64 (q:Int))) none none).run Tryz.prog wx=.ok (.slice (if c=q then some ad else (some ad:Option Addr).map (·.add q)) (m - q) (c - q)) wx:=fun wx=>sl_lo (some ad) m c wx q (by omega)
          obtain ⟨Az,hAz⟩:∃ Az,Az=(if c=q then some ad else (some ad:Option Addr).map (·.add q)):=⟨_,rfl⟩
          rw [← hAz] at hlo HS3
          have hyl2:=Lib.hid (show ((k :: mm :: r2).drop q).length≤1000000 by rw [List.length_drop,← HM.out]; omega)
          clear hJ3 hk3 hs3 hsm3 hAz
          gi_wp2
          refine wpStIn_end ?_
          gi_wp2
          go_roundw
          case rel=>exact ⟨ys++[xx],_,by rw [HYS.out,List.map_append,List.append_assoc,steps_good HK0.out (by rw [HST.out]; omega),HST.out,HXX.out]; rfl,hyl2.out,HS3.out,HJ3.out,HN3.out⟩
          case measure=>simp [lenV]; omega
         ·gi_wp2
          refine wpStIn_end ?_
          gi_wp2
          refine bodyPost_ret (results_none rfl _ _ _) rfl ?_
          exact ⟨⟨_,rfl⟩,.inr ⟨_,HPRE.out,hJx3⟩⟩
        ·have hst:stepN (k :: mm :: r2)=0:=by rw [hqd,if_neg (by omega)]
         have hd6:decide ((q:Int)≤(m:Int))=false:=decide_eq_false (by omega)
         have hd7:decide (q≤m)=false:=decide_eq_false hqm
         clear hqd
         obtain ⟨xx,hxx⟩:∃ xx:StX,xx=(k,(k :: mm :: r2).take 0,Value.slice (some ad) 0 0):=⟨_,rfl⟩
         have HXX:=Lib.hid hxx
         have HST:=Lib.hid hst
         have HPRE:=Lib.hid (show (ys++[xx]).map stP <+: steps b from by rw [HYS.out,List.map_append,steps_bad HK0.out HST.out,HXX.out]; exact List.prefix_refl _)
         have hmx:∀ wx:World,(Instr.slice 61 (.slice (some ad) m c) none (some (.int .i64 0)) (some (.int .i64 0))).run Tryz.prog wx=.ok (.slice (some ad) 0 0) wx:=fun wx=>sl_max (some ad) m c wx 0 (by omega)
         clear hst hxx hk1
         gi_wp2
         refine wpIn_region_st hF [(true,8),(false,6)] (by kernel_rfl) (by kernel_rfl) (by kernel_rfl) ?_
         refine wpStIn_q ?_
         simp only [List.take_succ_cons,List.take_zero,List.drop_succ_cons,List.drop_zero]
         repeat (go_big_quiet_step (fail))
         refine wpQuiet_nil ?_
         intro wq hw'
         have hh:wq.heap=wr.heap:=by obtain ⟨nq,rfl⟩:=hw'; rfl
         have hg0:wr.grownBy wq none:=by obtain ⟨nq,rfl⟩:=hw'; exact ⟨rfl,rfl,rfl,Nat.le_refl _,fun _ _ _=>rfl⟩
         have SQ:=Lib.hid (Same.ofHeap (w:=wr) I hh)
         have hJq:J ys wq:=HJ.out _ _ _ _ HJS.out hg0 (fun r hr=>by cases hr)
         have hyy:=HY.out ys xx wq hJq ⟨HPRE.out,by
          rw [HXX.out]
          have:=cut_hi (k:=0) (cap:=0) (HRD.out.keep SQ.out) (by rw [← HM.out]; omega) (Nat.le_refl _)
          exact this⟩
         have hsv:stV xx=#[.int .u8 (k.toNat:Int),.slice (some ad) 0 0]:=by rw [HXX.out]; rfl
         rw [hsv] at hyy
         obtain ⟨fn,tmps,assign,body,hy,hR⟩:=hyy
         clear hw' hh hg0 hJq hsv hcell0 hcell1
         refine wpStIn_l ?_
         simp only [List.take_succ_cons,List.take_zero,List.drop_succ_cons,List.drop_zero]
         gi_wp2
         refine hR.mono ?_
         rintro e3 W3 (⟨rfl,hJ3,hk3⟩ | ⟨rfl,hJx3⟩)
         ·gi_wp2
          refine wpStIn_end ?_
          gi_wp2
          refine bodyPost_ret (results_none rfl _ _ _) rfl ?_
          exact ⟨⟨_,rfl⟩,.inl ⟨_,by rw [HYS.out,List.map_append,steps_bad HK0.out HST.out,HXX.out]; rfl,hJ3⟩⟩
         ·gi_wp2
          refine wpStIn_end ?_
          gi_wp2
          refine bodyPost_ret (results_none rfl _ _ _) rfl ?_
          exact ⟨⟨_,rfl⟩,.inr ⟨_,HPRE.out,hJx3⟩⟩
       ·have hst:stepN (k :: mm :: r2)=0:=by rw [hqd,if_neg (by omega)]
        have hd4:decide ((2:Int)≤(q:Int))=false:=decide_eq_false (by omega)
        have hd5:decide (2≤q)=false:=decide_eq_false hq2
        clear hqd
        obtain ⟨xx,hxx⟩:∃ xx:StX,xx=(k,(k :: mm :: r2).take 0,Value.slice (some ad) 0 0):=⟨_,rfl⟩
        have HXX:=Lib.hid hxx
        have HST:=Lib.hid hst
        have HPRE:=Lib.hid (show (ys++[xx]).map stP <+: steps b from by rw [HYS.out,List.map_append,steps_bad HK0.out HST.out,HXX.out]; exact List.prefix_refl _)
        have hmx:∀ wx:World,(Instr.slice 61 (.slice (some ad) m c) none (some (.int .i64 0)) (some (.int .i64 0))).run Tryz.prog wx=.ok (.slice (some ad) 0 0) wx:=fun wx=>sl_max (some ad) m c wx 0 (by omega)
        clear hst hxx hk1
        gi_wp2
        refine wpIn_region_st hF [(true,8),(false,6)] (by kernel_rfl) (by kernel_rfl) (by kernel_rfl) ?_
        refine wpStIn_q ?_
        simp only [List.take_succ_cons,List.take_zero,List.drop_succ_cons,List.drop_zero]
        repeat (go_big_quiet_step (fail))
        refine wpQuiet_nil ?_
        intro wq hw'
        have hh:wq.heap=wr.heap:=by obtain ⟨nq,rfl⟩:=hw'; rfl
        have hg0:wr.grownBy wq none:=by obtain ⟨nq,rfl⟩:=hw'; exact ⟨rfl,rfl,rfl,Nat.le_refl _,fun _ _ _=>rfl⟩
        have SQ:=Lib.hid (Same.ofHeap (w:=wr) I hh)
        have hJq:J ys wq:=HJ.out _ _ _ _ HJS.out hg0 (fun r hr=>by cases hr)
        have hyy:=HY.out ys xx wq hJq ⟨HPRE.out,by
         rw [HXX.out]
         have:=cut_hi (k:=0) (cap:=0) (HRD.out.keep SQ.out) (by rw [← HM.out]; omega) (Nat.le_refl _)
         exact this⟩
        have hsv:stV xx=#[.int .u8 (k.toNat:Int),.slice (some ad) 0 0]:=by rw [HXX.out]; rfl
        rw [hsv] at hyy
        obtain ⟨fn,tmps,assign,body,hy,hR⟩:=hyy
        clear hw' hh hg0 hJq hsv hcell0 hcell1
        refine wpStIn_l ?_
        simp only [List.take_succ_cons,List.take_zero,List.drop_succ_cons,List.drop_zero]
        gi_wp2
        refine hR.mono ?_
        rintro e3 W3 (⟨rfl,hJ3,hk3⟩ | ⟨rfl,hJx3⟩)
        ·gi_wp2
         refine wpStIn_end ?_
         gi_wp2
         refine bodyPost_ret (results_none rfl _ _ _) rfl ?_
         exact ⟨⟨_,rfl⟩,.inl ⟨_,by rw [HYS.out,List.map_append,steps_bad HK0.out HST.out,HXX.out]; rfl,hJ3⟩⟩
        ·gi_wp2
         refine wpStIn_end ?_
         gi_wp2
         refine bodyPost_ret (results_none rfl _ _ _) rfl ?_
         exact ⟨⟨_,rfl⟩,.inr ⟨_,HPRE.out,hJx3⟩⟩
end Go.Proofs.YthlommalbkhcjaaGreat
namespace Go.Proofs.YthlommalbkhcjaaGreat
open Go.RowKit Go.Sort Go.BigFrame
def SeqS (w:World) (I:Nat→Prop) (f:Value) (b:By):Prop:=∃ Bx v0,f=.func (.func 212) #[] #[.pointer (some ⟨Bx,0,none⟩)]∧Blk w Bx 61 #[v0]∧Sl8 w I v0 b∧∀ k,I k→k < w.heap.size
theorem SeqS.fits {w:World} {I:Nat→Prop} {f:Value} {b:By} (h:SeqS w I f b) (hsm:b.length≤1000000) (F:Fence) (n:Nat) (hF:∀ f,F.fn f) (hro:F.round=none) (hn:1≤n) :
  ∃ Bx,f=.func (.func 212) #[] #[.pointer (some ⟨Bx,0,none⟩)] ∧
    SeqFit F n Tryz.prog 212 #[.pointer (some ⟨Bx,0,none⟩)] stV (Same I) (fun ys=>ys.map stP=steps b) (fun pre=>pre.map stP <+: steps b) (fun pre x W=>FitS I b pre x W) w:=by
 obtain ⟨Bx,v0,h1,h2,h4,h5⟩:=h
 refine ⟨Bx,h1,fun l J Jx W hW hJ _ h0 hY=>?_⟩
 exact steps1_in F n hF hro hn l Bx I v0 b hsm J Jx W (fun k hk=>Nat.lt_of_lt_of_le (h5 k hk) hW.size) hJ hY ((h2.below hW h2.lt).cell 0) (h4.keep (Same.ofBelow hW fun k h=>h5 k h)) h0
theorem steps_any (v0:Value) (b:By) (I:Nat→Prop) (w:World) (h:Sl8 w I v0 b) :
  Calls Tryz.prog 174 #[v0] w fun e w'=>∃ f,e=.returned f∧SeqS w' (fun k=>I k∧k < w.heap.size) f b∧Below w.heap.size w w':=by
 obtain ⟨A,c,rfl,hc,hr⟩:=h.lt
 have hb:Below w.heap.size w (w.alloc (.cells #[.slice A b.length c] 61)):=(Below.refl _ _).alloc (Nat.le_refl _) _
 have hk:=Blk.new w 61 #[.slice A b.length c]
 have HR:=Lib.hid hr
 have HB:=Lib.hid hb
 have HK:=Lib.hid hk
 have HC:=Lib.hid hc
 clear h hc hr hb hk
 go_enter Tryz.func174,Tryz.ntmps174
 go_wp2_with fail
 go_ret
 exact ⟨_,rfl,⟨_,_,rfl,HK.out,⟨A,c,rfl,HC.out,HR.out.keep (Same.ofBelow HB.out fun k hk=>hk.2)⟩,fun k hk=>Nat.lt_of_lt_of_le hk.2 HB.out.size⟩,HB.out⟩
/-! ### Options in memory -/
def optC (p:UInt8 × Value):List Value:=[.int .u8 (p.1.toNat:Int),p.2]
def OptD (B:Nat) (W:World):List (UInt8 × Value)→List (UInt8 × By)→Prop
 | [],[]=>True
 | p :: us,q :: L=>(p.1=q.1∧Row8 B W p.2 q.2)∧OptD B W us L
 | _,_=>False
def OptR (B:Nat) (W:World) (v:Value) (L:List (UInt8 × By)):Prop:=∃ us,W.ownsRow B 252 2 v us.length (us.flatMap optC)∧OptD B W us L
section
variable {B:Nat} {W W':World} {v:Value}
theorem OptD.len:∀ {us:List (UInt8 × Value)} {L:List (UInt8 × By)},OptD B W us L→us.length=L.length
 | [],[],_=>rfl
 | _ :: _,_ :: _,h=>by simp [OptD.len h.2]
 | [],_ :: _,h=>h.elim
 | _ :: _,[],h=>h.elim
theorem OptD.map (hm:∀ u x,Row8 B W u x→Row8 B W' u x):∀ {us:List (UInt8 × Value)} {L:List (UInt8 × By)},OptD B W us L→OptD B W' us L
 | [],[],_=>trivial
 | _ :: _,_ :: _,h=>⟨⟨h.1.1,hm _ _ h.1.2⟩,OptD.map hm h.2⟩
 | [],_ :: _,h=>h.elim
 | _ :: _,[],h=>h.elim
theorem OptD.snoc {p:UInt8 × Value} {q:UInt8 × By} (h1:p.1=q.1) (h2:Row8 B W p.2 q.2):∀ {us:List (UInt8 × Value)} {L:List (UInt8 × By)},OptD B W us L→OptD B W (us++[p]) (L++[q])
 | [],[],_=>⟨⟨h1,h2⟩,trivial⟩
 | _ :: _,_ :: _,h=>⟨h.1,OptD.snoc h1 h2 h.2⟩
 | [],_ :: _,h=>h.elim
 | _ :: _,[],h=>h.elim
theorem OptR.nil (B:Nat) (W:World):OptR B W (.slice none 0 0) []:=⟨[],World.ownsRow_nil _ _ _ _,trivial⟩
theorem OptR.form {L:List (UInt8 × By)} (h:OptR B W v L):∃ A c,v=.slice A L.length c∧L.length≤c:=by
 obtain ⟨us,h1,h2⟩:=h
 rw [h2.len] at h1
 exact own_form h1
theorem own_type {base:Nat} {e:TypeId} {size n:Nat} {xs:List Value} (h:W.ownsRow base e size v n xs) (_:W.heap.size≤W'.heap.size) (hk:∀ k (cs:Array Value),k < W.heap.size→Blk W k e cs→W'.heap[k]?=W.heap[k]?):W'.ownsRow base e size v n xs:=by
 rcases h.2 with ⟨rfl,rfl⟩ | ⟨g,cap,cur,rfl,hg,hh,rest⟩
 ·exact ⟨h.1,.inl ⟨rfl,rfl⟩⟩
 ·exact ⟨h.1,.inr ⟨g,cap,cur,rfl,hg,(hk g cur (by
   rcases Nat.lt_or_ge g W.heap.size with hlt | hge
   ·exact hlt
   ·rw [Array.getElem?_eq_none hge] at hh; cases hh) hh).trans hh,rest⟩⟩
theorem OptR.types {L:List (UInt8 × By)} (h:OptR B W v L) (hs:W.heap.size≤W'.heap.size) (h1:∀ k (cs:Array Value),k < W.heap.size→Blk W k 252 cs→W'.heap[k]?=W.heap[k]?) (h2:∀ k (cs:Array Value),k < W.heap.size→Blk W k 5 cs→W'.heap[k]?=W.heap[k]?):OptR B W' v L:=by
 obtain ⟨us,ho,hd⟩:=h
 exact ⟨us,own_type ho hs h1,hd.map fun u x hr=>own_type hr hs h2⟩
theorem OptR.below {L:List (UInt8 × By)} (h:OptR B W v L) (hb:Below W.heap.size W W'):OptR B W' v L:=h.types hb.size (fun k _ hk _=>hb.block k hk) fun k _ hk _=>hb.block k hk
theorem OptR.own {L:List (UInt8 × By)} {row:Option Nat} (h:OptR B W v L) (hg:W.grownBy W' row) (hr:∀ r,row=some r→∃ o:Obj,W.heap[r]?=some o∧o.isCells=false):OptR B W' v L :=
 h.types hg.size (fun k cs hk hb=>hg.block k hk fun e=>by
  obtain ⟨o,ho,hc⟩:=hr k e.symm
  unfold Blk at hb
  rw [hb] at ho
  cases ho
  cases hc) fun k cs hk hb=>hg.block k hk fun e=>by
  obtain ⟨o,ho,hc⟩:=hr k e.symm
  unfold Blk at hb
  rw [hb] at ho
  cases ho
  cases hc
theorem OptR.set_ {L:List (UInt8 × By)} (h:OptR B W v L) {p:Addr} {t:TypeId} {cs:Array Value} (hp:Blk W p.block t cs) (h1:t≠252) (h2:t≠5) (u:Value):OptR B (W.setCell p u) v L:=by
 refine h.types (by simp [World.setCell]) (fun k cs' _ hb=>Below.heap_setCell W p u k ?_) fun k cs' _ hb=>Below.heap_setCell W p u k ?_
 ·intro e
  subst e
  exact (hp.ne_ hb h1) rfl
 ·intro e
  subst e
  exact (hp.ne_ hb h2) rfl
end
theorem own_blk {w:World} {base:Nat} {e:TypeId} {size n:Nat} {v:Value} {xs:List Value} (h:w.ownsRow base e size v n xs) {g:Nat} (hg:v.ownBlock=some g):∃ cs,Blk w g e cs:=by
 rcases h.2 with ⟨rfl,rfl⟩ | ⟨g',cap,cur,rfl,_,hh,_⟩
 ·cases hg
 ·injection hg with hg
  subst hg
  exact ⟨cur,hh⟩
theorem info_opt:(Tryz.prog.info? 252).map (fun i=>(i.zero,i.size,i.bytes))=some (some (.agg #[.int .u8 0,.slice none 0 0]),2,32):=by kernel_rfl
end Go.Proofs.YthlommalbkhcjaaGreat
