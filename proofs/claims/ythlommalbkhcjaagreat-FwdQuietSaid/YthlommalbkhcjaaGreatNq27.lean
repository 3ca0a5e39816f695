/- guidepostref03.Parse. -/
import Derived.Test.YthlommalbkhcjaaGreatNq26
namespace Go.Proofs.YthlommalbkhcjaaGreat
open Go.RowKit Go.Sort Go.BigFrame
theorem rget_cut {w:World} {I:Nat→Prop} {ad:Addr} {n c:Nat} {x:By} (h:Reads w I 1 (some ad) n (bytesV x)) (hn:x.length=n) (hc:n≤c) (a b:Nat) (hab:a < b) (hb:b≤n) (h7:b - a≤7) :
  ∃ cv,(∀ wx:World,(Instr.slice 61 (.slice (some ad) n c) (some (.int .i64 (a:Int))) (some (.int .i64 (b:Int))) none).run Tryz.prog wx=.ok cv wx)∧∀ wx,Same I w wx→Calls Tryz.prog 72 #[cv] wx fun e w'=>e=.returned (.int .u64 (getF (partF x a b):Int))∧wx=w':=by
 refine ⟨_,fun wx=>sl_lohi (some ad) n c wx a b (by omega) (by omega),fun wx hs=>?_⟩
 have q:=(cut_lohi (a:=a) (b:=b) (cap:=c) (x:=x) (by rw [hn]; exact h) (by omega) (by omega) (by omega)).keep hs
 have hl:(partF x a b).length=b - a:=part_len (by omega)
 have q2:=q.len.2.2
 rw [hl] at q2
 exact rget_any _ _ _ _ _ wx q2 hl h7
theorem load8 {w:World} {a:Addr} {n:Int} (h:w.cell? a=some (.int .u8 n)):(Instr.loadAt 5 (.pointer (some a))).run Tryz.prog w=.ok (.int .u8 n) w:=by go_simp
structure ZW (w W:World):Prop where
 below:Below w.heap.size w W
 h0:Blk W w.heap.size 76 #[.int .u8 0,.int .u16 0,.bool false,.bool false,.bool false,.int .i64 0,.int .u8 0,.int .u8 0,.int .u32 0,.int .u32 0,.slice none 0 0]
 h1:Blk W (w.heap.size+1) 76 #[.int .u8 0,.int .u16 0,.bool false,.bool false,.bool false,.int .i64 0,.int .u8 0,.int .u8 0,.int .u32 0,.int .u32 0,.slice none 0 0]
theorem ZW.on {w W W':World} (h:ZW w W) (hb:Below W.heap.size W W'):ZW w W':=⟨h.below.trans (hb.mono h.below.size),h.h0.below hb h.h0.lt,h.h1.below hb h.h1.lt⟩
theorem zz {w W:World} (h:ZW w W):∃ w9,(Instr.loadAt 76 (.pointer (some ⟨w.heap.size+1,0,none⟩))).run Tryz.prog W=.ok (.agg #[.int .u8 0,.int .u16 0,.bool false,.bool false,.bool false,.int .i64 0,.int .u8 0,.int .u8 0,.int .u32 0,.int .u32 0,.slice none 0 0]) W∧(Instr.storeAt 76 (.pointer (some ⟨w.heap.size,0,none⟩)) (.agg #[.int .u8 0,.int .u16 0,.bool false,.bool false,.bool false,.int .i64 0,.int .u8 0,.int .u8 0,.int .u32 0,.int .u32 0,.slice none 0 0])).run Tryz.prog W=.ok () w9∧Blk w9 w.heap.size 76 #[.int .u8 0,.int .u16 0,.bool false,.bool false,.bool false,.int .i64 0,.int .u8 0,.int .u8 0,.int .u32 0,.int .u32 0,.slice none 0 0]∧Below w.heap.size w w9 :=
 ⟨_,hd_load h.h1 rfl,hd_store (vs:=#[.int .u8 0,.int .u16 0,.bool false,.bool false,.bool false,.int .i64 0,.int .u8 0,.int .u8 0,.int .u32 0,.int .u32 0,.slice none 0 0]) h.h0 rfl rfl (by simp [Value.oneCell']),blk_setCells (vs:=#[.int .u8 0,.int .u16 0,.bool false,.bool false,.bool false,.int .i64 0,.int .u8 0,.int .u8 0,.int .u32 0,.int .u32 0,.slice none 0 0]) h.h0 rfl,below_setCells (Nat.le_refl _) _ 0 _ h.below⟩
def RPrs (w:World) (J:Nat→Prop) (r:Hd × By × Nat) (e:Ending) (w':World):Prop:=∃ v p,e=.returned (.tuple #[hdV r.1 v,p,.int .i64 (r.2.2:Int)])∧Sl8 w' J v r.1.opts∧Sl8 w' J p r.2.1∧Below w.heap.size w w'
theorem sl_nil (w:World) (J:Nat→Prop):Sl8 w J (.slice none 0 0) []:=⟨none,0,rfl,Nat.le_refl _,rfl,fun h=>absurd h (Nat.lt_irrefl _)⟩
attribute [-go_sem] Instr.storeAt Instr.loadAt in
set_option maxRecDepth 100000 in
set_option maxHeartbeats 16000000 in
theorem rparse_any (A:Option Addr) (n c:Nat) (x:By) (I:Nat→Prop) (w:World) (h:Reads w I 1 A n (bytesV x)) (hn:x.length=n) (hc:n≤c) (hsm:n≤1000000) :
  Calls Tryz.prog 30 #[.slice A n c] w (RPrs w (fun k=>I k∧k < w.heap.size) (prsF x)):=by
 have HH:=Lib.hid h.lt
 have HN:=Lib.hid hn
 obtain ⟨R,hR⟩:∃ R,R=prsF x:=⟨_,rfl⟩
 rw [← hR]
 obtain ⟨q,hq⟩:∃ q,q=wrongF x:=⟨_,rfl⟩
 have HR:=Lib.hid hR
 have HQ:=Lib.hid hq
 obtain ⟨W0,hW0⟩:∃ W0,W0=(w.alloc (.cells #[.int .u8 0,.int .u16 0,.bool false,.bool false,.bool false,.int .i64 0,.int .u8 0,.int .u8 0,.int .u32 0,.int .u32 0,.slice none 0 0] 76)).alloc (.cells #[.int .u8 0,.int .u16 0,.bool false,.bool false,.bool false,.int .i64 0,.int .u8 0,.int .u8 0,.int .u32 0,.int .u32 0,.slice none 0 0] 76):=⟨_,rfl⟩
 have hz0:ZW w W0:=by
  refine ⟨by rw [hW0]; exact ((Below.refl _ _).alloc (Nat.le_refl _) _).alloc (by simp) _,by rw [hW0]; exact (Blk.new _ _ _).alloc _,?_⟩
  rw [hW0]
  have:=Blk.new (w.alloc (.cells #[.int .u8 0,.int .u16 0,.bool false,.bool false,.bool false,.int .i64 0,.int .u8 0,.int .u8 0,.int .u32 0,.int .u32 0,.slice none 0 0] 76)) 76 #[.int .u8 0,.int .u16 0,.bool false,.bool false,.bool false,.int .i64 0,.int .u8 0,.int .u8 0,.int .u32 0,.int .u32 0,.slice none 0 0]
  simpa using this
 have HZ0:=Lib.hid hz0
 have HW0:=Lib.hid hW0
 have hfail':∀ (k:Nat) (w9:World),wrongF x=k→k≠0→Below w.heap.size w w9→RPrs w (fun k=>I k∧k < w.heap.size) R (.returned (.tuple #[.agg #[.int .u8 0,.int .u16 0,.bool false,.bool false,.bool false,.int .i64 0,.int .u8 0,.int .u8 0,.int .u32 0,.int .u32 0,.slice none 0 0],.slice none 0 0,.int .i64 (k:Int)])) w9:=fun k w9 hk h0 hb=>by
  refine ⟨.slice none 0 0,.slice none 0 0,?_,?_,?_,hb⟩
  ·rw [hR]; unfold prsF; rw [if_neg (by rw [hk]; exact h0),hk]; rfl
  ·rw [hR]; unfold prsF; rw [if_neg (by rw [hk]; exact h0)]; exact sl_nil _ _
  ·rw [hR]; unfold prsF; rw [if_neg (by rw [hk]; exact h0)]; exact sl_nil _ _
 have HF:=Lib.hid hfail'
 clear h hR hq hz0 hW0 hfail'
 by_cases h20:n < 20
 ·have hw:wrongF x=1:=by unfold wrongF; rw [if_pos (by omega)]
  have HW:=Lib.hid hw
  have hd:decide ((n:Int) < 20)=true:=decide_eq_true (by omega)
  have hd2:decide (n < 20)=true:=decide_eq_true h20
  clear hn hw
  go_enter Tryz.func30,Tryz.ntmps30
  go_upto_region 2 with (fail)
  rw [← HW0.out]
  obtain ⟨w9,hld,hst,hk9,hb9⟩:=zz HZ0.out
  have HK9:=Lib.hid hk9
  have HB9:=Lib.hid hb9
  clear hk9 hb9
  go_wp2_with fail
  refine bodyPost_ret_by (res_hd rfl _ rfl HK9.out rfl) rfl ?_
  exact HF.out 1 w9 HW.out (by decide) HB9.out
 ·obtain ⟨ad,rfl,hb0⟩:=byte_getD HH.out (k:=0) (by omega)
  rw [show ad.add 0=ad from by unfold Addr.add; simp] at hb0
  obtain ⟨b0,hb0e⟩:∃ b0,b0=(x.getD 0 0).toNat:=⟨_,rfl⟩
  have hb0l:b0 < 256:=by rw [hb0e]; exact UInt8.toNat_lt _
  rw [← hb0e] at hb0
  obtain ⟨s,hs⟩:∃ s,s=b0 % 16:=⟨_,rfl⟩
  obtain ⟨d,hd⟩:∃ d,d=b0 / 16:=⟨_,rfl⟩
  obtain ⟨m,hm⟩:∃ m,m=4 * s:=⟨_,rfl⟩
  have hml:m < 64:=by omega
  have e16:(b0:Int) / 16=(d:Int):=by omega
  have r16:(b0:Int) % 16=(s:Int):=by omega
  have w1:IntKind.i64.wrap (s:Int)=(s:Int):=wrap_i64 _ (by omega) (by omega)
  have w2:(4:Int) * (s:Int)=(m:Int):=by omega
  have HM:=Lib.hid (show sizeF x=m by rw [hm,hs,hb0e]; rfl)
  have HDD:=Lib.hid (show (x.getD 0 0).toNat / 16=d by rw [← hb0e,hd])
  have hbn:(0:Int)≤b0:=by omega
  have L0:ad.block < w.heap.size:=World.block_lt_of_cell? w ad hb0
  have C0:=load8 (show W0.cell? ad=some (.int .u8 (b0:Int)) from (HZ0.out.below.cell L0).trans hb0)
  have HB0:=Lib.hid (fun wx (hx:Below w.heap.size w wx)=>((hx.cell L0).trans hb0:wx.cell? ad=some (.int .u8 (b0:Int))))
  have hn0:(0:Int) < n:=by omega
  have hn0n:0 < n:=by omega
  have hd20:decide ((n:Int) < 20)=false:=decide_eq_false (by omega)
  have hd20n:decide (n < 20)=false:=decide_eq_false h20
  clear hs hd hm hb0e hb0 hn
  by_cases h4:d=4
  case neg =>
   have hne:((d:Int) != 4)=true:=by rw [bne_iff_ne]; omega
   have hw:wrongF x=2:=by unfold wrongF; rw [if_neg (by rw [HN.out]; omega),HDD.out,if_pos h4]
   have HW:=Lib.hid hw
   clear hw
   go_enter Tryz.func30,Tryz.ntmps30
   go_upto_region 2 with (fail)
   rw [← HW0.out]
   obtain ⟨w9,hld,hst,hk9,hb9⟩:=zz HZ0.out
   have HK9:=Lib.hid hk9
   have HB9:=Lib.hid hb9
   clear hk9 hb9
   go_wp2_with fail
   refine bodyPost_ret_by (res_hd rfl _ rfl HK9.out rfl) rfl ?_
   exact HF.out 2 w9 HW.out (by decide) HB9.out
  case pos =>
   subst h4
   have hpre:wrongF x=if m < 20∨n < m then 3 else if lenF x < m∨n < lenF x then 4 else if totalF (x.take m)≠65535 then 5 else if goodF (partF x 20 m)=true then 0 else 6:=by
    unfold wrongF
    rw [if_neg (by rw [HN.out]; omega),HDD.out,if_neg (fun h=>h rfl),HM.out,HN.out]
   have HPRE:=Lib.hid hpre
   clear hpre
   by_cases h3:m < 20∨n < m
   ·have HW:=Lib.hid (HPRE.out.trans (if_pos h3))
    have hA:(m < 20)∨(¬ m < 20∧n < m):=by omega
    clear h3
    rcases hA with h3 | ⟨h31,h32⟩
    ·have hdm:decide ((m:Int) < 20)=true:=decide_eq_true (by omega)
     go_enter Tryz.func30,Tryz.ntmps30
     go_upto_region 2 with (fail)
     rw [← HW0.out]
     go_upto_region 8 with (fail)
     obtain ⟨w9,hld,hst,hk9,hb9⟩:=zz HZ0.out
     have HK9:=Lib.hid hk9
     have HB9:=Lib.hid hb9
     clear hk9 hb9
     go_wp2_with fail
     refine bodyPost_ret_by (res_hd rfl _ rfl HK9.out rfl) rfl ?_
     exact HF.out 3 w9 HW.out (by decide) HB9.out
    ·have hdm:decide ((m:Int) < 20)=false:=decide_eq_false (by omega)
     have hdm2:decide ((n:Int) < (m:Int))=true:=decide_eq_true (by omega)
     go_enter Tryz.func30,Tryz.ntmps30
     go_upto_region 2 with (fail)
     rw [← HW0.out]
     go_upto_region 8 with (fail)
     obtain ⟨w9,hld,hst,hk9,hb9⟩:=zz HZ0.out
     have HK9:=Lib.hid hk9
     have HB9:=Lib.hid hb9
     clear hk9 hb9
     go_wp2_with fail
     refine bodyPost_ret_by (res_hd rfl _ rfl HK9.out rfl) rfl ?_
     exact HF.out 3 w9 HW.out (by decide) HB9.out
   have h31:¬ m < 20:=fun e=>h3 (.inl e)
   have h32:¬ n < m:=fun e=>h3 (.inr e)
   have HPRE2:=Lib.hid (HPRE.out.trans (if_neg h3))
   clear h3
   have hdm:decide ((m:Int) < 20)=false:=decide_eq_false (by omega)
   have hdm2:decide ((n:Int) < (m:Int))=false:=decide_eq_false (by omega)
   have hr0:Reads W0 (fun k=>I k∧k < w.heap.size) 1 (some ad) n (bytesV x):=HH.out.keep (Same.ofBelow HZ0.out.below fun k hk=>hk.2)
   obtain ⟨cva,ea,na⟩:=rget_cut hr0 HN.out hc 2 4 (by decide) (by omega) (by decide)
   obtain ⟨t,ht⟩:∃ t,t=lenF x:=⟨_,rfl⟩
   have htl:t < 65536:=by have:=get_lt (x:=x) (a:=2) (b:=4) (by rw [HN.out]; omega); rw [ht]; unfold lenF; simpa using this
   have w3:IntKind.i64.wrap (t:Int)=(t:Int):=wrap_i64 _ (by omega) (by omega)
   have HT:=Lib.hid ht
   have NA:=Lib.hid (show Calls Tryz.prog 72 #[cva] W0 (fun e w'=>e=.returned (.int .u64 (t:Int))∧W0=w') from (na W0 (Same.refl _ _)).mono (by rintro e w' ⟨rfl,rfl⟩; exact ⟨by rw [HT.out]; rfl,rfl⟩))
   have ea':∀ wx:World,(Instr.slice 61 (.slice (some ad) n c) (some (.int .i64 2)) (some (.int .i64 4)) none).run Tryz.prog wx=.ok cva wx:=ea
   clear ht ea na hr0
   by_cases h4:t < m∨n < t
   ·have HW:=Lib.hid (show wrongF x=4 by rw [HPRE2.out,← HT.out,if_pos h4])
    have hA:(t < m)∨(¬ t < m∧n < t):=by omega
    clear h4
    rcases hA with h4 | ⟨h41,h42⟩
    ·have hdt:decide ((t:Int) < (m:Int))=true:=decide_eq_true (by omega)
     go_enter Tryz.func30,Tryz.ntmps30
     go_upto_region 2 with (fail)
     rw [← HW0.out]
     go_wp2_with fail
     refine NA.out.mono ?_
     rintro e _ ⟨rfl,rfl⟩
     go_upto_region 11 with (fail)
     obtain ⟨w9,hld,hst,hk9,hb9⟩:=zz HZ0.out
     have HK9:=Lib.hid hk9
     have HB9:=Lib.hid hb9
     clear hk9 hb9
     go_wp2_with fail
     refine bodyPost_ret_by (res_hd rfl _ rfl HK9.out rfl) rfl ?_
     exact HF.out 4 w9 HW.out (by decide) HB9.out
    ·have hdt:decide ((t:Int) < (m:Int))=false:=decide_eq_false (by omega)
     have hdt2:decide ((n:Int) < (t:Int))=true:=decide_eq_true (by omega)
     go_enter Tryz.func30,Tryz.ntmps30
     go_upto_region 2 with (fail)
     rw [← HW0.out]
     go_wp2_with fail
     refine NA.out.mono ?_
     rintro e _ ⟨rfl,rfl⟩
     go_upto_region 11 with (fail)
     obtain ⟨w9,hld,hst,hk9,hb9⟩:=zz HZ0.out
     have HK9:=Lib.hid hk9
     have HB9:=Lib.hid hb9
     clear hk9 hb9
     go_wp2_with fail
     refine bodyPost_ret_by (res_hd rfl _ rfl HK9.out rfl) rfl ?_
     exact HF.out 4 w9 HW.out (by decide) HB9.out
   have h41:¬ t < m:=fun e=>h4 (.inl e)
   have h42:¬ n < t:=fun e=>h4 (.inr e)
   have HPRE3:=Lib.hid (show wrongF x=if totalF (x.take m)≠65535 then 5 else if goodF (partF x 20 m)=true then 0 else 6 by rw [HPRE2.out,← HT.out,if_neg h4])
   clear h4
   have hdt:decide ((t:Int) < (m:Int))=false:=decide_eq_false (by omega)
   have hdt2:decide ((n:Int) < (t:Int))=false:=decide_eq_false (by omega)
   have ht1:(x.take m).length=m:=by rw [List.length_take,HN.out]; omega
   have HTO:=Lib.hid (rtotal_any (some ad) m c (x.take m) (fun k=>I k∧k < w.heap.size) W0 (by
    have:=(cut_hi (k:=m) (cap:=c) (x:=x) (by rw [HN.out]; exact HH.out.keep (Same.ofBelow HZ0.out.below fun k hk=>hk.2)) (by rw [HN.out]; omega) (by omega)).len.2.2
    rw [ht1] at this
    exact this) ht1 (by omega))
   obtain ⟨T,hT⟩:∃ T,T=totalF (x.take m):=⟨_,rfl⟩
   rw [← hT] at HTO HPRE3
   clear ht1 hT
   by_cases h5:T=65535
   case neg =>
    have HW:=Lib.hid (HPRE3.out.trans (if_pos h5))
    have hT5:((T:Int) != 65535)=true:=by rw [bne_iff_ne]; omega
    go_enter Tryz.func30,Tryz.ntmps30
    go_upto_region 2 with (fail)
    rw [← HW0.out]
    go_wp2_with fail
    refine NA.out.mono ?_
    rintro e _ ⟨rfl,rfl⟩
    go_wp2_with fail
    refine HTO.out.mono ?_
    rintro e W2 ⟨rfl,hb2⟩
    have HZ2:=Lib.hid (HZ0.out.on hb2)
    clear hb2
    go_upto_region 13 with (fail)
    obtain ⟨w9,hld,hst,hk9,hb9⟩:=zz HZ2.out
    have HK9:=Lib.hid hk9
    have HB9:=Lib.hid hb9
    clear hk9 hb9
    go_wp2_with fail
    refine bodyPost_ret_by (res_hd rfl _ rfl HK9.out rfl) rfl ?_
    exact HF.out 5 w9 HW.out (by decide) HB9.out
   case pos =>
   subst h5
   have HPRE4:=Lib.hid (HPRE3.out.trans (if_neg (fun h=>h rfl)))
   have q3:=cut_lohi (a:=20) (b:=m) (cap:=c) (x:=x) (by rw [HN.out]; exact HH.out) (by omega) (by rw [HN.out]; omega) (by rw [HN.out]; omega)
   obtain ⟨oa,hoa⟩:∃ oa,oa=(if c=20 then some ad else (some ad).map (·.add 20)):=⟨_,rfl⟩
   obtain ⟨on,hon⟩:∃ on,on=m - 20:=⟨_,rfl⟩
   obtain ⟨oc,hoc⟩:∃ oc,oc=c - 20:=⟨_,rfl⟩
   have hcv:Value.slice oa on oc=Value.slice (if c=20 then some ad else (some ad).map (·.add 20)) (m - 20) (c - 20):=by rw [hoa,hon,hoc]
   have S3:∀ wx:World,(Instr.slice 61 (.slice (some ad) n c) (some (.int .i64 20)) (some (.int .i64 (m:Int))) none).run Tryz.prog wx=.ok (.slice oa on oc) wx:=fun wx=>by rw [hcv]; exact sl_lohi (some ad) n c wx 20 m (by omega) (by omega)
   rw [← hcv] at q3
   obtain ⟨y,hy⟩:∃ y,y=partF x 20 m:=⟨_,rfl⟩
   rw [← hy] at q3 HPRE4
   have hyl:y.length=on:=by rw [hy,part_len (by rw [HN.out]; omega),hon]
   have q3r:=q3.len.2.2
   have q3c:=q3.len.2.1
   rw [hyl] at q3r q3c
   have HY:=Lib.hid hy
   have HYL:=Lib.hid hyl
   have HOC:=Lib.hid q3c
   have HQ3:=Lib.hid q3r
   have HPA:=Lib.hid (fun (wq:World) (hq:Below w.heap.size w wq)=>parts_any oa on oc y (fun k=>I k∧k < w.heap.size) wq (q3r.keep (Same.ofBelow hq fun k hk=>hk.2)) hyl (by omega))
   unfold PartsPost at HPA
   obtain ⟨G,hG⟩:∃ G,G=goodF y:=⟨_,rfl⟩
   rw [← hG] at HPRE4 HPA
   clear hoa hon hoc hcv q3 hy hyl hG q3r q3c
   cases G with
   | false =>
     have HW:=Lib.hid (show wrongF x=6 by rw [HPRE4.out]; rfl)
     go_enter Tryz.func30,Tryz.ntmps30
     go_upto_region 2 with (fail)
     rw [← HW0.out]
     go_wp2_with fail
     refine NA.out.mono ?_
     rintro e _ ⟨rfl,rfl⟩
     go_wp2_with fail
     refine HTO.out.mono ?_
     rintro e W2 ⟨rfl,hb2⟩
     have HZ2:=Lib.hid (HZ0.out.on hb2)
     clear hb2
     go_wp2_with fail
     refine (HPA.out W2 HZ2.out.below).mono ?_
     rintro e W3 ⟨vp,rfl,_,hb3⟩
     have HZ3:=Lib.hid (HZ2.out.on hb3)
     clear hb3
     go_upto_region 16 with (fail)
     obtain ⟨w9,hld,hst,hk9,hb9⟩:=zz HZ3.out
     have HK9:=Lib.hid hk9
     have HB9:=Lib.hid hb9
     clear hk9 hb9
     go_wp2_with fail
     refine bodyPost_ret_by (res_hd rfl _ rfl HK9.out rfl) rfl ?_
     exact HF.out 6 w9 HW.out (by decide) HB9.out
   | true =>
   have HW:=Lib.hid (show wrongF x=0 by rw [HPRE4.out]; rfl)
   go_enter Tryz.func30,Tryz.ntmps30
   go_upto_region 2 with (fail)
   rw [← HW0.out]
   go_wp2_with fail
   refine NA.out.mono ?_
   rintro e _ ⟨rfl,rfl⟩
   go_wp2_with fail
   refine HTO.out.mono ?_
   rintro e W2 ⟨rfl,hb2⟩
   have HZ2:=Lib.hid (HZ0.out.on hb2)
   clear hb2
   go_wp2_with fail
   refine (HPA.out W2 HZ2.out.below).mono ?_
   rintro e W3 ⟨vp,rfl,_,hb3⟩
   have HZ3:=Lib.hid (HZ2.out.on hb3)
   clear hb3
   have hsame:∀ wx,Below w.heap.size w wx→Reads wx (fun k=>I k∧k < w.heap.size) 1 (some ad) n (bytesV x):=fun wx hx=>HH.out.keep (Same.ofBelow hx fun k hk=>hk.2)
   have HSM:=Lib.hid hsame
   obtain ⟨cvb,eb,nb⟩:=rget_cut (HSM.out W3 HZ3.out.below) HN.out hc 6 8 (by decide) (by omega) (by decide)
   obtain ⟨f,hf⟩:∃ f,f=getF (partF x 6 8):=⟨_,rfl⟩
   have hfl:f < 65536:=by have:=get_lt (x:=x) (a:=6) (b:=8) (by rw [HN.out]; omega); rw [hf]; simpa using this
   have HFX:=Lib.hid hf
   have NB:=Lib.hid (show Calls Tryz.prog 72 #[cvb] W3 (fun e w'=>e=.returned (.int .u64 (f:Int))∧W3=w') from (nb W3 (Same.refl _ _)).mono (by rintro e w' ⟨rfl,rfl⟩; exact ⟨by rw [HFX.out],rfl⟩))
   have eb':∀ wx:World,(Instr.slice 61 (.slice (some ad) n c) (some (.int .i64 6)) (some (.int .i64 8)) none).run Tryz.prog wx=.ok cvb wx:=eb
   clear hf eb nb hsame
   go_wp2_with fail
   refine NB.out.mono ?_
   rintro e _ ⟨rfl,rfl⟩
   obtain ⟨cv1,s1,n1⟩:=rget_cut (HSM.out W3 HZ3.out.below) HN.out hc 4 6 (by decide) (by omega) (by decide)
   obtain ⟨cv2,s2,n2⟩:=rget_cut (HSM.out W3 HZ3.out.below) HN.out hc 12 16 (by decide) (by omega) (by decide)
   obtain ⟨cv3,s3,n3⟩:=rget_cut (HSM.out W3 HZ3.out.below) HN.out hc 16 20 (by decide) (by omega) (by decide)
   have l1:=get_lt (x:=x) (a:=4) (b:=6) (by rw [HN.out]; omega)
   have l2:=get_lt (x:=x) (a:=12) (b:=16) (by rw [HN.out]; omega)
   have l3:=get_lt (x:=x) (a:=16) (b:=20) (by rw [HN.out]; omega)
   obtain ⟨idn,hidn⟩:∃ v,v=getF (partF x 4 6):=⟨_,rfl⟩
   obtain ⟨src,hsrc⟩:∃ v,v=getF (partF x 12 16):=⟨_,rfl⟩
   obtain ⟨dst,hdst⟩:∃ v,v=getF (partF x 16 20):=⟨_,rfl⟩
   rw [← hidn] at l1 n1
   rw [← hsrc] at l2 n2
   rw [← hdst] at l3 n3
   have u1:IntKind.u16.wrap (idn:Int)=(idn:Int):=by simp [IntKind.wrap,IntKind.bits,IntKind.signed]; omega
   have u2:IntKind.u32.wrap (src:Int)=(src:Int):=by simp [IntKind.wrap,IntKind.bits,IntKind.signed]; omega
   have u3:IntKind.u32.wrap (dst:Int)=(dst:Int):=by simp [IntKind.wrap,IntKind.bits,IntKind.signed]; omega
   have S41:∀ wx:World,(Instr.slice 61 (.slice (some ad) n c) (some (.int .i64 4)) (some (.int .i64 6)) none).run Tryz.prog wx=.ok cv1 wx:=s1
   have S42:∀ wx:World,(Instr.slice 61 (.slice (some ad) n c) (some (.int .i64 12)) (some (.int .i64 16)) none).run Tryz.prog wx=.ok cv2 wx:=s2
   have S43:∀ wx:World,(Instr.slice 61 (.slice (some ad) n c) (some (.int .i64 16)) (some (.int .i64 20)) none).run Tryz.prog wx=.ok cv3 wx:=s3
   have hk3:∀ wx,Below W3.heap.size W3 wx→Same (fun k=>I k∧k < w.heap.size) W3 wx:=fun wx hb=>Same.ofBelow hb fun k hk=>Nat.lt_of_lt_of_le hk.2 HZ3.out.below.size
   have NC1:=Lib.hid (fun wx (hb:Below W3.heap.size W3 wx)=>n1 wx (hk3 wx hb))
   have NC2:=Lib.hid (fun wx (hb:Below W3.heap.size W3 wx)=>n2 wx (hk3 wx hb))
   have NC3:=Lib.hid (fun wx (hb:Below W3.heap.size W3 wx)=>n3 wx (hk3 wx hb))
   obtain ⟨_,r1,C1⟩:=byte_getD HH.out (k:=1) (by omega)
   obtain rfl:ad=_:=by injection r1
   obtain ⟨_,r8,C8⟩:=byte_getD HH.out (k:=8) (by omega)
   obtain rfl:ad=_:=by injection r8
   obtain ⟨_,r9,C9⟩:=byte_getD HH.out (k:=9) (by omega)
   obtain rfl:ad=_:=by injection r9
   have p1:=add_pos ad 1 (by decide)
   have p8:=add_pos ad 8 (by decide)
   have p9:=add_pos ad 9 (by decide)
   obtain ⟨tos,htos⟩:∃ v,v=(x.getD 1 0).toNat:=⟨_,rfl⟩
   obtain ⟨ttl,httl⟩:∃ v,v=(x.getD 8 0).toNat:=⟨_,rfl⟩
   obtain ⟨pro,hpro⟩:∃ v,v=(x.getD 9 0).toNat:=⟨_,rfl⟩
   rw [← htos,p1] at C1
   rw [← httl,p8] at C8
   rw [← hpro,p9] at C9
   have HC1:=Lib.hid (fun wx (hx:Below w.heap.size w wx)=>((hx.cell (p:=⟨ad.block,ad.off+1,none⟩) L0).trans C1:wx.cell? ⟨ad.block,ad.off+1,none⟩=some (.int .u8 (tos:Int))))
   have HC8:=Lib.hid (fun wx (hx:Below w.heap.size w wx)=>((hx.cell (p:=⟨ad.block,ad.off+8,none⟩) L0).trans C8:wx.cell? ⟨ad.block,ad.off+8,none⟩=some (.int .u8 (ttl:Int))))
   have HC9:=Lib.hid (fun wx (hx:Below w.heap.size w wx)=>((hx.cell (p:=⟨ad.block,ad.off+9,none⟩) L0).trans C9:wx.cell? ⟨ad.block,ad.off+9,none⟩=some (.int .u8 (pro:Int))))
   obtain ⟨f1,hf1⟩:∃ v,v=f / 32768:=⟨_,rfl⟩
   obtain ⟨f2,hf2⟩:∃ v,v=f / 16384:=⟨_,rfl⟩
   obtain ⟨f3,hf3⟩:∃ v,v=f / 8192:=⟨_,rfl⟩
   obtain ⟨g2,hg2⟩:∃ v,v=f2 % 2:=⟨_,rfl⟩
   obtain ⟨g3,hg3⟩:∃ v,v=f3 % 2:=⟨_,rfl⟩
   obtain ⟨o,ho⟩:∃ o,o=f % 8192:=⟨_,rfl⟩
   obtain ⟨b1,hb1⟩:∃ b,b=decide (f / 32768 % 2=1):=⟨_,rfl⟩
   obtain ⟨b2,hb2⟩:∃ b,b=decide (f / 16384 % 2=1):=⟨_,rfl⟩
   obtain ⟨b3,hb3⟩:∃ b,b=decide (f / 8192 % 2=1):=⟨_,rfl⟩
   have d1:(f:Int) / 32768=(f1:Int):=by omega
   have d2:(f:Int) / 16384=(f2:Int):=by omega
   have d3:(f:Int) / 8192=(f3:Int):=by omega
   have d4:(f2:Int) % 2=(g2:Int):=by omega
   have d5:(f3:Int) % 2=(g3:Int):=by omega
   have d6:(f:Int) % 8192=(o:Int):=by omega
   have t1:(f:Int).tdiv 32768=(f1:Int):=by rw [Int.tdiv_eq_ediv_of_nonneg (by omega)]; exact d1
   have t2:(f:Int).tdiv 16384=(f2:Int):=by rw [Int.tdiv_eq_ediv_of_nonneg (by omega)]; exact d2
   have t3:(f:Int).tdiv 8192=(f3:Int):=by rw [Int.tdiv_eq_ediv_of_nonneg (by omega)]; exact d3
   have t4:(f2:Int).tmod 2=(g2:Int):=by rw [Int.tmod_eq_emod_of_nonneg (by omega)]; exact d4
   have t5:(f3:Int).tmod 2=(g3:Int):=by rw [Int.tmod_eq_emod_of_nonneg (by omega)]; exact d5
   have t6:(f:Int).tmod 8192=(o:Int):=by rw [Int.tmod_eq_emod_of_nonneg (by omega)]; exact d6
   have v1:IntKind.u64.wrap (f1:Int)=(f1:Int):=wraps_u64 _ (by omega) (by omega)
   have v2:IntKind.u64.wrap (f2:Int)=(f2:Int):=wraps_u64 _ (by omega) (by omega)
   have v3:IntKind.u64.wrap (f3:Int)=(f3:Int):=wraps_u64 _ (by omega) (by omega)
   have v4:IntKind.u64.wrap (g2:Int)=(g2:Int):=wraps_u64 _ (by omega) (by omega)
   have v5:IntKind.u64.wrap (g3:Int)=(g3:Int):=wraps_u64 _ (by omega) (by omega)
   have v6:IntKind.u64.wrap (o:Int)=(o:Int):=wraps_u64 _ (by omega) (by omega)
   have v7:IntKind.i64.wrap (o:Int)=(o:Int):=wrap_i64 _ (by omega) (by omega)
   have q1:((f1:Int) == 1)=b1:=by rw [hb1,Bool.eq_iff_iff,beq_iff_eq,decide_eq_true_eq]; omega
   have q2:((g2:Int) == 1)=b2:=by rw [hb2,Bool.eq_iff_iff,beq_iff_eq,decide_eq_true_eq]; omega
   have q4:((g3:Int) == 1)=b3:=by rw [hb3,Bool.eq_iff_iff,beq_iff_eq,decide_eq_true_eq]; omega
   have HLET:Hid (hdV (hdF x) (.slice oa on oc)=.agg #[.int .u8 (tos:Int),.int .u16 (idn:Int),.bool b1,.bool b2,.bool b3,.int .i64 (o:Int),.int .u8 (ttl:Int),.int .u8 (pro:Int),.int .u32 (src:Int),.int .u32 (dst:Int),.slice oa on oc]∧(hdF x).opts=y):=Lib.hid (by
    refine ⟨?_,by unfold hdF; rw [HM.out,HY.out]⟩
    unfold hdV hdF
    rw [← HFX.out,← hb1,← hb2,← hb3,← ho,← hidn,← hsrc,← hdst,← htos,← httl,← hpro])
   have i1:(1:Int) < n:=by omega
   have i8:(8:Int) < n:=by omega
   have i9:(9:Int) < n:=by omega
   have j1:1 < n:=by omega
   have j8:8 < n:=by omega
   have j9:9 < n:=by omega
   clear hidn hsrc hdst htos httl hpro hf1 hf2 hf3 hg2 hg3 ho hb1 hb2 hb3 s1 s2 s3 n1 n2 n3 l1 l2 l3 r1 r8 r9 hk3 C1 C8 C9 C0 e16 r16 w1 w2 w3 ea' eb' hdm hdm2 hdt hdt2 hd20 hd20n
   go_wp2_with fail
   refine wp_region_mix [(true,39),(false,2)] 1 (by kernel_rfl) (fun wx=>Below W3.heap.size W3 wx) (fun _ _ h k=>h.trans (k.mono h.size)) (by kernel_rfl) (Below.refl _ _) (a':=?_) (fun wz hz=>?_) fun wz hz=>?_
   rotate_left
   ·have hzb:=HZ3.out.below.trans (hz.mono HZ3.out.below.size)
    have y1:=fun (d:Nat) (os:Array Obj)=>load8 (cell_regrown (HC1.out wz hzb) d os)
    have y8:=fun (d:Nat) (os:Array Obj)=>load8 (cell_regrown (HC8.out wz hzb) d os)
    have y9:=fun (d:Nat) (os:Array Obj)=>load8 (cell_regrown (HC9.out wz hzb) d os)
    have cA:=fun (d:Nat) (os:Array Obj)=>Calls.regrown_of ((NC1.out (grow (redrawn wz d) os) (hz.trans ((below_regrown wz d os).mono hz.size))).mono (by rintro e w' ⟨rfl,rfl⟩; exact ⟨rfl,Below.refl _ _⟩))
    have cB:=fun (d:Nat) (os:Array Obj)=>Calls.regrown_of ((NC2.out (grow (redrawn wz d) os) (hz.trans ((below_regrown wz d os).mono hz.size))).mono (by rintro e w' ⟨rfl,rfl⟩; exact ⟨rfl,Below.refl _ _⟩))
    have cC:=fun (d:Nat) (os:Array Obj)=>Calls.regrown_of ((NC3.out (grow (redrawn wz d) os) (hz.trans ((below_regrown wz d os).mono hz.size))).mono (by rintro e w' ⟨rfl,rfl⟩; exact ⟨rfl,Below.refl _ _⟩))
    simp only [pick_nil,pick_tt,pick_ft,List.take_succ_cons,List.take_zero,List.drop_succ_cons,List.drop_zero,List.append_nil]
    repeat (go_big_quiet_step (first | (with_reducible exact cA _ _) | (with_reducible exact cB _ _) | (with_reducible exact cC _ _)))
    refine wpQuiet_nil ?_
    rfl
   ·simp only [pick_nil,pick_ff,pick_tf,List.take_succ_cons,List.take_zero,List.drop_succ_cons,List.drop_zero,List.append_nil]
    have HBZ:=Lib.hid hz
    clear hz d1 d2 d3 d4 d5 d6 t1 t2 t3 t4 t5 t6 v1 v2 v3 v4 v5 v6 v7 q1 q2 q4 u1 u2 u3 i1 i8 i9 j1 j8 j9 p1 p8 p9 S41 S42 S43 NC1 NC2 NC3 HC1 HC8 HC9 S3
    refine wpMix_step HBZ.out fun wa ha=>?_
    have HBA:=Lib.hid (HBZ.out.trans (ha.mono HBZ.out.size))
    clear ha
    go_wp2_with fail
    obtain ⟨gh,hgh⟩:∃ gh,gh=wa.heap.size:=⟨_,rfl⟩
    obtain ⟨wl,hwl⟩:∃ wl,wl=wa.alloc (.cells #[.int .u8 0,.int .u16 0,.bool false,.bool false,.bool false,.int .i64 0,.int .u8 0,.int .u8 0,.int .u32 0,.int .u32 0,.slice none 0 0] 76):=⟨_,rfl⟩
    rw [← hwl,← hgh]
    have hkl:Blk wl gh 76 #[.int .u8 0,.int .u16 0,.bool false,.bool false,.bool false,.int .i64 0,.int .u8 0,.int .u8 0,.int .u32 0,.int .u32 0,.slice none 0 0]:=by rw [hwl,hgh]; exact Blk.new _ _ _
    have hbl:Below W3.heap.size W3 wl:=by rw [hwl]; exact HBA.out.alloc HBA.out.size _
    have HGH:=Lib.hid (show W3.heap.size≤gh by rw [hgh]; exact HBA.out.size)
    have HKL:=Lib.hid hkl
    have HBL:=Lib.hid hbl
    clear hkl hbl hwl hgh
    refine wpMix_step HBL.out fun wb hb=>?_
    have hkb:=HKL.out.below hb HKL.out.lt
    have hst:=hd_store (vs:=#[.int .u8 (tos:Int),.int .u16 (idn:Int),.bool b1,.bool b2,.bool b3,.int .i64 (o:Int),.int .u8 (ttl:Int),.int .u8 (pro:Int),.int .u32 (src:Int),.int .u32 (dst:Int),.slice oa on oc]) hkb rfl rfl (by simp [Value.oneCell'])
    have hkc:=blk_setCells (vs:=#[.int .u8 (tos:Int),.int .u16 (idn:Int),.bool b1,.bool b2,.bool b3,.int .i64 (o:Int),.int .u8 (ttl:Int),.int .u8 (pro:Int),.int .u32 (src:Int),.int .u32 (dst:Int),.slice oa on oc]) hkb rfl
    have hbc:=below_setCells HGH.out (#[.int .u8 (tos:Int),.int .u16 (idn:Int),.bool b1,.bool b2,.bool b3,.int .i64 (o:Int),.int .u8 (ttl:Int),.int .u8 (pro:Int),.int .u32 (src:Int),.int .u32 (dst:Int),.slice oa on oc]:Array Value).toList 0 _ (HBL.out.trans (hb.mono HBL.out.size))
    obtain ⟨wc,hwc⟩:∃ wc,wc=wb.setCells gh 0 (#[.int .u8 (tos:Int),.int .u16 (idn:Int),.bool b1,.bool b2,.bool b3,.int .i64 (o:Int),.int .u8 (ttl:Int),.int .u8 (pro:Int),.int .u32 (src:Int),.int .u32 (dst:Int),.slice oa on oc]:Array Value).toList:=⟨_,rfl⟩
    rw [← hwc] at hst hkc hbc
    have hzc:ZW w wc:=HZ3.out.on hbc
    have HKC:=Lib.hid hkc
    have HZC:=Lib.hid hzc
    clear hkb hkc hbc hzc hwc hb
    go_wp2_with fail
    refine wpMix_plain ?_
    clear hst
    have q5:=cut_lohi (a:=m) (b:=t) (cap:=c) (x:=x) (by rw [HN.out]; exact HH.out) (by omega) (by rw [HN.out]; omega) (by rw [HN.out]; omega)
    obtain ⟨pa,hpa⟩:∃ pa,pa=(if c=m then some ad else (some ad).map (·.add m)):=⟨_,rfl⟩
    obtain ⟨pn,hpn⟩:∃ pn,pn=t - m:=⟨_,rfl⟩
    obtain ⟨pc,hpc⟩:∃ pc,pc=c - m:=⟨_,rfl⟩
    have hcv:Value.slice pa pn pc=Value.slice (if c=m then some ad else (some ad).map (·.add m)) (t - m) (c - m):=by rw [hpa,hpn,hpc]
    have S5:∀ wx:World,(Instr.slice 61 (.slice (some ad) n c) (some (.int .i64 (m:Int))) (some (.int .i64 (t:Int))) none).run Tryz.prog wx=.ok (.slice pa pn pc) wx:=fun wx=>by rw [hcv]; exact sl_lohi (some ad) n c wx m t (by omega) (by omega)
    rw [← hcv] at q5
    have HQ5:=Lib.hid q5
    clear hpa hpn hpc hcv q5
    go_wp2_with fail
    have hgne:w.heap.size≠gh:=by have h1:=HZ3.out.h0.lt; have h2:=HGH.out; omega
    have HGN:=Lib.hid hgne
    have hCC:∀ x y:World,(Blk x gh 76 #[.int .u8 (tos:Int),.int .u16 (idn:Int),.bool b1,.bool b2,.bool b3,.int .i64 (o:Int),.int .u8 (ttl:Int),.int .u8 (pro:Int),.int .u32 (src:Int),.int .u32 (dst:Int),.slice oa on oc]∧Below w.heap.size w x∧∃ cs,Blk x w.heap.size 76 cs∧cs.size=11)→Below x.heap.size x y→(Blk y gh 76 #[.int .u8 (tos:Int),.int .u16 (idn:Int),.bool b1,.bool b2,.bool b3,.int .i64 (o:Int),.int .u8 (ttl:Int),.int .u8 (pro:Int),.int .u32 (src:Int),.int .u32 (dst:Int),.slice oa on oc]∧Below w.heap.size w y∧∃ cs,Blk y w.heap.size 76 cs∧cs.size=11):=fun x y h k=>⟨h.1.below k h.1.lt,h.2.1.trans (k.mono h.2.1.size),by obtain ⟨cs,h1,h2⟩:=h.2.2; exact ⟨cs,h1.below k h1.lt,h2⟩⟩
    have HCX:=Lib.hid hCC
    clear hCC hgne
    refine wp_region_mix [(true,5),(false,3)] 1 (by kernel_rfl) (fun wx=>Blk wx gh 76 #[.int .u8 (tos:Int),.int .u16 (idn:Int),.bool b1,.bool b2,.bool b3,.int .i64 (o:Int),.int .u8 (ttl:Int),.int .u8 (pro:Int),.int .u32 (src:Int),.int .u32 (dst:Int),.slice oa on oc]∧Below w.heap.size w wx∧∃ cs,Blk wx w.heap.size 76 cs∧cs.size=11) HCX.out (by kernel_rfl) ⟨HKC.out,HZC.out.below,_,HZC.out.h0,rfl⟩ (a':=?_) (fun wz hz=>?_) fun wz hz=>?_
    rotate_left
    ·have ld:=fun (d:Nat) (os:Array Obj)=>hd_load (hz.1.below (below_regrown wz d os) hz.1.lt) rfl
     simp only [pick_nil,pick_tt,pick_ft,List.take_succ_cons,List.take_zero,List.drop_succ_cons,List.drop_zero,List.append_nil]
     repeat (go_big_quiet_step (fail))
     refine wpQuiet_nil ?_
     rfl
    ·simp only [pick_nil,pick_ff,pick_tf,List.take_succ_cons,List.take_zero,List.drop_succ_cons,List.drop_zero,List.append_nil]
     clear S5
     have HS:=Lib.hid (HCX.out _ _ ⟨HKC.out,HZC.out.below,_,HZC.out.h0,rfl⟩ hz)
     clear hz
     refine wpMix_step HS.out fun wd hd=>?_
     have HS2:=Lib.hid (HCX.out _ _ HS.out hd)
     clear hd
     obtain ⟨hka,hkb,cs,hkc,hks⟩:=HS2.out
     have hst:=hd_store (vs:=#[.int .u8 (tos:Int),.int .u16 (idn:Int),.bool b1,.bool b2,.bool b3,.int .i64 (o:Int),.int .u8 (ttl:Int),.int .u8 (pro:Int),.int .u32 (src:Int),.int .u32 (dst:Int),.slice oa on oc]) hkc hks rfl (by simp [Value.oneCell'])
     have hke:=blk_setCells (vs:=#[.int .u8 (tos:Int),.int .u16 (idn:Int),.bool b1,.bool b2,.bool b3,.int .i64 (o:Int),.int .u8 (ttl:Int),.int .u8 (pro:Int),.int .u32 (src:Int),.int .u32 (dst:Int),.slice oa on oc]) hkc hks
     have hbe:=below_setCells (Nat.le_refl _) (#[.int .u8 (tos:Int),.int .u16 (idn:Int),.bool b1,.bool b2,.bool b3,.int .i64 (o:Int),.int .u8 (ttl:Int),.int .u8 (pro:Int),.int .u32 (src:Int),.int .u32 (dst:Int),.slice oa on oc]:Array Value).toList 0 _ hkb
     have hkg:=blk_far_setCells (fun e=>HGN.out e.symm) (#[.int .u8 (tos:Int),.int .u16 (idn:Int),.bool b1,.bool b2,.bool b3,.int .i64 (o:Int),.int .u8 (ttl:Int),.int .u8 (pro:Int),.int .u32 (src:Int),.int .u32 (dst:Int),.slice oa on oc]:Array Value).toList 0 _ hka
     obtain ⟨we,hwe⟩:∃ we,we=wd.setCells w.heap.size 0 (#[.int .u8 (tos:Int),.int .u16 (idn:Int),.bool b1,.bool b2,.bool b3,.int .i64 (o:Int),.int .u8 (ttl:Int),.int .u8 (pro:Int),.int .u32 (src:Int),.int .u32 (dst:Int),.slice oa on oc]:Array Value).toList:=⟨_,rfl⟩
     rw [← hwe] at hst hke hbe hkg
     have HKE:=Lib.hid hke
     have HSE:=Lib.hid (show Blk we gh 76 #[.int .u8 (tos:Int),.int .u16 (idn:Int),.bool b1,.bool b2,.bool b3,.int .i64 (o:Int),.int .u8 (ttl:Int),.int .u8 (pro:Int),.int .u32 (src:Int),.int .u32 (dst:Int),.slice oa on oc]∧Below w.heap.size w we∧∃ cs,Blk we w.heap.size 76 cs∧cs.size=11 from ⟨hkg,hbe,_,hke,rfl⟩)
     clear hke hbe hwe hkg hka hkb hkc hks
     go_wp2_with fail
     refine wpMix_pure HCX.out HSE.out (.tmp 113) (.inl rfl) rfl fun wf hf hcf=>?_
     have HKF:=Lib.hid (HKE.out.below hf HKE.out.lt)
     have HBF:=Lib.hid hcf.2.1
     clear hst hf hcf
     refine wpMix_plain ?_
     go_wp2_with fail
     refine bodyPost_ret_by (res_hd rfl _ rfl HKF.out rfl) rfl ?_
     have hR:R=(hdF x,partF x m t,0):=by rw [HR.out]; unfold prsF; rw [if_pos HW.out,HM.out,← HT.out]
     refine ⟨.slice oa on oc,.slice pa pn pc,?_,?_,?_,HBF.out⟩
     ·rw [hR,HLET.out.1]; rfl
     ·rw [hR]
      show Sl8 wf _ (.slice oa on oc) (hdF x).opts
      rw [HLET.out.2]
      exact ⟨oa,oc,by rw [HYL.out],by rw [HYL.out]; exact HOC.out,by rw [HYL.out]; exact HQ3.out.keep (Same.ofBelow HBF.out fun k hk=>hk.2)⟩
     ·rw [hR]
      exact HQ5.out.keep (Same.ofBelow HBF.out fun k hk=>hk.2)
end Go.Proofs.YthlommalbkhcjaaGreat
