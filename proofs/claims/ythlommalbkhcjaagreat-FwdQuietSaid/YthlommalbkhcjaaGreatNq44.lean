/- Icmp: Quote of both; send. -/
import Derived.Test.YthlommalbkhcjaaGreatNq43
import Derived.Test.YthlommalbkhcjaaGreatNq27
import Derived.Test.YthlommalbkhcjaaGreatNq24
import Derived.Test.YthlommalbkhcjaaGreatNq37
import Derived.Maps.RangeWalk
import Derived.Maps.OwnSet
import Derived.Maps.Views
namespace Go.Proofs.YthlommalbkhcjaaGreat
open Go.RowKit Go.Sort Go.BigFrame
theorem errT_nat (t:UInt8):errT t=(decide (t.toNat=3) || decide (t.toNat=4) || decide (t.toNat=5) || decide (t.toNat=11) || decide (t.toNat=12)):=by
 have e:∀ k:UInt8,(t == k)=decide (t.toNat=k.toNat):=fun k=>by rw [Bool.eq_iff_iff,beq_iff_eq,decide_eq_true_eq]; exact ⟨fun h=>by rw [h],fun h=>UInt8.toNat_inj.1 h⟩
 unfold errT
 rw [e,e,e,e,e]
 rfl
set_option maxHeartbeats 1000000 in
theorem icerr_any (m:Ic) (v:Value) (w:World) (_hv:v.oneCell'=true) :
  Calls Tryz.prog 35 #[icV m v] w fun e w'=>e=.returned (.bool (errT m.ty))∧Below w.heap.size w w':=by
 have hb0:Below w.heap.size w (w.alloc (.cells (icC m v) 86)):=(Below.refl _ _).alloc (Nat.le_refl _) _
 have hk0:=Blk.new w 86 (icC m v)
 obtain ⟨W,hW⟩:∃ W,W=w.alloc (.cells (icC m v) 86):=⟨_,rfl⟩
 rw [← hW] at hb0 hk0
 have he:=errT_nat m.ty
 have k0:W.cell? ⟨w.heap.size,0,none⟩=some (.int .u8 (m.ty.toNat:Int)):=hk0.cell 0
 obtain ⟨z,hz⟩:∃ z:Int,z=(m.ty.toNat:Int):=⟨_,rfl⟩
 rw [← hz] at k0
 have he2:errT m.ty=(decide (z=3) || decide (z=4) || decide (z=5) || decide (z=11) || decide (z=12)):=by
  have hk:∀ k:Nat,decide (m.ty.toNat=k)=decide (z=(k:Int)):=fun k=>by rw [hz]; exact decide_eq_decide.2 (by omega)
  rw [he,hk,hk,hk,hk,hk]
  rfl
 obtain ⟨E,hE⟩:∃ E,E=errT m.ty:=⟨_,rfl⟩
 rw [← hE] at he2 ⊢
 have HB:=Lib.hid hb0
 have HW:=Lib.hid hW
 clear hb0 hk0 hz he hE hW
 unfold icV
 go_enter Tryz.func35,Tryz.ntmps35
 go_upto_region 1 with (fail)
 rw [← HW.out]
 by_cases h11:z=11
 ·subst h11
  obtain rfl:E=true:=by rw [he2]; rfl
  clear he2
  go_wp2_with fail
  go_ret
  exact ⟨rfl,HB.out⟩
 by_cases h12:z=12
 ·subst h12
  obtain rfl:E=true:=by rw [he2]; rfl
  clear he2
  go_wp2_with fail
  go_ret
  exact ⟨rfl,HB.out⟩
 by_cases h3:z=3
 ·subst h3
  obtain rfl:E=true:=by rw [he2]; rfl
  clear he2
  go_wp2_with fail
  go_ret
  exact ⟨rfl,HB.out⟩
 by_cases h4:z=4
 ·subst h4
  obtain rfl:E=true:=by rw [he2]; rfl
  clear he2
  go_wp2_with fail
  go_ret
  exact ⟨rfl,HB.out⟩
 by_cases h5:z=5
 ·subst h5
  obtain rfl:E=true:=by rw [he2]; rfl
  clear he2
  go_wp2_with fail
  go_ret
  exact ⟨rfl,HB.out⟩
 obtain rfl:E=false:=by rw [he2]; simp [h11,h12,h3,h4,h5]
 clear he2
 have b11:(z == 11)=false:=beq_eq_false_iff_ne.2 h11
 have b12:(z == 12)=false:=beq_eq_false_iff_ne.2 h12
 have b3:(z == 3)=false:=beq_eq_false_iff_ne.2 h3
 have b4:(z == 4)=false:=beq_eq_false_iff_ne.2 h4
 have b5:(z == 5)=false:=beq_eq_false_iff_ne.2 h5
 clear h11 h12 h3 h4 h5
 go_wp2_with fail
 go_ret
 exact ⟨rfl,HB.out⟩
set_option maxHeartbeats 1000000 in
theorem ricerr_any (t:UInt8) (w:World) :
  Calls Tryz.prog 32 #[.int .u8 (t.toNat:Int)] w fun e w'=>e=.returned (.bool (errT t))∧w=w':=by
 have he:=errT_nat t
 obtain ⟨z,hz⟩:∃ z:Int,z=(t.toNat:Int):=⟨_,rfl⟩
 have he2:errT t=(decide (z=3) || decide (z=4) || decide (z=5) || decide (z=11) || decide (z=12)):=by
  have hk:∀ k:Nat,decide (t.toNat=k)=decide (z=(k:Int)):=fun k=>by rw [hz]; exact decide_eq_decide.2 (by omega)
  rw [he,hk,hk,hk,hk,hk]
  rfl
 obtain ⟨E,hE⟩:∃ E,E=errT t:=⟨_,rfl⟩
 rw [← hE] at he2 ⊢
 rw [← hz]
 clear hz he hE
 go_enter Tryz.func32,Tryz.ntmps32
 by_cases h3:z=3
 ·subst h3
  obtain rfl:E=true:=by rw [he2]; rfl
  clear he2
  go_wp2_with fail
  go_ret
  exact ⟨rfl,rfl⟩
 by_cases h4:z=4
 ·subst h4
  obtain rfl:E=true:=by rw [he2]; rfl
  clear he2
  go_wp2_with fail
  go_ret
  exact ⟨rfl,rfl⟩
 by_cases h5:z=5
 ·subst h5
  obtain rfl:E=true:=by rw [he2]; rfl
  clear he2
  go_wp2_with fail
  go_ret
  exact ⟨rfl,rfl⟩
 by_cases h11:z=11
 ·subst h11
  obtain rfl:E=true:=by rw [he2]; rfl
  clear he2
  go_wp2_with fail
  go_ret
  exact ⟨rfl,rfl⟩
 by_cases h12:z=12
 ·subst h12
  obtain rfl:E=true:=by rw [he2]; rfl
  clear he2
  go_wp2_with fail
  go_ret
  exact ⟨rfl,rfl⟩
 obtain rfl:E=false:=by rw [he2]; simp [h11,h12,h3,h4,h5]
 clear he2
 have b11:(z == 11)=false:=beq_eq_false_iff_ne.2 h11
 have b12:(z == 12)=false:=beq_eq_false_iff_ne.2 h12
 have b3:(z == 3)=false:=beq_eq_false_iff_ne.2 h3
 have b4:(z == 4)=false:=beq_eq_false_iff_ne.2 h4
 have b5:(z == 5)=false:=beq_eq_false_iff_ne.2 h5
 clear h11 h12 h3 h4 h5
 go_wp2_with fail
 go_ret
 exact ⟨rfl,rfl⟩
end Go.Proofs.YthlommalbkhcjaaGreat
namespace Go.Proofs.YthlommalbkhcjaaGreat
open Go.RowKit Go.Sort Go.BigFrame
theorem emay1 {h:Hd} {p:By} (hh:h.off≠0):emayH h p=false:=by unfold emayH; simp [hh]
theorem emay2 {h:Hd} {p:By} (hh:h.src=0):emayH h p=false:=by unfold emayH; simp [hh]
theorem emay3 {h:Hd} {p:By} (hh:multiF h.src=true):emayH h p=false:=by unfold emayH; simp [hh]
theorem emay4 {h:Hd} {p:By} (hh:multiF h.dst=true):emayH h p=false:=by unfold emayH; simp [hh]
theorem emay5 {h:Hd} {p:By} (h1:¬ h.off≠0) (h2:¬ h.src=0) (h3:multiF h.src=false) (h4:multiF h.dst=false):emayH h p=(decide (h.proto≠1) || (decide (8≤p.length) && !errT (p.getD 0 0))):=by
 unfold emayH
 simp [h1,h2,h3,h4]
theorem ic_build1 (w:World) (z:Int):(Instr.build 86 #[(0,.int .u8 z)]).run Tryz.prog w=.ok (.agg #[.int .u8 z,.int .u8 0,.int .u8 0,.int .u8 0,.int .u8 0,.int .u8 0,.slice none 0 0]) w:=by kernel_rfl
theorem emerr_any (t:UInt8) (w:World):Calls Tryz.prog 35 #[.agg #[.int .u8 (t.toNat:Int),.int .u8 0,.int .u8 0,.int .u8 0,.int .u8 0,.int .u8 0,.slice none 0 0]] w fun e w'=>e=.returned (.bool (errT t))∧Below w.heap.size w w' :=
 icerr_any ⟨t,0,0,0,0,0,[]⟩ (.slice none 0 0) w rfl
attribute [-go_sem] Instr.storeAt in
set_option maxRecDepth 100000 in
set_option maxHeartbeats 4000000 in
theorem icmay_any (h:Hd) (A:Option Addr) (n c:Nat) (Ap:Option Addr) (q cp:Nat) (p:By) (I:Nat→Prop) (w:World) (hp:Reads w I 1 Ap q (bytesV p)) (hq:p.length=q) :
  Calls Tryz.prog 207 #[hdV h (.slice A n c),.slice Ap q cp] w fun e w'=>e=.returned (.bool (emayH h p))∧Below w.heap.size w w':=by
 have hb0:Below w.heap.size w (w.alloc (.cells (hdC h (.slice A n c)) 76)):=(Below.refl _ _).alloc (Nat.le_refl _) _
 have hk0:=Blk.new w 76 (hdC h (.slice A n c))
 obtain ⟨W,hW⟩:∃ W,W=w.alloc (.cells (hdC h (.slice A n c)) 76):=⟨_,rfl⟩
 rw [← hW] at hb0 hk0
 obtain ⟨of0,hof⟩:∃ z,z=h.off:=⟨_,rfl⟩
 obtain ⟨sr,hsr⟩:∃ z,z=h.src:=⟨_,rfl⟩
 obtain ⟨ds,hds⟩:∃ z,z=h.dst:=⟨_,rfl⟩
 obtain ⟨pr,hpr⟩:∃ z,z=h.proto:=⟨_,rfl⟩
 have k5:W.cell? ⟨w.heap.size,5,none⟩=some (.int .i64 of0):=by rw [hof]; exact hk0.cell 5
 have k8:W.cell? ⟨w.heap.size,8,none⟩=some (.int .u32 (sr:Int)):=by rw [hsr]; exact hk0.cell 8
 have k9:W.cell? ⟨w.heap.size,9,none⟩=some (.int .u32 (ds:Int)):=by rw [hds]; exact hk0.cell 9
 have k7:W.cell? ⟨w.heap.size,7,none⟩=some (.int .u8 (pr:Int)):=by rw [hpr]; exact hk0.cell 7
 have hm1:=multi_any sr W
 have hm2:=multi_any ds W
 have e5:=emay5 (h:=h) (p:=p)
 have e1:=emay1 (h:=h) (p:=p)
 have e2:=emay2 (h:=h) (p:=p)
 have e3:=emay3 (h:=h) (p:=p)
 have e4:=emay4 (h:=h) (p:=p)
 rw [← hof,← hsr,← hds,← hpr] at e5
 rw [← hof] at e1
 rw [← hsr] at e2 e3
 rw [← hds] at e4
 obtain ⟨E,hE⟩:∃ E,E=emayH h p:=⟨_,rfl⟩
 rw [← hE] at e1 e2 e3 e4 e5 ⊢
 obtain ⟨m1,hm1'⟩:∃ b,b=multiF sr:=⟨_,rfl⟩
 obtain ⟨m2,hm2'⟩:∃ b,b=multiF ds:=⟨_,rfl⟩
 rw [← hm1'] at hm1 e3 e5
 rw [← hm2'] at hm2 e4 e5
 have HM1:=Lib.hid hm1
 have HM2:=Lib.hid hm2
 have HE1:=Lib.hid e1
 have HE2:=Lib.hid e2
 have HE3:=Lib.hid e3
 have HE4:=Lib.hid e4
 have HE5:=Lib.hid e5
 have HB:=Lib.hid hb0
 have HW:=Lib.hid hW
 have HRP:=Lib.hid ((hp.lt).keep (Same.ofBelow hb0 fun k hk=>hk.2))
 have HQ:=Lib.hid hq
 have bd:=ic_build1
 clear hb0 hk0 hof hsr hds hpr hm1 hm2 e1 e2 e3 e4 e5 hE hm1' hm2' hW hp hq
 unfold hdV
 go_enter Tryz.func207,Tryz.ntmps207
 go_upto_region 1 with (fail)
 have hW2:=HW.out
 unfold hdC at hW2
 rw [← hW2]
 clear hW2
 by_cases c1:of0≠0
 ·obtain rfl:=HE1.out c1
  have b1:(of0 != 0)=true:=by rw [bne_iff_ne]; exact c1
  clear c1
  go_wp2_with fail
  go_ret
  exact ⟨rfl,HB.out⟩
 have b1:(of0 != 0)=false:=by rw [bne_eq_false_iff_eq]; omega
 by_cases c2:sr=0
 ·obtain rfl:=HE2.out c2
  have b2:((sr:Int) == 0)=true:=by rw [beq_iff_eq]; omega
  clear c1 c2
  go_wp2_with fail
  go_ret
  exact ⟨rfl,HB.out⟩
 have b2:((sr:Int) == 0)=false:=by rw [beq_eq_false_iff_ne]; omega
 cases m1 with
 | true =>
   obtain rfl:=HE3.out rfl
   clear c1 c2
   go_wp2_with (refine HM1.out.mono ?_; rintro e w' ⟨rfl,rfl⟩)
   go_ret
   exact ⟨rfl,HB.out⟩
 | false =>
 cases m2 with
 | true =>
   obtain rfl:=HE4.out rfl
   clear c1 c2
   go_wp2_with (go_at_call 163; first | (refine HM1.out.mono ?_; rintro e w' ⟨rfl,rfl⟩) | (refine HM2.out.mono ?_; rintro e w' ⟨rfl,rfl⟩))
   go_ret
   exact ⟨rfl,HB.out⟩
 | false =>
 have he:=HE5.out c1 c2 rfl rfl
 clear c1 c2 HE1 HE2 HE3 HE4 HE5
 by_cases c3:pr≠1
 ·obtain rfl:E=true:=by rw [he,decide_eq_true c3]; rfl
  have b3:((pr:Int) != 1)=true:=by rw [bne_iff_ne]; omega
  clear he c3
  go_wp2_with (go_at_call 163; first | (refine HM1.out.mono ?_; rintro e w' ⟨rfl,rfl⟩) | (refine HM2.out.mono ?_; rintro e w' ⟨rfl,rfl⟩))
  go_ret
  exact ⟨rfl,HB.out⟩
 have b3:((pr:Int) != 1)=false:=by rw [bne_eq_false_iff_eq]; omega
 rw [decide_eq_false c3,Bool.false_or] at he
 clear c3
 by_cases c4:8≤q
 ·rw [decide_eq_true (show 8≤p.length by rw [HQ.out]; exact c4),Bool.true_and] at he
  obtain ⟨ad,rfl,hc⟩:=head8 HRP.out HQ.out c4
  have h0:=hc 0 (by omega)
  rw [show ad.add 0=ad by simp [Addr.add]] at h0
  obtain ⟨t,ht⟩:∃ t,t=p.getD 0 0:=⟨_,rfl⟩
  rw [← ht] at he h0
  have HT:=Lib.hid (emerr_any t W)
  obtain ⟨z,hz⟩:∃ z:Int,z=(t.toNat:Int):=⟨_,rfl⟩
  rw [← hz] at HT h0
  have b4:decide ((8:Int)≤(q:Int))=true:=decide_eq_true (by omega)
  have b5:decide (8≤q)=true:=decide_eq_true c4
  have hq0:(0:Int) < q:=by omega
  obtain ⟨G,hG⟩:∃ G,G=errT t:=⟨_,rfl⟩
  rw [← hG] at HT he
  subst he
  clear hc ht hz hG c4
  go_wp2_with (first | (go_at_call 163; first | (refine HM1.out.mono ?_; rintro e w' ⟨rfl,rfl⟩) | (refine HM2.out.mono ?_; rintro e w' ⟨rfl,rfl⟩)) | (go_at_call 35; refine HT.out.mono ?_; rintro e w1 ⟨rfl,hb1⟩; have HB1:=Lib.hid (HB.out.trans (hb1.mono HB.out.size)); clear hb1))
  go_ret
  exact ⟨rfl,HB1.out⟩
 ·rw [decide_eq_false (show ¬ 8≤p.length by rw [HQ.out]; exact c4),Bool.false_and] at he
  subst he
  have b4:decide ((8:Int)≤(q:Int))=false:=decide_eq_false (by omega)
  have b5:decide (8≤q)=false:=decide_eq_false c4
  clear c4
  go_wp2_with (go_at_call 163; first | (refine HM1.out.mono ?_; rintro e w' ⟨rfl,rfl⟩) | (refine HM2.out.mono ?_; rintro e w' ⟨rfl,rfl⟩))
  go_ret
  exact ⟨rfl,HB.out⟩
end Go.Proofs.YthlommalbkhcjaaGreat
namespace Go.Proofs.YthlommalbkhcjaaGreat
open Go.RowKit Go.Sort Go.BigFrame
attribute [-go_sem] Instr.storeAt Instr.loadAt in
set_option maxRecDepth 100000 in
set_option maxHeartbeats 4000000 in
theorem icmayp_any (A:Option Addr) (n c:Nat) (x:By) (I:Nat→Prop) (w:World) (h:Reads w I 1 A n (bytesV x)) (hn:x.length=n) (hc:n≤c) (hsm:n≤1000000) :
  Calls Tryz.prog 168 #[.slice A n c] w fun e w'=>e=.returned (.bool (emayF x))∧Below w.heap.size w w':=by
 have hpa:=parse_any A n c x I w h hn hc hsm
 obtain ⟨E,hE⟩:∃ E,E=emayF x:=⟨_,rfl⟩
 rw [← hE]
 unfold emayF at hE
 obtain ⟨R,hR⟩:∃ R,R=prsF x:=⟨_,rfl⟩
 rw [← hR] at hpa hE
 obtain ⟨g,y,f⟩:=R
 simp only at hE
 have HPA:=Lib.hid hpa
 have HE:=Lib.hid hE
 clear hpa hE hR h hn hc hsm
 go_enter Tryz.func168,Tryz.ntmps168
 go_upto_region 2 with
  (go_at_call 33
   refine HPA.out.mono ?_
   rintro e w1 ⟨vo,vq,rfl,ho,hq,_,hb⟩
   obtain ⟨Ao,co,rfl,_⟩:=ho.form
   obtain ⟨Aq,cq,rfl,_⟩:=hq.form
   obtain ⟨w2,hst,hb2,hb12,hk2⟩:=hd_var hb hb.size g Ao g.opts.length co
   have hld:=hd_load hk2 rfl
   have hq2:=hq.below hb12
   have HM:=Lib.hid (icmay_any g Ao g.opts.length co Aq y.length cq y _ w2 (hq2.reads.2) rfl)
   have HB2:=Lib.hid hb2
   clear ho hq hb hb2 hb12 hk2 hq2)
 by_cases hf:f=0
 ·subst hf
  have he:=HE.out
  rw [decide_eq_true rfl,Bool.true_and] at he
  rw [← he] at HM
  clear he HE
  go_wp2_with (go_at_call 207; refine HM.out.mono ?_; rintro e w3 ⟨rfl,hb3⟩; have HB3:=Lib.hid (HB2.out.trans (hb3.mono HB2.out.size)); clear hb3)
  go_ret
  exact ⟨rfl,HB3.out⟩
 ·have he:=HE.out
  rw [decide_eq_false hf,Bool.false_and] at he
  subst he
  have b1:((f:Int) == 0)=false:=by rw [beq_eq_false_iff_ne]; omega
  clear hf HE
  go_wp2_with fail
  go_ret
  exact ⟨rfl,HB2.out⟩
end Go.Proofs.YthlommalbkhcjaaGreat
namespace Go.Proofs.YthlommalbkhcjaaGreat
open Go.RowKit Go.Sort Go.BigFrame
def kdV (a b:Int):Value:=.agg #[.int .u8 a,.int .u8 b,.int .u8 0,.int .u8 0,.int .u8 0,.int .u8 0,.slice none 0 0]
theorem kdV_inj {a b c d:Int} (h:kdV a b=kdV c d):a=c∧b=d:=by
 unfold kdV at h
 simp at h
 exact h
open Classical in
noncomputable def kdE (v:Value):Option (DataW Unit × List MemPlace) :=
 if v=kdV 0 0 then some (.lit (.int .i64 0),[]) else if v=kdV 3 0 then some (.lit (.int .i64 1),[]) else if v=kdV 3 4 then some (.lit (.int .i64 2),[]) else if v=kdV 11 0 then some (.lit (.int .i64 3),[]) else none
theorem kdE0:kdE (kdV 0 0)=some (.lit (.int .i64 0),[]):=by unfold kdE; rw [if_pos rfl]
theorem kdE1:kdE (kdV 3 0)=some (.lit (.int .i64 1),[]):=by
 unfold kdE
 rw [if_neg (fun h=>by have:=(kdV_inj h).1; omega),if_pos rfl]
theorem kdE2:kdE (kdV 3 4)=some (.lit (.int .i64 2),[]):=by
 unfold kdE
 rw [if_neg (fun h=>by have:=(kdV_inj h).1; omega),if_neg (fun h=>by have:=(kdV_inj h).2; omega),if_pos rfl]
theorem kdE3:kdE (kdV 11 0)=some (.lit (.int .i64 3),[]):=by
 unfold kdE
 rw [if_neg (fun h=>by have:=(kdV_inj h).1; omega),if_neg (fun h=>by have:=(kdV_inj h).1; omega),if_neg (fun h=>by have:=(kdV_inj h).1; omega),if_pos rfl]
theorem kdE_inv {v:Value} {z:Int} {ps:List MemPlace} (h:kdE v=some (.lit (.int .i64 z),ps)):(z=0→v=kdV 0 0)∧(z=1→v=kdV 3 0)∧(z=2→v=kdV 3 4)∧(z=3→v=kdV 11 0):=by
 unfold kdE at h
 split at h
 ·simp at h
  refine ⟨fun _=>by assumption,fun e=>?_,fun e=>?_,fun e=>?_⟩ <;> omega
 split at h
 ·simp at h
  refine ⟨fun e=>?_,fun _=>by assumption,fun e=>?_,fun e=>?_⟩ <;> omega
 split at h
 ·simp at h
  refine ⟨fun e=>?_,fun e=>?_,fun _=>by assumption,fun e=>?_⟩ <;> omega
 split at h
 ·simp at h
  refine ⟨fun e=>?_,fun e=>?_,fun e=>?_,fun _=>by assumption⟩ <;> omega
 ·cases h
theorem iceKeyed:Maps.Keyed Tryz.prog 67:=Maps.int_keyed Tryz.underlying67
def ikK (k:Int):Lit:=.int .i64 k
def kdD:DataW Unit:=(((DataW.map []).put (ikK 1) (.lit (.int .i64 1))).put (ikK 2) (.lit (.int .i64 2))).put (ikK 3) (.lit (.int .i64 3))
def kdA (k:Int):Value:=if k=1 then kdV 3 0 else if k=2 then kdV 3 4 else if k=3 then kdV 11 0 else kdV 0 0
def kdB (k:Int):Bool:=decide (k=1) || decide (k=2) || decide (k=3)
theorem kd_zero (w:World):(zeroValue 86).run Tryz.prog w=.ok (kdV 0 0) w:=by kernel_rfl
def KindsM (w:World) (b:Nat):Prop:=w.ownsMap Tryz.prog 67 kdE b 3 kdD
theorem ikK_ne {a b:Int} (h:a≠b):ikK a≠ikK b:=fun e=>by
 unfold ikK at e
 injection e with _ e
 exact h e
theorem ikK_lit (k:Int):WideAt.IsKeyLit (ikK k):=trivial
theorem kdD_at (k:Int):Maps.has kdD (ikK k)=kdB k∧∃ z:Int,kdD.atKey (ikK k) (.lit (.int .i64 0))=.lit (.int .i64 z)∧(k=1→z=1)∧(k=2→z=2)∧(k=3→z=3)∧(k≠1→k≠2→k≠3→z=0):=by
 have m0:Maps.IsMap (DataW.map []:DataW Unit):=⟨_,rfl⟩
 have m1:=m0.put (k:=ikK 1) (d:=.lit (.int .i64 1))
 have m2:=m1.put (k:=ikK 2) (d:=.lit (.int .i64 2))
 unfold kdD kdB
 by_cases h3:k=3
 ·subst h3
  rw [Maps.has_put_same m2 (ikK_lit 3),Maps.atKey_put_same m2 (ikK_lit 3)]
  exact ⟨by decide,3,rfl,by omega,by omega,fun _=>rfl,by omega⟩
 rw [Maps.has_put_other (ikK_ne h3),Maps.atKey_put_other (ikK_ne h3)]
 by_cases h2:k=2
 ·subst h2
  rw [Maps.has_put_same m1 (ikK_lit 2),Maps.atKey_put_same m1 (ikK_lit 2)]
  exact ⟨by decide,2,rfl,by omega,fun _=>rfl,by omega,by omega⟩
 rw [Maps.has_put_other (ikK_ne h2),Maps.atKey_put_other (ikK_ne h2)]
 by_cases h1:k=1
 ·subst h1
  rw [Maps.has_put_same m0 (ikK_lit 1),Maps.atKey_put_same m0 (ikK_lit 1)]
  exact ⟨by decide,1,rfl,fun _=>rfl,by omega,by omega,by omega⟩
 rw [Maps.has_put_other (ikK_ne h1),Maps.atKey_put_other (ikK_ne h1),decide_eq_false h1,decide_eq_false h2,decide_eq_false h3]
 exact ⟨rfl,0,rfl,by omega,by omega,by omega,fun _ _ _=>rfl⟩
theorem KindsM.look {w:World} {b:Nat} (h:KindsM w b) (k:Int) (hk:(Lit.int .i64 k).wf=true):(Instr.lookup 296 (.map (some b)) (.int .i64 k) true).run Tryz.prog w=.ok (.tuple #[kdA k,.bool (kdB k)]) w:=by
 obtain ⟨v,ps,hr,hv⟩:=World.ownsMap.look_ok h iceKeyed Tryz.underlying296 (kd_zero w) kdE0 (Maps.keyOf_int_mk (a:=k) Tryz.underlying67 hk)
 obtain ⟨e1,z,e2,z1,z2,z3,z0⟩:=kdD_at k
 have hv2:kdE v=some (.lit (.int .i64 z),ps):=by rw [← e2]; exact hv
 obtain ⟨v0,v1,v2,v3⟩:=kdE_inv hv2
 have e3:v=kdA k:=by
  unfold kdA
  split
  ·exact v1 (z1 (by assumption))
  split
  ·exact v2 (z2 (by assumption))
  split
  ·exact v3 (z3 (by assumption))
  ·exact v0 (z0 (by assumption) (by assumption) (by assumption))
 rw [← e3,← e1]
 exact hr
set_option maxRecDepth 20000 in
theorem kinds_any (w:World) :
  Calls Tryz.prog 208 #[] w fun e w'=>∃ b,e=.returned (.map (some b))∧KindsM w' b∧Below w.heap.size w w':=by
 have hm0:=World.ownsMap_made w Tryz.prog 67 kdE
 obtain ⟨mb,hmb⟩:∃ mb,mb=w.heap.size:=⟨_,rfl⟩
 obtain ⟨W1,hW1⟩:∃ W1,W1=w.alloc (.map #[] 0):=⟨_,rfl⟩
 rw [← hmb,← hW1] at hm0
 have hb1:Below w.heap.size w W1:=by rw [hW1]; exact (Below.refl _ _).alloc (Nat.le_refl _) _
 obtain ⟨W2,hr2,hm2,hg2⟩:=hm0.update iceKeyed Tryz.underlying296 (by decide) (Maps.keyOf_int_mk (a:=1) Tryz.underlying67 (by decide)) kdE1
 obtain ⟨W3,hr3,hm3,hg3⟩:=hm2.update iceKeyed Tryz.underlying296 (by decide) (Maps.keyOf_int_mk (a:=2) Tryz.underlying67 (by decide)) kdE2
 obtain ⟨W4,hr4,hm4,hg4⟩:=hm3.update iceKeyed Tryz.underlying296 (by decide) (Maps.keyOf_int_mk (a:=3) Tryz.underlying67 (by decide)) kdE3
 have hb4:Below w.heap.size w W4:=((hb1.grown hg2 hb1.size fun k e=>by injection e with e; omega).grown hg3 (by have:=hb1.size; have:=hg2.size; omega) fun k e=>by injection e with e; omega).grown hg4 (by have:=hb1.size; have:=hg2.size; have:=hg3.size; omega) fun k e=>by injection e with e; omega
 have hmm:(Instr.makeMap 296 none).run Tryz.prog w=.ok (.map (some mb)) W1:=by rw [hW1,hmb]; exact run_makeMap _ _
 have HOWN:=Lib.hid (show KindsM W4 mb from hm4)
 have HB4:=Lib.hid hb4
 unfold kdV at hr2 hr3 hr4
 clear hm0 hm2 hm3 hm4 hg2 hg3 hg4 hb1 hb4 hW1 hmb
 go_enter Tryz.func208,Tryz.ntmps208
 have b1:=fun wx:World=>(show (Instr.build 86 #[(0,.int .u8 3)]).run Tryz.prog wx=.ok (.agg #[.int .u8 3,.int .u8 0,.int .u8 0,.int .u8 0,.int .u8 0,.int .u8 0,.slice none 0 0]) wx by kernel_rfl)
 have b2:=fun wx:World=>(show (Instr.build 86 #[(0,.int .u8 3),(1,.int .u8 4)]).run Tryz.prog wx=.ok (.agg #[.int .u8 3,.int .u8 4,.int .u8 0,.int .u8 0,.int .u8 0,.int .u8 0,.slice none 0 0]) wx by kernel_rfl)
 have b3:=fun wx:World=>(show (Instr.build 86 #[(0,.int .u8 11)]).run Tryz.prog wx=.ok (.agg #[.int .u8 11,.int .u8 0,.int .u8 0,.int .u8 0,.int .u8 0,.int .u8 0,.slice none 0 0]) wx by kernel_rfl)
 go_wp2_with fail
 go_ret
 exact ⟨mb,rfl,HOWN.out,HB4.out⟩
end Go.Proofs.YthlommalbkhcjaaGreat
namespace Go.Proofs.YthlommalbkhcjaaGreat
open Go.RowKit Go.Sort Go.BigFrame
theorem prs_wh {x:By} (h:(prsF x).2.2=0):20+(prsF x).1.opts.length+(prsF x).2.1.length≤x.length:=prs_whole h
attribute [-go_sem] Instr.storeAt Instr.loadAt in
set_option maxRecDepth 100000 in
set_option maxHeartbeats 4000000 in
theorem quote_any (A:Option Addr) (n c:Nat) (x:By) (I:Nat→Prop) (w:World) (h:Reads w I 1 A n (bytesV x)) (hn:x.length=n) (hc:n≤c) (hsm:n≤1000000) :
  Calls Tryz.prog 209 #[.slice A n c] w (BytPost w (quoteF x).1 ((quoteF x).2:Int)):=by
 have hpa:=parse_any A n c x I w h hn hc hsm
 have hwh:=prs_wh (x:=x)
 have hsz:=prs_size (x:=x)
 obtain ⟨Q,hQ⟩:∃ Q,Q=quoteF x:=⟨_,rfl⟩
 rw [← hQ]
 unfold quoteF at hQ
 have hpl:=prs_len x
 obtain ⟨R,hR⟩:∃ R,R=prsF x:=⟨_,rfl⟩
 rw [← hR] at hpa hQ hwh hsz hpl
 obtain ⟨g,y,f⟩:=R
 simp only at hQ hwh hsz hpl
 have HPA:=Lib.hid hpa
 have HQ:=Lib.hid hQ
 have HWH:=Lib.hid hwh
 have HSZ:=Lib.hid hsz
 have HH:=Lib.hid h.lt
 have HN:=Lib.hid hn
 have hgo:g.opts.length≤1000000:=by omega
 obtain ⟨q,hq⟩:∃ q,q=y.length:=⟨_,rfl⟩
 have HQL:=Lib.hid hq
 have hql:q≤1000000:=by omega
 clear hpa hQ hR h hn hwh hsz hpl hq
 go_enter Tryz.func209,Tryz.ntmps209
 go_upto_region 2 with
  (go_at_call 33
   refine HPA.out.mono ?_
   rintro e w1 ⟨vo,vq,rfl,ho,hq,_,hb⟩
   obtain ⟨Ao,co,rfl,_⟩:=ho.form
   obtain ⟨Aq,cq,rfl,_⟩:=hq.form
   rw [show (g,y,f).2.1.length=q from HQL.out.symm]
   obtain ⟨w2,hst,hb2,hb12,hk2⟩:=hd_var hb hb.size g Ao g.opts.length co
   have hld:=hd_load hk2 rfl
   have HO:=Lib.hid ((ho.below hb12).sl)
   have HB2:=Lib.hid hb2
   clear ho hq hb hb2 hb12 hk2)
 by_cases hf:f=0
 ·subst hf
  have hQ:=HQ.out
  rw [if_neg (by simp)] at hQ
  have hsize:=size_any g (.slice Ao g.opts.length co) _ w2 HO.out hgo
  rw [HSZ.out rfl] at hsize
  have hwh:=HWH.out rfl
  obtain ⟨s,hs⟩:∃ s,s=20+g.opts.length:=⟨_,rfl⟩
  rw [← hs] at hsize hQ hwh
  have HS:=Lib.hid hsize
  obtain ⟨k,hk⟩:∃ k,k=min 8 q:=⟨_,rfl⟩
  have hmin:min (8:Int) (q:Int)=(k:Int):=by omega
  have hkn:s+k≤n:=by have:=HN.out; have:=HQL.out; omega
  have hQ1:Q.1=x.take (s+k):=by rw [hQ,hk,HQL.out]
  have hQ2:Q.2=0:=by rw [hQ]
  have HQ2:=Lib.hid hQ2
  have HQ1:=Lib.hid hQ1
  clear hsize hs hQ hwh hQ1 hQ2 HQ
  have hcut:=fun wx=>sl_hi A n c wx (s+k) (by omega)
  by_cases h8:8≤q
  ·obtain rfl:k=8:=by omega
   have d1:decide ((8:Int)≤(q:Int))=true:=decide_eq_true (by omega)
   have d2:decide (8≤q)=true:=decide_eq_true h8
   have d3:decide ((q:Int) < 8)=false:=decide_eq_false (by omega)
   have d4:decide (q < 8)=false:=decide_eq_false (by omega)
   clear hk
   go_wp2_with (go_at_call 97; refine HS.out.mono ?_; rintro e w3 ⟨rfl,hb3⟩; have HB3:=Lib.hid (HB2.out.trans (hb3.mono HB2.out.size)); clear hb3)
   obtain ⟨e1,e2,hrt⟩:=(cut_hi (cap:=c) (k:=s+8) (by rw [HN.out]; exact HH.out.keep (Same.ofBelow HB3.out fun k hk=>hk.2)) (by have:=HN.out; omega) (by omega)).len
   rw [← e1] at hrt
   have HCL:=Lib.hid (clone8_any A (s+8) c (bytesV (x.take (s+8))) _ w3 hrt (bytesV_one _) (by omega))
   have HE1:=Lib.hid e1
   clear e1 e2 hrt
   refine HCL.out.mono ?_
   rintro e w4 ⟨v4,rfl,h4,hb4⟩
   obtain ⟨A4,c4,rfl,_⟩:=own_form h4
   have HO4:=Lib.hid (own_base h4 HB3.out.size)
   have HB4:=Lib.hid (HB3.out.trans (hb4.mono HB3.out.size))
   clear h4 hb4
   go_wp2_with fail
   go_ret2
   rw [HQ1.out,HQ2.out]
   refine ⟨_,rfl,?_,HB4.out⟩
   unfold Row8
   rw [← HE1.out]
   exact HO4.out
  ·obtain rfl:k=q:=by omega
   have d1:decide ((8:Int)≤(k:Int))=false:=decide_eq_false (by omega)
   have d2:decide (8≤k)=false:=decide_eq_false h8
   have d3:decide ((k:Int) < 8)=true:=decide_eq_true (by omega)
   have d4:decide (k < 8)=true:=decide_eq_true (by omega)
   clear hk
   go_wp2_with (go_at_call 97; refine HS.out.mono ?_; rintro e w3 ⟨rfl,hb3⟩; have HB3:=Lib.hid (HB2.out.trans (hb3.mono HB2.out.size)); clear hb3)
   obtain ⟨e1,e2,hrt⟩:=(cut_hi (cap:=c) (k:=s+k) (by rw [HN.out]; exact HH.out.keep (Same.ofBelow HB3.out fun k hk=>hk.2)) (by have:=HN.out; omega) (by omega)).len
   rw [← e1] at hrt
   have HCL:=Lib.hid (clone8_any A (s+k) c (bytesV (x.take (s+k))) _ w3 hrt (bytesV_one _) (by omega))
   have HE1:=Lib.hid e1
   clear e1 e2 hrt
   refine HCL.out.mono ?_
   rintro e w4 ⟨v4,rfl,h4,hb4⟩
   obtain ⟨A4,c4,rfl,_⟩:=own_form h4
   have HO4:=Lib.hid (own_base h4 HB3.out.size)
   have HB4:=Lib.hid (HB3.out.trans (hb4.mono HB3.out.size))
   clear h4 hb4
   go_wp2_with fail
   go_ret2
   rw [HQ1.out,HQ2.out]
   refine ⟨_,rfl,?_,HB4.out⟩
   unfold Row8
   rw [← HE1.out]
   exact HO4.out
 ·have hQ:=HQ.out
  rw [if_pos (by simpa using hf)] at hQ
  subst hQ
  have b1:((f:Int) != 0)=true:=by rw [bne_iff_ne]; omega
  clear hf HQ HWH HSZ
  go_wp2_with fail
  go_ret2
  exact ⟨_,rfl,Row8.nil _ _,HB2.out⟩
end Go.Proofs.YthlommalbkhcjaaGreat
