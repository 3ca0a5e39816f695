/- Icmp: May, Quote, of both. -/
import Derived.Test.YthlommalbkhcjaaGreatNm38
import Derived.Test.YthlommalbkhcjaaGreatNm13
import Derived.Test.YthlommalbkhcjaaGreatNm10
namespace Go.Proofs.YthlommalbkhcjaaGreat
open Go.RowKit Go.Sort Go.BigFrame
theorem ld_arr4 {w:World} {p:Addr} {a0 a1 a2 a3:Int} (h0:w.cell? p=some (.int .u8 a0)) (h1:w.cell? ⟨p.block,p.off+1,none⟩=some (.int .u8 a1)) (h2:w.cell? ⟨p.block,p.off+2,none⟩=some (.int .u8 a2)) (h3:w.cell? ⟨p.block,p.off+3,none⟩=some (.int .u8 a3)) :
  (Instr.loadAt 84 (.pointer (some p))).run Tryz.prog w=.ok (.agg #[.int .u8 a0,.int .u8 a1,.int .u8 a2,.int .u8 a3]) w:=by
 simp [go_sem,h0,h1,h2,h3]
theorem ic_build0 (w:World):(Instr.build 86 #[]).run Tryz.prog w=.ok (.agg #[.int .u8 0,.int .u8 0,.int .u8 0,.int .u8 0,.int .u8 0,.int .u8 0,.slice none 0 0]) w:=by kernel_rfl
theorem ic_build (w:World) (a b c0 c1 c2 c3:Int) (A:Option Addr) (n c:Nat):(Instr.build 86 #[(0,.int .u8 a),(1,.int .u8 b),(2,.agg #[.int .u8 c0,.int .u8 c1,.int .u8 c2,.int .u8 c3]),(3,.slice A n c)]).run Tryz.prog w=.ok (.agg #[.int .u8 a,.int .u8 b,.int .u8 c0,.int .u8 c1,.int .u8 c2,.int .u8 c3,.slice A n c]) w:=by kernel_rfl
def OfPost (w:World) (r:Ic × Nat) (e:Ending) (w':World):Prop:=∃ v,e=.returned (.tuple #[icV r.1 v,.int .i64 (r.2:Int)])∧Row8 w.heap.size w' v r.1.body∧Below w.heap.size w w'
theorem add_next (ad:Addr) (a b:Nat) (ha:0 < a):(⟨(ad.add a).block,(ad.add a).off+b,none⟩:Addr)=ad.add (a+b):=by
 rw [add_pos ad a ha,add_pos ad (a+b) (by omega)]
 simp
 omega
theorem head8 {w:World} {I:Nat→Prop} {A:Option Addr} {n:Nat} {x:By} (h:Reads w I 1 A n (bytesV x)) (hn:x.length=n) (h8:8≤n):∃ ad,A=some ad∧∀ k,k < 8→w.cell? (ad.add k)=some (.int .u8 ((x.getD k 0).toNat:Int)):=by
 obtain ⟨ad,rfl,_,_,hc⟩:=h.2 (by omega)
 refine ⟨ad,rfl,fun k hk=>?_⟩
 have:=hc k (.int .u8 ((x.getD k 0).toNat:Int)) (by
  rw [bytes_get (show k < x.length by omega)]
  congr 4
  rw [List.getD_eq_getElem?_getD,List.getElem?_eq_getElem (show k < x.length by omega)]
  rfl)
 simpa using this
theorem ld_u8a {w:World} {a:Addr} {z:Int} (hu:w.cell? a=some (.int .u8 z)):(Instr.loadAt 5 (.pointer (some a))).run Tryz.prog w=.ok (.int .u8 z) w:=by
 simp [go_sem,hu]
theorem arr_at (w:World) (A:Option Addr) (c:Nat):(Instr.arrayAt 84 (.slice A 4 c)).run Tryz.prog w=.ok (.pointer A) w:=run_arrayAt w 84 5 4 A 4 c (by kernel_rfl) (Nat.le_refl _)
attribute [-go_sem] Instr.storeAt Instr.loadAt in
set_option maxRecDepth 100000 in
set_option maxHeartbeats 4000000 in
theorem icof_any (A:Option Addr) (n c:Nat) (x:By) (I:Nat→Prop) (w:World) (h:Reads w I 1 A n (bytesV x)) (hn:x.length=n) (hc:n≤c) (hsm:n≤1000000) :
  Calls Tryz.prog 34 #[.slice A n c] w (OfPost w (icOf x)):=by
 obtain ⟨W,hW⟩:∃ W,W=w.alloc (.cells #[.int .u8 0,.int .u8 0,.int .u8 0,.int .u8 0,.int .u8 0,.int .u8 0,.slice none 0 0] 86):=⟨_,rfl⟩
 have hb0:Below w.heap.size w W:=by rw [hW]; exact (Below.refl _ _).alloc (Nat.le_refl _) _
 have hk0:Blk W w.heap.size 86 #[.int .u8 0,.int .u8 0,.int .u8 0,.int .u8 0,.int .u8 0,.int .u8 0,.slice none 0 0]:=by rw [hW]; exact Blk.new _ _ _
 have hr0:=(h.lt).keep (Same.ofBelow hb0 fun k hk=>hk.2)
 have hz0:W.heap.size=w.heap.size+1:=by rw [hW]; simp
 have HW:=Lib.hid hW
 have HB0:=Lib.hid hb0
 have HK0:=Lib.hid hk0
 have HR0:=Lib.hid hr0
 have HN:=Lib.hid hn
 have HC:=Lib.hid hc
 have HZ0:=Lib.hid hz0
 have hb00:=ic_build0
 clear hW hb0 hk0 hr0 h hn hc hz0
 go_enter Tryz.func34,Tryz.ntmps34
 by_cases h8:n < 8
 ·have d1:decide ((n:Int) < 8)=true:=decide_eq_true (by omega)
  have d2:decide (n < 8)=true:=decide_eq_true h8
  have hst:=ic_store (vs:=#[.int .u8 0,.int .u8 0,.int .u8 0,.int .u8 0,.int .u8 0,.int .u8 0,.slice none 0 0]) HK0.out rfl rfl (by simp [Value.oneCell'])
  have he:icOf x=(ic0,4):=by unfold icOf; rw [if_pos (.inl (by have:=HN.out; omega))]
  have HE:=Lib.hid he
  clear he
  go_upto_region 1 with (fail)
  rw [← HW.out]
  go_wp2_with fail
  refine bodyPost_ret_by (res_ic (cs:=#[.int .u8 0,.int .u8 0,.int .u8 0,.int .u8 0,.int .u8 0,.int .u8 0,.slice none 0 0]) rfl _ rfl (blk_setCells (vs:=#[.int .u8 0,.int .u8 0,.int .u8 0,.int .u8 0,.int .u8 0,.int .u8 0,.slice none 0 0]) HK0.out rfl) rfl) rfl ?_
  rw [HE.out]
  exact ⟨.slice none 0 0,rfl,Row8.nil _ _,below_setCells (Nat.le_refl _) _ 0 _ HB0.out⟩
 ·have d1:decide ((n:Int) < 8)=false:=decide_eq_false (by omega)
  have d2:decide (n < 8)=false:=decide_eq_false h8
  have hgd:=good_any A n c x _ W HR0.out HN.out hsm
  obtain ⟨gd,hgg⟩:∃ b,b=decide (totalF x=65535):=⟨_,rfl⟩
  rw [← hgg] at hgd
  have HGD:=Lib.hid hgd
  have HGG:=Lib.hid hgg
  clear hgd hgg
  cases gd with
  | false =>
    have he:icOf x=(ic0,4):=by
     unfold icOf
     rw [if_pos (.inr (of_decide_eq_false HGG.out.symm))]
    have HE:=Lib.hid he
    clear he
    go_upto_region 1 with (fail)
    rw [← HW.out]
    go_wp2_with fail
    refine HGD.out.mono ?_
    rintro e w1 ⟨rfl,hb1⟩
    have hk1:=HK0.out.below hb1 HK0.out.lt
    have hst:=ic_store (vs:=#[.int .u8 0,.int .u8 0,.int .u8 0,.int .u8 0,.int .u8 0,.int .u8 0,.slice none 0 0]) hk1 rfl rfl (by simp [Value.oneCell'])
    have HK1:=Lib.hid hk1
    have HB1:=Lib.hid (HB0.out.trans (hb1.mono HB0.out.size))
    clear hb1 hk1
    go_wp2_with fail
    refine bodyPost_ret_by (res_ic (cs:=#[.int .u8 0,.int .u8 0,.int .u8 0,.int .u8 0,.int .u8 0,.int .u8 0,.slice none 0 0]) rfl _ rfl (blk_setCells (vs:=#[.int .u8 0,.int .u8 0,.int .u8 0,.int .u8 0,.int .u8 0,.int .u8 0,.slice none 0 0]) HK1.out rfl) rfl) rfl ?_
    rw [HE.out]
    exact ⟨.slice none 0 0,rfl,Row8.nil _ _,below_setCells (Nat.le_refl _) _ 0 _ HB1.out⟩
  | true =>
    have ht:totalF x=65535:=of_decide_eq_true HGG.out.symm
    have he:icOf x=(⟨x.getD 0 0,x.getD 1 0,x.getD 4 0,x.getD 5 0,x.getD 6 0,x.getD 7 0,x.drop 8⟩,0):=by
     unfold icOf
     rw [if_neg (by have:=HN.out; rw [ht]; omega)]
    have HE:=Lib.hid he
    clear he ht
    obtain ⟨ad,rfl,hcell⟩:=head8 HR0.out HN.out (by omega)
    go_upto_region 1 with (fail)
    rw [← HW.out]
    go_upto_region 3 with (refine HGD.out.mono ?_; rintro e w1 ⟨rfl,hb1⟩; have HB1:=Lib.hid hb1; clear hb1)
    have hcl:∀ k,k < 8→∀ wx,Below W.heap.size W wx→wx.cell? (ad.add k)=some (.int .u8 ((x.getD k 0).toNat:Int)):=fun k hk wx hb=>(hb.cell (block_lt_of_cell (hcell k hk))).trans (hcell k hk)
    have HCL:=Lib.hid hcl
    clear hcell hcl
    have hs4:=fun wx=>sl_lohi (some ad) n c wx 4 8 (by omega) (by have:=HC.out; omega)
    have hs8:=fun wx=>sl_lo (some ad) n c wx 8 (by omega)
    have e40:(if c=4 then some ad else Option.map (fun x=>x.add 4) (some ad))=some ⟨ad.block,ad.off+4,none⟩:=by rw [if_neg (by have:=HC.out; omega),← add_pos ad 4 (by omega)]; rfl
    simp only [e40] at hs4
    have hs4l:∀ wx,(Instr.slice 61 (.slice (some ad) n c) (some (.int .i64 4)) (some (.int .i64 8)) none).run Tryz.prog wx=.ok (.slice (some ⟨ad.block,ad.off+4,none⟩) 4 (c - 4)) wx:=hs4
    obtain ⟨A8,hA8⟩:∃ A8,A8=(if c=8 then some ad else Option.map (fun x=>x.add 8) (some ad)):=⟨_,rfl⟩
    simp only [← hA8] at hs8
    have hs8l:∀ wx,(Instr.slice 61 (.slice (some ad) n c) (some (.int .i64 8)) none none).run Tryz.prog wx=.ok (.slice A8 (n - 8) (c - 8)) wx:=hs8
    clear hs4 hs8
    have h8r:Sl8 W (fun k=>(I k∧k < w.heap.size)∧k < W.heap.size) (.slice A8 (n - 8) (c - 8)) (x.drop 8):=by
     have:=(cut_lo (w:=W) (k:=8) (cap:=c) (x:=x) (by rw [HN.out]; exact HR0.out) (by have:=HN.out; omega) (by have:=HN.out; have:=HC.out; omega)).lt
     rw [hA8]
     rwa [HN.out] at this
    have HR8:=Lib.hid h8r
    obtain ⟨b0,hb0⟩:∃ z:Int,z=((x.getD 0 0).toNat:Int):=⟨_,rfl⟩
    obtain ⟨b1,hb1⟩:∃ z:Int,z=((x.getD 1 0).toNat:Int):=⟨_,rfl⟩
    obtain ⟨b4,hb4⟩:∃ z:Int,z=((x.getD 4 0).toNat:Int):=⟨_,rfl⟩
    obtain ⟨b5,hb5⟩:∃ z:Int,z=((x.getD 5 0).toNat:Int):=⟨_,rfl⟩
    obtain ⟨b6,hb6⟩:∃ z:Int,z=((x.getD 6 0).toNat:Int):=⟨_,rfl⟩
    obtain ⟨b7,hb7⟩:∃ z:Int,z=((x.getD 7 0).toNat:Int):=⟨_,rfl⟩
    have hl0:∀ wx,Below W.heap.size W wx→(Instr.loadAt 5 (.pointer (some ad))).run Tryz.prog wx=.ok (.int .u8 b0) wx:=fun wx hb=>ld_u8a (by have:=HCL.out 0 (by omega) wx hb; rw [hb0]; rwa [show ad.add 0=ad by simp [Addr.add]] at this)
    have hl1:∀ wx,Below W.heap.size W wx→(Instr.loadAt 5 (.pointer (some ⟨ad.block,ad.off+1,none⟩))).run Tryz.prog wx=.ok (.int .u8 b1) wx:=fun wx hb=>ld_u8a (by rw [hb1,← add_pos ad 1 (by omega)]; exact HCL.out 1 (by omega) wx hb)
    have hl4:∀ wx,Below W.heap.size W wx→(Instr.loadAt 84 (.pointer (some ⟨ad.block,ad.off+4,none⟩))).run Tryz.prog wx=.ok (.agg #[.int .u8 b4,.int .u8 b5,.int .u8 b6,.int .u8 b7]) wx:=fun wx hb=>by
     rw [← add_pos ad 4 (by omega)]
     refine ld_arr4 (by rw [hb4]; exact HCL.out 4 (by omega) wx hb) ?_ ?_ ?_
     ·rw [hb5,add_next ad 4 1 (by omega)]; exact HCL.out 5 (by omega) wx hb
     ·rw [hb6,add_next ad 4 2 (by omega)]; exact HCL.out 6 (by omega) wx hb
     ·rw [hb7,add_next ad 4 3 (by omega)]; exact HCL.out 7 (by omega) wx hb
    have har:=fun wx=>arr_at wx (some ⟨ad.block,ad.off+4,none⟩) (c - 4)
    have HL0:=Lib.hid hl0
    have HL1:=Lib.hid hl1
    have HL4:=Lib.hid hl4
    have HB0':=Lib.hid hb0
    have HB1':=Lib.hid hb1
    have HB4':=Lib.hid hb4
    have HB5':=Lib.hid hb5
    have HB6':=Lib.hid hb6
    have HB7':=Lib.hid hb7
    clear hl0 hl1 hl4 hb0 hb1 hb4 hb5 hb6 hb7 hA8 h8r e40
    have HCC:=Lib.hid (fun (a b:World) (ha:Below W.heap.size W a) (hb:Below a.heap.size a b)=>(ha.trans (hb.mono ha.size):Below W.heap.size W b))
    refine wp_region_mix [(true,12),(false,4)] 1 (by kernel_rfl) (fun a=>Below W.heap.size W a) HCC.out (by kernel_rfl) HB1.out (a':=?_) (fun wz hz=>?_) fun wz hz=>?_
    rotate_left
    ·have x0:=fun (dd:Nat) (os:Array Obj)=>HL0.out _ (hz.trans ((below_regrown wz dd os).mono hz.size))
     have x1:=fun (dd:Nat) (os:Array Obj)=>HL1.out _ (hz.trans ((below_regrown wz dd os).mono hz.size))
     have x4:=fun (dd:Nat) (os:Array Obj)=>HL4.out _ (hz.trans ((below_regrown wz dd os).mono hz.size))
     clear hz
     simp only [pick_nil,pick_tt,pick_ft,List.take_succ_cons,List.take_zero,List.drop_succ_cons,List.drop_zero,List.append_nil]
     repeat (go_big_quiet_step (fail))
     refine wpQuiet_nil ?_
     rfl
    ·simp only [pick_nil,pick_ff,pick_tf,List.take_succ_cons,List.take_zero,List.drop_succ_cons,List.drop_zero,List.append_nil]
     have hz':=HB1.out.trans (hz.mono HB1.out.size)
     have S0:=Lib.hid hz'
     clear hz hz'
     refine wpMix_step S0.out fun wa ha=>?_
     have S1:=Lib.hid (HCC.out _ _ S0.out ha)
     obtain ⟨e8,h8c,hr8⟩:=(HR8.out.keep (Same.ofBelow S1.out fun k hk=>hk.2)).len
     rw [← e8] at hr8
     have hcl8:=clone8_any A8 (n - 8) (c - 8) (bytesV (x.drop 8)) _ wa hr8 (bytesV_one _) (by omega)
     have HCLN:=Lib.hid hcl8
     have HE8:=Lib.hid e8
     clear ha hcl8 hr8 h8c e8
     go_wp2_with fail
     refine HCLN.out.mono ?_
     rintro e w2 ⟨v2,rfl,h2,hb2⟩
     obtain ⟨A2,c2,rfl,_⟩:=own_form h2
     obtain ⟨n8,hn8⟩:∃ n8,n8=n - 8:=⟨_,rfl⟩
     rw [← hn8] at h2 HE8 ⊢
     have HO2:=Lib.hid (own_base h2 S1.out.size)
     have S2:=Lib.hid (HCC.out _ _ S1.out hb2)
     clear h2 hb2 hn8
     go_wp2_with fail
     refine wpMix_step S2.out fun wb hb=>?_
     have S3:=Lib.hid (HCC.out _ _ S2.out hb)
     have HO3:=Lib.hid (own_below HO2.out hb)
     clear hb
     have hbd:=fun wx=>ic_build wx b0 b1 b4 b5 b6 b7 A2 n8 c2
     go_wp2_with fail
     refine wpMix_plain ?_
     have hk2:=HK0.out.below S3.out HK0.out.lt
     have hst:=ic_store (vs:=#[.int .u8 b0,.int .u8 b1,.int .u8 b4,.int .u8 b5,.int .u8 b6,.int .u8 b7,.slice A2 n8 c2]) hk2 rfl rfl (by simp [Value.oneCell'])
     have HK2:=Lib.hid hk2
     clear hk2
     go_wp2_with fail
     refine bodyPost_ret_by (res_ic (cs:=#[.int .u8 b0,.int .u8 b1,.int .u8 b4,.int .u8 b5,.int .u8 b6,.int .u8 b7,.slice A2 n8 c2]) rfl _ rfl (blk_setCells (vs:=#[.int .u8 b0,.int .u8 b1,.int .u8 b4,.int .u8 b5,.int .u8 b6,.int .u8 b7,.slice A2 n8 c2]) HK2.out rfl) rfl) rfl ?_
     rw [HE.out]
     refine ⟨.slice A2 n8 c2,?_,?_,below_setCells (Nat.le_refl _) _ 0 _ (HB0.out.trans (S3.out.mono HB0.out.size))⟩
     ·rw [HB0'.out,HB1'.out,HB4'.out,HB5'.out,HB6'.out,HB7'.out]
      rfl
     ·show Row8 _ _ _ (x.drop 8)
      unfold Row8
      rw [← HE8.out]
      have hs:=(Upd.setCells #[.int .u8 b0,.int .u8 b1,.int .u8 b4,.int .u8 b5,.int .u8 b6,.int .u8 b7,.slice A2 n8 c2].toList 0 _ (Upd.refl (fun k=>k=w.heap.size) wb) (.inl rfl)).same (I:=fun k=>w.heap.size < k) fun k (hk:k=_) hi=>by omega
      exact own_base (own_keep HO3.out hs fun g hg=>by have:=(own_lt HO3.out hg).1; have:=HZ0.out; omega) HB0.out.size
end Go.Proofs.YthlommalbkhcjaaGreat
namespace Go.Proofs.YthlommalbkhcjaaGreat
open Go.RowKit Go.Sort Go.BigFrame
theorem errT_nat (t:UInt8):errT t=(decide (t.toNat=3) || decide (t.toNat=4) || decide (t.toNat=5) || decide (t.toNat=11) || decide (t.toNat=12)):=by
 have e:∀ k:UInt8,(t == k)=decide (t.toNat=k.toNat):=fun k=>by rw [Bool.eq_iff_iff,beq_iff_eq,decide_eq_true_eq]; exact ⟨fun h=>by rw [h],fun h=>UInt8.toNat_inj.1 h⟩
 unfold errT
 rw [e,e,e,e,e]
 rfl
set_option maxHeartbeats 1000000 in
theorem icerr_any (m:Ic) (v:Value) (w:World) (_hv:v.oneCell'=true) :
  Calls Tryz.prog 35 #[icV m v] w fun e w'=>e=.returned (.bool (errT m.ty))∧Below w.heap.size w w':=by
 have hb0:Below w.heap.size w (w.alloc (.cells (icC m v) 86)):=(Below.refl _ _).alloc (Nat.le_refl _) _
 have hk0:=Blk.new w 86 (icC m v)
 obtain ⟨W,hW⟩:∃ W,W=w.alloc (.cells (icC m v) 86):=⟨_,rfl⟩
 rw [← hW] at hb0 hk0
 have he:=errT_nat m.ty
 have k0:W.cell? ⟨w.heap.size,0,none⟩=some (.int .u8 (m.ty.toNat:Int)):=hk0.cell 0
 obtain ⟨z,hz⟩:∃ z:Int,z=(m.ty.toNat:Int):=⟨_,rfl⟩
 rw [← hz] at k0
 have he2:errT m.ty=(decide (z=3) || decide (z=4) || decide (z=5) || decide (z=11) || decide (z=12)):=by
  have hk:∀ k:Nat,decide (m.ty.toNat=k)=decide (z=(k:Int)):=fun k=>by rw [hz]; exact decide_eq_decide.2 (by omega)
  rw [he,hk,hk,hk,hk,hk]
  rfl
 obtain ⟨E,hE⟩:∃ E,E=errT m.ty:=⟨_,rfl⟩
 rw [← hE] at he2 ⊢
 have HB:=Lib.hid hb0
 have HW:=Lib.hid hW
 clear hb0 hk0 hz he hE hW
 unfold icV
 go_enter Tryz.func35,Tryz.ntmps35
 go_upto_region 1 with (fail)
 rw [← HW.out]
 by_cases h11:z=11
 ·subst h11
  obtain rfl:E=true:=by rw [he2]; rfl
  clear he2
  go_wp2_with fail
  go_ret
  exact ⟨rfl,HB.out⟩
 by_cases h12:z=12
 ·subst h12
  obtain rfl:E=true:=by rw [he2]; rfl
  clear he2
  go_wp2_with fail
  go_ret
  exact ⟨rfl,HB.out⟩
 by_cases h3:z=3
 ·subst h3
  obtain rfl:E=true:=by rw [he2]; rfl
  clear he2
  go_wp2_with fail
  go_ret
  exact ⟨rfl,HB.out⟩
 by_cases h4:z=4
 ·subst h4
  obtain rfl:E=true:=by rw [he2]; rfl
  clear he2
  go_wp2_with fail
  go_ret
  exact ⟨rfl,HB.out⟩
 by_cases h5:z=5
 ·subst h5
  obtain rfl:E=true:=by rw [he2]; rfl
  clear he2
  go_wp2_with fail
  go_ret
  exact ⟨rfl,HB.out⟩
 obtain rfl:E=false:=by rw [he2]; simp [h11,h12,h3,h4,h5]
 clear he2
 have b11:(z == 11)=false:=beq_eq_false_iff_ne.2 h11
 have b12:(z == 12)=false:=beq_eq_false_iff_ne.2 h12
 have b3:(z == 3)=false:=beq_eq_false_iff_ne.2 h3
 have b4:(z == 4)=false:=beq_eq_false_iff_ne.2 h4
 have b5:(z == 5)=false:=beq_eq_false_iff_ne.2 h5
 clear h11 h12 h3 h4 h5
 go_wp2_with fail
 go_ret
 exact ⟨rfl,HB.out⟩
end Go.Proofs.YthlommalbkhcjaaGreat
namespace Go.Proofs.YthlommalbkhcjaaGreat
open Go.RowKit Go.Sort Go.BigFrame
theorem emay1 {h:Hd} {p:By} (hh:h.off≠0):emayH h p=false:=by unfold emayH; simp [hh]
theorem emay2 {h:Hd} {p:By} (hh:h.src=0):emayH h p=false:=by unfold emayH; simp [hh]
theorem emay3 {h:Hd} {p:By} (hh:multiF h.src=true):emayH h p=false:=by unfold emayH; simp [hh]
theorem emay4 {h:Hd} {p:By} (hh:multiF h.dst=true):emayH h p=false:=by unfold emayH; simp [hh]
theorem emay5 {h:Hd} {p:By} (h1:¬ h.off≠0) (h2:¬ h.src=0) (h3:multiF h.src=false) (h4:multiF h.dst=false):emayH h p=(decide (h.proto≠1) || (decide (8≤p.length) && !errT (p.getD 0 0))):=by
 unfold emayH
 simp [h1,h2,h3,h4]
theorem ic_build1 (w:World) (z:Int):(Instr.build 86 #[(0,.int .u8 z)]).run Tryz.prog w=.ok (.agg #[.int .u8 z,.int .u8 0,.int .u8 0,.int .u8 0,.int .u8 0,.int .u8 0,.slice none 0 0]) w:=by kernel_rfl
theorem emerr_any (t:UInt8) (w:World):Calls Tryz.prog 35 #[.agg #[.int .u8 (t.toNat:Int),.int .u8 0,.int .u8 0,.int .u8 0,.int .u8 0,.int .u8 0,.slice none 0 0]] w fun e w'=>e=.returned (.bool (errT t))∧Below w.heap.size w w' :=
 icerr_any ⟨t,0,0,0,0,0,[]⟩ (.slice none 0 0) w rfl
attribute [-go_sem] Instr.storeAt in
set_option maxRecDepth 100000 in
set_option maxHeartbeats 4000000 in
theorem icmay_any (h:Hd) (A:Option Addr) (n c:Nat) (Ap:Option Addr) (q cp:Nat) (p:By) (I:Nat→Prop) (w:World) (hp:Reads w I 1 Ap q (bytesV p)) (hq:p.length=q) :
  Calls Tryz.prog 207 #[hdV h (.slice A n c),.slice Ap q cp] w fun e w'=>e=.returned (.bool (emayH h p))∧Below w.heap.size w w':=by
 have hb0:Below w.heap.size w (w.alloc (.cells (hdC h (.slice A n c)) 76)):=(Below.refl _ _).alloc (Nat.le_refl _) _
 have hk0:=Blk.new w 76 (hdC h (.slice A n c))
 obtain ⟨W,hW⟩:∃ W,W=w.alloc (.cells (hdC h (.slice A n c)) 76):=⟨_,rfl⟩
 rw [← hW] at hb0 hk0
 obtain ⟨of0,hof⟩:∃ z,z=h.off:=⟨_,rfl⟩
 obtain ⟨sr,hsr⟩:∃ z,z=h.src:=⟨_,rfl⟩
 obtain ⟨ds,hds⟩:∃ z,z=h.dst:=⟨_,rfl⟩
 obtain ⟨pr,hpr⟩:∃ z,z=h.proto:=⟨_,rfl⟩
 have k5:W.cell? ⟨w.heap.size,5,none⟩=some (.int .i64 of0):=by rw [hof]; exact hk0.cell 5
 have k8:W.cell? ⟨w.heap.size,8,none⟩=some (.int .u32 (sr:Int)):=by rw [hsr]; exact hk0.cell 8
 have k9:W.cell? ⟨w.heap.size,9,none⟩=some (.int .u32 (ds:Int)):=by rw [hds]; exact hk0.cell 9
 have k7:W.cell? ⟨w.heap.size,7,none⟩=some (.int .u8 (pr:Int)):=by rw [hpr]; exact hk0.cell 7
 have hm1:=multi_any sr W
 have hm2:=multi_any ds W
 have e5:=emay5 (h:=h) (p:=p)
 have e1:=emay1 (h:=h) (p:=p)
 have e2:=emay2 (h:=h) (p:=p)
 have e3:=emay3 (h:=h) (p:=p)
 have e4:=emay4 (h:=h) (p:=p)
 rw [← hof,← hsr,← hds,← hpr] at e5
 rw [← hof] at e1
 rw [← hsr] at e2 e3
 rw [← hds] at e4
 obtain ⟨E,hE⟩:∃ E,E=emayH h p:=⟨_,rfl⟩
 rw [← hE] at e1 e2 e3 e4 e5 ⊢
 obtain ⟨m1,hm1'⟩:∃ b,b=multiF sr:=⟨_,rfl⟩
 obtain ⟨m2,hm2'⟩:∃ b,b=multiF ds:=⟨_,rfl⟩
 rw [← hm1'] at hm1 e3 e5
 rw [← hm2'] at hm2 e4 e5
 have HM1:=Lib.hid hm1
 have HM2:=Lib.hid hm2
 have HE1:=Lib.hid e1
 have HE2:=Lib.hid e2
 have HE3:=Lib.hid e3
 have HE4:=Lib.hid e4
 have HE5:=Lib.hid e5
 have HB:=Lib.hid hb0
 have HW:=Lib.hid hW
 have HRP:=Lib.hid ((hp.lt).keep (Same.ofBelow hb0 fun k hk=>hk.2))
 have HQ:=Lib.hid hq
 have bd:=ic_build1
 clear hb0 hk0 hof hsr hds hpr hm1 hm2 e1 e2 e3 e4 e5 hE hm1' hm2' hW hp hq
 unfold hdV
 go_enter Tryz.func207,Tryz.ntmps207
 go_upto_region 1 with (fail)
 have hW2:=HW.out
 unfold hdC at hW2
 rw [← hW2]
 clear hW2
 by_cases c1:of0≠0
 ·obtain rfl:=HE1.out c1
  have b1:(of0 != 0)=true:=by rw [bne_iff_ne]; exact c1
  clear c1
  go_wp2_with fail
  go_ret
  exact ⟨rfl,HB.out⟩
 have b1:(of0 != 0)=false:=by rw [bne_eq_false_iff_eq]; omega
 by_cases c2:sr=0
 ·obtain rfl:=HE2.out c2
  have b2:((sr:Int) == 0)=true:=by rw [beq_iff_eq]; omega
  clear c1 c2
  go_wp2_with fail
  go_ret
  exact ⟨rfl,HB.out⟩
 have b2:((sr:Int) == 0)=false:=by rw [beq_eq_false_iff_ne]; omega
 cases m1 with
 | true =>
   obtain rfl:=HE3.out rfl
   clear c1 c2
   go_wp2_with (refine HM1.out.mono ?_; rintro e w' ⟨rfl,rfl⟩)
   go_ret
   exact ⟨rfl,HB.out⟩
 | false =>
 cases m2 with
 | true =>
   obtain rfl:=HE4.out rfl
   clear c1 c2
   go_wp2_with (go_at_call 163; first | (refine HM1.out.mono ?_; rintro e w' ⟨rfl,rfl⟩) | (refine HM2.out.mono ?_; rintro e w' ⟨rfl,rfl⟩))
   go_ret
   exact ⟨rfl,HB.out⟩
 | false =>
 have he:=HE5.out c1 c2 rfl rfl
 clear c1 c2 HE1 HE2 HE3 HE4 HE5
 by_cases c3:pr≠1
 ·obtain rfl:E=true:=by rw [he,decide_eq_true c3]; rfl
  have b3:((pr:Int) != 1)=true:=by rw [bne_iff_ne]; omega
  clear he c3
  go_wp2_with (go_at_call 163; first | (refine HM1.out.mono ?_; rintro e w' ⟨rfl,rfl⟩) | (refine HM2.out.mono ?_; rintro e w' ⟨rfl,rfl⟩))
  go_ret
  exact ⟨rfl,HB.out⟩
 have b3:((pr:Int) != 1)=false:=by rw [bne_eq_false_iff_eq]; omega
 rw [decide_eq_false c3,Bool.false_or] at he
 clear c3
 by_cases c4:8≤q
 ·rw [decide_eq_true (show 8≤p.length by rw [HQ.out]; exact c4),Bool.true_and] at he
  obtain ⟨ad,rfl,hc⟩:=head8 HRP.out HQ.out c4
  have h0:=hc 0 (by omega)
  rw [show ad.add 0=ad by simp [Addr.add]] at h0
  obtain ⟨t,ht⟩:∃ t,t=p.getD 0 0:=⟨_,rfl⟩
  rw [← ht] at he h0
  have HT:=Lib.hid (emerr_any t W)
  obtain ⟨z,hz⟩:∃ z:Int,z=(t.toNat:Int):=⟨_,rfl⟩
  rw [← hz] at HT h0
  have b4:decide ((8:Int)≤(q:Int))=true:=decide_eq_true (by omega)
  have b5:decide (8≤q)=true:=decide_eq_true c4
  have hq0:(0:Int) < q:=by omega
  obtain ⟨G,hG⟩:∃ G,G=errT t:=⟨_,rfl⟩
  rw [← hG] at HT he
  subst he
  clear hc ht hz hG c4
  go_wp2_with (first | (go_at_call 163; first | (refine HM1.out.mono ?_; rintro e w' ⟨rfl,rfl⟩) | (refine HM2.out.mono ?_; rintro e w' ⟨rfl,rfl⟩)) | (go_at_call 35; refine HT.out.mono ?_; rintro e w1 ⟨rfl,hb1⟩; have HB1:=Lib.hid (HB.out.trans (hb1.mono HB.out.size)); clear hb1))
  go_ret
  exact ⟨rfl,HB1.out⟩
 ·rw [decide_eq_false (show ¬ 8≤p.length by rw [HQ.out]; exact c4),Bool.false_and] at he
  subst he
  have b4:decide ((8:Int)≤(q:Int))=false:=decide_eq_false (by omega)
  have b5:decide (8≤q)=false:=decide_eq_false c4
  clear c4
  go_wp2_with (go_at_call 163; first | (refine HM1.out.mono ?_; rintro e w' ⟨rfl,rfl⟩) | (refine HM2.out.mono ?_; rintro e w' ⟨rfl,rfl⟩))
  go_ret
  exact ⟨rfl,HB.out⟩
end Go.Proofs.YthlommalbkhcjaaGreat
namespace Go.Proofs.YthlommalbkhcjaaGreat
open Go.RowKit Go.Sort Go.BigFrame
attribute [-go_sem] Instr.storeAt Instr.loadAt in
set_option maxRecDepth 100000 in
set_option maxHeartbeats 4000000 in
theorem icmayp_any (A:Option Addr) (n c:Nat) (x:By) (I:Nat→Prop) (w:World) (h:Reads w I 1 A n (bytesV x)) (hn:x.length=n) (hc:n≤c) (hsm:n≤1000000) :
  Calls Tryz.prog 168 #[.slice A n c] w fun e w'=>e=.returned (.bool (emayF x))∧Below w.heap.size w w':=by
 have hpa:=parse_any A n c x I w h hn hc hsm
 obtain ⟨E,hE⟩:∃ E,E=emayF x:=⟨_,rfl⟩
 rw [← hE]
 unfold emayF at hE
 obtain ⟨R,hR⟩:∃ R,R=prsF x:=⟨_,rfl⟩
 rw [← hR] at hpa hE
 obtain ⟨g,y,f⟩:=R
 simp only at hE
 have HPA:=Lib.hid hpa
 have HE:=Lib.hid hE
 clear hpa hE hR h hn hc hsm
 go_enter Tryz.func168,Tryz.ntmps168
 go_upto_region 2 with
  (go_at_call 33
   refine HPA.out.mono ?_
   rintro e w1 ⟨vo,vq,rfl,ho,hq,_,hb⟩
   obtain ⟨Ao,co,rfl,_⟩:=ho.form
   obtain ⟨Aq,cq,rfl,_⟩:=hq.form
   obtain ⟨w2,hst,hb2,hb12,hk2⟩:=hd_var hb hb.size g Ao g.opts.length co
   have hld:=hd_load hk2 rfl
   have hq2:=hq.below hb12
   have HM:=Lib.hid (icmay_any g Ao g.opts.length co Aq y.length cq y _ w2 (hq2.reads.2) rfl)
   have HB2:=Lib.hid hb2
   clear ho hq hb hb2 hb12 hk2 hq2)
 by_cases hf:f=0
 ·subst hf
  have he:=HE.out
  rw [decide_eq_true rfl,Bool.true_and] at he
  rw [← he] at HM
  clear he HE
  go_wp2_with (go_at_call 207; refine HM.out.mono ?_; rintro e w3 ⟨rfl,hb3⟩; have HB3:=Lib.hid (HB2.out.trans (hb3.mono HB2.out.size)); clear hb3)
  go_ret
  exact ⟨rfl,HB3.out⟩
 ·have he:=HE.out
  rw [decide_eq_false hf,Bool.false_and] at he
  subst he
  have b1:((f:Int) == 0)=false:=by rw [beq_eq_false_iff_ne]; omega
  clear hf HE
  go_wp2_with fail
  go_ret
  exact ⟨rfl,HB2.out⟩
end Go.Proofs.YthlommalbkhcjaaGreat
