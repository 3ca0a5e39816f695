/- split.Hash. -/
import Derived.Test.YthlommalbkhcjaaGreatNq25
import Derived.Test.YthlommalbkhcjaaGreatNq22
import Derived.Test.YthlommalbkhcjaaGreatNq27
import Derived.Test.YthlommalbkhcjaaGreatNq24
namespace Go.Proofs.YthlommalbkhcjaaGreat
open Go.RowKit Go.Sort
def hashP (h:Hd) (p:By):By:=if (h.proto=6∨h.proto=17)∧fragH h=false∧4≤p.length then p.take 4 else []
def hashB (h:Hd) (p:By):By:=putF h.src 4++putF h.dst 4++[UInt8.ofNat h.proto]++hashP h p
def hashR (r:Hd × By × Nat):Nat:=if r.2.2=0 then hashF (hashB r.1 r.2.1) else 0
structure HshW (W0:World) (gh:Nat) (C:Array Value) (v7 v9 v5:Value) (a b y:By) (wx:World):Prop where
 k:Blk wx gh 76 C
 r7:Sl8 wx (fun _=>True) v7 a
 r9:Sl8 wx (fun _=>True) v9 b
 r5:Sl8 wx (fun _=>True) v5 y
 bb:Below W0.heap.size W0 wx
theorem HshW.later {W0:World} {gh:Nat} {C:Array Value} {v7 v9 v5:Value} {a b y:By} {wx wy:World} (h:HshW W0 gh C v7 v9 v5 a b y wx) (hb:Below wx.heap.size wx wy):HshW W0 gh C v7 v9 v5 a b y wy :=
 ⟨h.k.below hb h.k.lt,h.r7.below hb,h.r9.below hb,h.r5.below hb,h.bb.trans (hb.mono h.bb.size)⟩
def HshPost (w:World) (n:Nat) (f:Int) (e:Ending) (w':World):Prop:=e=.returned (.tuple #[.int .u32 (n:Int),.int .i64 f])∧Below w.heap.size w w'
theorem sl_row_new {w:World} {b:Nat} {x:UInt8} (h:Blk w b 5 #[.int .u8 (x.toNat:Int)]):Sl8 w (fun _=>True) (.slice (some ⟨b,0,none⟩) 1 1) [x]:=by
 refine ⟨some ⟨b,0,none⟩,1,rfl,Nat.le_refl _,by simp [bytesV],fun _=>⟨⟨b,0,none⟩,rfl,trivial,h.lt,fun j u hu=>?_⟩⟩
 rw [add_off,Nat.zero_add,h.cell]
 simpa [bytesV] using hu
theorem cut4 {w:World} {A:Option Addr} {m c:Nat} {p:By} (h:Sl8 w (fun _=>True) (.slice A m c) p) (hc:4≤c) (h4:4≤m):Sl8 w (fun _=>True) (.slice A 4 c) (p.take 4):=by
 obtain ⟨e,h1,h2⟩:=h.len
 subst e
 exact cut_hi h2 h4 hc
attribute [-go_sem] Instr.storeAt Instr.loadAt Lib.run_min_ints Lib.run_max_ints in
set_option maxRecDepth 20000 in
set_option maxHeartbeats 4000000 in
theorem hash_any (A:Option Addr) (n c:Nat) (x:By) (I:Nat→Prop) (w:World) (h:Reads w I 1 A n (bytesV x)) (hn:x.length=n) (hc:n≤c) (hsm:n≤1000000) :
  Calls Tryz.prog 166 #[.slice A n c] w (HshPost w (hashR (prsF x)) (if (prsF x).2.2=0 then 0 else 4)):=by
 have hpa:=parse_any A n c x I w h hn hc hsm
 have hok:=prs_ok x
 have hpl:=(prs_len x).1
 rw [hn] at hpl
 obtain ⟨R,hR⟩:∃ R,R=prsF x:=⟨_,rfl⟩
 rw [← hR] at hpa hok hpl ⊢
 clear hR h hn hc
 obtain ⟨h,p,f⟩:=R
 simp only at hok hpl
 by_cases hf:f=0
 case neg =>
  have hf1:((f:Int) != 0)=true:=by rw [bne_iff_ne]; omega
  have hf2:(f != 0)=true:=by rw [bne_iff_ne]; exact hf
  rw [show hashR (h,p,f)=0 from by unfold hashR; rw [if_neg hf],show (if (h,p,f).2.2=0 then (0:Int) else 4)=4 from if_neg hf]
  have HPA:=Lib.hid hpa
  clear hpa hok hpl hf
  go_enter Tryz.func166,Tryz.ntmps166
  go_wp2_with fail
  refine HPA.out.mono ?_
  rintro e w1 ⟨vo,vp,rfl,ho,hp,hdj,hb1⟩
  obtain ⟨Ao,co,rfl,_⟩:=ho.form
  obtain ⟨w2,hst,hb2,hb12,hk2⟩:=hd_var hb1 hb1.size h Ao h.opts.length co
  have HB2:=Lib.hid hb2
  simp only
  clear ho hp hdj hb1 hb2 hb12 hk2
  go_wp2_with fail
  go_ret2
  exact ⟨rfl,HB2.out⟩
 subst hf
 rw [show hashR (h,p,0)=hashF (hashB h p) from by unfold hashR; rw [if_pos rfl],show (if (h,p,0).2.2=0 then (0:Int) else 4)=0 from if_pos rfl]
 have HPA:=Lib.hid hpa
 have HOK:=Lib.hid hok
 have HPL:=Lib.hid hpl
 clear hpa hok hpl
 go_enter Tryz.func166,Tryz.ntmps166
 go_wp2_with fail
 refine HPA.out.mono ?_
 rintro e w1 ⟨vo,vp,rfl,ho,hp,hdj,hb1⟩
 obtain ⟨Ao,co,rfl,_⟩:=ho.form
 obtain ⟨Ap,cp,rfl,hcp⟩:=hp.form
 obtain ⟨no,hno⟩:∃ m,m=h.opts.length:=⟨_,rfl⟩
 obtain ⟨w2,hst,hb2,hb12,hk2⟩:=hd_var hb1 hb1.size h Ao h.opts.length co
 simp only at hp ⊢
 obtain ⟨m,hm⟩:∃ m,m=p.length:=⟨_,rfl⟩
 have HP2:=Lib.hid (show Sl8 w2 (fun _=>True) (.slice Ap m cp) p by rw [hm]; exact row_sl (hp.below hb12))
 have HM:=Lib.hid hm
 have HCP:=Lib.hid (show m≤cp by rw [hm]; exact hcp)
 have HB2:=Lib.hid hb2
 rw [← hno] at hst hk2 ⊢
 rw [← hm]
 obtain ⟨gh,hgh⟩:∃ g,g=w1.heap.size:=⟨_,rfl⟩
 rw [← hgh] at hk2
 have HGH:=Lib.hid hgh
 have HK2:=Lib.hid hk2
 have HMS:=Lib.hid (show m≤1000000 by have:=HPL.out; omega)
 have c8:=ld_u32s (hk2.cell 8)
 have e8:IntKind.u64.wrap (h.src:Int)=(h.src:Int):=wraps_u64 _ (by omega) (by have:=HOK.out.2.2.2.2.1; omega)
 have e9:IntKind.u64.wrap (h.dst:Int)=(h.dst:Int):=wraps_u64 _ (by omega) (by have:=HOK.out.2.2.2.2.2; omega)
 have HW8:=Lib.hid (wput4_any h.src w2 (by have:=HOK.out.2.2.2.2.1; omega))
 clear ho hp hdj hb1 hb2 hb12 hk2 hcp hm hno hgh
 go_upto_region 2 with (fail)
 rw [← HGH.out]
 clear hst
 go_wp2_with fail
 refine HW8.out.mono ?_
 rintro e w3 ⟨v7,rfl,h7,hb3⟩
 have hk3:=HK2.out.below hb3 HK2.out.lt
 have c9:=ld_u32s (hk3.cell 9)
 have HK3:=Lib.hid hk3
 have HP3:=Lib.hid (HP2.out.below hb3)
 have HB3:=Lib.hid (HB2.out.trans (hb3.mono HB2.out.size))
 obtain ⟨A7,c7,rfl,_⟩:=h7.form
 have H7:=Lib.hid (row_sl h7)
 have HW9:=Lib.hid (wput4_any h.dst w3 (by have:=HOK.out.2.2.2.2.2; omega))
 rw [putF_len] at H7 ⊢
 clear h7 hb3 hk3 c8 e8
 go_wp2_with fail
 refine HW9.out.mono ?_
 rintro e w4 ⟨v9,rfl,h9,hb4⟩
 obtain ⟨A9,c9',rfl,_⟩:=h9.form
 rw [putF_len] at h9 ⊢
 have hk4:=HK3.out.below hb4 HK3.out.lt
 have HH4:=Lib.hid (fun (v5:Value) (y:By) (h5:Sl8 w4 (fun _=>True) v5 y)=>(⟨hk4,H7.out.below hb4,by have:=row_sl h9; exact this,h5,HB3.out.trans (hb4.mono HB3.out.size)⟩:HshW w gh (hdC h (.slice Ao no co)) (.slice A7 4 c7) (.slice A9 4 c9') v5 (putF h.src 4) (putF h.dst 4) y w4))
 have HP4:=Lib.hid (HP3.out.below hb4)
 have c7:=ld_u8s (hk4.cell 7)
 have hl4:=hd_load hk4 rfl
 have HFR:=Lib.hid (frag_any h Ao no co w4)
 clear h9 hb4 hk4 c9 e9
 have HN:=Lib.hid (fun (wx:World)=>(show Sl8 wx (fun _=>True) (.slice none 0 0) ([]:By) from ⟨none,0,rfl,Nat.le_refl _,rfl,fun h=>absurd h (by decide)⟩))
 by_cases h6:h.proto=6
 ·have e6:((h.proto:Int) != 6)=false:=by rw [bne_eq_false_iff_eq]; omega
  have H6:=Lib.hid h6
  clear h6
  cases hfr:fragH h with
  | true =>
    rw [hfr] at HFR
    have HZ0:=Lib.hid (show hashP h p=[] by unfold hashP; rw [if_neg]; intro hh; have:=hh.2.1; rw [hfr] at this; cases this)
    clear hfr
    go_wp2_with fail
    refine HFR.out.mono ?_
    rintro e w5 ⟨rfl,hb5⟩
    have HB5:=Lib.hid hb5
    clear hb5 hl4 c7
    have S0:=Lib.hid (show HshW w gh (hdC h (.slice Ao no co)) (.slice A7 4 c7) (.slice A9 4 c9') (.slice none 0 0) (putF h.src 4) (putF h.dst 4) ([]:By) w5 from (HH4.out _ _ (HN.out _)).later HB5.out)
    have HZ:=Lib.hid (show hashP h p=List.take 0 ([]:By) from by rw [HZ0.out]; rfl)
    go_wp2_with fail
    have HCC:=Lib.hid (fun (a b:World) (ha:HshW w gh (hdC h (.slice Ao no co)) (.slice A7 4 c7) (.slice A9 4 c9') (.slice none 0 0) (putF h.src 4) (putF h.dst 4) ([]:By) a) (hb:Below a.heap.size a b)=>(ha.later hb:HshW w gh (hdC h (.slice Ao no co)) (.slice A7 4 c7) (.slice A9 4 c9') (.slice none 0 0) (putF h.src 4) (putF h.dst 4) ([]:By) b))
    refine wp_region_mix [(true,4),(false,1),(true,5),(false,4)] 1 (by kernel_rfl) (fun wx=>HshW w gh (hdC h (.slice Ao no co)) (.slice A7 4 c7) (.slice A9 4 c9') (.slice none 0 0) (putF h.src 4) (putF h.dst 4) ([]:By) wx) HCC.out (by kernel_rfl) S0.out (a':=?_) (fun wz hz=>?_) fun wz hz=>?_
    rotate_left
    ·have x1:=fun (dd:Nat) (os:Array Obj)=>ld_u8s ((hz.later (below_regrown wz dd os)).k.cell 7)
     have x2:=fun (wx:World)=>sl_hi none 0 0 wx 0 (Nat.le_refl _)
     clear hz
     simp only [pick_nil,pick_tt,pick_ft,List.take_succ_cons,List.take_zero,List.drop_succ_cons,List.drop_zero,List.append_nil,List.cons_append,List.nil_append]
     repeat (go_big_quiet_step (fail))
     refine wpQuiet_nil ?_
     rfl
    ·simp only [pick_nil,pick_ff,pick_tf,List.take_succ_cons,List.take_zero,List.drop_succ_cons,List.drop_zero,List.append_nil,List.cons_append,List.nil_append]
     have S1:=Lib.hid (HCC.out _ _ S0.out hz)
     clear hz
     refine wpMix_step S1.out fun wa ha=>?_
     obtain ⟨W1,hW1⟩:∃ W,W=wa.alloc (.cells #[.int .u8 (h.proto:Int)] 5):=⟨_,rfl⟩
     have hb1:Below wa.heap.size wa W1:=by rw [hW1]; exact (Below.refl _ _).alloc (Nat.le_refl _) _
     have S2:=Lib.hid (HCC.out _ _ (HCC.out _ _ S1.out ha) hb1)
     have K2:=Lib.hid (show Blk W1 wa.heap.size 5 #[.int .u8 (h.proto:Int)] by rw [hW1]; exact Blk.new _ _ _)
     have HW1:=Lib.hid hW1
     clear ha hb1 hW1
     go_wp2_with fail
     rw [← HW1.out]
     obtain ⟨gb,hgb⟩:∃ g,g=wa.heap.size:=⟨_,rfl⟩
     rw [← hgb] at K2 ⊢
     clear hgb HW1
     refine wpMix_step S2.out fun wb hb=>?_
     obtain ⟨W2,hW2⟩:∃ W,W=wb.alloc (.cells #[.slice A7 4 c7,.slice A9 4 c9',.slice (some ⟨gb,0,none⟩) 1 1,.slice none 0 0] 61):=⟨_,rfl⟩
     have hb2:Below wb.heap.size wb W2:=by rw [hW2]; exact (Below.refl _ _).alloc (Nat.le_refl _) _
     have s3:=HCC.out _ _ (HCC.out _ _ S2.out hb) hb2
     have k3:Blk W2 gb 5 #[.int .u8 ((UInt8.ofNat h.proto).toNat:Int)]:=by
      have hp:(UInt8.ofNat h.proto).toNat=h.proto:=Nat.mod_eq_of_lt HOK.out.2.2.2.1
      rw [hp]
      exact (K2.out.below hb K2.out.lt).below hb2 (K2.out.below hb K2.out.lt).lt
     have r5:Sl8 W2 (fun _=>True) (.slice none 0 0) (List.take 0 ([]:By)):=s3.r5
     have hmx:=mixed_any (some ⟨wb.heap.size,0,none⟩) 4 4 [.slice A7 4 c7,.slice A9 4 c9',.slice (some ⟨gb,0,none⟩) 1 1,.slice none 0 0] [putF h.src 4,putF h.dst 4,[UInt8.ofNat h.proto],List.take 0 ([]:By)] _ W2 (by rw [hW2]; exact reads_lit wb 61 _ 4 1 (0,0) rfl) ⟨s3.r7,s3.r9,sl_row_new k3,r5,trivial⟩ (by have:=putF_len h.src 4; have:=putF_len h.dst 4; have:=List.length_take_le 0 ([]:By); simp only [List.flatten_cons,List.flatten_nil,List.length_append,List.length_cons,List.length_nil]; omega) (by omega)
     have hfl:[putF h.src 4,putF h.dst 4,[UInt8.ofNat h.proto],List.take 0 ([]:By)].flatten=hashB h p:=by unfold hashB; rw [HZ.out]; simp [List.append_assoc]
     rw [hfl] at hmx
     have HMX:=Lib.hid hmx
     have HBB:=Lib.hid s3.bb
     have HW2:=Lib.hid hW2
     clear hb hb2 s3 k3 r5 hmx hfl hW2
     go_wp2_with fail
     rw [← HW2.out]
     refine wpMix_plain ?_
     go_wp2_with fail
     refine HMX.out.mono ?_
     rintro e w9 ⟨rfl,rfl⟩
     go_wp2_with fail
     go_ret2
     exact ⟨rfl,HBB.out⟩
  | false =>
    rw [hfr] at HFR
    have HFF:=Lib.hid hfr
    clear hfr
    by_cases h4:m < 4
    ·have d4:decide ((m:Int) < 4)=true:=decide_eq_true (by omega)
     have HZ0:=Lib.hid (show hashP h p=[] by unfold hashP; rw [if_neg]; intro hh; have:=hh.2.2; have:=HM.out; omega)
     clear h4
     go_wp2_with fail
     refine HFR.out.mono ?_
     rintro e w5 ⟨rfl,hb5⟩
     have HB5:=Lib.hid hb5
     clear hb5 hl4 c7
     have S0:=Lib.hid (show HshW w gh (hdC h (.slice Ao no co)) (.slice A7 4 c7) (.slice A9 4 c9') (.slice none 0 0) (putF h.src 4) (putF h.dst 4) ([]:By) w5 from (HH4.out _ _ (HN.out _)).later HB5.out)
     have HZ:=Lib.hid (show hashP h p=List.take 0 ([]:By) from by rw [HZ0.out]; rfl)
     go_wp2_with fail
     have HCC:=Lib.hid (fun (a b:World) (ha:HshW w gh (hdC h (.slice Ao no co)) (.slice A7 4 c7) (.slice A9 4 c9') (.slice none 0 0) (putF h.src 4) (putF h.dst 4) ([]:By) a) (hb:Below a.heap.size a b)=>(ha.later hb:HshW w gh (hdC h (.slice Ao no co)) (.slice A7 4 c7) (.slice A9 4 c9') (.slice none 0 0) (putF h.src 4) (putF h.dst 4) ([]:By) b))
     refine wp_region_mix [(true,4),(false,1),(true,5),(false,4)] 1 (by kernel_rfl) (fun wx=>HshW w gh (hdC h (.slice Ao no co)) (.slice A7 4 c7) (.slice A9 4 c9') (.slice none 0 0) (putF h.src 4) (putF h.dst 4) ([]:By) wx) HCC.out (by kernel_rfl) S0.out (a':=?_) (fun wz hz=>?_) fun wz hz=>?_
     rotate_left
     ·have x1:=fun (dd:Nat) (os:Array Obj)=>ld_u8s ((hz.later (below_regrown wz dd os)).k.cell 7)
      have x2:=fun (wx:World)=>sl_hi none 0 0 wx 0 (Nat.le_refl _)
      clear hz
      simp only [pick_nil,pick_tt,pick_ft,List.take_succ_cons,List.take_zero,List.drop_succ_cons,List.drop_zero,List.append_nil,List.cons_append,List.nil_append]
      repeat (go_big_quiet_step (fail))
      refine wpQuiet_nil ?_
      rfl
     ·simp only [pick_nil,pick_ff,pick_tf,List.take_succ_cons,List.take_zero,List.drop_succ_cons,List.drop_zero,List.append_nil,List.cons_append,List.nil_append]
      have S1:=Lib.hid (HCC.out _ _ S0.out hz)
      clear hz
      refine wpMix_step S1.out fun wa ha=>?_
      obtain ⟨W1,hW1⟩:∃ W,W=wa.alloc (.cells #[.int .u8 (h.proto:Int)] 5):=⟨_,rfl⟩
      have hb1:Below wa.heap.size wa W1:=by rw [hW1]; exact (Below.refl _ _).alloc (Nat.le_refl _) _
      have S2:=Lib.hid (HCC.out _ _ (HCC.out _ _ S1.out ha) hb1)
      have K2:=Lib.hid (show Blk W1 wa.heap.size 5 #[.int .u8 (h.proto:Int)] by rw [hW1]; exact Blk.new _ _ _)
      have HW1:=Lib.hid hW1
      clear ha hb1 hW1
      go_wp2_with fail
      rw [← HW1.out]
      obtain ⟨gb,hgb⟩:∃ g,g=wa.heap.size:=⟨_,rfl⟩
      rw [← hgb] at K2 ⊢
      clear hgb HW1
      refine wpMix_step S2.out fun wb hb=>?_
      obtain ⟨W2,hW2⟩:∃ W,W=wb.alloc (.cells #[.slice A7 4 c7,.slice A9 4 c9',.slice (some ⟨gb,0,none⟩) 1 1,.slice none 0 0] 61):=⟨_,rfl⟩
      have hb2:Below wb.heap.size wb W2:=by rw [hW2]; exact (Below.refl _ _).alloc (Nat.le_refl _) _
      have s3:=HCC.out _ _ (HCC.out _ _ S2.out hb) hb2
      have k3:Blk W2 gb 5 #[.int .u8 ((UInt8.ofNat h.proto).toNat:Int)]:=by
       have hp:(UInt8.ofNat h.proto).toNat=h.proto:=Nat.mod_eq_of_lt HOK.out.2.2.2.1
       rw [hp]
       exact (K2.out.below hb K2.out.lt).below hb2 (K2.out.below hb K2.out.lt).lt
      have r5:Sl8 W2 (fun _=>True) (.slice none 0 0) (List.take 0 ([]:By)):=s3.r5
      have hmx:=mixed_any (some ⟨wb.heap.size,0,none⟩) 4 4 [.slice A7 4 c7,.slice A9 4 c9',.slice (some ⟨gb,0,none⟩) 1 1,.slice none 0 0] [putF h.src 4,putF h.dst 4,[UInt8.ofNat h.proto],List.take 0 ([]:By)] _ W2 (by rw [hW2]; exact reads_lit wb 61 _ 4 1 (0,0) rfl) ⟨s3.r7,s3.r9,sl_row_new k3,r5,trivial⟩ (by have:=putF_len h.src 4; have:=putF_len h.dst 4; have:=List.length_take_le 0 ([]:By); simp only [List.flatten_cons,List.flatten_nil,List.length_append,List.length_cons,List.length_nil]; omega) (by omega)
      have hfl:[putF h.src 4,putF h.dst 4,[UInt8.ofNat h.proto],List.take 0 ([]:By)].flatten=hashB h p:=by unfold hashB; rw [HZ.out]; simp [List.append_assoc]
      rw [hfl] at hmx
      have HMX:=Lib.hid hmx
      have HBB:=Lib.hid s3.bb
      have HW2:=Lib.hid hW2
      clear hb hb2 s3 k3 r5 hmx hfl hW2
      go_wp2_with fail
      rw [← HW2.out]
      refine wpMix_plain ?_
      go_wp2_with fail
      refine HMX.out.mono ?_
      rintro e w9 ⟨rfl,rfl⟩
      go_wp2_with fail
      go_ret2
      exact ⟨rfl,HBB.out⟩
    ·have d4:decide ((m:Int) < 4)=false:=decide_eq_false (by omega)
     have h4m:4≤m:=by omega
     have HZ0:=Lib.hid (show hashP h p=p.take 4 by unfold hashP; rw [if_pos ⟨.inl H6.out,HFF.out,by have:=HM.out; omega⟩])
     clear h4
     go_wp2_with fail
     refine HFR.out.mono ?_
     rintro e w5 ⟨rfl,hb5⟩
     have HB5:=Lib.hid hb5
     clear hb5 hl4 c7
     have S0:=Lib.hid (show HshW w gh (hdC h (.slice Ao no co)) (.slice A7 4 c7) (.slice A9 4 c9') (.slice Ap m cp) (putF h.src 4) (putF h.dst 4) p w5 from (HH4.out _ _ HP4.out).later HB5.out)
     have HZ:=Lib.hid (show hashP h p=List.take 4 p from HZ0.out)
     go_wp2_with fail
     have HCC:=Lib.hid (fun (a b:World) (ha:HshW w gh (hdC h (.slice Ao no co)) (.slice A7 4 c7) (.slice A9 4 c9') (.slice Ap m cp) (putF h.src 4) (putF h.dst 4) p a) (hb:Below a.heap.size a b)=>(ha.later hb:HshW w gh (hdC h (.slice Ao no co)) (.slice A7 4 c7) (.slice A9 4 c9') (.slice Ap m cp) (putF h.src 4) (putF h.dst 4) p b))
     refine wp_region_mix [(true,4),(false,1),(true,5),(false,4)] 1 (by kernel_rfl) (fun wx=>HshW w gh (hdC h (.slice Ao no co)) (.slice A7 4 c7) (.slice A9 4 c9') (.slice Ap m cp) (putF h.src 4) (putF h.dst 4) p wx) HCC.out (by kernel_rfl) S0.out (a':=?_) (fun wz hz=>?_) fun wz hz=>?_
     rotate_left
     ·have x1:=fun (dd:Nat) (os:Array Obj)=>ld_u8s ((hz.later (below_regrown wz dd os)).k.cell 7)
      have x2:∀ wx:World,(Instr.slice 61 (.slice Ap m cp) none (some (.int .i64 4)) none).run Tryz.prog wx=.ok (.slice Ap 4 cp) wx:=fun wx=>sl_hi Ap m cp wx 4 (by have:=HCP.out; omega)
      have x3:decide ((m:Int) < 4)=false:=d4
      clear hz
      simp only [pick_nil,pick_tt,pick_ft,List.take_succ_cons,List.take_zero,List.drop_succ_cons,List.drop_zero,List.append_nil,List.cons_append,List.nil_append]
      repeat (go_big_quiet_step (fail))
      refine wpQuiet_nil ?_
      rfl
     ·simp only [pick_nil,pick_ff,pick_tf,List.take_succ_cons,List.take_zero,List.drop_succ_cons,List.drop_zero,List.append_nil,List.cons_append,List.nil_append]
      have S1:=Lib.hid (HCC.out _ _ S0.out hz)
      clear hz
      refine wpMix_step S1.out fun wa ha=>?_
      obtain ⟨W1,hW1⟩:∃ W,W=wa.alloc (.cells #[.int .u8 (h.proto:Int)] 5):=⟨_,rfl⟩
      have hb1:Below wa.heap.size wa W1:=by rw [hW1]; exact (Below.refl _ _).alloc (Nat.le_refl _) _
      have S2:=Lib.hid (HCC.out _ _ (HCC.out _ _ S1.out ha) hb1)
      have K2:=Lib.hid (show Blk W1 wa.heap.size 5 #[.int .u8 (h.proto:Int)] by rw [hW1]; exact Blk.new _ _ _)
      have HW1:=Lib.hid hW1
      clear ha hb1 hW1
      go_wp2_with fail
      rw [← HW1.out]
      obtain ⟨gb,hgb⟩:∃ g,g=wa.heap.size:=⟨_,rfl⟩
      rw [← hgb] at K2 ⊢
      clear hgb HW1
      refine wpMix_step S2.out fun wb hb=>?_
      obtain ⟨W2,hW2⟩:∃ W,W=wb.alloc (.cells #[.slice A7 4 c7,.slice A9 4 c9',.slice (some ⟨gb,0,none⟩) 1 1,.slice Ap 4 cp] 61):=⟨_,rfl⟩
      have hb2:Below wb.heap.size wb W2:=by rw [hW2]; exact (Below.refl _ _).alloc (Nat.le_refl _) _
      have s3:=HCC.out _ _ (HCC.out _ _ S2.out hb) hb2
      have k3:Blk W2 gb 5 #[.int .u8 ((UInt8.ofNat h.proto).toNat:Int)]:=by
       have hp:(UInt8.ofNat h.proto).toNat=h.proto:=Nat.mod_eq_of_lt HOK.out.2.2.2.1
       rw [hp]
       exact (K2.out.below hb K2.out.lt).below hb2 (K2.out.below hb K2.out.lt).lt
      have r5:Sl8 W2 (fun _=>True) (.slice Ap 4 cp) (List.take 4 p):=cut4 s3.r5 (by have:=HCP.out; omega) h4m
      have hmx:=mixed_any (some ⟨wb.heap.size,0,none⟩) 4 4 [.slice A7 4 c7,.slice A9 4 c9',.slice (some ⟨gb,0,none⟩) 1 1,.slice Ap 4 cp] [putF h.src 4,putF h.dst 4,[UInt8.ofNat h.proto],List.take 4 p] _ W2 (by rw [hW2]; exact reads_lit wb 61 _ 4 1 (0,0) rfl) ⟨s3.r7,s3.r9,sl_row_new k3,r5,trivial⟩ (by have:=putF_len h.src 4; have:=putF_len h.dst 4; have:=List.length_take_le 4 p; simp only [List.flatten_cons,List.flatten_nil,List.length_append,List.length_cons,List.length_nil]; omega) (by omega)
      have hfl:[putF h.src 4,putF h.dst 4,[UInt8.ofNat h.proto],List.take 4 p].flatten=hashB h p:=by unfold hashB; rw [HZ.out]; simp [List.append_assoc]
      rw [hfl] at hmx
      have HMX:=Lib.hid hmx
      have HBB:=Lib.hid s3.bb
      have HW2:=Lib.hid hW2
      clear hb hb2 s3 k3 r5 hmx hfl hW2
      go_wp2_with fail
      rw [← HW2.out]
      refine wpMix_plain ?_
      go_wp2_with fail
      refine HMX.out.mono ?_
      rintro e w9 ⟨rfl,rfl⟩
      go_wp2_with fail
      go_ret2
      exact ⟨rfl,HBB.out⟩
 have e6:((h.proto:Int) != 6)=true:=by rw [bne_iff_ne]; omega
 by_cases h17:h.proto=17
 ·have e17:((h.proto:Int) != 17)=false:=by rw [bne_eq_false_iff_eq]; omega
  have H17:=Lib.hid h17
  clear h6 h17
  cases hfr:fragH h with
  | true =>
    rw [hfr] at HFR
    have HZ0:=Lib.hid (show hashP h p=[] by unfold hashP; rw [if_neg]; intro hh; have:=hh.2.1; rw [hfr] at this; cases this)
    clear hfr
    go_wp2_with fail
    refine HFR.out.mono ?_
    rintro e w5 ⟨rfl,hb5⟩
    have HB5:=Lib.hid hb5
    clear hb5 hl4 c7
    have S0:=Lib.hid (show HshW w gh (hdC h (.slice Ao no co)) (.slice A7 4 c7) (.slice A9 4 c9') (.slice none 0 0) (putF h.src 4) (putF h.dst 4) ([]:By) w5 from (HH4.out _ _ (HN.out _)).later HB5.out)
    have HZ:=Lib.hid (show hashP h p=List.take 0 ([]:By) from by rw [HZ0.out]; rfl)
    go_wp2_with fail
    have HCC:=Lib.hid (fun (a b:World) (ha:HshW w gh (hdC h (.slice Ao no co)) (.slice A7 4 c7) (.slice A9 4 c9') (.slice none 0 0) (putF h.src 4) (putF h.dst 4) ([]:By) a) (hb:Below a.heap.size a b)=>(ha.later hb:HshW w gh (hdC h (.slice Ao no co)) (.slice A7 4 c7) (.slice A9 4 c9') (.slice none 0 0) (putF h.src 4) (putF h.dst 4) ([]:By) b))
    refine wp_region_mix [(true,4),(false,1),(true,5),(false,4)] 1 (by kernel_rfl) (fun wx=>HshW w gh (hdC h (.slice Ao no co)) (.slice A7 4 c7) (.slice A9 4 c9') (.slice none 0 0) (putF h.src 4) (putF h.dst 4) ([]:By) wx) HCC.out (by kernel_rfl) S0.out (a':=?_) (fun wz hz=>?_) fun wz hz=>?_
    rotate_left
    ·have x1:=fun (dd:Nat) (os:Array Obj)=>ld_u8s ((hz.later (below_regrown wz dd os)).k.cell 7)
     have x2:=fun (wx:World)=>sl_hi none 0 0 wx 0 (Nat.le_refl _)
     clear hz
     simp only [pick_nil,pick_tt,pick_ft,List.take_succ_cons,List.take_zero,List.drop_succ_cons,List.drop_zero,List.append_nil,List.cons_append,List.nil_append]
     repeat (go_big_quiet_step (fail))
     refine wpQuiet_nil ?_
     rfl
    ·simp only [pick_nil,pick_ff,pick_tf,List.take_succ_cons,List.take_zero,List.drop_succ_cons,List.drop_zero,List.append_nil,List.cons_append,List.nil_append]
     have S1:=Lib.hid (HCC.out _ _ S0.out hz)
     clear hz
     refine wpMix_step S1.out fun wa ha=>?_
     obtain ⟨W1,hW1⟩:∃ W,W=wa.alloc (.cells #[.int .u8 (h.proto:Int)] 5):=⟨_,rfl⟩
     have hb1:Below wa.heap.size wa W1:=by rw [hW1]; exact (Below.refl _ _).alloc (Nat.le_refl _) _
     have S2:=Lib.hid (HCC.out _ _ (HCC.out _ _ S1.out ha) hb1)
     have K2:=Lib.hid (show Blk W1 wa.heap.size 5 #[.int .u8 (h.proto:Int)] by rw [hW1]; exact Blk.new _ _ _)
     have HW1:=Lib.hid hW1
     clear ha hb1 hW1
     go_wp2_with fail
     rw [← HW1.out]
     obtain ⟨gb,hgb⟩:∃ g,g=wa.heap.size:=⟨_,rfl⟩
     rw [← hgb] at K2 ⊢
     clear hgb HW1
     refine wpMix_step S2.out fun wb hb=>?_
     obtain ⟨W2,hW2⟩:∃ W,W=wb.alloc (.cells #[.slice A7 4 c7,.slice A9 4 c9',.slice (some ⟨gb,0,none⟩) 1 1,.slice none 0 0] 61):=⟨_,rfl⟩
     have hb2:Below wb.heap.size wb W2:=by rw [hW2]; exact (Below.refl _ _).alloc (Nat.le_refl _) _
     have s3:=HCC.out _ _ (HCC.out _ _ S2.out hb) hb2
     have k3:Blk W2 gb 5 #[.int .u8 ((UInt8.ofNat h.proto).toNat:Int)]:=by
      have hp:(UInt8.ofNat h.proto).toNat=h.proto:=Nat.mod_eq_of_lt HOK.out.2.2.2.1
      rw [hp]
      exact (K2.out.below hb K2.out.lt).below hb2 (K2.out.below hb K2.out.lt).lt
     have r5:Sl8 W2 (fun _=>True) (.slice none 0 0) (List.take 0 ([]:By)):=s3.r5
     have hmx:=mixed_any (some ⟨wb.heap.size,0,none⟩) 4 4 [.slice A7 4 c7,.slice A9 4 c9',.slice (some ⟨gb,0,none⟩) 1 1,.slice none 0 0] [putF h.src 4,putF h.dst 4,[UInt8.ofNat h.proto],List.take 0 ([]:By)] _ W2 (by rw [hW2]; exact reads_lit wb 61 _ 4 1 (0,0) rfl) ⟨s3.r7,s3.r9,sl_row_new k3,r5,trivial⟩ (by have:=putF_len h.src 4; have:=putF_len h.dst 4; have:=List.length_take_le 0 ([]:By); simp only [List.flatten_cons,List.flatten_nil,List.length_append,List.length_cons,List.length_nil]; omega) (by omega)
     have hfl:[putF h.src 4,putF h.dst 4,[UInt8.ofNat h.proto],List.take 0 ([]:By)].flatten=hashB h p:=by unfold hashB; rw [HZ.out]; simp [List.append_assoc]
     rw [hfl] at hmx
     have HMX:=Lib.hid hmx
     have HBB:=Lib.hid s3.bb
     have HW2:=Lib.hid hW2
     clear hb hb2 s3 k3 r5 hmx hfl hW2
     go_wp2_with fail
     rw [← HW2.out]
     refine wpMix_plain ?_
     go_wp2_with fail
     refine HMX.out.mono ?_
     rintro e w9 ⟨rfl,rfl⟩
     go_wp2_with fail
     go_ret2
     exact ⟨rfl,HBB.out⟩
  | false =>
    rw [hfr] at HFR
    have HFF:=Lib.hid hfr
    clear hfr
    by_cases h4:m < 4
    ·have d4:decide ((m:Int) < 4)=true:=decide_eq_true (by omega)
     have HZ0:=Lib.hid (show hashP h p=[] by unfold hashP; rw [if_neg]; intro hh; have:=hh.2.2; have:=HM.out; omega)
     clear h4
     go_wp2_with fail
     refine HFR.out.mono ?_
     rintro e w5 ⟨rfl,hb5⟩
     have HB5:=Lib.hid hb5
     clear hb5 hl4 c7
     have S0:=Lib.hid (show HshW w gh (hdC h (.slice Ao no co)) (.slice A7 4 c7) (.slice A9 4 c9') (.slice none 0 0) (putF h.src 4) (putF h.dst 4) ([]:By) w5 from (HH4.out _ _ (HN.out _)).later HB5.out)
     have HZ:=Lib.hid (show hashP h p=List.take 0 ([]:By) from by rw [HZ0.out]; rfl)
     go_wp2_with fail
     have HCC:=Lib.hid (fun (a b:World) (ha:HshW w gh (hdC h (.slice Ao no co)) (.slice A7 4 c7) (.slice A9 4 c9') (.slice none 0 0) (putF h.src 4) (putF h.dst 4) ([]:By) a) (hb:Below a.heap.size a b)=>(ha.later hb:HshW w gh (hdC h (.slice Ao no co)) (.slice A7 4 c7) (.slice A9 4 c9') (.slice none 0 0) (putF h.src 4) (putF h.dst 4) ([]:By) b))
     refine wp_region_mix [(true,4),(false,1),(true,5),(false,4)] 1 (by kernel_rfl) (fun wx=>HshW w gh (hdC h (.slice Ao no co)) (.slice A7 4 c7) (.slice A9 4 c9') (.slice none 0 0) (putF h.src 4) (putF h.dst 4) ([]:By) wx) HCC.out (by kernel_rfl) S0.out (a':=?_) (fun wz hz=>?_) fun wz hz=>?_
     rotate_left
     ·have x1:=fun (dd:Nat) (os:Array Obj)=>ld_u8s ((hz.later (below_regrown wz dd os)).k.cell 7)
      have x2:=fun (wx:World)=>sl_hi none 0 0 wx 0 (Nat.le_refl _)
      clear hz
      simp only [pick_nil,pick_tt,pick_ft,List.take_succ_cons,List.take_zero,List.drop_succ_cons,List.drop_zero,List.append_nil,List.cons_append,List.nil_append]
      repeat (go_big_quiet_step (fail))
      refine wpQuiet_nil ?_
      rfl
     ·simp only [pick_nil,pick_ff,pick_tf,List.take_succ_cons,List.take_zero,List.drop_succ_cons,List.drop_zero,List.append_nil,List.cons_append,List.nil_append]
      have S1:=Lib.hid (HCC.out _ _ S0.out hz)
      clear hz
      refine wpMix_step S1.out fun wa ha=>?_
      obtain ⟨W1,hW1⟩:∃ W,W=wa.alloc (.cells #[.int .u8 (h.proto:Int)] 5):=⟨_,rfl⟩
      have hb1:Below wa.heap.size wa W1:=by rw [hW1]; exact (Below.refl _ _).alloc (Nat.le_refl _) _
      have S2:=Lib.hid (HCC.out _ _ (HCC.out _ _ S1.out ha) hb1)
      have K2:=Lib.hid (show Blk W1 wa.heap.size 5 #[.int .u8 (h.proto:Int)] by rw [hW1]; exact Blk.new _ _ _)
      have HW1:=Lib.hid hW1
      clear ha hb1 hW1
      go_wp2_with fail
      rw [← HW1.out]
      obtain ⟨gb,hgb⟩:∃ g,g=wa.heap.size:=⟨_,rfl⟩
      rw [← hgb] at K2 ⊢
      clear hgb HW1
      refine wpMix_step S2.out fun wb hb=>?_
      obtain ⟨W2,hW2⟩:∃ W,W=wb.alloc (.cells #[.slice A7 4 c7,.slice A9 4 c9',.slice (some ⟨gb,0,none⟩) 1 1,.slice none 0 0] 61):=⟨_,rfl⟩
      have hb2:Below wb.heap.size wb W2:=by rw [hW2]; exact (Below.refl _ _).alloc (Nat.le_refl _) _
      have s3:=HCC.out _ _ (HCC.out _ _ S2.out hb) hb2
      have k3:Blk W2 gb 5 #[.int .u8 ((UInt8.ofNat h.proto).toNat:Int)]:=by
       have hp:(UInt8.ofNat h.proto).toNat=h.proto:=Nat.mod_eq_of_lt HOK.out.2.2.2.1
       rw [hp]
       exact (K2.out.below hb K2.out.lt).below hb2 (K2.out.below hb K2.out.lt).lt
      have r5:Sl8 W2 (fun _=>True) (.slice none 0 0) (List.take 0 ([]:By)):=s3.r5
      have hmx:=mixed_any (some ⟨wb.heap.size,0,none⟩) 4 4 [.slice A7 4 c7,.slice A9 4 c9',.slice (some ⟨gb,0,none⟩) 1 1,.slice none 0 0] [putF h.src 4,putF h.dst 4,[UInt8.ofNat h.proto],List.take 0 ([]:By)] _ W2 (by rw [hW2]; exact reads_lit wb 61 _ 4 1 (0,0) rfl) ⟨s3.r7,s3.r9,sl_row_new k3,r5,trivial⟩ (by have:=putF_len h.src 4; have:=putF_len h.dst 4; have:=List.length_take_le 0 ([]:By); simp only [List.flatten_cons,List.flatten_nil,List.length_append,List.length_cons,List.length_nil]; omega) (by omega)
      have hfl:[putF h.src 4,putF h.dst 4,[UInt8.ofNat h.proto],List.take 0 ([]:By)].flatten=hashB h p:=by unfold hashB; rw [HZ.out]; simp [List.append_assoc]
      rw [hfl] at hmx
      have HMX:=Lib.hid hmx
      have HBB:=Lib.hid s3.bb
      have HW2:=Lib.hid hW2
      clear hb hb2 s3 k3 r5 hmx hfl hW2
      go_wp2_with fail
      rw [← HW2.out]
      refine wpMix_plain ?_
      go_wp2_with fail
      refine HMX.out.mono ?_
      rintro e w9 ⟨rfl,rfl⟩
      go_wp2_with fail
      go_ret2
      exact ⟨rfl,HBB.out⟩
    ·have d4:decide ((m:Int) < 4)=false:=decide_eq_false (by omega)
     have h4m:4≤m:=by omega
     have HZ0:=Lib.hid (show hashP h p=p.take 4 by unfold hashP; rw [if_pos ⟨.inr H17.out,HFF.out,by have:=HM.out; omega⟩])
     clear h4
     go_wp2_with fail
     refine HFR.out.mono ?_
     rintro e w5 ⟨rfl,hb5⟩
     have HB5:=Lib.hid hb5
     clear hb5 hl4 c7
     have S0:=Lib.hid (show HshW w gh (hdC h (.slice Ao no co)) (.slice A7 4 c7) (.slice A9 4 c9') (.slice Ap m cp) (putF h.src 4) (putF h.dst 4) p w5 from (HH4.out _ _ HP4.out).later HB5.out)
     have HZ:=Lib.hid (show hashP h p=List.take 4 p from HZ0.out)
     go_wp2_with fail
     have HCC:=Lib.hid (fun (a b:World) (ha:HshW w gh (hdC h (.slice Ao no co)) (.slice A7 4 c7) (.slice A9 4 c9') (.slice Ap m cp) (putF h.src 4) (putF h.dst 4) p a) (hb:Below a.heap.size a b)=>(ha.later hb:HshW w gh (hdC h (.slice Ao no co)) (.slice A7 4 c7) (.slice A9 4 c9') (.slice Ap m cp) (putF h.src 4) (putF h.dst 4) p b))
     refine wp_region_mix [(true,4),(false,1),(true,5),(false,4)] 1 (by kernel_rfl) (fun wx=>HshW w gh (hdC h (.slice Ao no co)) (.slice A7 4 c7) (.slice A9 4 c9') (.slice Ap m cp) (putF h.src 4) (putF h.dst 4) p wx) HCC.out (by kernel_rfl) S0.out (a':=?_) (fun wz hz=>?_) fun wz hz=>?_
     rotate_left
     ·have x1:=fun (dd:Nat) (os:Array Obj)=>ld_u8s ((hz.later (below_regrown wz dd os)).k.cell 7)
      have x2:∀ wx:World,(Instr.slice 61 (.slice Ap m cp) none (some (.int .i64 4)) none).run Tryz.prog wx=.ok (.slice Ap 4 cp) wx:=fun wx=>sl_hi Ap m cp wx 4 (by have:=HCP.out; omega)
      have x3:decide ((m:Int) < 4)=false:=d4
      clear hz
      simp only [pick_nil,pick_tt,pick_ft,List.take_succ_cons,List.take_zero,List.drop_succ_cons,List.drop_zero,List.append_nil,List.cons_append,List.nil_append]
      repeat (go_big_quiet_step (fail))
      refine wpQuiet_nil ?_
      rfl
     ·simp only [pick_nil,pick_ff,pick_tf,List.take_succ_cons,List.take_zero,List.drop_succ_cons,List.drop_zero,List.append_nil,List.cons_append,List.nil_append]
      have S1:=Lib.hid (HCC.out _ _ S0.out hz)
      clear hz
      refine wpMix_step S1.out fun wa ha=>?_
      obtain ⟨W1,hW1⟩:∃ W,W=wa.alloc (.cells #[.int .u8 (h.proto:Int)] 5):=⟨_,rfl⟩
      have hb1:Below wa.heap.size wa W1:=by rw [hW1]; exact (Below.refl _ _).alloc (Nat.le_refl _) _
      have S2:=Lib.hid (HCC.out _ _ (HCC.out _ _ S1.out ha) hb1)
      have K2:=Lib.hid (show Blk W1 wa.heap.size 5 #[.int .u8 (h.proto:Int)] by rw [hW1]; exact Blk.new _ _ _)
      have HW1:=Lib.hid hW1
      clear ha hb1 hW1
      go_wp2_with fail
      rw [← HW1.out]
      obtain ⟨gb,hgb⟩:∃ g,g=wa.heap.size:=⟨_,rfl⟩
      rw [← hgb] at K2 ⊢
      clear hgb HW1
      refine wpMix_step S2.out fun wb hb=>?_
      obtain ⟨W2,hW2⟩:∃ W,W=wb.alloc (.cells #[.slice A7 4 c7,.slice A9 4 c9',.slice (some ⟨gb,0,none⟩) 1 1,.slice Ap 4 cp] 61):=⟨_,rfl⟩
      have hb2:Below wb.heap.size wb W2:=by rw [hW2]; exact (Below.refl _ _).alloc (Nat.le_refl _) _
      have s3:=HCC.out _ _ (HCC.out _ _ S2.out hb) hb2
      have k3:Blk W2 gb 5 #[.int .u8 ((UInt8.ofNat h.proto).toNat:Int)]:=by
       have hp:(UInt8.ofNat h.proto).toNat=h.proto:=Nat.mod_eq_of_lt HOK.out.2.2.2.1
       rw [hp]
       exact (K2.out.below hb K2.out.lt).below hb2 (K2.out.below hb K2.out.lt).lt
      have r5:Sl8 W2 (fun _=>True) (.slice Ap 4 cp) (List.take 4 p):=cut4 s3.r5 (by have:=HCP.out; omega) h4m
      have hmx:=mixed_any (some ⟨wb.heap.size,0,none⟩) 4 4 [.slice A7 4 c7,.slice A9 4 c9',.slice (some ⟨gb,0,none⟩) 1 1,.slice Ap 4 cp] [putF h.src 4,putF h.dst 4,[UInt8.ofNat h.proto],List.take 4 p] _ W2 (by rw [hW2]; exact reads_lit wb 61 _ 4 1 (0,0) rfl) ⟨s3.r7,s3.r9,sl_row_new k3,r5,trivial⟩ (by have:=putF_len h.src 4; have:=putF_len h.dst 4; have:=List.length_take_le 4 p; simp only [List.flatten_cons,List.flatten_nil,List.length_append,List.length_cons,List.length_nil]; omega) (by omega)
      have hfl:[putF h.src 4,putF h.dst 4,[UInt8.ofNat h.proto],List.take 4 p].flatten=hashB h p:=by unfold hashB; rw [HZ.out]; simp [List.append_assoc]
      rw [hfl] at hmx
      have HMX:=Lib.hid hmx
      have HBB:=Lib.hid s3.bb
      have HW2:=Lib.hid hW2
      clear hb hb2 s3 k3 r5 hmx hfl hW2
      go_wp2_with fail
      rw [← HW2.out]
      refine wpMix_plain ?_
      go_wp2_with fail
      refine HMX.out.mono ?_
      rintro e w9 ⟨rfl,rfl⟩
      go_wp2_with fail
      go_ret2
      exact ⟨rfl,HBB.out⟩
 have e17:((h.proto:Int) != 17)=true:=by rw [bne_iff_ne]; omega
 have HZ0:=Lib.hid (show hashP h p=[] by unfold hashP; rw [if_neg]; intro hh; rcases hh.1 with hh | hh; exact h6 hh; exact h17 hh)
 clear h6 h17
 go_upto_region 7 with (fail)
 clear hl4 c7
 have S0:=Lib.hid (show HshW w gh (hdC h (.slice Ao no co)) (.slice A7 4 c7) (.slice A9 4 c9') (.slice none 0 0) (putF h.src 4) (putF h.dst 4) ([]:By) w4 from HH4.out _ _ (HN.out _))
 have HZ:=Lib.hid (show hashP h p=List.take 0 ([]:By) from by rw [HZ0.out]; rfl)
 go_wp2_with fail
 have HCC:=Lib.hid (fun (a b:World) (ha:HshW w gh (hdC h (.slice Ao no co)) (.slice A7 4 c7) (.slice A9 4 c9') (.slice none 0 0) (putF h.src 4) (putF h.dst 4) ([]:By) a) (hb:Below a.heap.size a b)=>(ha.later hb:HshW w gh (hdC h (.slice Ao no co)) (.slice A7 4 c7) (.slice A9 4 c9') (.slice none 0 0) (putF h.src 4) (putF h.dst 4) ([]:By) b))
 refine wp_region_mix [(true,4),(false,1),(true,5),(false,4)] 1 (by kernel_rfl) (fun wx=>HshW w gh (hdC h (.slice Ao no co)) (.slice A7 4 c7) (.slice A9 4 c9') (.slice none 0 0) (putF h.src 4) (putF h.dst 4) ([]:By) wx) HCC.out (by kernel_rfl) S0.out (a':=?_) (fun wz hz=>?_) fun wz hz=>?_
 rotate_left
 ·have x1:=fun (dd:Nat) (os:Array Obj)=>ld_u8s ((hz.later (below_regrown wz dd os)).k.cell 7)
  have x2:=fun (wx:World)=>sl_hi none 0 0 wx 0 (Nat.le_refl _)
  clear hz
  simp only [pick_nil,pick_tt,pick_ft,List.take_succ_cons,List.take_zero,List.drop_succ_cons,List.drop_zero,List.append_nil,List.cons_append,List.nil_append]
  repeat (go_big_quiet_step (fail))
  refine wpQuiet_nil ?_
  rfl
 ·simp only [pick_nil,pick_ff,pick_tf,List.take_succ_cons,List.take_zero,List.drop_succ_cons,List.drop_zero,List.append_nil,List.cons_append,List.nil_append]
  have S1:=Lib.hid (HCC.out _ _ S0.out hz)
  clear hz
  refine wpMix_step S1.out fun wa ha=>?_
  obtain ⟨W1,hW1⟩:∃ W,W=wa.alloc (.cells #[.int .u8 (h.proto:Int)] 5):=⟨_,rfl⟩
  have hb1:Below wa.heap.size wa W1:=by rw [hW1]; exact (Below.refl _ _).alloc (Nat.le_refl _) _
  have S2:=Lib.hid (HCC.out _ _ (HCC.out _ _ S1.out ha) hb1)
  have K2:=Lib.hid (show Blk W1 wa.heap.size 5 #[.int .u8 (h.proto:Int)] by rw [hW1]; exact Blk.new _ _ _)
  have HW1:=Lib.hid hW1
  clear ha hb1 hW1
  go_wp2_with fail
  rw [← HW1.out]
  obtain ⟨gb,hgb⟩:∃ g,g=wa.heap.size:=⟨_,rfl⟩
  rw [← hgb] at K2 ⊢
  clear hgb HW1
  refine wpMix_step S2.out fun wb hb=>?_
  obtain ⟨W2,hW2⟩:∃ W,W=wb.alloc (.cells #[.slice A7 4 c7,.slice A9 4 c9',.slice (some ⟨gb,0,none⟩) 1 1,.slice none 0 0] 61):=⟨_,rfl⟩
  have hb2:Below wb.heap.size wb W2:=by rw [hW2]; exact (Below.refl _ _).alloc (Nat.le_refl _) _
  have s3:=HCC.out _ _ (HCC.out _ _ S2.out hb) hb2
  have k3:Blk W2 gb 5 #[.int .u8 ((UInt8.ofNat h.proto).toNat:Int)]:=by
   have hp:(UInt8.ofNat h.proto).toNat=h.proto:=Nat.mod_eq_of_lt HOK.out.2.2.2.1
   rw [hp]
   exact (K2.out.below hb K2.out.lt).below hb2 (K2.out.below hb K2.out.lt).lt
  have r5:Sl8 W2 (fun _=>True) (.slice none 0 0) (List.take 0 ([]:By)):=s3.r5
  have hmx:=mixed_any (some ⟨wb.heap.size,0,none⟩) 4 4 [.slice A7 4 c7,.slice A9 4 c9',.slice (some ⟨gb,0,none⟩) 1 1,.slice none 0 0] [putF h.src 4,putF h.dst 4,[UInt8.ofNat h.proto],List.take 0 ([]:By)] _ W2 (by rw [hW2]; exact reads_lit wb 61 _ 4 1 (0,0) rfl) ⟨s3.r7,s3.r9,sl_row_new k3,r5,trivial⟩ (by have:=putF_len h.src 4; have:=putF_len h.dst 4; have:=List.length_take_le 0 ([]:By); simp only [List.flatten_cons,List.flatten_nil,List.length_append,List.length_cons,List.length_nil]; omega) (by omega)
  have hfl:[putF h.src 4,putF h.dst 4,[UInt8.ofNat h.proto],List.take 0 ([]:By)].flatten=hashB h p:=by unfold hashB; rw [HZ.out]; simp [List.append_assoc]
  rw [hfl] at hmx
  have HMX:=Lib.hid hmx
  have HBB:=Lib.hid s3.bb
  have HW2:=Lib.hid hW2
  clear hb hb2 s3 k3 r5 hmx hfl hW2
  go_wp2_with fail
  rw [← HW2.out]
  refine wpMix_plain ?_
  go_wp2_with fail
  refine HMX.out.mono ?_
  rintro e w9 ⟨rfl,rfl⟩
  go_wp2_with fail
  go_ret2
  exact ⟨rfl,HBB.out⟩
end Go.Proofs.YthlommalbkhcjaaGreat
