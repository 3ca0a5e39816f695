/- Layer 18: what stands when a judgement was asked. -/
import Derived.Test.YthlommalbkhcjaaGreatNq52
import Derived.Test.YthlommalbkhcjaaGreatNq41
import Derived.Test.YthlommalbkhcjaaGreatNq27
import Derived.Test.YthlommalbkhcjaaGreatNq44
import Derived.Lib.SlBytesConst
namespace Go.Proofs.YthlommalbkhcjaaGreat
open Go.RowKit Go.Sort Go.BigFrame
def knX:By:=[112,97,121,108,111,97,100]
theorem sl_none (w:World) (I:Nat→Prop):Sl8 w I (.slice none 0 0) []:=⟨none,0,rfl,Nat.le_refl _,rfl,fun h=>absurd h (by decide)⟩
theorem kn_bytes (t:Nat) (ht:t < 256) (vp:Value) (p:By) (I:Nat→Prop) (w:World) (hp:Sl8 w I vp p) (hl:p.length≤65515) :
  Calls Tryz.prog 63 #[.agg #[.int .u8 0,.int .u16 0,.bool false,.bool false,.bool false,.int .i64 0,.int .u8 (t:Int),.int .u8 17,.int .u32 184549381,.int .u32 201326597,.slice none 0 0],vp] w fun e w'=>∃ v,e=.returned v∧Row8 w.heap.size w' v (bytesF (kh t) p)∧Below w.heap.size w w' :=
 rbytes_any (kh t) (.slice none 0 0) vp p I w (sl_none _ _) hp (kh_ok ht) (kh_fits t hl)
theorem mk8_new (n:Nat) (hn:n≤100000) (w:World):(Instr.makeSlice 61 (.int .i64 (n:Int)) (.int .i64 (n:Int))).run Tryz.prog w=.ok (.slice (some ⟨w.heap.size,0,none⟩) n n) (w.alloc (.cells (madeCells #[.int .u8 0] n) 5)) ∧
  Row8 w.heap.size (w.alloc (.cells (madeCells #[.int .u8 0] n) 5)) (.slice (some ⟨w.heap.size,0,none⟩) n n) (List.replicate n 0):=by
 refine ⟨run_make_row' 61 5 _ 1 Tryz.underlying61 (by kernel_rfl) rfl .i64 .i64 n (by omega) (by omega) w,?_⟩
 have:=row8_lit w (List.replicate n 0) (madeCells #[.int .u8 0] n) (by rw [List.length_replicate]; omega) (by rw [toList_madeCells_one]; unfold bytesV; rw [List.map_replicate]; rfl)
 rw [List.length_replicate] at this
 exact this
set_option maxRecDepth 100000 in
set_option maxHeartbeats 16000000 in
attribute [-go_sem] Instr.storeAt Instr.loadAt Instr.build in
theorem known18_any (w:World):Calls Tryz.prog 26 #[] w fun e w'=>e=.returned (.bool true)∧Below w.heap.size w w':=by
 have b1:=fun wx:World=>(show (Instr.build 76 #[(6,.int .u8 1),(7,.int .u8 17),(8,.int .u32 184549381),(9,.int .u32 201326597)]).run Tryz.prog wx=.ok (.agg #[.int .u8 0,.int .u16 0,.bool false,.bool false,.bool false,.int .i64 0,.int .u8 1,.int .u8 17,.int .u32 184549381,.int .u32 201326597,.slice none 0 0]) wx by kernel_rfl)
 have b9:=fun wx:World=>(show (Instr.build 76 #[(6,.int .u8 9),(7,.int .u8 17),(8,.int .u32 184549381),(9,.int .u32 201326597)]).run Tryz.prog wx=.ok (.agg #[.int .u8 0,.int .u16 0,.bool false,.bool false,.bool false,.int .i64 0,.int .u8 9,.int .u8 17,.int .u32 184549381,.int .u32 201326597,.slice none 0 0]) wx by kernel_rfl)
 go_enter Tryz.func26,Tryz.ntmps26
 go_wp2_with fail
 refine (simple_any w).mono ?_
 rintro e w1 ⟨Ar,Am,A,B,rfl,hr1,hm1,hb1⟩
 obtain ⟨w2,hst,hb2,hk2⟩:∃ w2,(Instr.storeAt 60 (.pointer (some ⟨w1.heap.size,0,none⟩)) (.agg (askV Ar 3 3 167772161 Am 2 2 5))).run Tryz.prog (w1.alloc (.cells #[.slice none 0 0,.int .u32 0,.slice none 0 0,.int .i64 0] 60))=.ok () w2∧Below w1.heap.size w1 w2∧Blk w2 w1.heap.size 60 (askV Ar 3 3 167772161 Am 2 2 5) :=
  ⟨_,stc_store ask_info (Blk.new w1 _ _) rfl rfl (by simp [askV,Value.oneCell']),below_setCells (Nat.le_refl _) _ _ _ ((Below.refl _ _).alloc (Nat.le_refl _) _),blk_setCells (Blk.new w1 _ _) rfl⟩
 have hld:=stc_load Tryz.underlying60 rfl ask_info hk2 rfl
 unfold askV at hst hld
 unfold askV
 go_upto_region 2 with (fail)
 obtain ⟨ga,hga⟩:∃ g,g=w1.heap.size:=⟨_,rfl⟩
 rw [← hga] at hk2 hld ⊢
 have hr2:RtsM w2 (fun k=>k < w2.heap.size) Ar 3 [sr1,sr2 A,sr3 B]:=(hr1.keep (Same.ofBelow hb2 fun k hk=>hk.2)).mono fun k hk=>Nat.lt_of_lt_of_le hk.2 hb2.size
 have hl:=laid18_any (dcL_ok [sr1,sr2 A,sr3 B]) vk Ar 3 3 _ 167772161 Am 2 2 5 w2 hr2 (by decide) (fun i r h hm=>dcL_at i r h hm) ⟨by decide,by decide⟩
 rw [mk_simple] at hl
 have HL:Hid (Calls Tryz.prog 27 #[.agg #[.slice Ar 3 3,.int .u32 167772161,.slice Am 2 2,.int .i64 5]] w2 (LdPost (dcL [sr1,sr2 A,sr3 B]) w2 (some sT) 5)):=Lib.hid hl
 have HM1:=Lib.hid hm1
 have HB1:=Lib.hid hb1
 have HB2:=Lib.hid hb2
 have HK2:=Lib.hid hk2
 clear hst hl hr2 hm1 hb1 hb2 hk2 hr1 hga
 go_wp2_with fail
 refine HL.out.mono ?_
 rintro e w3 ⟨fb,bb,rfl,hm3⟩
 obtain ⟨pk,hpk⟩:∃ pk,pk=pkF (wkL [sr1,sr2 A,sr3 B]) sT:=⟨_,rfl⟩
 have hp0:PkPos pk:=by rw [hpk]; exact pk_pos _ _
 have hks:(∀ u,pk 184549381 u=(3,0))∧∀ u,pk 201326597 u=(3,1):=by rw [hpk]; exact simple_pk A B
 have hk3:KnC w w3 ga fb bb Ar Am pk 5:=by
  have hb12:=HB2.out.trans (hm3.bl.mono HB2.out.size)
  refine ⟨HK2.out.below hm3.bl HK2.out.lt,⟨?_,?_,by show 2≤8; decide,by show 167772161 < 2 ^ 32; decide,?_⟩,hm3.bk,HB1.out.trans (hb12.mono HB1.out.size),Nat.le_trans HB1.out.size (Nat.le_trans HB2.out.size hm3.bb)⟩
  ·obtain ⟨M,tb,lim,h1,h2,h3⟩:=hm3.ex
   exact ⟨dcL [sr1,sr2 A,sr3 B],wkL [sr1,sr2 A,sr3 B],sT,M,tb,lim,dcL_ok _,dcL_wk _,h1,by rw [sT_len]; decide,⟨h2,h3⟩,hpk⟩
  ·have h9:=Nat.le_trans HB2.out.size hm3.bb
   exact (HM1.out.keep (Same.ofBelow hb12 fun k hk=>hk.2)).mono fun k hk=>⟨Nat.lt_of_lt_of_le hk.2 hb12.size,by show k≠bb; omega⟩
  ·intro m hm
   have:m=1500∨m=600:=by simpa [knE] using hm
   omega
 have hx:=known_x hks.1 hks.2 (p:=knX) rfl
 have hy:=known_y hks.2 (p:=List.replicate 1380 0) (List.length_replicate ..)
 have HK3:=Lib.hid hk3
 have HP0:=Lib.hid hp0
 have HX:=Lib.hid hx
 have HY:=Lib.hid hy
 clear HL HM1 HB1 HB2 HK2 hm3 hpk hp0 hks hk3 hx hy hld
 go_upto_region 3 with (fail)
 obtain ⟨W4,hW4⟩:∃ W,W=w3.alloc (.cells #[.int .u8 112,.int .u8 97,.int .u8 121,.int .u8 108,.int .u8 111,.int .u8 97,.int .u8 100] 5 (7,8)):=⟨_,rfl⟩
 have hr4:Sl8 W4 (fun _=>True) (.slice (some ⟨w3.heap.size,0,none⟩) 7 7) knX:=by
  rw [hW4]
  exact ⟨some ⟨w3.heap.size,0,none⟩,7,rfl,by decide,(reads_lit w3 5 #[.int .u8 112,.int .u8 97,.int .u8 121,.int .u8 108,.int .u8 111,.int .u8 97,.int .u8 100] 7 1 (7,8) rfl).mono (fun _ _=>trivial)⟩
 have hb4:Below w3.heap.size w3 W4:=by rw [hW4]; exact (Below.refl _ _).alloc (Nat.le_refl _) _
 have cv:=Lib.run_convert_bytes_const (P:=Tryz.prog) w3 61 5 #[.int .u8 112,.int .u8 97,.int .u8 121,.int .u8 108,.int .u8 111,.int .u8 97,.int .u8 100] 7 7 Tryz.underlying61 Tryz.underlying5
 rw [show w3.alloc (.cells #[.int .u8 112,.int .u8 97,.int .u8 121,.int .u8 108,.int .u8 111,.int .u8 97,.int .u8 100] 5 ((#[.int .u8 112,.int .u8 97,.int .u8 121,.int .u8 108,.int .u8 111,.int .u8 97,.int .u8 100]:Array Value).size,(#[.int .u8 112,.int .u8 97,.int .u8 121,.int .u8 108,.int .u8 111,.int .u8 97,.int .u8 100]:Array Value).size+1))=W4 from hW4.symm] at cv
 have HRB:=Lib.hid (show Calls Tryz.prog 63 #[.agg #[.int .u8 0,.int .u16 0,.bool false,.bool false,.bool false,.int .i64 0,.int .u8 1,.int .u8 17,.int .u32 184549381,.int .u32 201326597,.slice none 0 0],.slice (some ⟨w3.heap.size,0,none⟩) 7 7] W4 fun e w'=>∃ v,e=.returned v∧Row8 W4.heap.size w' v (bytesF (kh 1) knX)∧Below W4.heap.size W4 w' from kn_bytes 1 (by decide) _ knX _ W4 hr4 (by decide))
 have HK4:=Lib.hid (HK3.out.below hb4)
 have HBB:=Lib.hid (show bb < W4.heap.size from Blk.lt HK4.out.bk)
 have hxl:(bytesF (kh 1) knX).length=27:=by rw [kh_len]; rfl
 obtain ⟨P,hP⟩:∃ P,P=bytesF (kh 1) knX:=⟨_,rfl⟩
 rw [← hP] at HRB HX hxl
 have HXL:=Lib.hid hxl
 clear hr4 hb4 hW4 hP hxl HK3
 go_upto_region 4 with
  (go_at_call 63
   refine HRB.out.mono ?_
   rintro e w5 ⟨v5,rfl,h5,hb5⟩
   obtain ⟨A5,c5,rfl,hc5⟩:=h5.form
   rw [HXL.out]
   have H5:=Lib.hid h5
   have HK5:=Lib.hid (HK4.out.below hb5)
   have HB5:=Lib.hid hb5
   clear h5 hb5 hc5)
 clear cv b1 HRB HK4
 rw [HXL.out] at H5
 obtain ⟨W6,hW6⟩:∃ W,W=w5.alloc (.cells (madeCells #[.int .u8 0] 1380) 5):=⟨_,rfl⟩
 have hr6:Row8 w5.heap.size W6 (.slice (some ⟨w5.heap.size,0,none⟩) 1380 1380) (List.replicate 1380 0):=by
  rw [hW6]
  exact (mk8_new 1380 (by decide) w5).2
 have hb6:Below w5.heap.size w5 W6:=by rw [hW6]; exact (Below.refl _ _).alloc (Nat.le_refl _) _
 have hm6:(Instr.makeSlice 61 (.int .i64 1380) (.int .i64 1380)).run Tryz.prog w5=.ok (.slice (some ⟨w5.heap.size,0,none⟩) 1380 1380) (w5.alloc (.cells (madeCells #[.int .u8 0] 1380) 5)):=(mk8_new 1380 (by decide) w5).1
 rw [← hW6] at hm6
 have HRC:=Lib.hid (show Calls Tryz.prog 63 #[.agg #[.int .u8 0,.int .u16 0,.bool false,.bool false,.bool false,.int .i64 0,.int .u8 9,.int .u8 17,.int .u32 184549381,.int .u32 201326597,.slice none 0 0],.slice (some ⟨w5.heap.size,0,none⟩) 1380 1380] W6 fun e w'=>∃ v,e=.returned v∧Row8 W6.heap.size w' v (bytesF (kh 9) (List.replicate 1380 0))∧Below W6.heap.size W6 w' from kn_bytes 9 (by decide) _ (List.replicate 1380 0) _ W6 (row_sl hr6) (by rw [List.length_replicate]; decide))
 have HK6:=Lib.hid (HK5.out.below hb6)
 have H6:=Lib.hid (Row8.below H5.out hb6)
 have hyl:(bytesF (kh 9) (List.replicate 1380 0)).length=1400:=by rw [kh_len,List.length_replicate]
 obtain ⟨Q,hQ⟩:∃ Q,Q=bytesF (kh 9) (List.replicate 1380 0):=⟨_,rfl⟩
 rw [← hQ] at HRC HY hyl
 have HYL:=Lib.hid hyl
 have HS6:=Lib.hid (Nat.le_trans HB5.out.size hb6.size)
 clear hr6 hb6 hW6 hQ hyl H5 HK5
 go_upto_region 5 with
  (go_at_call 63
   refine HRC.out.mono ?_
   rintro e w7 ⟨v7,rfl,h7,hb7⟩
   obtain ⟨A7,c7,rfl,hc7⟩:=h7.form
   rw [HYL.out]
   have h7':Row8 W4.heap.size w7 (.slice A7 Q.length c7) Q:=own_base h7 HS6.out
   have H7:=Lib.hid h7'
   have HP7:=Lib.hid (Row8.below H6.out hb7)
   have HK7:=Lib.hid (HK6.out.below hb7)
   clear h7 h7' hb7 hc7)
 clear hm6 b9 HRC HK6 H6 HS6 HB5
 rw [HYL.out] at H7
 obtain ⟨y,hy⟩:=HX.out
 obtain ⟨a,b,c,hz,hal⟩:=HY.out
 have hnb:∀ {A:Option Addr} {n c:Nat} {x:By},Row8 W4.heap.size w7 (.slice A n c) x→∀ k,(Value.slice A n c).ownBlock=some k→k≠bb:=fun hr k hk e=>by
  have:=(own_lt hr hk).1
  have:=HBB.out
  omega
 have hwb:w.heap.size≤W4.heap.size:=Nat.le_trans HK7.out.nb (Nat.le_of_lt HBB.out)
 have hj1:=kn_judge_any HP0.out HK7.out ⟨by decide,by decide⟩ (own_base HP7.out hwb) (hnb HP7.out) (by decide)
 rw [hy] at hj1
 have HJ1:=Lib.hid (hj1.mono fun e w' ⟨lv,ov,h1,h2,h3,_,h5,h6⟩=>(⟨lv,ov,h1,h2,h3,h5,h6⟩:∃ lv ov,e=Ending.returned (.tuple #[.agg #[.int .i64 0,.int .i64 3,lv,ov],.int .i64 0])∧Upd (fun k=>k=bb) w7 w'∧IsBk w' bb 64 1 4 0∧Rows8 w7.heap.size w' lv []∧Snts w7.heap.size w' ov [(0,y)]))
 have HWB:=Lib.hid hwb
 have HNB:=Lib.hid (hnb H7.out)
 have l1:=ld_adr (show w7.cell? ⟨ga,1,none⟩=some (.int .u32 167772161) from HK7.out.ak.cell 1)
 have l2:=ld_ints (show w7.cell? ⟨ga,2,none⟩=some (.slice Am 2 2) from HK7.out.ak.cell 2)
 clear hy hj1 hnb hwb
 go_wp2_with fail
 refine HJ1.out.mono ?_
 rintro e w8 ⟨lv,ov,rfl,hu8,hk8,hl8,ho8⟩
 obtain ⟨w9,hst,hb9,hg9⟩:=ft_var w8 hl8 ho8 0 3
 have HK9:=Lib.hid ((HK7.out.turn hu8 hk8).below hb9)
 have HQ9:=Lib.hid (own_below (own_turn H7.out hu8 HBB.out) hb9)
 have HO9:=Lib.hid (ho8.below hb9)
 have HS9:=Lib.hid (show bb < w7.heap.size from Blk.lt HK7.out.bk)
 have HWB9:=Lib.hid (Nat.le_trans hu8.size hb9.size)
 clear l1 l2 hu8 hk8 hl8 ho8 hb9
 go_upto_region 6 with (fail)
 obtain ⟨gx,hgx⟩:∃ g,g=w8.heap.size:=⟨_,rfl⟩
 rw [← hgx] at hg9 ⊢
 have HG9:=Lib.hid hg9
 have l1:=ld_adr (show w9.cell? ⟨ga,1,none⟩=some (.int .u32 167772161) from HK9.out.ak.cell 1)
 have l2:=ld_ints (show w9.cell? ⟨ga,2,none⟩=some (.slice Am 2 2) from HK9.out.ak.cell 2)
 have hj2:=kn_judge_any HP0.out HK9.out ⟨by decide,by decide⟩ (own_base HQ9.out HWB.out) HNB.out (by decide)
 rw [hz] at hj2
 have HJ2:=Lib.hid (hj2.mono fun e w' ⟨lv,ov,h1,h2,h3,_,h5,h6⟩=>(⟨lv,ov,h1,h2,h3,h5,h6⟩:∃ lv ov,e=Ending.returned (.tuple #[.agg #[.int .i64 0,.int .i64 0,lv,ov],.int .i64 0])∧Upd (fun k=>k=bb) w9 w'∧IsBk w' bb 64 1 4 0∧Rows8 w9.heap.size w' lv []∧Snts w9.heap.size w' ov [(1,a),(1,b),(1,c)]))
 clear hst hg9 hgx hz hj2 HJ1 HNB
 go_wp2_with fail
 refine HJ2.out.mono ?_
 rintro e wa ⟨lv2,ov2,rfl,hua,hka,hla,hoa⟩
 obtain ⟨wb,hst,hbb,hgb⟩:=ft_var wa hla hoa 0 0
 have HKB:=Lib.hid ((HK9.out.turn hua hka).below hbb)
 have HO1:=Lib.hid ((HO9.out.turn hua HS9.out).below hbb)
 have HO2:=Lib.hid (hoa.below hbb)
 have HGX:=Lib.hid ((HG9.out.upd hua (blk_tne HG9.out HK9.out.bk (by decide))).below hbb (Nat.lt_of_lt_of_le HG9.out.lt hua.size))
 clear l1 l2 hua hka hla hoa hbb
 go_upto_region 7 with (fail)
 obtain ⟨gy,hgy⟩:∃ g,g=wa.heap.size:=⟨_,rfl⟩
 rw [← hgy] at hgb ⊢
 obtain ⟨A1,c1,e1,f1⟩:=HO1.out.at
 obtain ⟨A2,c2,e2,f2⟩:=HO2.out.at
 obtain ⟨g1,_,rfl,p1,_,_⟩:=f1 0 0 y rfl
 obtain ⟨g2,u2,rfl,_,p3,p4⟩:=f2 0 1 a rfl
 obtain ⟨g3,_,e3,p5,_,_⟩:=f2 2 1 c rfl
 injection e3 with e3
 injection e3 with e3
 subst e3
 obtain ⟨Aa,ca,rfl,_⟩:=p4.form
 have x1:=ld_erk (show wb.cell? ⟨gx,1,none⟩=some (.int .i64 3) from HGX.out.cell 1)
 have x3:=ld_snts (show wb.cell? ⟨gx,3,none⟩=some (.slice (some ⟨g1,0,none⟩) 1 c1) from (HGX.out.cell 3).trans (congrArg some e1))
 have x4:=ld_int p1
 have y0:=ld_drk (show wb.cell? ⟨gy,0,none⟩=some (.int .i64 0) from hgb.cell 0)
 have y1:=ld_erk (show wb.cell? ⟨gy,1,none⟩=some (.int .i64 0) from hgb.cell 1)
 have y3:=ld_snts (show wb.cell? ⟨gy,3,none⟩=some (.slice (some ⟨g2,0,none⟩) 3 c2) from (hgb.cell 3).trans (congrArg some e2))
 have y4:=ld_int p5
 rw [hal] at p3
 have y5:=ld_bys p3
 have HBH:=Lib.hid (bhas_any bb 64 1 4 0 wb HKB.out.bk)
 simp only [Nat.zero_mul,Nat.zero_add] at x4 y4 y5
 clear hst hgb hgy e1 e2 f1 f2 p1 p3 p4 p5 HO1 HO2 HG9 HO9 HK9 HK7
 go_wp2_with fail
 refine HBH.out.mono ?_
 rintro e wc ⟨rfl,rfl⟩
 go_wp2_with fail
 go_ret
 exact ⟨rfl,HKB.out.bl⟩
end Go.Proofs.YthlommalbkhcjaaGreat
namespace Go.Proofs.YthlommalbkhcjaaGreat
open Go.RowKit Go.Sort Go.BigFrame
theorem rts_of {w:World} {q:AskM} (h:AskRd w q):RtsM w (fun k=>k < w.heap.size) q.Ar q.nr q.rts :=
 ⟨h.rd,h.rl,fun r hr=>⟨(h.rt r hr).a,(h.rt r hr).l,(h.rt r hr).nb,(h.rt r hr).rd⟩⟩
theorem may_mtus {q:AskM} (h:mayQ q=true) (hl:q.mtus.length=q.nm):q.mtus.length≤8∧∀ m ∈ q.mtus,68≤m∧m≤1500:=by
 unfold mayQ at h
 obtain ⟨h1,h2⟩:=Bool.and_eq_true_iff.1 h
 refine ⟨by have:=of_decide_eq_true h2; omega,fun m hm=>?_⟩
 have h3:q.mtus.any badM=false:=by simpa using h1
 have:=List.any_eq_false.1 h3 m hm
 unfold badM at this
 simp at this
 omega
def asE (q:AskM) (fb bb:Nat):Re:=⟨fb,q.own,q.Am,q.cm,q.mtus,bb,0,#[]⟩
theorem as_tbe {w wx:World} {q:AskM} {fb bb:Nat} {T:TT} {tok:Int} (hq:AskRd w q) (hb:Below w.heap.size w wx) (hm:mayQ q=true) (hr:q.rts.length≤1000000) (hT:mkT vk 0 q.rts .nil=some T) {w1:World} (hl:LdM (dcL q.rts) w1 wx fb bb T tok) (hw1:w.heap.size≤w1.heap.size) :
  TbE wx (asE q fb bb) (pkF (wkL q.rts) T):=by
 obtain ⟨h8,hmm⟩:=may_mtus hm hq.ml
 refine ⟨?_,?_,h8,hq.own,hmm⟩
 ·obtain ⟨M,tb,lim,h1,h2,h3⟩:=hl.ex
  have hlen:T.list.length≤1000000:=by
   have h9:=(mkT_list (vf:=vk) (l:=q.rts) (k:=0) (T:=.nil) (by trivial) (fun r hr=>(hq.rt r hr).a)).1
   rw [hT] at h9
   have:=(mkL_in (vf:=vk) (l:=q.rts) (k:=0) (L:=[]) (L':=T.list) List.Pairwise.nil h9.symm).2.1
   rw [this]
   simpa using hr
  exact ⟨dcL q.rts,wkL q.rts,T,M,tb,lim,dcL_ok _,dcL_wk _,h1,hlen,⟨h2,h3⟩,rfl⟩
 ·have h9:=hl.bb
  have:=hq.md.keep (Same.ofBelow hb fun k hk=>hk)
  have h10:q.mtus.length=q.nm:=hq.ml
  show Reads wx _ 1 q.Am q.mtus.length (izV q.mtus)
  rw [h10]
  exact this.mono fun k hk=>⟨Nat.lt_of_lt_of_le hk hb.size,by show k≠bb; omega⟩
structure JdC (w wx:World) (q:AskM) (ga gx bb B:Nat) (lv ov:Value) (F:Ft) (t:Int) (A:Option Addr) (n:Nat) (x:By):Prop where
 ak:Blk wx ga 60 (askC q)
 ft:Blk wx gx 71 (ftC (F.drop:Int) (F.err:Int) lv ov)
 bk:IsBk wx bb 64 1 t 0
 lc:Rows8 B wx lv F.loc
 ou:Snts B wx ov F.out
 pk:Reads wx (fun k=>k < w.heap.size) 1 A n (bytesV x)
 bl:Below w.heap.size w wx
 bw:w.heap.size≤B∧B≤wx.heap.size
theorem JdC.below {w wx wy:World} {q:AskM} {ga gx bb B:Nat} {lv ov:Value} {F:Ft} {t:Int} {A:Option Addr} {n:Nat} {x:By} (h:JdC w wx q ga gx bb B lv ov F t A n x) (hb:Below wx.heap.size wx wy):JdC w wy q ga gx bb B lv ov F t A n x :=
 ⟨h.ak.below hb h.ak.lt,h.ft.below hb h.ft.lt,Blk.below h.bk hb (Blk.lt h.bk),h.lc.below hb,h.ou.below hb,h.pk.keep (Same.ofBelow hb fun _k hk=>Nat.lt_of_lt_of_le hk h.bl.size),h.bl.trans (hb.mono h.bl.size),⟨h.bw.1,Nat.le_trans h.bw.2 hb.size⟩⟩
theorem as_judge {w wx:World} {q:AskM} {fb bb:Nat} {pk:Nat→Nat→Int × Int} (hq:AskRd w q) (htb:TbE wx (asE q fb bb) pk) (hp0:PkPos pk) (hbk:IsBk wx bb 64 1 q.tok 0) (htk:0≤q.tok∧q.tok≤64) (hbb:w.heap.size≤bb) (hb:Below w.heap.size w wx) {A:Option Addr} {n c:Nat} {x:By} (hx:Reads w (fun k=>k < w.heap.size) 1 A n (bytesV x)) (hn:x.length=n) (hc:n≤c) (hsm:n≤2048) :
  Calls Tryz.prog 28 #[.pointer (some ⟨fb,0,none⟩),.int .u32 (q.own:Int),.slice q.Am q.nm q.cm,.pointer (some ⟨bb,0,none⟩),.slice A n c] wx (JgPost wx bb (fwJudge pk q.mtus q.own q.tok x)):=by
 have:=fjudge_any (E:=asE q fb bb) htb hp0 (tok:=q.tok) hbk htk (A:=A) (n:=n) (c:=c) (x:=x) ((hx.keep (Same.ofBelow hb fun k hk=>hk)).mono fun k hk=>⟨Nat.lt_of_lt_of_le hk hb.size,by show k≠bb; omega⟩) hn hc hsm
 have h10:q.mtus.length=q.nm:=hq.ml
 have e:(asE q fb bb).mtus.length=q.nm:=h10
 rw [e] at this
 exact this
theorem as_jdc {w wx wy wz:World} {q:AskM} {ga bb:Nat} {lv ov:Value} {R:Ft × Int} {A:Option Addr} {n:Nat} {x:By} (hak:Blk wx ga 60 (askC q)) (hb:Below w.heap.size w wx) (hbb:w.heap.size≤bb) (hbk:IsBk wx bb 64 1 q.tok 0) (hx:Reads w (fun k=>k < w.heap.size) 1 A n (bytesV x))
  (hu:Upd (fun k=>k=bb) wx wy) (hk:IsBk wy bb 64 1 R.2 0) (hl:Rows8 wx.heap.size wy lv R.1.loc) (ho:Snts wx.heap.size wy ov R.1.out) (hz:Below wy.heap.size wy wz) (hf:Blk wz wy.heap.size 71 (ftC (R.1.drop:Int) (R.1.err:Int) lv ov)) :
  JdC w wz q ga wy.heap.size bb wx.heap.size lv ov R.1 R.2 A n x:=by
 have hby:=below_upd hb hu (fun _ (e:_=bb)=>by omega) hb.size
 have hak2:=hak.upd hu (blk_tne hak hbk (by decide))
 exact ⟨hak2.below hz hak2.lt,hf,Blk.below hk hz (Blk.lt hk),hl.below hz,ho.below hz,(hx.keep (Same.ofBelow hby fun k hk=>hk)).keep (Same.ofBelow hz fun k hk=>Nat.lt_of_lt_of_le hk hby.size),hby.trans (hz.mono hby.size),⟨hb.size,Nat.le_trans hu.size hz.size⟩⟩
end Go.Proofs.YthlommalbkhcjaaGreat
