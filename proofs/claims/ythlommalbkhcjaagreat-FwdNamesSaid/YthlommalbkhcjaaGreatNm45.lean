/- Layer 18: rows of packets compared; Same. -/
import Derived.Test.YthlommalbkhcjaaGreatNm43
import Derived.Test.YthlommalbkhcjaaGreatNm44
import Derived.Test.YthlommalbkhcjaaGreatNm37
import Derived.Test.YthlommalbkhcjaaGreatNm31
namespace Go.Proofs.YthlommalbkhcjaaGreat
open Go.RowKit Go.Sort Go.BigFrame
theorem less_len (x:By):(lessF x).1.length≤x.length:=by
 unfold lessF
 split
 ·exact Nat.zero_le _
 split
 ·exact Nat.zero_le _
 ·simp
theorem ld_ints {w:World} {a:Addr} {A:Option Addr} {n c:Nat} (hu:w.cell? a=some (.slice A n c)):(Instr.loadAt 49 (.pointer (some a))).run Tryz.prog w=.ok (.slice A n c) w:=by
 simp [go_sem,hu]
section
variable {w0 w wx wy:World} {rb:Nat} {E:Re} {S:Rs} {pk:Nat→Nat→Int × Int}
theorem tl_lit (H:TbE w0 E pk) (hp0:PkPos pk) (hsm:S.x.length≤100000) (hl:S.ft.out.length≤100000) (hl2:S.ft.loc.length≤100000) (wx:World) (h:RnW w0 wx rb E S) :
  Calls Tryz.prog 130 #[.pointer (some ⟨rb,0,none⟩),.int .i64 3,.int .i64 0] wx (FtPost w0 rb E S (fwTell pk E.mtus E.own S.tok 3 0 S.x S.ft).1 (fwTell pk E.mtus E.own S.tok 3 0 S.x S.ft).2) ∧
  Calls Tryz.prog 130 #[.pointer (some ⟨rb,0,none⟩),.int .i64 1,.int .i64 0] wx (FtPost w0 rb E S (fwTell pk E.mtus E.own S.tok 1 0 S.x S.ft).1 (fwTell pk E.mtus E.own S.tok 1 0 S.x S.ft).2) ∧
  ∀ m:Int,Calls Tryz.prog 130 #[.pointer (some ⟨rb,0,none⟩),.int .i64 2,.int .i64 m] wx (FtPost w0 rb E S (fwTell pk E.mtus E.own S.tok 2 m S.x S.ft).1 (fwTell pk E.mtus E.own S.tok 2 m S.x S.ft).2) :=
 ⟨ftell_any H hp0 h 3 (by decide) 0 hsm hl hl2,ftell_any H hp0 h 1 (by decide) 0 hsm hl hl2,fun m=>ftell_any H hp0 h 2 (by decide) m hsm hl hl2⟩
set_option maxRecDepth 100000 in
set_option maxHeartbeats 8000000 in
attribute [-go_sem] Instr.storeAt Instr.loadAt in
theorem fon_any (H:TbE w0 E pk) (hp0:PkPos pk) (h:RnW w0 w rb E S) (hpo:S.kd=3→0≤S.po∧S.po < E.mtus.length) (hsm:S.x.length≤100000) (hl:S.ft.out.length≤100000) (hl2:S.ft.loc.length≤100000) :
  Calls Tryz.prog 71 #[.pointer (some ⟨rb,0,none⟩)] w (FtPost w0 rb E S (fwOn pk E.mtus E.own S.tok S.h S.kd S.po S.x S.ft).1 (fwOn pk E.mtus E.own S.tok S.h S.kd S.po S.x S.ft).2):=by
 have l11:=ld_u8s (w:=w) (g:=rb) (i:=11) (z:=(S.h.ttl:Int)) (h.blk.cell 11)
 have l16:=ld_wkd (w:=w) (a:=⟨rb,16,none⟩) (z:=S.kd) (h.blk.cell 16)
 have HT:=Lib.hid (tl_lit (rb:=rb) (S:=S) H hp0 hsm hl hl2)
 obtain ⟨F,hF⟩:∃ F,F=fwOn pk E.mtus E.own S.tok S.h S.kd S.po S.x S.ft:=⟨_,rfl⟩
 rw [← hF]
 unfold fwOn at hF
 obtain ⟨tt,htt⟩:∃ z,z=S.h.ttl:=⟨_,rfl⟩
 rw [← htt] at l11 hF
 by_cases h1:tt≤1
 ·rw [if_pos h1] at hF
  have d1:decide ((tt:Int)≤1)=true:=decide_eq_true (by omega)
  have HC:=Lib.hid (HT.out w h).1
  rw [← hF] at HC
  clear h hF htt h1 HT H l16 hpo hsm hl hl2
  go_enter Tryz.func71,Tryz.ntmps71
  go_wp2_with fail
  refine HC.out.mono ?_
  rintro e w1 ⟨rfl,lv,ov,hw⟩
  have HF:=Lib.hid hw
  clear hw
  go_wp2_with fail
  go_ret
  exact ⟨rfl,lv,ov,HF.out⟩
 rw [if_neg h1] at hF
 have d1:decide ((tt:Int)≤1)=false:=decide_eq_false (by omega)
 by_cases k3:S.kd≠3
 ·rw [if_pos k3] at hF
  have k3b:(S.kd != 3)=true:=by rw [bne_iff_ne]; exact k3
  have HC:=Lib.hid (HT.out w h).2.1
  rw [← hF] at HC
  obtain ⟨kd,hkd⟩:∃ z,z=S.kd:=⟨_,rfl⟩
  rw [← hkd] at l16 k3b
  clear h hF htt h1 HT H k3 hkd hpo hsm hl hl2
  go_enter Tryz.func71,Tryz.ntmps71
  go_wp2_with fail
  refine HC.out.mono ?_
  rintro e w1 ⟨rfl,lv,ov,hw⟩
  have HF:=Lib.hid hw
  clear hw
  go_wp2_with fail
  go_ret
  exact ⟨rfl,lv,ov,HF.out⟩
 rw [if_neg k3] at hF
 have k3':S.kd=3:=by simpa using k3
 rw [k3'] at l16
 obtain ⟨hp1,hp2⟩:=hpo k3'
 obtain ⟨q,hq⟩:∃ q:Nat,S.po=(q:Int):=⟨S.po.toNat,(Int.toNat_of_nonneg hp1).symm⟩
 obtain ⟨A,n,c,hpv,hn,hc,_⟩:=h.pkt
 have HL:=Lib.hid (less_any A n c S.x _ w (h.pkA hpv) hn hc (by omega))
 have l4:=ld_bys (w:=w) (a:=⟨rb,4,none⟩) (A:=A) (n:=n) (c:=c) (by rw [← hpv]; exact h.blk.cell 4)
 have hqm:q < E.mtus.length:=by omega
 have hlen:=less_len S.x
 obtain ⟨Y,hY⟩:∃ Y,Y=lessF S.x:=⟨_,rfl⟩
 rw [← hY] at HL hF hlen
 obtain ⟨y,ye⟩:=Y
 simp only at HL hF hlen
 obtain ⟨m,hm⟩:∃ m,m=E.mtus.getD q 0:=⟨_,rfl⟩
 have hpt:S.po.toNat=q:=by omega
 rw [hpt,← hm] at hF
 have HFT:=Lib.hid (fun A n c I wx (hx:Reads wx I 1 A n (bytesV y)) (hn:y.length=n) (hc:n≤c) (hs:n≤1000000)=>ffits_any A n c y m I wx hx hn hc hs)
 obtain ⟨Fi,hFi⟩:∃ Fi,Fi=fitsF y m:=⟨_,rfl⟩
 rw [← hFi] at HFT hF
 obtain ⟨fb,fe⟩:=Fi
 simp only at HFT hF
 obtain ⟨df,hdf⟩:∃ b,b=S.h.df:=⟨_,rfl⟩
 rw [← hdf] at hF
 have HOUT:=Lib.hid (fun wx (hx:RnW w0 wx rb E S) A n c I (hy:Reads wx I 1 A n (bytesV y)) (hn:y.length=n) (hc:n≤c) (hs:n≤100000)=>fout_any H hx hqm A n c y I hy hn hc hs hl)
 rw [← hq] at HOUT
 have HMT:=Lib.hid (fun wx (hu:RnW w0 wx rb E S)=>TbE.mtu H hu.upd hqm)
 rw [← hm] at HMT
 obtain ⟨am,ham,_⟩:=HMT.out w h
 obtain ⟨M,hM⟩:∃ M,M=E.mtus.length:=⟨_,rfl⟩
 have p0:(0:Int)≤(q:Int):=by omega
 have p1:(q:Int) < (M:Int):=by omega
 have p2:q < M:=by omega
 have HH:=Lib.hid h
 have HQ:=Lib.hid hq
 have HM:=Lib.hid hM
 have HAM:=Lib.hid ham
 have HDF:=Lib.hid hdf
 have HLE:=Lib.hid (show y.length≤100000 by omega)
 have HG:=Lib.hid (fun wx (hx:RnW w0 wx rb E S)=>(⟨by rw [HM.out,← HAM.out]; exact hx.blk.cell 2,by rw [← HQ.out]; exact hx.blk.cell 17,by
  obtain ⟨ad,e,hc⟩:=HMT.out wx hx
  rw [HAM.out] at e
  injection e with e
  rw [e]
  exact hc,by rw [HDF.out]; exact hx.blk.cell 8⟩:wx.cell? ⟨rb,2,none⟩=some (.slice (some am) M E.cm)∧wx.cell? ⟨rb,17,none⟩=some (.int .i64 (q:Int))∧wx.cell? (am.add q)=some (.int .i64 m)∧wx.cell? ⟨rb,8,none⟩=some (.bool df)))
 have HFF:=Lib.hid hF
 clear h hF htt h1 H k3 k3' hp1 hp2 hq hqm hpv hn hc hY hm hpt hFi hdf hM ham hsm hl hl2 hlen hpo HMT
 go_enter Tryz.func71,Tryz.ntmps71
 go_wp2_with fail
 refine HL.out.mono ?_
 rintro e w1 ⟨v,rfl,hr,hb1⟩
 obtain ⟨Ay,cy,rfl,_⟩:=hr.form
 have H1:=Lib.hid (HH.out.below hb1)
 have hy:Row8 w0.heap.size w1 (.slice Ay y.length cy) y:=own_base hr HH.out.upd.size
 have HY:=Lib.hid hy
 clear hy
 obtain ⟨N,hN⟩:∃ N,N=y.length:=⟨_,rfl⟩
 rw [← hN] at HY ⊢
 have HNN:=Lib.hid hN
 clear hr hb1 hN l4 l11 l16 HL
 go_upto_region 6 with (fail)
 refine wp_region_stages [(true,17)] (by kernel_rfl) (by kernel_rfl) fun wz hz hz2=>?_
 have HZ:=Lib.hid (H1.out.below hz)
 have HYZ:=Lib.hid (HY.out.below hz)
 clear hz hz2
 have l2:=cell_regrown (HG.out wz HZ.out).1
 have l17:=cell_regrown (HG.out wz HZ.out).2.1
 have lm:=cell_regrown (HG.out wz HZ.out).2.2.1
 have m2:=fun d os=>ld_ints (l2 d os)
 have m17:=fun d os=>ld_int (l17 d os)
 have mm:=fun d os=>ld_int (lm d os)
 have qc:=fun (d:Nat) (os:Array Obj)=>by
  obtain ⟨r1,r2,r3⟩:=(HYZ.out.below (below_regrown wz d os)).rd
  exact Calls.regrown_of (HFT.out Ay N cy _ (grow (redrawn wz d) os) r3 r1 r2 (by have:=HLE.out; have:=HNN.out; omega))
 refine wpSt_q ?_
 simp only [List.take_succ_cons,List.take_zero,List.drop_succ_cons,List.drop_zero]
 repeat (go_big_quiet_step (with_reducible exact qc _ _))
 refine wpQuiet_nil ?_
 intro _ hw'
 obtain ⟨⟨dq,osq⟩,hw''⟩:=hw'
 subst hw''
 have HB:=Lib.hid (HZ.out.below (below_regrown wz dq osq))
 have HYB:=Lib.hid (HYZ.out.below (below_regrown wz dq osq))
 clear l2 l17 lm m2 m17 mm qc HZ HYZ HFT
 generalize grow (redrawn wz dq) osq=wb at HB HYB ⊢
 refine wpSt_end ?_
 have l8:=ld_bool (HG.out wb HB.out).2.2.2
 obtain ⟨g,hg⟩:∃ g,g=(!fb && df):=⟨_,rfl⟩
 have hg2:(fb=false∧df=true)=(g=true):=by rw [hg]; cases fb <;> cases df <;> simp
 have hF:F=if g=true then fwTell pk E.mtus E.own S.tok 2 m S.x S.ft else (fwOut E.mtus S.po y S.ft,S.tok):=by
  rw [HFF.out]
  by_cases hq:fb=false∧df=true
  ·rw [if_pos hq,if_pos (hg2 ▸ hq)]
  ·rw [if_neg hq,if_neg (hg2 ▸ hq)]
 have HF:=Lib.hid hF
 clear hF HFF hg2
 have fin:∀ (wb:World),RnW w0 wb rb E S→Row8 w0.heap.size wb (.slice Ay N cy) y→g=false→Calls Tryz.prog 133 #[.pointer (some ⟨rb,0,none⟩),.int .i64 (q:Int),.slice Ay N cy] wb (FtPost w0 rb E S F.1 F.2):=fun wb hw hy hg=>by
  obtain ⟨r1,r2,r3⟩:=hy.rd
  have:=HOUT.out wb hw Ay N cy _ r3 r1 r2 (by have:=HLE.out; have:=HNN.out; omega)
  rw [HF.out,if_neg (by rw [hg]; decide),HQ.out]
  rw [HQ.out] at this
  exact this
 have tel:∀ (wb:World),RnW w0 wb rb E S→g=true→Calls Tryz.prog 130 #[.pointer (some ⟨rb,0,none⟩),.int .i64 2,.int .i64 m] wb (FtPost w0 rb E S F.1 F.2):=fun wb hw hg=>by
  rw [HF.out,if_pos hg]
  exact (HT.out wb hw).2.2 m
 have FIN:=Lib.hid fin
 have TEL:=Lib.hid tel
 clear fin tel HT HOUT HF
 cases fb with
 | true =>
   have hg':g=false:=hg
   have HC:=Lib.hid (FIN.out wb HB.out HYB.out hg')
   have l17:=ld_int (HG.out wb HB.out).2.1
   clear hg hg'
   go_wp2_with fail
   refine HC.out.mono ?_
   rintro e w1 ⟨rfl,lv,ov,hw⟩
   have HF:=Lib.hid hw
   clear hw
   go_wp2_with fail
   go_ret
   exact ⟨rfl,lv,ov,HF.out⟩
 | false =>
   cases df with
   | false =>
     have hg':g=false:=hg
     have HC:=Lib.hid (FIN.out wb HB.out HYB.out hg')
     have l17:=ld_int (HG.out wb HB.out).2.1
     clear hg hg'
     go_wp2_with fail
     refine HC.out.mono ?_
     rintro e w1 ⟨rfl,lv,ov,hw⟩
     have HF:=Lib.hid hw
     clear hw
     go_wp2_with fail
     go_ret
     exact ⟨rfl,lv,ov,HF.out⟩
   | true =>
     have hg':g=true:=hg
     have TE:=Lib.hid (fun wx hx=>TEL.out wx hx hg')
     clear hg hg' TEL FIN
     go_upto_region 8 with (fail)
     refine wp_region_stages [(true,11),(false,2)] (by kernel_rfl) (by kernel_rfl) fun wz hz hz2=>?_
     have HZ:=Lib.hid (HB.out.below hz)
     clear hz hz2 l8
     have l2:=cell_regrown (HG.out wz HZ.out).1
     have l17:=cell_regrown (HG.out wz HZ.out).2.1
     have lm:=cell_regrown (HG.out wz HZ.out).2.2.1
     have m2:=fun d os=>ld_ints (l2 d os)
     have m17:=fun d os=>ld_int (l17 d os)
     have mm:=fun d os=>ld_int (lm d os)
     refine wpSt_q ?_
     simp only [List.take_succ_cons,List.take_zero,List.drop_succ_cons,List.drop_zero]
     repeat (go_big_quiet_step (fail))
     refine wpQuiet_nil ?_
     intro _ hw'
     obtain ⟨⟨dq,osq⟩,hw''⟩:=hw'
     subst hw''
     have HC:=Lib.hid (TE.out _ (HZ.out.below (below_regrown wz dq osq)))
     clear l2 l17 lm m2 m17 mm HZ TE
     generalize grow (redrawn wz dq) osq=wc at HC ⊢
     refine wpSt_l ?_
     go_wp2_with (refine HC.out.mono ?_; rintro e w1 ⟨rfl,lv,ov,hw⟩; have HF:=Lib.hid hw; clear hw)
     refine wpSt_end ?_
     go_wp2_with fail
     go_ret
     exact ⟨rfl,lv,ov,HF.out⟩
end
end Go.Proofs.YthlommalbkhcjaaGreat
namespace Go.Proofs.YthlommalbkhcjaaGreat
open Go.RowKit Go.Sort Go.BigFrame
def badM (m:Int):Bool:=decide (m < 68) || decide (1500 < m)
def wrongM (l:List Int) (n:Nat):Nat:=if 8 < l.length then 2 else if l.any badM=true then 2 else if 2048 < n then 3 else 0
theorem bad1_any (m:Int) (w:World):Calls Tryz.prog 123 #[.int .i64 m] w fun e w'=>e=.returned (.bool (badM m))∧w=w':=by
 by_cases h:m < 68
 ·have d:decide (m < 68)=true:=decide_eq_true h
  have hr:badM m=true:=by unfold badM; rw [d]; rfl
  rw [hr]
  clear hr h
  go_enter Tryz.func123,Tryz.ntmps123
  go_wp2_with fail
  go_ret
  exact ⟨rfl,rfl⟩
 ·have d:decide (m < 68)=false:=decide_eq_false h
  obtain ⟨b,hb⟩:∃ b,b=decide (1500 < m):=⟨_,rfl⟩
  have hr:badM m=b:=by unfold badM; rw [d,hb]; rfl
  have e:decide (m > 1500)=b:=hb.symm
  rw [hr]
  clear hr h hb
  go_enter Tryz.func123,Tryz.ntmps123
  go_wp2_with fail
  go_ret
  exact ⟨rfl,rfl⟩
theorem any_takeM {L:List Int} {i:Nat} {s:Int} {p:Int→Bool} (h:L[i]?=some s):(L.take (i+1)).any p=((L.take i).any p || p s):=by
 have hi:=(List.getElem?_eq_some_iff.1 h).1
 rw [List.take_succ_eq_append_getElem hi,(List.getElem?_eq_some_iff.1 h).2,List.any_append]
 simp
set_option maxHeartbeats 1600000 in
theorem indexM_any (A:Option Addr) (n c:Nat) (L:List Int) (I:Nat→Prop) (w:World) (h:Reads w I 1 A n (izV L)) (hn:L.length=n) (hsm:n≤1000000) :
  Calls Tryz.prog 162 #[.slice A n c,.func (.func 123) #[] #[]] w fun e w'=>∃ i:Int,e=.returned (.int .i64 i)∧decide (0≤i)=L.any badM∧w=w':=by
 have HR:=Lib.hid h
 have HN:=Lib.hid hn
 clear h hn
 go_enter Tryz.func162,Tryz.ntmps162
 go_wp2_with fail
 go_loopw [8] (fun i wr=>∃ k:Nat,k≤n∧i=.int .i64 (k:Int)∧(L.take k).any badM=false∧wr=w) (fun i _=>n - (intOf i).toNat)
 case atStart=>exact ⟨0,Nat.zero_le _,rfl,rfl,rfl⟩
 case round =>
  obtain ⟨k,hk,rfl,hno,rfl⟩:=hrel
  have HNO:=Lib.hid hno
  clear hno
  by_cases hlt:k < n
  ·obtain ⟨s,hs⟩:∃ s,L[k]?=some s:=⟨L[k]'(by rw [HN.out]; exact hlt),List.getElem?_eq_getElem _⟩
   obtain ⟨ad,rfl,_,_,hc⟩:=HR.out.2 (by omega)
   have c0:wr.cell? (ad.add k)=some (.int .i64 s):=by
    have:=hc k (.int .i64 s) (by unfold izV; rw [List.getElem?_map,hs]; rfl)
    simpa using this
   have hi0:(0:Int)≤k:=by omega
   have hi1:(k:Int) < n:=by omega
   have hd0:decide ((k:Int) < (n:Int))=true:=decide_eq_true (by omega)
   have HANY:=Lib.hid (any_takeM (p:=badM) hs)
   have HC:=Lib.hid (bad1_any s wr)
   have HIN:=Lib.hid (List.mem_of_getElem? hs)
   obtain ⟨b,hb⟩:∃ b,b=badM s:=⟨_,rfl⟩
   rw [← hb] at HC HANY
   have HB:=Lib.hid hb
   clear hs hc hb
   cases b with
   | true =>
     have hfin:L.any badM=true:=List.any_eq_true.2 ⟨s,HIN.out,HB.out.symm⟩
     have HF:=Lib.hid hfin
     clear hfin HANY
     go_wp2_with fail
     refine HC.out.mono ?_
     rintro e w2 ⟨rfl,rfl⟩
     go_wp2_with fail
     go_ret
     exact ⟨_,rfl,by rw [HF.out]; exact decide_eq_true (by omega),rfl⟩
   | false =>
     have hno:(L.take (k+1)).any badM=false:=by rw [HANY.out,HNO.out]; rfl
     have HNO2:=Lib.hid hno
     clear hno HANY
     go_wp2_with fail
     refine HC.out.mono ?_
     rintro e w2 ⟨rfl,rfl⟩
     go_wp2_with fail
     go_roundw
     case rel=>exact ⟨k+1,by omega,rfl,HNO2.out,by trivial⟩
     case measure=>simp [intOf]; omega
  ·obtain rfl:k=n:=by omega
   have hd0:decide ((k:Int) < (k:Int))=false:=decide_eq_false (by omega)
   have hfin:L.any badM=false:=by
    have:=HNO.out
    rwa [List.take_of_length_le (by rw [HN.out]; exact Nat.le_refl _)] at this
   have HF:=Lib.hid hfin
   clear hfin
   go_wp2_with fail
   go_ret
   exact ⟨-1,rfl,by rw [HF.out]; rfl,by trivial⟩
theorem containsM_any (A:Option Addr) (n c:Nat) (L:List Int) (I:Nat→Prop) (w:World) (h:Reads w I 1 A n (izV L)) (hn:L.length=n) (hsm:n≤1000000) :
  Calls Tryz.prog 122 #[.slice A n c,.func (.func 123) #[] #[]] w fun e w'=>e=.returned (.bool (L.any badM))∧w=w':=by
 have HC:=Lib.hid (indexM_any A n c L I w h hn hsm)
 clear h hn hsm
 go_enter Tryz.func122,Tryz.ntmps122
 go_wp2_with fail
 refine HC.out.mono ?_
 rintro e w2 ⟨i,rfl,hi,rfl⟩
 have HI:=Lib.hid hi
 clear hi
 obtain ⟨b,hb⟩:∃ b,b=decide (0≤i):=⟨_,rfl⟩
 have hb':=hb.symm
 have HIB:=Lib.hid hb
 clear hb
 go_wp2_with fail
 go_ret
 exact ⟨by rw [← HI.out,← HIB.out]; rfl,rfl⟩
theorem fwrong_any (fb:Nat) (A:Option Addr) (n c:Nat) (L:List Int) (I:Nat→Prop) (Ap:Option Addr) (np cp:Nat) (w:World) (h:Reads w I 1 A n (izV L)) (hn:L.length=n) :
  Calls Tryz.prog 67 #[.pointer (some ⟨fb,0,none⟩),.slice A n c,.slice Ap np cp] w fun e w'=>e=.returned (.int .i64 (wrongM L np:Int))∧w=w':=by
 obtain ⟨r,hr⟩:∃ r,r=wrongM L np:=⟨_,rfl⟩
 rw [← hr]
 unfold wrongM at hr
 rw [hn] at hr
 by_cases h8:8 < n
 ·rw [if_pos h8] at hr
  subst hr
  have d:decide ((n:Int) > 8)=true:=decide_eq_true (by omega)
  clear h hn h8
  go_enter Tryz.func67,Tryz.ntmps67
  go_wp2_with fail
  go_ret
  exact ⟨rfl,rfl⟩
 rw [if_neg h8] at hr
 have d:decide ((n:Int) > 8)=false:=decide_eq_false (by omega)
 have HC:=Lib.hid (containsM_any A n c L I w h hn (by omega))
 obtain ⟨b,hb⟩:∃ b,b=L.any badM:=⟨_,rfl⟩
 rw [← hb] at HC hr
 clear h hn h8 hb
 cases b with
 | true =>
   rw [if_pos rfl] at hr
   subst hr
   go_enter Tryz.func67,Tryz.ntmps67
   go_wp2_with fail
   refine HC.out.mono ?_
   rintro e w2 ⟨rfl,rfl⟩
   go_wp2_with fail
   go_ret
   exact ⟨rfl,rfl⟩
 | false =>
   rw [if_neg (by decide)] at hr
   by_cases h2:2048 < np
   ·rw [if_pos h2] at hr
    subst hr
    have d2:decide ((np:Int) > 2048)=true:=decide_eq_true (by omega)
    clear h2
    go_enter Tryz.func67,Tryz.ntmps67
    go_wp2_with fail
    refine HC.out.mono ?_
    rintro e w2 ⟨rfl,rfl⟩
    go_wp2_with fail
    go_ret
    exact ⟨rfl,rfl⟩
   ·rw [if_neg h2] at hr
    subst hr
    have d2:decide ((np:Int) > 2048)=false:=decide_eq_false (by omega)
    clear h2
    go_enter Tryz.func67,Tryz.ntmps67
    go_wp2_with fail
    refine HC.out.mono ?_
    rintro e w2 ⟨rfl,rfl⟩
    go_wp2_with fail
    go_ret
    exact ⟨rfl,rfl⟩
end Go.Proofs.YthlommalbkhcjaaGreat
namespace Go.Proofs.YthlommalbkhcjaaGreat
open Go.RowKit Go.Sort Go.BigFrame
theorem ft_info:(Tryz.prog.info? 71).map (·.size)=some 4:=by kernel_rfl
def ftC (d e:Int) (lv ov:Value):Array Value:=#[.int .i64 d,.int .i64 e,lv,ov]
theorem res_ft {w:World} {g:Nat} {cs:Array Value} {fn:Func} {p u:Tmp} (hf:fn.results=#[.cell p 71,.tmp u]) (tmps:Array Value) (hp:tmps.getD p undef=.pointer (some ⟨g,0,none⟩)) (h:Blk w g 71 cs) (hc:cs.size=4) :
  (results fn tmps).run Tryz.prog w=.ok (.tuple #[.agg cs,tmps.getD u undef]) w:=by
 have hl:=run_loadVar_mid (P:=Tryz.prog) w g 0 71 cs.toList _ (blk_range h) Tryz.underlying71 rfl (by simpa [hc] using ft_info)
 have e1:tmps[p]?.getD undef=.pointer (some ⟨g,0,none⟩):=by simpa using hp
 simp only [results,hf]
 simp [Result.andThen,e1,asAddr,hl]
theorem own_manyG {t:TypeId} {rb:Nat} {B:Nat} {e:TypeId} {size n:Nat} {v:Value} {xs:List Value} (hne:e≠t):∀ (l:List Value) (o:Nat) (C:Array Value) (w:World),Blk w rb t C→w.ownsRow B e size v n xs→(w.setCells rb o l).ownsRow B e size v n xs
 | [],_,_,_,_,h=>h
 | u :: r,o,_,_,hk,h=>own_manyG hne r (o+1) _ _ (hk.set_ o u) (ownsRow_setCell_other (a:=⟨rb,o,none⟩) h (own_blk_ne h hk hne) u)
def JgPost (w0:World) (bb:Nat) (R:Ft × Int) (e:Ending) (w':World):Prop :=
 ∃ lv ov,e=.returned (.tuple #[.agg #[.int .i64 (R.1.drop:Int),.int .i64 (R.1.err:Int),lv,ov],.int .i64 0])∧Upd (fun k=>k=bb) w0 w'∧IsBk w' bb 64 1 R.2 0∧(0≤R.2∧R.2≤64)∧Rows8 w0.heap.size w' lv R.1.loc∧Snts w0.heap.size w' ov R.1.out
def rs0 (pv:Value) (x:By) (tok:Int):Rs:=⟨false,pv,x,.slice none 0 0,hd0,0,0,.slice none 0 0,.slice none 0 0,ft0,tok⟩
theorem ld_fnb {w:World} {a:Addr} {f:Nat} {v:Value} (hu:w.cell? a=some (.func (.func f) #[v] #[])):(Instr.loadAt 26 (.pointer (some a))).run Tryz.prog w=.ok (.func (.func f) #[v] #[]) w:=by
 simp [go_sem,hu]
def fnC (rb:Nat):Array Value:=#[.func (.func 68) #[.pointer (some ⟨rb,0,none⟩)] #[],.func (.func 69) #[.pointer (some ⟨rb,0,none⟩)] #[],.func (.func 70) #[.pointer (some ⟨rb,0,none⟩)] #[],.func (.func 71) #[.pointer (some ⟨rb,0,none⟩)] #[]]
section
variable {w0 w wx wy:World} {rb:Nat} {E:Re} {S:Rs} {pk:Nat→Nat→Int × Int}
set_option maxRecDepth 100000 in
theorem jg_end {R:Ft × Int} {lv ov:Value} {g:Nat} {w1:World} (hw:RnW w0 wx rb E { S with ft:=R.1,tok:=R.2,lv:=lv,ov:=ov }) (hg:Blk wx g 71 #[.int .i64 0,.int .i64 0,.slice none 0 0,.slice none 0 0]) (hb0:Below w1.heap.size w1 w0) (hg0:w1.heap.size≤g) (_hbb:E.bb < w1.heap.size) :
  (Instr.loadAt 71 (.pointer (some ⟨rb,18,none⟩))).run Tryz.prog wx=.ok (.agg (ftC (R.1.drop:Int) (R.1.err:Int) lv ov)) wx ∧
  (Instr.storeAt 71 (.pointer (some ⟨g,0,none⟩)) (.agg (ftC (R.1.drop:Int) (R.1.err:Int) lv ov))).run Tryz.prog wx=.ok () (wx.setCells g 0 (ftC (R.1.drop:Int) (R.1.err:Int) lv ov).toList) ∧
  Blk (wx.setCells g 0 (ftC (R.1.drop:Int) (R.1.err:Int) lv ov).toList) g 71 (ftC (R.1.drop:Int) (R.1.err:Int) lv ov) ∧
  JgPost w1 E.bb R (.returned (.tuple #[.agg (ftC (R.1.drop:Int) (R.1.err:Int) lv ov),.int .i64 0])) (wx.setCells g 0 (ftC (R.1.drop:Int) (R.1.err:Int) lv ov).toList):=by
 obtain ⟨Al,cl,hlv,_⟩:=hw.lc.form
 have hov:∃ A n c,ov=.slice A n c:=by
  obtain ⟨Z,_,ho,_⟩:=hw.ou
  obtain ⟨A,c,e,_⟩:=own_form ho
  exact ⟨A,_,c,e⟩
 obtain ⟨Ao,no,co,hov⟩:=hov
 have hone:(ftC (R.1.drop:Int) (R.1.err:Int) lv ov).all (·.oneCell')=true:=by
  have h1:lv=.slice Al _ cl:=hlv
  have h2:ov=.slice Ao no co:=hov
  rw [h1,h2]
  simp [ftC,Value.oneCell']
 refine ⟨?_,stc_store ft_info hg rfl rfl hone,blk_setCells hg rfl,lv,ov,rfl,?_,?_,hw.tk,?_,?_⟩
 ·have:=run_loadAt_mid (P:=Tryz.prog) wx rb 18 71 (ftC (R.1.drop:Int) (R.1.err:Int) lv ov).toList _ (fun j v hj=>by
   rw [hw.blk.cell]
   match j,hj with
   | 0,hj=>exact hj
   | 1,hj=>exact hj
   | 2,hj=>exact hj
   | 3,hj=>exact hj
   | n+4,hj=>cases hj) Tryz.underlying71 rfl ft_info
  simpa using this
 ·have h1:Upd (fun k=>k=E.bb) w1 w0:=Upd.ofBelow hb0 _
  have h2:=h1.trans hw.upd fun k hk=>.inl hk
  exact Upd.setCells _ _ _ h2 (.inr hg0)
 ·exact blk_far_setCells (blk_tne hw.bk hg (by decide)) _ _ _ hw.bk
 ·obtain ⟨us,a,b,c⟩:=hw.lc
  exact ⟨us,own_base (own_manyG (by decide) _ _ _ _ hg a) hb0.size,b,fun k x hx=>by obtain ⟨v,e,r⟩:=c k x hx; exact ⟨v,e,own_base (own_manyG (by decide) _ _ _ _ hg r) hb0.size⟩⟩
 ·obtain ⟨Z,a,b,c⟩:=hw.ou
  exact ⟨Z,a,own_base (own_manyG (by decide) _ _ _ _ hg b) hb0.size,fun z hz=>own_base (own_manyG (by decide) _ _ _ _ hg (c z hz)) hb0.size⟩
end
end Go.Proofs.YthlommalbkhcjaaGreat
namespace Go.Proofs.YthlommalbkhcjaaGreat
open Go.RowKit Go.Sort Go.BigFrame
set_option maxRecDepth 100000 in
set_option maxHeartbeats 4000000 in
theorem eqf2_any (A B:Option Addr) (n m c1 c2:Nat) (X Y:List Zs) (I J:Nat→Prop) (w:World) (ha:SnM w I A n X) (hb:SnM w J B m Y) (hn:n≤1000000) :
  Calls Tryz.prog 83 #[.slice A n c1,.slice B m c2,.func (.func 84) #[] #[]] w fun e w'=>e=.returned (.bool (X.map zsP == Y.map zsP))∧Below w.heap.size w w':=by
 obtain ⟨R,hR⟩:∃ R,R=(X.map zsP == Y.map zsP):=⟨_,rfl⟩
 rw [← hR]
 have HR:=Lib.hid hR
 have HA:=Lib.hid ha.lt
 have HB:=Lib.hid hb.lt
 clear hR ha hb
 by_cases hnm:n=m
 ·subst hnm
  have d0:((n:Int) != (n:Int))=false:=by simp
  go_enter Tryz.func83,Tryz.ntmps83
  go_wp2_with fail
  go_loopw [17] (fun i wr=>∃ k:Nat,k≤n∧i=.int .i64 (k:Int)∧(X.map zsP).take k=(Y.map zsP).take k∧Below w.heap.size w wr) (fun i _=>n - (intOf i).toNat)
  case atStart=>exact ⟨0,Nat.zero_le _,rfl,rfl,Below.refl _ _⟩
  case round =>
   obtain ⟨k,hk,rfl,htk,hbr⟩:=hrel
   have HTK:=Lib.hid htk
   have HBR:=Lib.hid hbr
   clear htk hbr
   by_cases hlt:k < n
   ·obtain ⟨x,hx⟩:∃ x,X[k]?=some x:=⟨_,List.getElem?_eq_getElem (by rw [HA.out.len]; exact hlt)⟩
    obtain ⟨y,hy⟩:∃ y,Y[k]?=some y:=⟨_,List.getElem?_eq_getElem (by rw [HB.out.len]; exact hlt)⟩
    have a1:=HA.out.keep (Same.ofBelow HBR.out fun k hk=>hk.2)
    have b1:=HB.out.keep (Same.ofBelow HBR.out fun k hk=>hk.2)
    obtain ⟨ad,A1,d1,rfl,_,p1,p2,r1⟩:=a1.at hx
    obtain ⟨bd,B1,d2,rfl,_,s1,s2,r2⟩:=b1.at hy
    have hx':(X.map zsP)[k]?=some (x.p,x.x):=by rw [List.getElem?_map,hx]; rfl
    have hy':(Y.map zsP)[k]?=some (y.p,y.x):=by rw [List.getElem?_map,hy]; rfl
    obtain ⟨W1,hW1⟩:∃ Z,Z=(wr.alloc (.cells #[.int .i64 x.p,.slice A1 x.x.length d1] 83)):=⟨_,rfl⟩
    have HC:=Lib.hid (fun wx (hb:Below wr.heap.size wr wx)=>same2_any x.p y.p A1 B1 x.x.length y.x.length d1 d2 x.x y.x _ _ wx ((r1.mono fun k hk=>Nat.lt_of_lt_of_le hk.2 HBR.out.size).keep (Same.ofBelow hb fun k hk=>hk)) ((r2.mono fun k hk=>Nat.lt_of_lt_of_le hk.2 HBR.out.size).keep (Same.ofBelow hb fun k hk=>hk)) rfl rfl)
    have HS:=Lib.hid (fun e:(x.p,x.x)=(y.p,y.x)=>takes_succ HTK.out hx' (by rw [e]; exact hy'))
    have HN:=Lib.hid (fun e:(x.p,x.x)≠(y.p,y.x)=>takes_ne hx' hy' e)
    obtain ⟨xp,xx,xu⟩:=x
    obtain ⟨yp,yx,yu⟩:=y
    simp only at p1 p2 s1 s2 HC HS HN hW1
    obtain ⟨p,hp⟩:∃ p,p=xx.length:=⟨_,rfl⟩
    obtain ⟨q,hq⟩:∃ q,q=yx.length:=⟨_,rfl⟩
    rw [← hp] at p2 HC
    rw [← hq] at s2 HC
    obtain ⟨b,hbb⟩:∃ b,b=((xp,xx) == (yp,yx)):=⟨_,rfl⟩
    rw [← hbb] at HC
    have HBB:=Lib.hid hbb
    obtain ⟨ae,hae⟩:∃ z,z=ad.add (k * 2):=⟨_,rfl⟩
    obtain ⟨be,hbe⟩:∃ z,z=bd.add (k * 2):=⟨_,rfl⟩
    have hi0:(0:Int)≤k:=by omega
    have hi1:(k:Int) < n:=by omega
    have e1:decide ((k:Int) < (n:Int))=true:=decide_eq_true hi1
    have la:=(show ∀ wx:World,Below wr.heap.size wr wx→wx.cell? (ad.add (k * 2))=some (.int .i64 xp)∧wx.cell? ⟨(ad.add (k * 2)).block,(ad.add (k * 2)).off+1,none⟩=some (.slice A1 p d1)∧wx.cell? (bd.add (k * 2))=some (.int .i64 yp)∧wx.cell? ⟨(bd.add (k * 2)).block,(bd.add (k * 2)).off+1,none⟩=some (.slice B1 q d2) from fun wx hb=>⟨(hb.cell (cell_lt p1)).trans p1,(hb.cell (cell_lt p2)).trans p2,(hb.cell (cell_lt s1)).trans s1,(hb.cell (cell_lt s2)).trans s2⟩)
    have HLA:=Lib.hid la
    rw [← hp] at hW1
    have hb1:Below wr.heap.size wr W1:=by rw [hW1]; exact (Below.refl _ _).alloc (Nat.le_refl _) _
    have hk1:Blk W1 wr.heap.size 83 #[.int .i64 xp,.slice A1 p d1]:=by rw [hW1]; exact Blk.new wr _ _
    have hz1:W1.heap.size=wr.heap.size+1:=by rw [hW1]; simp
    obtain ⟨W2,hW2⟩:∃ Z,Z=(W1.alloc (.cells #[.int .i64 yp,.slice B1 q d2] 83)):=⟨_,rfl⟩
    have hb2:Below wr.heap.size wr W2:=by rw [hW2]; exact hb1.alloc hb1.size _
    have hk2:Blk W2 wr.heap.size 83 #[.int .i64 xp,.slice A1 p d1]:=by rw [hW2]; exact hk1.alloc _
    have hk3:Blk W2 W1.heap.size 83 #[.int .i64 yp,.slice B1 q d2]:=by rw [hW2]; exact Blk.new W1 _ _
    have HW1:=Lib.hid hW1
    have HW2:=Lib.hid hW2
    have HB2:=Lib.hid hb2
    have HC2:=Lib.hid (HC.out W2 hb2)
    obtain ⟨la1,la2,la3,la4⟩:=HLA.out wr (Below.refl _ _)
    obtain ⟨_,_,lb3,lb4⟩:=HLA.out W1 hb1
    have m1:=(show W2.cell? ⟨wr.heap.size,0,none⟩=some (.int .i64 xp) from hk2.cell 0)
    have m2:=(show W2.cell? ⟨wr.heap.size,1,none⟩=some (.slice A1 p d1) from hk2.cell 1)
    have m3:=(show W2.cell? ⟨W1.heap.size,0,none⟩=some (.int .i64 yp) from hk3.cell 0)
    have m4:=(show W2.cell? ⟨W1.heap.size,1,none⟩=some (.slice B1 q d2) from hk3.cell 1)
    clear a1 b1 hx hy hx' hy' r1 r2 hp hq hbb hW1 la hae hbe p1 p2 s1 s2 hb1 hk1 hz1 hW2 hb2 hk2 hk3 HLA HC HA HB
    go_upto_region 6 with (fail)
    rw [← HW1.out]
    go_upto_region 7 with (fail)
    rw [← HW2.out]
    clear la1 la2 la3 la4 lb3 lb4
    cases b with
    | true =>
      have hs:=Lib.hid (HS.out (by have:=HBB.out; simpa using this.symm))
      clear HS HN HBB
      go_wp2_with fail
      refine HC2.out.mono ?_
      rintro e w2 ⟨rfl,hb3⟩
      have HB3:=Lib.hid (HBR.out.trans ((HB2.out.trans (hb3.mono HB2.out.size)).mono HBR.out.size))
      clear hb3
      go_wp2_with fail
      go_roundw
      case rel=>exact ⟨k+1,by omega,rfl,hs.out,HB3.out⟩
      case measure=>simp [intOf]; omega
    | false =>
      have hs:=Lib.hid (show R=false by rw [HR.out,beq_eq_false_iff_ne]; exact HN.out (by have:=HBB.out; simpa using this.symm))
      clear HS HN HBB
      go_wp2_with fail
      refine HC2.out.mono ?_
      rintro e w2 ⟨rfl,hb3⟩
      have HB3:=Lib.hid (HBR.out.trans ((HB2.out.trans (hb3.mono HB2.out.size)).mono HBR.out.size))
      clear hb3
      go_wp2_with fail
      go_ret
      exact ⟨by rw [hs.out]; rfl,HB3.out⟩
   ·obtain rfl:k=n:=by omega
    have e1:decide ((k:Int) < (k:Int))=false:=decide_eq_false (by omega)
    have hs:=Lib.hid (show R=true by
     rw [HR.out]
     have:=HTK.out
     rw [List.take_of_length_le (by rw [List.length_map,HA.out.len]; exact Nat.le_refl _),List.take_of_length_le (by rw [List.length_map,HB.out.len]; exact Nat.le_refl _)] at this
     simpa using this)
    go_wp2_with fail
    go_ret
    exact ⟨by rw [hs.out]; rfl,HBR.out⟩
 ·have d0:((n:Int) != (m:Int))=true:=by rw [bne_iff_ne]; omega
  have hs:=Lib.hid (show R=false by
   rw [HR.out,beq_eq_false_iff_ne]
   intro e
   have h1:=HA.out.len
   have h2:=HB.out.len
   have h3:=congrArg List.length e
   rw [List.length_map,List.length_map] at h3
   omega)
  clear hnm HA HB
  go_enter Tryz.func83,Tryz.ntmps83
  go_wp2_with fail
  go_ret
  exact ⟨by rw [hs.out]; rfl,Below.refl _ _⟩
end Go.Proofs.YthlommalbkhcjaaGreat
