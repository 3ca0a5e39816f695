/- Layer 18: the simple table. -/
import Derived.Test.YthlommalbkhcjaaGreatNq48
import Derived.Test.YthlommalbkhcjaaGreatNq49
import Derived.Test.YthlommalbkhcjaaGreatNq41
namespace Go.Proofs.YthlommalbkhcjaaGreat
open Go.RowKit Go.Sort Go.BigFrame
theorem less_len (x:By):(lessF x).1.length≤x.length:=by
 unfold lessF
 split
 ·exact Nat.zero_le _
 split
 ·exact Nat.zero_le _
 ·simp
theorem ld_ints {w:World} {a:Addr} {A:Option Addr} {n c:Nat} (hu:w.cell? a=some (.slice A n c)):(Instr.loadAt 49 (.pointer (some a))).run Tryz.prog w=.ok (.slice A n c) w:=by
 simp [go_sem,hu]
section
variable {w0 w wx wy:World} {rb:Nat} {E:Re} {S:Rs} {pk:Nat→Nat→Int × Int}
theorem tl_lit (H:TbE w0 E pk) (hp0:PkPos pk) (hsm:S.x.length≤100000) (hl:S.ft.out.length≤100000) (hl2:S.ft.loc.length≤100000) (wx:World) (h:RnW w0 wx rb E S) :
  Calls Tryz.prog 130 #[.pointer (some ⟨rb,0,none⟩),.int .i64 3,.int .i64 0] wx (FtPost w0 rb E S (fwTell pk E.mtus E.own S.tok 3 0 S.x S.ft).1 (fwTell pk E.mtus E.own S.tok 3 0 S.x S.ft).2) ∧
  Calls Tryz.prog 130 #[.pointer (some ⟨rb,0,none⟩),.int .i64 1,.int .i64 0] wx (FtPost w0 rb E S (fwTell pk E.mtus E.own S.tok 1 0 S.x S.ft).1 (fwTell pk E.mtus E.own S.tok 1 0 S.x S.ft).2) ∧
  ∀ m:Int,Calls Tryz.prog 130 #[.pointer (some ⟨rb,0,none⟩),.int .i64 2,.int .i64 m] wx (FtPost w0 rb E S (fwTell pk E.mtus E.own S.tok 2 m S.x S.ft).1 (fwTell pk E.mtus E.own S.tok 2 m S.x S.ft).2) :=
 ⟨ftell_any H hp0 h 3 (by decide) 0 hsm hl hl2,ftell_any H hp0 h 1 (by decide) 0 hsm hl hl2,fun m=>ftell_any H hp0 h 2 (by decide) m hsm hl hl2⟩
set_option maxRecDepth 100000 in
set_option maxHeartbeats 8000000 in
attribute [-go_sem] Instr.storeAt Instr.loadAt in
theorem fon_any (H:TbE w0 E pk) (hp0:PkPos pk) (h:RnW w0 w rb E S) (hpo:S.kd=3→0≤S.po∧S.po < E.mtus.length) (hsm:S.x.length≤100000) (hl:S.ft.out.length≤100000) (hl2:S.ft.loc.length≤100000) :
  Calls Tryz.prog 71 #[.pointer (some ⟨rb,0,none⟩)] w (FtPost w0 rb E S (fwOn pk E.mtus E.own S.tok S.h S.kd S.po S.x S.ft).1 (fwOn pk E.mtus E.own S.tok S.h S.kd S.po S.x S.ft).2):=by
 have l11:=ld_u8s (w:=w) (g:=rb) (i:=11) (z:=(S.h.ttl:Int)) (h.blk.cell 11)
 have l16:=ld_wkd (w:=w) (a:=⟨rb,16,none⟩) (z:=S.kd) (h.blk.cell 16)
 have HT:=Lib.hid (tl_lit (rb:=rb) (S:=S) H hp0 hsm hl hl2)
 obtain ⟨F,hF⟩:∃ F,F=fwOn pk E.mtus E.own S.tok S.h S.kd S.po S.x S.ft:=⟨_,rfl⟩
 rw [← hF]
 unfold fwOn at hF
 obtain ⟨tt,htt⟩:∃ z,z=S.h.ttl:=⟨_,rfl⟩
 rw [← htt] at l11 hF
 by_cases h1:tt≤1
 ·rw [if_pos h1] at hF
  have d1:decide ((tt:Int)≤1)=true:=decide_eq_true (by omega)
  have HC:=Lib.hid (HT.out w h).1
  rw [← hF] at HC
  clear h hF htt h1 HT H l16 hpo hsm hl hl2
  go_enter Tryz.func71,Tryz.ntmps71
  go_wp2_with fail
  refine HC.out.mono ?_
  rintro e w1 ⟨rfl,lv,ov,hw⟩
  have HF:=Lib.hid hw
  clear hw
  go_wp2_with fail
  go_ret
  exact ⟨rfl,lv,ov,HF.out⟩
 rw [if_neg h1] at hF
 have d1:decide ((tt:Int)≤1)=false:=decide_eq_false (by omega)
 by_cases k3:S.kd≠3
 ·rw [if_pos k3] at hF
  have k3b:(S.kd != 3)=true:=by rw [bne_iff_ne]; exact k3
  have HC:=Lib.hid (HT.out w h).2.1
  rw [← hF] at HC
  obtain ⟨kd,hkd⟩:∃ z,z=S.kd:=⟨_,rfl⟩
  rw [← hkd] at l16 k3b
  clear h hF htt h1 HT H k3 hkd hpo hsm hl hl2
  go_enter Tryz.func71,Tryz.ntmps71
  go_wp2_with fail
  refine HC.out.mono ?_
  rintro e w1 ⟨rfl,lv,ov,hw⟩
  have HF:=Lib.hid hw
  clear hw
  go_wp2_with fail
  go_ret
  exact ⟨rfl,lv,ov,HF.out⟩
 rw [if_neg k3] at hF
 have k3':S.kd=3:=by simpa using k3
 rw [k3'] at l16
 obtain ⟨hp1,hp2⟩:=hpo k3'
 obtain ⟨q,hq⟩:∃ q:Nat,S.po=(q:Int):=⟨S.po.toNat,(Int.toNat_of_nonneg hp1).symm⟩
 obtain ⟨A,n,c,hpv,hn,hc,_⟩:=h.pkt
 have HL:=Lib.hid (less_any A n c S.x _ w (h.pkA hpv) hn hc (by omega))
 have l4:=ld_bys (w:=w) (a:=⟨rb,4,none⟩) (A:=A) (n:=n) (c:=c) (by rw [← hpv]; exact h.blk.cell 4)
 have hqm:q < E.mtus.length:=by omega
 have hlen:=less_len S.x
 obtain ⟨Y,hY⟩:∃ Y,Y=lessF S.x:=⟨_,rfl⟩
 rw [← hY] at HL hF hlen
 obtain ⟨y,ye⟩:=Y
 simp only at HL hF hlen
 obtain ⟨m,hm⟩:∃ m,m=E.mtus.getD q 0:=⟨_,rfl⟩
 have hpt:S.po.toNat=q:=by omega
 rw [hpt,← hm] at hF
 have HFT:=Lib.hid (fun A n c I wx (hx:Reads wx I 1 A n (bytesV y)) (hn:y.length=n) (hc:n≤c) (hs:n≤1000000)=>ffits_any A n c y m I wx hx hn hc hs)
 obtain ⟨Fi,hFi⟩:∃ Fi,Fi=fitsF y m:=⟨_,rfl⟩
 rw [← hFi] at HFT hF
 obtain ⟨fb,fe⟩:=Fi
 simp only at HFT hF
 obtain ⟨df,hdf⟩:∃ b,b=S.h.df:=⟨_,rfl⟩
 rw [← hdf] at hF
 have HOUT:=Lib.hid (fun wx (hx:RnW w0 wx rb E S) A n c I (hy:Reads wx I 1 A n (bytesV y)) (hn:y.length=n) (hc:n≤c) (hs:n≤100000)=>fout_any H hx hqm A n c y I hy hn hc hs hl)
 rw [← hq] at HOUT
 have HMT:=Lib.hid (fun wx (hu:RnW w0 wx rb E S)=>TbE.mtu H hu.upd hqm)
 rw [← hm] at HMT
 obtain ⟨am,ham,_⟩:=HMT.out w h
 obtain ⟨M,hM⟩:∃ M,M=E.mtus.length:=⟨_,rfl⟩
 have p0:(0:Int)≤(q:Int):=by omega
 have p1:(q:Int) < (M:Int):=by omega
 have p2:q < M:=by omega
 have HH:=Lib.hid h
 have HQ:=Lib.hid hq
 have HM:=Lib.hid hM
 have HAM:=Lib.hid ham
 have HDF:=Lib.hid hdf
 have HLE:=Lib.hid (show y.length≤100000 by omega)
 have HG:=Lib.hid (fun wx (hx:RnW w0 wx rb E S)=>(⟨by rw [HM.out,← HAM.out]; exact hx.blk.cell 2,by rw [← HQ.out]; exact hx.blk.cell 17,by
  obtain ⟨ad,e,hc⟩:=HMT.out wx hx
  rw [HAM.out] at e
  injection e with e
  rw [e]
  exact hc,by rw [HDF.out]; exact hx.blk.cell 8⟩:wx.cell? ⟨rb,2,none⟩=some (.slice (some am) M E.cm)∧wx.cell? ⟨rb,17,none⟩=some (.int .i64 (q:Int))∧wx.cell? (am.add q)=some (.int .i64 m)∧wx.cell? ⟨rb,8,none⟩=some (.bool df)))
 have HFF:=Lib.hid hF
 clear h hF htt h1 H k3 k3' hp1 hp2 hq hqm hpv hn hc hY hm hpt hFi hdf hM ham hsm hl hl2 hlen hpo HMT
 go_enter Tryz.func71,Tryz.ntmps71
 go_wp2_with fail
 refine HL.out.mono ?_
 rintro e w1 ⟨v,rfl,hr,hb1⟩
 obtain ⟨Ay,cy,rfl,_⟩:=hr.form
 have H1:=Lib.hid (HH.out.below hb1)
 have hy:Row8 w0.heap.size w1 (.slice Ay y.length cy) y:=own_base hr HH.out.upd.size
 have HY:=Lib.hid hy
 clear hy
 obtain ⟨N,hN⟩:∃ N,N=y.length:=⟨_,rfl⟩
 rw [← hN] at HY ⊢
 have HNN:=Lib.hid hN
 clear hr hb1 hN l4 l11 l16 HL
 go_upto_region 6 with (fail)
 refine wp_region_stages [(true,17)] (by kernel_rfl) (by kernel_rfl) fun wz hz hz2=>?_
 have HZ:=Lib.hid (H1.out.below hz)
 have HYZ:=Lib.hid (HY.out.below hz)
 clear hz hz2
 have l2:=cell_regrown (HG.out wz HZ.out).1
 have l17:=cell_regrown (HG.out wz HZ.out).2.1
 have lm:=cell_regrown (HG.out wz HZ.out).2.2.1
 have m2:=fun d os=>ld_ints (l2 d os)
 have m17:=fun d os=>ld_int (l17 d os)
 have mm:=fun d os=>ld_int (lm d os)
 have qc:=fun (d:Nat) (os:Array Obj)=>by
  obtain ⟨r1,r2,r3⟩:=(HYZ.out.below (below_regrown wz d os)).rd
  exact Calls.regrown_of (HFT.out Ay N cy _ (grow (redrawn wz d) os) r3 r1 r2 (by have:=HLE.out; have:=HNN.out; omega))
 refine wpSt_q ?_
 simp only [List.take_succ_cons,List.take_zero,List.drop_succ_cons,List.drop_zero]
 repeat (go_big_quiet_step (with_reducible exact qc _ _))
 refine wpQuiet_nil ?_
 intro _ hw'
 obtain ⟨⟨dq,osq⟩,hw''⟩:=hw'
 subst hw''
 have HB:=Lib.hid (HZ.out.below (below_regrown wz dq osq))
 have HYB:=Lib.hid (HYZ.out.below (below_regrown wz dq osq))
 clear l2 l17 lm m2 m17 mm qc HZ HYZ HFT
 generalize grow (redrawn wz dq) osq=wb at HB HYB ⊢
 refine wpSt_end ?_
 have l8:=ld_bool (HG.out wb HB.out).2.2.2
 obtain ⟨g,hg⟩:∃ g,g=(!fb && df):=⟨_,rfl⟩
 have hg2:(fb=false∧df=true)=(g=true):=by rw [hg]; cases fb <;> cases df <;> simp
 have hF:F=if g=true then fwTell pk E.mtus E.own S.tok 2 m S.x S.ft else (fwOut E.mtus S.po y S.ft,S.tok):=by
  rw [HFF.out]
  by_cases hq:fb=false∧df=true
  ·rw [if_pos hq,if_pos (hg2 ▸ hq)]
  ·rw [if_neg hq,if_neg (hg2 ▸ hq)]
 have HF:=Lib.hid hF
 clear hF HFF hg2
 have fin:∀ (wb:World),RnW w0 wb rb E S→Row8 w0.heap.size wb (.slice Ay N cy) y→g=false→Calls Tryz.prog 133 #[.pointer (some ⟨rb,0,none⟩),.int .i64 (q:Int),.slice Ay N cy] wb (FtPost w0 rb E S F.1 F.2):=fun wb hw hy hg=>by
  obtain ⟨r1,r2,r3⟩:=hy.rd
  have:=HOUT.out wb hw Ay N cy _ r3 r1 r2 (by have:=HLE.out; have:=HNN.out; omega)
  rw [HF.out,if_neg (by rw [hg]; decide),HQ.out]
  rw [HQ.out] at this
  exact this
 have tel:∀ (wb:World),RnW w0 wb rb E S→g=true→Calls Tryz.prog 130 #[.pointer (some ⟨rb,0,none⟩),.int .i64 2,.int .i64 m] wb (FtPost w0 rb E S F.1 F.2):=fun wb hw hg=>by
  rw [HF.out,if_pos hg]
  exact (HT.out wb hw).2.2 m
 have FIN:=Lib.hid fin
 have TEL:=Lib.hid tel
 clear fin tel HT HOUT HF
 cases fb with
 | true =>
   have hg':g=false:=hg
   have HC:=Lib.hid (FIN.out wb HB.out HYB.out hg')
   have l17:=ld_int (HG.out wb HB.out).2.1
   clear hg hg'
   go_wp2_with fail
   refine HC.out.mono ?_
   rintro e w1 ⟨rfl,lv,ov,hw⟩
   have HF:=Lib.hid hw
   clear hw
   go_wp2_with fail
   go_ret
   exact ⟨rfl,lv,ov,HF.out⟩
 | false =>
   cases df with
   | false =>
     have hg':g=false:=hg
     have HC:=Lib.hid (FIN.out wb HB.out HYB.out hg')
     have l17:=ld_int (HG.out wb HB.out).2.1
     clear hg hg'
     go_wp2_with fail
     refine HC.out.mono ?_
     rintro e w1 ⟨rfl,lv,ov,hw⟩
     have HF:=Lib.hid hw
     clear hw
     go_wp2_with fail
     go_ret
     exact ⟨rfl,lv,ov,HF.out⟩
   | true =>
     have hg':g=true:=hg
     have TE:=Lib.hid (fun wx hx=>TEL.out wx hx hg')
     clear hg hg' TEL FIN
     go_upto_region 8 with (fail)
     refine wp_region_stages [(true,11),(false,2)] (by kernel_rfl) (by kernel_rfl) fun wz hz hz2=>?_
     have HZ:=Lib.hid (HB.out.below hz)
     clear hz hz2 l8
     have l2:=cell_regrown (HG.out wz HZ.out).1
     have l17:=cell_regrown (HG.out wz HZ.out).2.1
     have lm:=cell_regrown (HG.out wz HZ.out).2.2.1
     have m2:=fun d os=>ld_ints (l2 d os)
     have m17:=fun d os=>ld_int (l17 d os)
     have mm:=fun d os=>ld_int (lm d os)
     refine wpSt_q ?_
     simp only [List.take_succ_cons,List.take_zero,List.drop_succ_cons,List.drop_zero]
     repeat (go_big_quiet_step (fail))
     refine wpQuiet_nil ?_
     intro _ hw'
     obtain ⟨⟨dq,osq⟩,hw''⟩:=hw'
     subst hw''
     have HC:=Lib.hid (TE.out _ (HZ.out.below (below_regrown wz dq osq)))
     clear l2 l17 lm m2 m17 mm HZ TE
     generalize grow (redrawn wz dq) osq=wc at HC ⊢
     refine wpSt_l ?_
     go_wp2_with (refine HC.out.mono ?_; rintro e w1 ⟨rfl,lv,ov,hw⟩; have HF:=Lib.hid hw; clear hw)
     refine wpSt_end ?_
     go_wp2_with fail
     go_ret
     exact ⟨rfl,lv,ov,HF.out⟩
end
end Go.Proofs.YthlommalbkhcjaaGreat
namespace Go.Proofs.YthlommalbkhcjaaGreat
open Go.RowKit Go.Sort Go.BigFrame
theorem ft_info:(Tryz.prog.info? 71).map (·.size)=some 4:=by kernel_rfl
def ftC (d e:Int) (lv ov:Value):Array Value:=#[.int .i64 d,.int .i64 e,lv,ov]
theorem res_ft {w:World} {g:Nat} {cs:Array Value} {fn:Func} {p u:Tmp} (hf:fn.results=#[.cell p 71,.tmp u]) (tmps:Array Value) (hp:tmps.getD p undef=.pointer (some ⟨g,0,none⟩)) (h:Blk w g 71 cs) (hc:cs.size=4) :
  (results fn tmps).run Tryz.prog w=.ok (.tuple #[.agg cs,tmps.getD u undef]) w:=by
 have hl:=run_loadVar_mid (P:=Tryz.prog) w g 0 71 cs.toList _ (blk_range h) Tryz.underlying71 rfl (by simpa [hc] using ft_info)
 have e1:tmps[p]?.getD undef=.pointer (some ⟨g,0,none⟩):=by simpa using hp
 simp only [results,hf]
 simp [Result.andThen,e1,asAddr,hl]
theorem own_manyG {t:TypeId} {rb:Nat} {B:Nat} {e:TypeId} {size n:Nat} {v:Value} {xs:List Value} (hne:e≠t):∀ (l:List Value) (o:Nat) (C:Array Value) (w:World),Blk w rb t C→w.ownsRow B e size v n xs→(w.setCells rb o l).ownsRow B e size v n xs
 | [],_,_,_,_,h=>h
 | u :: r,o,_,_,hk,h=>own_manyG hne r (o+1) _ _ (hk.set_ o u) (ownsRow_setCell_other (a:=⟨rb,o,none⟩) h (own_blk_ne h hk hne) u)
def JgPost (w0:World) (bb:Nat) (R:Ft × Int) (e:Ending) (w':World):Prop :=
 ∃ lv ov,e=.returned (.tuple #[.agg #[.int .i64 (R.1.drop:Int),.int .i64 (R.1.err:Int),lv,ov],.int .i64 0])∧Upd (fun k=>k=bb) w0 w'∧IsBk w' bb 64 1 R.2 0∧(0≤R.2∧R.2≤64)∧Rows8 w0.heap.size w' lv R.1.loc∧Snts w0.heap.size w' ov R.1.out
def rs0 (pv:Value) (x:By) (tok:Int):Rs:=⟨false,pv,x,.slice none 0 0,hd0,0,0,.slice none 0 0,.slice none 0 0,ft0,tok⟩
theorem ld_fnb {w:World} {a:Addr} {f:Nat} {v:Value} (hu:w.cell? a=some (.func (.func f) #[v] #[])):(Instr.loadAt 26 (.pointer (some a))).run Tryz.prog w=.ok (.func (.func f) #[v] #[]) w:=by
 simp [go_sem,hu]
def fnC (rb:Nat):Array Value:=#[.func (.func 68) #[.pointer (some ⟨rb,0,none⟩)] #[],.func (.func 69) #[.pointer (some ⟨rb,0,none⟩)] #[],.func (.func 70) #[.pointer (some ⟨rb,0,none⟩)] #[],.func (.func 71) #[.pointer (some ⟨rb,0,none⟩)] #[]]
section
variable {w0 w wx wy:World} {rb:Nat} {E:Re} {S:Rs} {pk:Nat→Nat→Int × Int}
set_option maxRecDepth 100000 in
theorem jg_end {R:Ft × Int} {lv ov:Value} {g:Nat} {w1:World} (hw:RnW w0 wx rb E { S with ft:=R.1,tok:=R.2,lv:=lv,ov:=ov }) (hg:Blk wx g 71 #[.int .i64 0,.int .i64 0,.slice none 0 0,.slice none 0 0]) (hb0:Below w1.heap.size w1 w0) (hg0:w1.heap.size≤g) (_hbb:E.bb < w1.heap.size) :
  (Instr.loadAt 71 (.pointer (some ⟨rb,18,none⟩))).run Tryz.prog wx=.ok (.agg (ftC (R.1.drop:Int) (R.1.err:Int) lv ov)) wx ∧
  (Instr.storeAt 71 (.pointer (some ⟨g,0,none⟩)) (.agg (ftC (R.1.drop:Int) (R.1.err:Int) lv ov))).run Tryz.prog wx=.ok () (wx.setCells g 0 (ftC (R.1.drop:Int) (R.1.err:Int) lv ov).toList) ∧
  Blk (wx.setCells g 0 (ftC (R.1.drop:Int) (R.1.err:Int) lv ov).toList) g 71 (ftC (R.1.drop:Int) (R.1.err:Int) lv ov) ∧
  JgPost w1 E.bb R (.returned (.tuple #[.agg (ftC (R.1.drop:Int) (R.1.err:Int) lv ov),.int .i64 0])) (wx.setCells g 0 (ftC (R.1.drop:Int) (R.1.err:Int) lv ov).toList):=by
 obtain ⟨Al,cl,hlv,_⟩:=hw.lc.form
 have hov:∃ A n c,ov=.slice A n c:=by
  obtain ⟨Z,_,ho,_⟩:=hw.ou
  obtain ⟨A,c,e,_⟩:=own_form ho
  exact ⟨A,_,c,e⟩
 obtain ⟨Ao,no,co,hov⟩:=hov
 have hone:(ftC (R.1.drop:Int) (R.1.err:Int) lv ov).all (·.oneCell')=true:=by
  have h1:lv=.slice Al _ cl:=hlv
  have h2:ov=.slice Ao no co:=hov
  rw [h1,h2]
  simp [ftC,Value.oneCell']
 refine ⟨?_,stc_store ft_info hg rfl rfl hone,blk_setCells hg rfl,lv,ov,rfl,?_,?_,hw.tk,?_,?_⟩
 ·have:=run_loadAt_mid (P:=Tryz.prog) wx rb 18 71 (ftC (R.1.drop:Int) (R.1.err:Int) lv ov).toList _ (fun j v hj=>by
   rw [hw.blk.cell]
   match j,hj with
   | 0,hj=>exact hj
   | 1,hj=>exact hj
   | 2,hj=>exact hj
   | 3,hj=>exact hj
   | n+4,hj=>cases hj) Tryz.underlying71 rfl ft_info
  simpa using this
 ·have h1:Upd (fun k=>k=E.bb) w1 w0:=Upd.ofBelow hb0 _
  have h2:=h1.trans hw.upd fun k hk=>.inl hk
  exact Upd.setCells _ _ _ h2 (.inr hg0)
 ·exact blk_far_setCells (blk_tne hw.bk hg (by decide)) _ _ _ hw.bk
 ·obtain ⟨us,a,b,c⟩:=hw.lc
  exact ⟨us,own_base (own_manyG (by decide) _ _ _ _ hg a) hb0.size,b,fun k x hx=>by obtain ⟨v,e,r⟩:=c k x hx; exact ⟨v,e,own_base (own_manyG (by decide) _ _ _ _ hg r) hb0.size⟩⟩
 ·obtain ⟨Z,a,b,c⟩:=hw.ou
  exact ⟨Z,a,own_base (own_manyG (by decide) _ _ _ _ hg b) hb0.size,fun z hz=>own_base (own_manyG (by decide) _ _ _ _ hg (c z hz)) hb0.size⟩
end
end Go.Proofs.YthlommalbkhcjaaGreat
namespace Go.Proofs.YthlommalbkhcjaaGreat
open Go.RowKit Go.Sort Go.BigFrame
def sr1:Rt:=⟨167772160,8,true,true,0,none,0,0,[]⟩
def sr2 (A:Option Addr):Rt:=⟨184549376,8,false,true,3,A,1,1,[(0,3)]⟩
def sr3 (A:Option Addr):Rt:=⟨201326592,8,false,true,3,A,1,1,[(1,3)]⟩
def sT:TT:=((TT.nil.ins (bitsB 167772160 8) 1).ins (bitsB 184549376 8) 2).ins (bitsB 201326592 8) 3
theorem mk_simple (A B:Option Addr):mkT vk 0 [sr1,sr2 A,sr3 B] .nil=some sT:=by kernel_rfl
theorem sT_cov1:sT.cov (bitsB 184549381 32)=[(bitsB 184549376 8,2)]:=by kernel_rfl
theorem sT_cov2:sT.cov (bitsB 201326597 32)=[(bitsB 201326592 8,3)]:=by kernel_rfl
theorem sw2 (A B:Option Addr):wkL [sr1,sr2 A,sr3 B] 2=(3,List.replicate 256 0):=by kernel_rfl
theorem sw3 (A B:Option Addr):wkL [sr1,sr2 A,sr3 B] 3=(3,List.replicate 256 1):=by kernel_rfl
theorem sT_len:sT.list.length=3:=by kernel_rfl
theorem rep_getD {n:Nat} (z:Int) {u:Nat} (h:u < n):(List.replicate n z).getD u 0=z:=by
 simp [List.getD_eq_getElem?_getD,h]
theorem simple_pk (A B:Option Addr):(∀ u,pkF (wkL [sr1,sr2 A,sr3 B]) sT 184549381 u=(3,0))∧∀ u,pkF (wkL [sr1,sr2 A,sr3 B]) sT 201326597 u=(3,1):=by
 constructor
 ·intro u
  unfold pkF
  rw [sT_cov1,if_neg (by simp)]
  show ((wkL [sr1,sr2 A,sr3 B] 2).1,(wkL [sr1,sr2 A,sr3 B] 2).2.getD (u % 256) 0)=_
  rw [sw2,rep_getD _ (Nat.mod_lt _ (by decide))]
 ·intro u
  unfold pkF
  rw [sT_cov2,if_neg (by simp)]
  show ((wkL [sr1,sr2 A,sr3 B] 3).1,(wkL [sr1,sr2 A,sr3 B] 3).2.getD (u % 256) 0)=_
  rw [sw3,rep_getD _ (Nat.mod_lt _ (by decide))]
theorem pk_pos (l:List Rt) (T:TT):PkPos (pkF (wkL l) T):=fun a u _=>by
 unfold pkF
 split
 ·exact Int.le_refl _
 ·exact ((wkL_ok l _).at_port _).1
theorem ask_info:(Tryz.prog.info? 60).map (·.size)=some 4:=by kernel_rfl
def askV (Ar:Option Addr) (nr cr:Nat) (own:Int) (Am:Option Addr) (nm cm:Nat) (tok:Int):Array Value:=#[.slice Ar nr cr,.int .u32 own,.slice Am nm cm,.int .i64 tok]
def SmPost (w:World) (e:Ending) (w':World):Prop :=
 ∃ Ar Am A B,e=.returned (.agg (askV Ar 3 3 167772161 Am 2 2 5))∧RtsM w' (fun k=>w.heap.size≤k∧k < w'.heap.size) Ar 3 [sr1,sr2 A,sr3 B]∧Reads w' (fun k=>w.heap.size≤k∧k < w'.heap.size) 1 Am 2 (izV [1500,600])∧Below w.heap.size w w'
theorem res_ask {w:World} {g:Nat} {cs:Array Value} {fn:Func} {p:Tmp} (hf:fn.results=#[.cell p 60]) (tmps:Array Value) (hp:tmps.getD p undef=.pointer (some ⟨g,0,none⟩)) (h:Blk w g 60 cs) (hc:cs.size=4) :
  (results fn tmps).run Tryz.prog w=.ok (.agg cs) w:=by
 have hl:=run_loadVar_mid (P:=Tryz.prog) w g 0 60 cs.toList _ (blk_range h) Tryz.underlying60 rfl (by simpa [hc] using ask_info)
 have e1:tmps[p]?.getD undef=.pointer (some ⟨g,0,none⟩):=by simpa using hp
 simp only [results,hf]
 simp [e1,asAddr,hl]
theorem simple_mem {w w1 w2 w3 w4:World} (h1:w1=w.alloc (.cells #[.int .i64 0,.int .i64 3] 110)) (h2:w2=w1.alloc (.cells #[.int .i64 1,.int .i64 3] 110))
  (h3:w3=w2.alloc (.cells #[.int .u32 167772160,.int .i64 8,.bool true,.bool true,.int .i64 0,.slice none 0 0,.int .u32 184549376,.int .i64 8,.bool false,.bool true,.int .i64 3,.slice (some ⟨w.heap.size,0,none⟩) 1 1,.int .u32 201326592,.int .i64 8,.bool false,.bool true,.int .i64 3,.slice (some ⟨w.heap.size+1,0,none⟩) 1 1] 54))
  (h4:w4=w3.alloc (.cells #[.int .i64 1500,.int .i64 600] 3)) :
  RtsM w4 (fun k=>w.heap.size≤k∧k < w4.heap.size) (some ⟨w.heap.size+1+1,0,none⟩) 3 [sr1,sr2 (some ⟨w.heap.size,0,none⟩),sr3 (some ⟨w.heap.size+1,0,none⟩)]∧Reads w4 (fun k=>w.heap.size≤k∧k < w4.heap.size) 1 (some ⟨w.heap.size+1+1+1,0,none⟩) 2 (izV [1500,600])∧Below w.heap.size w w4:=by
 have s1:w1.heap.size=w.heap.size+1:=by rw [h1]; simp
 have s2:w2.heap.size=w1.heap.size+1:=by rw [h2]; simp
 rw [← s1] at h3 ⊢
 rw [← s2]
 have s3:w3.heap.size=w2.heap.size+1:=by rw [h3]; simp
 rw [← s3]
 have s4:w4.heap.size=w3.heap.size+1:=by rw [h4]; simp
 have b1:Below w.heap.size w w1:=by rw [h1]; exact (Below.refl _ _).alloc (Nat.le_refl _) _
 have b2:Below w1.heap.size w1 w2:=by rw [h2]; exact (Below.refl _ _).alloc (Nat.le_refl _) _
 have b3:Below w2.heap.size w2 w3:=by rw [h3]; exact (Below.refl _ _).alloc (Nat.le_refl _) _
 have b4:Below w3.heap.size w3 w4:=by rw [h4]; exact (Below.refl _ _).alloc (Nat.le_refl _) _
 have b34:Below w2.heap.size w2 w4:=b3.trans (b4.mono b3.size)
 have b24:Below w1.heap.size w1 w4:=b2.trans (b34.mono b2.size)
 have r1:=reads_lit w 110 #[.int .i64 0,.int .i64 3] 1 2 (0,0) rfl
 have r2:=reads_lit w1 110 #[.int .i64 1,.int .i64 3] 1 2 (0,0) rfl
 have r3:=reads_lit w2 54 #[.int .u32 167772160,.int .i64 8,.bool true,.bool true,.int .i64 0,.slice none 0 0,.int .u32 184549376,.int .i64 8,.bool false,.bool true,.int .i64 3,.slice (some ⟨w.heap.size,0,none⟩) 1 1,.int .u32 201326592,.int .i64 8,.bool false,.bool true,.int .i64 3,.slice (some ⟨w1.heap.size,0,none⟩) 1 1] 3 6 (0,0) rfl
 have r4:=reads_lit w3 3 #[.int .i64 1500,.int .i64 600] 2 1 (0,0) rfl
 rw [← h1] at r1
 rw [← h2] at r2
 rw [← h3] at r3
 rw [← h4] at r4
 have q1:Reads w4 (fun k=>w.heap.size≤k∧k < w4.heap.size) 2 (some ⟨w.heap.size,0,none⟩) 1 [.int .i64 0,.int .i64 3] :=
  (r1.keep (Same.ofBelow b24 fun k (e:k=w.heap.size)=>by omega)).mono fun k (e:k=w.heap.size)=>⟨by omega,by omega⟩
 have q2:Reads w4 (fun k=>w.heap.size≤k∧k < w4.heap.size) 2 (some ⟨w1.heap.size,0,none⟩) 1 [.int .i64 1,.int .i64 3] :=
  (r2.keep (Same.ofBelow b34 fun k (e:k=w1.heap.size)=>by omega)).mono fun k (e:k=w1.heap.size)=>⟨by omega,by omega⟩
 refine ⟨⟨(r3.keep (Same.ofBelow b4 fun k (e:k=w2.heap.size)=>by omega)).mono fun k (e:k=w2.heap.size)=>⟨by omega,by omega⟩,rfl,fun r hr=>?_⟩,r4.mono fun k (e:k=w3.heap.size)=>⟨by omega,by omega⟩,b1.trans (b24.mono b1.size)⟩
 rcases List.mem_cons.1 hr with rfl | hr
 ·exact ⟨by decide,rfl,by decide,rfl,fun h=>absurd h (by decide)⟩
 rcases List.mem_cons.1 hr with rfl | hr
 ·exact ⟨show 184549376 < 2 ^ 32 by decide,rfl,show 1≤9000000000000 by decide,q1⟩
 rcases List.mem_cons.1 hr with rfl | hr
 ·exact ⟨show 201326592 < 2 ^ 32 by decide,rfl,show 1≤9000000000000 by decide,q2⟩
 ·simp at hr
set_option maxRecDepth 100000 in
set_option maxHeartbeats 4000000 in
attribute [-go_sem] Instr.storeAt Instr.loadAt in
theorem simple_any (w:World):Calls Tryz.prog 36 #[] w (SmPost w):=by
 obtain ⟨W,hW⟩:∃ Z,Z=w.alloc (.cells #[.slice none 0 0,.int .u32 0,.slice none 0 0,.int .i64 0] 60):=⟨_,rfl⟩
 have hbW:Below w.heap.size w W:=by rw [hW]; exact (Below.refl _ _).alloc (Nat.le_refl _) _
 have hkW:Blk W w.heap.size 60 #[.slice none 0 0,.int .u32 0,.slice none 0 0,.int .i64 0]:=by rw [hW]; exact Blk.new w _ _
 obtain ⟨w1,h1⟩:∃ Z,Z=W.alloc (.cells #[.int .i64 0,.int .i64 3] 110):=⟨_,rfl⟩
 obtain ⟨w2,h2⟩:∃ Z,Z=w1.alloc (.cells #[.int .i64 1,.int .i64 3] 110):=⟨_,rfl⟩
 obtain ⟨w3,h3⟩:∃ Z,Z=w2.alloc (.cells #[.int .u32 167772160,.int .i64 8,.bool true,.bool true,.int .i64 0,.slice none 0 0,.int .u32 184549376,.int .i64 8,.bool false,.bool true,.int .i64 3,.slice (some ⟨W.heap.size,0,none⟩) 1 1,.int .u32 201326592,.int .i64 8,.bool false,.bool true,.int .i64 3,.slice (some ⟨W.heap.size+1,0,none⟩) 1 1] 54):=⟨_,rfl⟩
 obtain ⟨w4,h4⟩:∃ Z,Z=w3.alloc (.cells #[.int .i64 1500,.int .i64 600] 3):=⟨_,rfl⟩
 obtain ⟨m1,m2,m3⟩:=simple_mem h1 h2 h3 h4
 have hk4:=hkW.below m3 hkW.lt
 obtain ⟨cs,hcs⟩:∃ cs,cs=askV (some ⟨W.heap.size+1+1,0,none⟩) 3 3 167772161 (some ⟨W.heap.size+1+1+1,0,none⟩) 2 2 5:=⟨_,rfl⟩
 have hc4:cs.size=4:=by rw [hcs]; rfl
 have hst:(Instr.storeAt 60 (.pointer (some ⟨w.heap.size,0,none⟩)) (.agg cs)).run Tryz.prog w4=.ok () (w4.setCells w.heap.size 0 cs.toList):=stc_store ask_info hk4 rfl hc4 (by rw [hcs]; simp [askV,Value.oneCell'])
 have hk5:Blk (w4.setCells w.heap.size 0 cs.toList) w.heap.size 60 cs:=blk_setCells hk4 (by rw [hc4]; rfl)
 have hup:Upd (fun k=>k=w.heap.size) w4 (w4.setCells w.heap.size 0 cs.toList):=Upd.setCells _ _ _ (Upd.refl _ _) (.inl rfl)
 have hsz:W.heap.size=w.heap.size+1:=by rw [hW]; simp
 have hsm:=hup.same (I:=fun k=>W.heap.size≤k∧k < w4.heap.size) fun k (e:k=w.heap.size) hI=>by omega
 have hfin:SmPost w (.returned (.agg cs)) (w4.setCells w.heap.size 0 cs.toList):=by
  refine ⟨some ⟨W.heap.size+1+1,0,none⟩,some ⟨W.heap.size+1+1+1,0,none⟩,_,_,by rw [hcs],(m1.keep hsm).mono fun k hk=>⟨by omega,Nat.lt_of_lt_of_le hk.2 hup.size⟩,(m2.keep hsm).mono fun k hk=>⟨by omega,Nat.lt_of_lt_of_le hk.2 hup.size⟩,?_⟩
  exact (hbW.trans (m3.mono hbW.size)).trans (hup.below (fun k (e:k=w.heap.size)=>by omega) (Nat.le_trans hbW.size m3.size))
 rw [h4,h3,h2,h1] at hst
 rw [hcs] at hst
 unfold askV at hst
 have HK:=Lib.hid hk5
 have HF:=Lib.hid hfin
 have HALL:=Lib.hid (⟨h1,h2,h3,h4,hcs,hc4⟩:_∧_∧_∧_∧_∧_)
 obtain ⟨g,hg⟩:∃ g,g=w.heap.size:=⟨_,rfl⟩
 rw [← hg] at hst HK HF
 have HG:=Lib.hid hg
 have HW:=Lib.hid hW
 clear hk5 hfin hW h1 h2 h3 h4 hcs hup hsz hsm m1 m2 m3 hk4 hbW hkW hc4 hg
 go_enter Tryz.func36,Tryz.ntmps36
 go_upto_region 1 with (fail)
 rw [← HW.out,← HG.out]
 go_wp2_with fail
 obtain ⟨h1,h2,h3,h4,hcs,hc4⟩:=HALL.out
 have hk:=HK.out
 have hf:=HF.out
 rw [h4,h3,h2,h1,hcs] at hk hf
 rw [hcs] at hc4
 refine bodyPost_ret_by (res_ask rfl _ rfl hk hc4) rfl ?_
 exact hf
end Go.Proofs.YthlommalbkhcjaaGreat
