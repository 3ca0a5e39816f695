/- slices.Grow at nil, slices.Concat, wire.Join. -/
import Derived.Test.YthlommalbkhcjaaGreatNq41
import Derived.Test.YthlommalbkhcjaaGreatNq24
import Derived.Test.YthlommalbkhcjaaGreatNq38
namespace Go.Proofs.YthlommalbkhcjaaGreat
open Go.RowKit Go.Sort Go.BigFrame
section
variable {w0 w wx wy:World} {rb:Nat} {E:Re} {S:Rs} {pk:Nat→Nat→Int × Int}
def FtPost (w0:World) (rb:Nat) (E:Re) (S:Rs) (F:Ft) (tok:Int) (e:Ending) (w':World):Prop:=e=.returned (.bool true)∧∃ lv ov,RnW w0 w' rb E { S with ft:=F,tok:=tok,lv:=lv,ov:=ov }
theorem TbE.mtu (H:TbE w0 E pk) (hu:Upd (fun k=>k=E.bb) w0 wx) {po:Nat} (hp:po < E.mtus.length):∃ ad,E.Am=some ad∧wx.cell? (ad.add po)=some (.int .i64 (E.mtus.getD po 0)):=by
 have hk:=(H.mt.keep (hu.same fun k (e:k=E.bb) hI=>hI.2 e)).2 (by omega)
 obtain ⟨ad,e,_,_,hc⟩:=hk
 refine ⟨ad,e,?_⟩
 have:=hc po (.int .i64 (E.mtus.getD po 0)) (by unfold izV; rw [List.getElem?_map,List.getElem?_eq_getElem hp]; simp [hp])
 simpa using this
theorem Rows8.add (h:RnW w0 wx rb E S) (hu:Upd (AddU rb S) wx wy) {B:Nat} {v:Value} {L:List By} (hr:Rows8 B wx v L):Rows8 B wy v L :=
 hr.types hu.size (fun _ _ _ hb=>AddU.ty h hu (by decide) (by decide) hb) fun _ _ _ hb=>AddU.ty h hu (by decide) (by decide) hb
def BxM (wx:World) (rb b3:Nat) (po:Int):Prop:=Blk wx b3 140 #[.pointer (some ⟨rb,0,none⟩)]∧Blk wx (b3+1) 3 #[.int .i64 po]
theorem BxM.below {b3:Nat} {po:Int} (h:BxM wx rb b3 po) (hb:Below wx.heap.size wx wy):BxM wy rb b3 po:=⟨h.1.below hb h.1.lt,h.2.below hb h.2.lt⟩
theorem BxM.add (h:RnW w0 wx rb E S) (hu:Upd (AddU rb S) wx wy) {b3:Nat} {po:Int} (hx:BxM wx rb b3 po):BxM wy rb b3 po :=
 ⟨(AddU.ty h hu (by decide) (by decide) hx.1).trans hx.1,(AddU.ty h hu (by decide) (by decide) hx.2).trans hx.2⟩
theorem Rows8.get {B:Nat} {A:Option Addr} {n c:Nat} {L:List By} (h:Rows8 B wx (.slice A n c) L) {k:Nat} {x:By} (hx:L[k]?=some x):∃ ad A' c',A=some ad∧wx.cell? (ad.add k)=some (.slice A' x.length c')∧Row8 B wx (.slice A' x.length c') x:=by
 obtain ⟨us,h1,h2,h3⟩:=h
 obtain ⟨u,e,r⟩:=h3 k x hx
 obtain ⟨A',c',rfl,_⟩:=own_form r
 have hk:=(List.getElem?_eq_some_iff.1 hx).1
 obtain ⟨g,c1,e1,_⟩:=own_form1 h1 (by omega)
 injection e1 with e1 e2 e3
 subst e1 e2 e3
 have:=h1.cellAt k (by omega)
 rw [e] at this
 exact ⟨_,A',c',rfl,by rw [add_off,Nat.zero_add]; exact this,r⟩
theorem Rs.snoc {L:List By} {k:Nat} {y:By} (hk:L[k]?=some y) (po:Int) (O:List (Int × By)):(O++(L.take k).map fun y=>(po,y))++[(po,y)]=O++(L.take (k+1)).map fun y=>(po,y):=by
 rw [List.take_add_one,hk]
 simp
set_option maxRecDepth 100000 in
set_option maxHeartbeats 8000000 in
theorem fout_any (H:TbE w0 E pk) (h:RnW w0 w rb E S) {po:Nat} (hp:po < E.mtus.length) (A:Option Addr) (n c:Nat) (x:By) (I:Nat→Prop) (hx:Reads w I 1 A n (bytesV x)) (hn:x.length=n) (hc:n≤c) (hsm:n≤100000) (hl:S.ft.out.length≤100000) :
  Calls Tryz.prog 133 #[.pointer (some ⟨rb,0,none⟩),.int .i64 (po:Int),.slice A n c] w (FtPost w0 rb E S (fwOut E.mtus (po:Int) x S.ft) S.tok):=by
 obtain ⟨m,hm⟩:∃ m,m=E.mtus.getD po 0:=⟨_,rfl⟩
 obtain ⟨W,hW⟩:∃ W,W=(w.alloc (.cells #[.pointer (some ⟨rb,0,none⟩)] 140)).alloc (.cells #[.int .i64 (po:Int)] 3):=⟨_,rfl⟩
 have hbW:Below w.heap.size w W:=by rw [hW]; exact ((Below.refl _ _).alloc (Nat.le_refl _) _).alloc (by simp) _
 have hbx:BxM W rb w.heap.size (po:Int):=by
  rw [hW]
  refine ⟨(Blk.new w _ _).alloc _,?_⟩
  have:=Blk.new (w.alloc (.cells #[.pointer (some ⟨rb,0,none⟩)] 140)) 3 #[.int .i64 (po:Int)]
  simpa using this
 have hsz:W.heap.size=w.heap.size+2:=by rw [hW]; simp
 have hlen:=cut_len x m
 have HC:=Lib.hid (fun wx (hb:Below w.heap.size w wx)=>fcut_any A n c x m (fun k=>I k∧k < w.heap.size) wx (hx.lt.keep (Same.ofBelow hb fun k hk=>hk.2)) hn hc (by omega))
 obtain ⟨R,hR⟩:∃ R,R=cutF x m:=⟨_,rfl⟩
 rw [← hR] at HC hlen
 have hout:fwOut E.mtus (po:Int) x S.ft=match R.2 with
   | 0=>{ S.ft with out:=S.ft.out++R.1.map fun y=>((po:Int),y) }
   | 7=>dropF S.ft 14
   | _=>dropF S.ft 13:=by
  unfold fwOut
  rw [hR,hm,Int.toNat_natCast]
  rfl
 rw [hout]
 obtain ⟨L,en⟩:=R
 obtain ⟨N,hN⟩:∃ N,N=L.length:=⟨_,rfl⟩
 have hN1:N≤100001:=by rw [hN]; simp only at hlen; omega
 obtain ⟨M,hM⟩:∃ M,M=E.mtus.length:=⟨_,rfl⟩
 have HMT:=Lib.hid (fun wx (hu:RnW w0 wx rb E S)=>TbE.mtu H hu.upd hp)
 obtain ⟨am,ham,_⟩:=HMT.out w h
 have p0:(0:Int)≤(po:Int):=by omega
 have p1:(po:Int) < (M:Int):=by omega
 have p2:po < M:=by omega
 have HH:=Lib.hid (h.below hbW)
 have HX:=Lib.hid hbx
 have HBW:=Lib.hid hbW
 have HSZ:=Lib.hid hsz
 have HLL:=Lib.hid hl
 have HW:=Lib.hid hW
 have HAM:=Lib.hid ham
 have HM:=Lib.hid hM
 have HMM:=Lib.hid hm
 have HN:=Lib.hid hN
 clear H h hp hx hn hc hsm hl hm hW hbW hbx hsz hlen hR hout hN hM ham
 go_enter Tryz.func133,Tryz.ntmps133
 go_upto_region 1 with (fail)
 rw [← HW.out]
 refine wp_region_stages [(true,8),(false,1),(true,5)] (by kernel_rfl) (by kernel_rfl) fun wz hz _=>?_
 have HZ:=Lib.hid (⟨HH.out.below hz,HX.out.below hz⟩:RnW w0 wz rb E S∧BxM wz rb w.heap.size (po:Int))
 have HBZ:=Lib.hid (HBW.out.trans (hz.mono HBW.out.size))
 have q1:=cell_regrown (show wz.cell? ⟨w.heap.size,0,none⟩=some (.pointer (some ⟨rb,0,none⟩)) from HZ.out.2.1.cell 0)
 have q2:=cell_regrown (show wz.cell? ⟨rb,2,none⟩=some (.slice (some am) M E.cm) by rw [HZ.out.1.blk.cell 2,HM.out,← HAM.out]; rfl)
 have q3:=cell_regrown (show wz.cell? ⟨w.heap.size+1,0,none⟩=some (.int .i64 (po:Int)) from HZ.out.2.2.cell 0)
 have q4:=cell_regrown (show wz.cell? (am.add po)=some (.int .i64 m) by
  obtain ⟨ad,e,hc⟩:=HMT.out wz HZ.out.1
  rw [HAM.out] at e
  injection e with e
  rw [HMM.out,e]
  exact hc)
 clear hz HH HX
 refine wpSt_q ?_
 simp only [List.take_succ_cons,List.take_zero,List.drop_succ_cons,List.drop_zero]
 repeat (go_big_quiet_step (fail))
 refine wpQuiet_nil ?_
 intro _ hw'
 obtain ⟨⟨dq,osq⟩,hw''⟩:=hw'
 subst hw''
 have hq:=below_regrown wz dq osq
 generalize grow (redrawn wz dq) osq=wa at hq ⊢
 have HA:=Lib.hid (⟨HZ.out.1.below hq,HZ.out.2.below hq⟩:RnW w0 wa rb E S∧BxM wa rb w.heap.size (po:Int))
 have HCA:=Lib.hid (HC.out wa (HBZ.out.trans (hq.mono HBZ.out.size)))
 clear hq q1 q2 q3 q4 HZ
 refine wpSt_l ?_
 go_wp2_with (refine HCA.out.mono ?_; rintro e wb0 ⟨v,rfl,hr,hb0⟩; obtain ⟨Al,cl,rfl,hcl⟩:=hr.form)
 try simp only at hr hcl
 refine wpSt_q ?_
 simp only [List.take_succ_cons,List.take_zero,List.drop_succ_cons,List.drop_zero]
 repeat (go_big_quiet_step (fail))
 refine wpQuiet_nil ?_
 intro _ hw'
 obtain ⟨⟨dr,osr⟩,hw''⟩:=hw'
 subst hw''
 have hbr:=below_regrown wb0 dr osr
 generalize grow (redrawn wb0 dr) osr=wb at hbr ⊢
 refine wpSt_end ?_
 have hb:=hb0.trans (hbr.mono hb0.size)
 have hr:=hr.below hbr
 have HB:=Lib.hid (⟨HA.out.1.below hb,HA.out.2.below hb⟩:RnW w0 wb rb E S∧BxM wb rb w.heap.size (po:Int))
 have HR:=Lib.hid (show Rows8 w0.heap.size wb (.slice Al L.length cl) L from by
  obtain ⟨us,a,b,c⟩:=hr
  have hle:=HA.out.1.upd.size
  exact ⟨us,own_base a hle,b,fun k x hx=>by obtain ⟨u,e,r⟩:=c k x hx; exact ⟨u,e,own_base r hle⟩⟩)
 rw [← HN.out] at HR ⊢
 clear hr hb hb0 hbr hcl HA HCA HC
 have b3:wb.cell? ⟨w.heap.size,0,none⟩=some (.pointer (some ⟨rb,0,none⟩)):=HB.out.2.1.cell 0
 have HD:∀ d:Nat,Hid (Calls Tryz.prog 124 #[.pointer (some ⟨rb,0,none⟩),.int .i64 (d:Int)] wb fun e w'=>e=.returned (.bool true)∧RnW w0 w' rb E { S with ft:=dropF S.ft d }):=fun d=>Lib.hid (fdrop_any HB.out.1 d)
 by_cases e0:en=0
 ·subst e0
  have HI:=Lib.hid (show RnW w0 wb rb E { S with ov:=S.ov,ft:={ S.ft with out:=S.ft.out++(L.take 0).map fun y=>((po:Int),y) } } from by
   have:S.ft.out++(L.take 0).map (fun y=>((po:Int),y))=S.ft.out:=by simp
   rw [this]
   exact HB.out.1)
  clear b3 HD
  have hN0:(N:Int)=(L.length:Int):=by rw [HN.out]
  go_wp2_with fail
  go_loopw [36] (fun i wr=>∃ k:Nat,k≤N∧i=.int .i64 (k:Int)∧(∃ ov,RnW w0 wr rb E { S with ov:=ov,ft:={ S.ft with out:=S.ft.out++(L.take k).map fun y=>((po:Int),y) } })∧Rows8 w0.heap.size wr (.slice Al N cl) L∧BxM wr rb w.heap.size (po:Int)) (fun i _=>N - (intOf i).toNat)
  case atStart=>exact ⟨0,Nat.zero_le _,rfl,⟨S.ov,HI.out⟩,HR.out,HB.out.2⟩
  case round =>
   obtain ⟨k,hk,rfl,⟨ov,hw⟩,hr,hx⟩:=hrel
   by_cases hlt:k < N
   ·obtain ⟨y,hy⟩:∃ y,L[k]?=some y:=⟨_,List.getElem?_eq_getElem (by rw [← HN.out]; exact hlt)⟩
    obtain ⟨ad,A',c',rfl,hcell,hrow⟩:=hr.get hy
    have hlen:(S.ft.out++(L.take k).map fun y=>((po:Int),y)).length≤1000000:=by
     have:=HLL.out
     rw [List.length_append,List.length_map,List.length_take]
     omega
    have HAD:=Lib.hid (fadd_any (po:=(po:Int)) hw hx.1 hx.2 hrow hlen)
    have HRR:=Lib.hid (fun wy (hu:Upd _ wr wy)=>(⟨hr.add hw hu,hx.add hw hu⟩:Rows8 w0.heap.size wy (.slice (some ad) N cl) L∧BxM wy rb w.heap.size (po:Int)))
    have HY:=Lib.hid hy
    have k0:(0:Int)≤(k:Int):=by omega
    have k1:(k:Int) < (N:Int):=by omega
    have d1:decide ((k:Int) < (N:Int))=true:=decide_eq_true k1
    clear hw hr hx hrow hlen hy
    go_wp2_with fail
    refine HAD.out.mono ?_
    rintro e wy ⟨rfl,⟨ov2,hw2⟩,hu2⟩
    have HW2:=Lib.hid hw2
    have HR2:=Lib.hid (HRR.out wy hu2)
    clear hw2 hu2 hcell
    go_wp2_with fail
    go_roundw
    case rel =>
     refine ⟨k+1,by omega,rfl,⟨ov2,?_⟩,HR2.out.1,HR2.out.2⟩
     have:=HW2.out
     rw [Rs.snoc HY.out] at this
     exact this
    case measure=>simp [intOf]; omega
   ·obtain rfl:k=N:=by omega
    have d1:decide ((k:Int) < (k:Int))=false:=decide_eq_false (by omega)
    have HF:=Lib.hid hw
    clear hw hr hx
    go_wp2_with fail
    go_ret
    refine ⟨rfl,S.lv,ov,?_⟩
    have:=HF.out
    rw [HN.out,List.take_length] at this
    exact this
 ·have e0b:((en:Int) == 0)=false:=by rw [beq_eq_false_iff_ne]; omega
  by_cases e7:en=7
  ·subst e7
   have hd:=HD 14
   go_wp2_with fail
   refine hd.out.mono ?_
   rintro e wc ⟨rfl,hw⟩
   have HF:=Lib.hid hw
   clear hw
   go_wp2_with fail
   go_ret
   exact ⟨rfl,_,_,HF.out⟩
  ·have e7b:((en:Int) == 7)=false:=by rw [beq_eq_false_iff_ne]; omega
   have hd:=HD 13
   go_wp2_with fail
   refine hd.out.mono ?_
   rintro e wc ⟨rfl,hw⟩
   have HF:=Lib.hid hw
   clear hw
   go_wp2_with fail
   go_ret
   exact ⟨rfl,S.lv,S.ov,HF.out⟩
end
end Go.Proofs.YthlommalbkhcjaaGreat
namespace Go.Proofs.YthlommalbkhcjaaGreat
open Go.RowKit Go.Sort Go.BigFrame
theorem ld_rows {w:World} {a:Addr} {A:Option Addr} {n c:Nat} (hu:w.cell? a=some (.slice A n c)):(Instr.loadAt 68 (.pointer (some a))).run Tryz.prog w=.ok (.slice A n c) w:=by
 simp [go_sem,hu]
theorem st_rows {w:World} {g i:Nat} {u:Value} (hu:w.cell? ⟨g,i,none⟩=some u) (hf:w.frozen? ⟨g,i,none⟩=false) (A:Option Addr) (n c:Nat):(Instr.storeAt 68 (.pointer (some ⟨g,i,none⟩)) (.slice A n c)).run Tryz.prog w=.ok () (w.setCell ⟨g,i,none⟩ (.slice A n c)):=by
 simp [go_sem,hu,hf]
section
variable {w0 w wx wy:World} {rb:Nat} {E:Re} {S:Rs} {pk:Nat→Nat→Int × Int}
theorem Snts.grown {B B2:Nat} {v:Value} {L:List (Int × By)} (h:Snts B wx v L) {e:TypeId} {size n:Nat} {u:Value} {xs:List Value} (ho:wx.ownsRow B2 e size u n xs) (n1:e≠83) (n2:e≠5) (hg:wx.grownBy wy u.ownBlock):Snts B wy v L:=by
 obtain ⟨Z,a,b,c⟩:=h
 exact ⟨Z,a,own_type b hg.size fun k cs hk hb=>hg.block k hk fun e=>own_blk_ne ho hb n1 e.symm,fun z hz=>own_type (c z hz) hg.size fun k cs hk hb=>hg.block k hk fun e=>own_blk_ne ho hb n2 e.symm⟩
theorem Row8.rd {A:Option Addr} {n c:Nat} {x:By} (h:Row8 w0.heap.size w (.slice A n c) x):x.length=n∧n≤c∧Reads w (fun k=>w0.heap.size≤k∧k < w.heap.size) 1 A n (bytesV x):=by
 obtain ⟨e,hr⟩:=h.reads
 obtain ⟨A1,c1,e1,hc⟩:=h.form
 injection e1 with e1 e2 e3
 subst e1 e2 e3
 exact ⟨rfl,hc,hr⟩
def PkPos (pk:Nat→Nat→Int × Int):Prop:=∀ a u,(pk a u).1=3→0≤(pk a u).2
theorem PkPos.way (h:PkPos pk) {ports:Nat} {x:By} {dt:Nat}:(fwWay pk ports x dt).1=3→0≤(fwWay pk ports x dt).2∧(fwWay pk ports x dt).2 < ports:=fun e=>by
 unfold fwWay at e ⊢
 split at e
 ·cases e
 ·rename_i hne
  rw [if_neg hne]
  refine ⟨h _ _ e,?_⟩
  have:=h _ _ e
  omega
set_option maxRecDepth 100000 in
set_option maxHeartbeats 8000000 in
attribute [-go_sem] Instr.storeAt Instr.loadAt in
theorem fsend_any (H:TbE w0 E pk) (hp0:PkPos pk) (h:RnW w0 w rb E S) {A:Option Addr} {n c:Nat} {x:By} (hy:Row8 w0.heap.size w (.slice A n c) x) (hsm:x.length≤100000) (hl:S.ft.out.length≤100000) (hl2:S.ft.loc.length≤100000) :
  Calls Tryz.prog 79 #[.pointer (some ⟨rb,0,none⟩),.slice A n c] w (FtPost w0 rb E S (fwSend pk E.mtus x S.ft) S.tok):=by
 obtain ⟨hn,hc,hx⟩:=hy.rd
 have HP:=Lib.hid (parse_any A n c x _ w hx hn hc (by omega))
 have hok:=(prs_ok x).2.2.2.2.2
 have HWY:=Lib.hid (fun wx (hb:Below w.heap.size w wx)=>fway_any H (h.below hb) A n c x (fun k=>k < w.heap.size) ((hx.mono fun k hk=>hk.2).keep (Same.ofBelow hb fun k hk=>hk)) hn hc (by omega) (prsF x).1.dst hok)
 have HOUT:=Lib.hid (fun wx (po:Nat) (hb:Below w.heap.size w wx) (hp:po < E.mtus.length)=>fout_any H (h.below hb) hp A n c x (fun k=>k < w.heap.size) ((hx.mono fun k hk=>hk.2).keep (Same.ofBelow hb fun k hk=>hk)) hn hc (by omega) hl)
 have hwp:=hp0.way (ports:=E.mtus.length) (x:=x) (dt:=(prsF x).1.dst)
 unfold fwSend
 obtain ⟨Wy,hWy⟩:∃ z,z=fwWay pk E.mtus.length x (prsF x).1.dst:=⟨_,rfl⟩
 rw [← hWy] at HWY hwp ⊢
 obtain ⟨kd,po⟩:=Wy
 simp only at HWY hwp ⊢
 obtain ⟨R,hR⟩:∃ R,R=prsF x:=⟨_,rfl⟩
 rw [← hR] at HP HWY hok
 obtain ⟨h',p',f'⟩:=R
 obtain ⟨F,hF⟩:∃ F,F=(if kd=1 then { S.ft with loc:=S.ft.loc++[x] } else if kd=3 then fwOut E.mtus po x S.ft else dropF S.ft 12):=⟨_,rfl⟩
 rw [← hF]
 have F1:=Lib.hid (fun (e:kd=1)=>(by rw [hF,if_pos e]:F={ S.ft with loc:=S.ft.loc++[x] }))
 have F3:=Lib.hid (fun (e:kd=3)=>(by rw [hF,e,if_neg (by decide),if_pos rfl]:F=fwOut E.mtus po x S.ft))
 have F0:=Lib.hid (fun (e1:kd≠1) (e3:kd≠3)=>(by rw [hF,if_neg e1,if_neg e3]:F=dropF S.ft 12))
 have HH:=Lib.hid h
 have HY:=Lib.hid hy
 have HL2:=Lib.hid hl2
 have HWP:=Lib.hid hwp
 clear H hp0 h hy hn hc hx hWy hR hl hl2 hwp hF
 go_enter Tryz.func79,Tryz.ntmps79
 go_wp2_with fail
 refine HP.out.mono ?_
 rintro e w1 ⟨vo,vp,rfl,ho,hp,hdj,hb1⟩
 obtain ⟨Ao,co,rfl,_⟩:=ho.form
 obtain ⟨w2,hst,hb2,hb12,hk2⟩:=hd_var hb1 hb1.size h' Ao h'.opts.length co
 have HB2:=Lib.hid hb2
 have HW2:=Lib.hid (HWY.out w2 hb2)
 have q9:=ld_u32s (hk2.cell 9)
 simp only at hok ⊢
 clear ho hp hdj hb1 hb2 hb12 hk2 HP HWY
 go_wp2_with fail
 refine HW2.out.mono ?_
 rintro e w3 ⟨rfl,hb3⟩
 have HB3:=Lib.hid (HB2.out.trans (hb3.mono HB2.out.size))
 clear hb3 q9 hst
 by_cases k1:kd=1
 ·subst k1
  have hw3:=HH.out.below HB3.out
  obtain ⟨us,h1,h2,h3⟩:=hw3.lc
  obtain ⟨Al,cl,hlv,hcl⟩:=own_form h1
  obtain ⟨m,hm⟩:∃ m,m=S.ft.loc.length:=⟨_,rfl⟩
  have q20:w3.cell? ⟨rb,20,none⟩=some (.slice Al m cl):=by rw [hm,← hlv]; exact hw3.blk.cell 20
  have l20:=ld_rows q20
  obtain ⟨i0,hi,hz0,hz1,hz2⟩:=info_parts info_sl8
  have hmx:m+1≤maxLen:=by unfold maxLen; have:=HL2.out; omega
  have hmb:(m+1) * 24≤140737488355328:=by have:=HL2.out; omega
  have HW3:=Lib.hid hw3
  have H1:=Lib.hid (show w3.ownsRow w0.heap.size 61 1 (.slice Al m cl) m us by rw [hm,← hlv]; exact h1)
  have H4:=Lib.hid (fun (v2:Value) (w4:World) (h4:w4.ownsRow w0.heap.size 61 1 v2 (m+1) (us++[.slice A n c])) (hg:w3.grownBy w4 (Value.slice Al m cl).ownBlock)=>(⟨hw3.toRnC.grown (e:=61) (v:=.slice Al m cl) (by rw [hm,← hlv]; exact h1) (by decide) (by decide) hg,Rows8.push (L:=S.ft.loc) (v:=.slice Al m cl) (us:=us) (by rw [← hm]; exact h4) (by rw [hm,← hlv]; exact h1) h2 hg h3 (HY.out.below HB3.out),hw3.ou.grown (e:=61) (u:=.slice Al m cl) (by rw [hm,← hlv]; exact h1) (by decide) (by decide) hg⟩:RnC w0 w4 rb E S∧Rows8 w0.heap.size w4 v2 (S.ft.loc++[x])∧Snts w0.heap.size w4 S.ov S.ft.out))
  clear q20 h1 h2 h3 hlv hcl hw3 hm HOUT
  go_wp2_with (at_builtin; refine wpList_push1 w3 rfl (.tmp 32) (.tmp 34) _ 61 rfl rfl i0 _ 24 Tryz.underlying68 hi hz0 hz1 hz2 rfl w0.heap.size (.slice Al m cl) m us (.slice A n c) rfl rfl H1.out rfl hmx hmb HW3.out.upd.size ?_; intro v2 w4 h4 hg4 hat4; obtain ⟨A2,c2,rfl,_⟩:=own_form h4; have H5:=Lib.hid (H4.out _ w4 h4 hg4); have s20:=st_rows (H5.out.1.blk.cell 20) (H5.out.1.blk.frozen 20) A2 (m+1) c2; clear h4 hg4 hat4)
  go_ret
  rw [F1.out (by trivial)]
  exact ⟨rfl,.slice A2 (m+1) c2,S.ov,⟨H5.out.1.put (i:=20) (S':={ S with lv:=.slice A2 (m+1) c2,ft:={ S.ft with loc:=S.ft.loc++[x] } }) rfl H5.out.1.pk H5.out.1.hv rfl,H5.out.2.1.set H5.out.1.blk 20 _,H5.out.2.2.set H5.out.1.blk 20 _⟩⟩
 ·have k1b:(kd == 1)=false:=by rw [beq_eq_false_iff_ne]; exact k1
  by_cases k3:kd=3
  ·subst k3
   obtain ⟨hp0,hpo⟩:=HWP.out rfl
   obtain ⟨q,rfl⟩:∃ q:Nat,po=q:=⟨po.toNat,(Int.toNat_of_nonneg hp0).symm⟩
   have HO:=Lib.hid (HOUT.out w3 q HB3.out (by omega))
   clear hpo hp0 HOUT
   go_wp2_with fail
   refine HO.out.mono ?_
   rintro e w4 ⟨rfl,lv,ov,hw4⟩
   have HF:=Lib.hid hw4
   clear hw4
   go_wp2_with fail
   go_ret
   rw [F3.out (by trivial)]
   exact ⟨rfl,lv,ov,HF.out⟩
  ·have k3b:(kd == 3)=false:=by rw [beq_eq_false_iff_ne]; exact k3
   have HD:=Lib.hid (show Calls Tryz.prog 124 #[.pointer (some ⟨rb,0,none⟩),.int .i64 12] w3 fun e w'=>e=.returned (.bool true)∧RnW w0 w' rb E { S with ft:=dropF S.ft 12 } from fdrop_any (HH.out.below HB3.out) 12)
   go_wp2_with fail
   refine HD.out.mono ?_
   rintro e w4 ⟨rfl,hw4⟩
   have HF:=Lib.hid hw4
   clear hw4
   go_wp2_with fail
   go_ret
   rw [F0.out k1 k3]
   exact ⟨rfl,_,_,HF.out⟩
end
end Go.Proofs.YthlommalbkhcjaaGreat
namespace Go.Proofs.YthlommalbkhcjaaGreat
open Go.RowKit Go.Sort
theorem own_none {w:World} {B n c m:Nat} {A:Option Addr} {e:TypeId} {xs:List Value} (h:w.ownsRow B e 1 (.slice A n c) m xs):w.ownsRow B e 1 (.slice A 0 c) 0 []:=by
 refine ⟨rfl,?_⟩
 rcases h.2 with ⟨h1,_⟩ | ⟨g,cap,cur,h1,h2,h3,h4,h5,h6,h7⟩
 ·injection h1 with a b d
  subst a d
  exact .inl ⟨rfl,rfl⟩
 ·injection h1 with a b d
  subst a b d
  exact .inr ⟨g,c,cur,rfl,h2,h3,Nat.zero_le _,h5,h6,by simp⟩
set_option maxHeartbeats 800000 in
theorem grow_any (n:Nat) (w:World) (hn:n≤1000000) :
  Calls Tryz.prog 234 #[.slice none 0 0,.int .i64 (n:Int)] w fun e w'=>∃ v,e=.returned v∧Row8 w.heap.size w' v []∧Below w.heap.size w w':=by
 go_enter Tryz.func234,Tryz.ntmps234
 have d0:decide ((n:Int) < 0)=false:=decide_eq_false (by omega)
 by_cases h0:n=0
 ·subst h0
  go_wp2_with fail
  go_ret
  exact ⟨_,rfl,Row8.nil _ _,Below.refl _ _⟩
 have d1:decide ((0:Int) < (n:Int))=true:=decide_eq_true (by omega)
 have d2:decide (0 < n)=true:=decide_eq_true (by omega)
 have hs:(Instr.slice 61 (.slice none 0 0) none (some (.int .i64 0)) none).run Tryz.prog w=.ok (.slice none 0 0) w:=sl_hi none 0 0 w 0 (by omega)
 obtain ⟨i0,hi,hz0,hz1,hz2⟩:=info_parts info_u8
 have hmx:0+n≤maxLen:=by unfold maxLen; omega
 have hmb:(0+n) * 1≤140737488355328:=by omega
 go_wp2_with (at_builtin; refine wpList_append_zeros w rfl (.tmp 20) (.tmp 21) _ _ rfl w.heap.size 5 .i64 i0 _ 1 Tryz.underlying61 Tryz.underlying3 hi hz0 hz1 hz2 rfl rfl (.slice none 0 0) 0 [] rfl (World.ownsRow_nil _ _ _ _) n rfl hmx hmb (Nat.le_refl _) ?_; intro v2 w2 h2 hg2 hat; rw [Nat.zero_add] at h2; obtain ⟨A2,c2,rfl,hc2⟩:=own_form h2; have h3:=own_none h2; have hs2:=sl_hi A2 n c2 w2 0 (Nat.zero_le _); have H3:=Lib.hid h3; have HB:=Lib.hid ((Below.refl w.heap.size w).grown hg2 (Nat.le_refl _) fun g hg=>by cases hg); clear h2 hg2 hat h3)
 go_ret
 exact ⟨_,rfl,H3.out,HB.out⟩
set_option maxHeartbeats 1600000 in
theorem concat_any (A:Option Addr) (n c:Nat) (us:List Value) (xs:List By) (I:Nat→Prop) (w:World) (h:Reads w I 1 A n us) (hx:RowsE w us xs) (hsm:xs.flatten.length≤1000000) (hn:n≤1000000) :
  Calls Tryz.prog 232 #[.slice A n c] w fun e w'=>∃ v,e=.returned v∧Row8 w.heap.size w' v xs.flatten∧Below w.heap.size w w':=by
 have HR:=Lib.hid h.lt
 have HX:=Lib.hid hx
 have HL:=Lib.hid (show xs.length=n by have:=h.1; rw [← hx.len]; omega)
 have HTK:=Lib.hid (show ∀ k x,xs[k]?=some x→(xs.take (k+1)).flatten=(xs.take k).flatten++x from fun k x hx=>by
  have hkl:k < xs.length:=(List.getElem?_eq_some_iff.1 hx).1
  rw [List.take_succ_eq_append_getElem hkl,(List.getElem?_eq_some_iff.1 hx).2,List.flatten_append]
  simp)
 have HLN:=Lib.hid (show ∀ k,(xs.take k).flatten.length≤1000000 from fun k=>by
  have h1:=congrArg (fun l=>l.flatten.length) (List.take_append_drop k xs)
  simp only [List.flatten_append,List.length_append] at h1
  omega)
 obtain ⟨i0,hi,hz0,hz1,hz2⟩:=info_parts info_u8
 clear h hx
 go_enter Tryz.func232,Tryz.ntmps232
 go_wp2_with fail
 go_loopw [3,11] (fun s i wr=>∃ k:Nat,k≤n∧i=.int .i64 (k:Int)∧s=.int .i64 ((xs.take k).flatten.length:Int)∧wr=w) (fun _ i _=>n - (intOf i).toNat)
 case atStart=>exact ⟨0,Nat.zero_le _,rfl,rfl,rfl⟩
 case round =>
  obtain ⟨k,hk,rfl,rfl,rfl⟩:=hrel
  by_cases hlt:k < n
  ·obtain ⟨x,hx⟩:∃ x,xs[k]?=some x:=⟨xs[k]'(by rw [HL.out]; exact hlt),List.getElem?_eq_getElem _⟩
   obtain ⟨u,hu,A2,c2,rfl,hc2,hr2⟩:=HX.out.get hx
   obtain ⟨ad,rfl,_,hadl,hc⟩:=HR.out.2 (by omega)
   have hcell:wr.cell? (ad.add k)=some (.slice A2 x.length c2):=hc _ _ hu
   have htk:=congrArg List.length (HTK.out k x hx)
   rw [List.length_append] at htk
   have hl1:=HLN.out (k+1)
   obtain ⟨m,hm⟩:∃ m,m=x.length:=⟨_,rfl⟩
   obtain ⟨s,hs⟩:∃ s,s=(xs.take k).flatten.length:=⟨_,rfl⟩
   rw [← hm] at hcell htk
   rw [← hs] at htk ⊢
   have HT:=Lib.hid htk
   have hi0:(0:Int)≤k:=by omega
   have hi1:(k:Int) < n:=by omega
   have hsb:s+m≤1000000:=by omega
   have hd:decide ((s:Int)+(m:Int) < 0)=false:=decide_eq_false (by omega)
   clear hx hu hc hc2 hr2 htk hm hs hl1
   go_wp2_with fail
   go_roundw
   case rel=>exact ⟨k+1,by omega,by simp,by rw [HT.out]; simp,trivial⟩
   case measure=>simp [intOf]; omega
  ·obtain rfl:k=n:=by omega
   have hfl:(xs.take k).flatten=xs.flatten:=by rw [← HL.out,List.take_length]
   rw [hfl]
   obtain ⟨m,hm⟩:∃ m,m=xs.flatten.length:=⟨_,rfl⟩
   rw [← hm] at hsm ⊢
   have HM:=Lib.hid hm
   clear hfl hm
   go_wp2_with fail
   refine (grow_any m _ hsm).mono ?_
   rintro e w1 ⟨v1,rfl,hv1,hb1⟩
   have HV1:=Lib.hid hv1
   have HB1:=Lib.hid hb1
   clear hv1 hb1
   go_wp2_with fail
   obtain ⟨wo,rfl⟩:∃ wo:World,wo=wr:=⟨_,rfl⟩
   go_loopw [6,27] (fun v i wr=>∃ j:Nat,j≤k∧i=.int .i64 (j:Int)∧Row8 wo.heap.size wr v (xs.take j).flatten∧Below wo.heap.size wo wr) (fun _ i _=>k - (intOf i).toNat)
   case atStart=>exact ⟨0,Nat.zero_le _,rfl,HV1.out,HB1.out⟩
   case round =>
    obtain ⟨j,hj,rfl,hv,hb⟩:=hrel
    have HV:=Lib.hid hv
    have HB:=Lib.hid hb
    clear hv hb
    by_cases hlt:j < k
    ·obtain ⟨x,hx⟩:∃ x,xs[j]?=some x:=⟨xs[j]'(by rw [HL.out]; exact hlt),List.getElem?_eq_getElem _⟩
     obtain ⟨u,hu,hs⟩:=HX.out.get hx
     obtain ⟨A2,c2,rfl,hc2,hr2⟩:=hs.below HB.out
     obtain ⟨ad,rfl,_,hadl,hc⟩:=HR.out.2 (by omega)
     have hcell:wr.cell? (ad.add j)=some (.slice A2 x.length c2):=(HB.out.cell (by rw [block_of_add]; exact hadl)).trans (hc _ _ hu)
     have htk:=HTK.out j x hx
     have hlen:=HLN.out (j+1)
     rw [htk,List.length_append] at hlen
     obtain ⟨q,hq⟩:∃ q,q=x.length:=⟨_,rfl⟩
     rw [← hq] at hcell hr2 hlen
     have HT:=Lib.hid htk
     have HR2:=Lib.hid hr2
     have HQ:=Lib.hid hq
     have hi0:(0:Int)≤j:=by omega
     have hi1:(j:Int) < k:=by omega
     have h63:((xs.take j).flatten).length+q≤140737488355328:=by omega
     clear hx hu hs hc hc2 hr2 htk hlen hq
     go_wp2_with (at_builtin; refine wpList_app8 wr rfl (.tmp 31) (.tmp 32) rfl rfl wo.heap.size _ ((xs.take j).flatten) rfl HV.out _ A2 q c2 x rfl HQ.out.symm HR2.out h63 HB.out.size ?_; intro v2 w2 h2 hg2 _; have H2:=Lib.hid h2; have HB2:=Lib.hid (HB.out.grown hg2 HB.out.size fun g hg=>(HV.out.lt hg).1); clear h2 hg2)
     go_roundw
     case rel=>exact ⟨j+1,by omega,by simp,by rw [HT.out]; exact H2.out,HB2.out⟩
     case measure=>simp [intOf]; omega
    ·obtain rfl:j=k:=by omega
     have hfl:(xs.take j).flatten=xs.flatten:=by rw [← HL.out,List.take_length]
     have hv:=HV.out
     rw [hfl] at hv
     clear HV hfl
     go_wp2_with fail
     go_ret
     exact ⟨_,rfl,hv,HB.out⟩
theorem wjoin_any (A:Option Addr) (n c:Nat) (us:List Value) (xs:List By) (I:Nat→Prop) (w:World) (h:Reads w I 1 A n us) (hx:RowsE w us xs) (hsm:xs.flatten.length≤1000000) (hn:n≤1000000) :
  Calls Tryz.prog 223 #[.slice A n c] w fun e w'=>∃ v,e=.returned v∧Row8 w.heap.size w' v xs.flatten∧Below w.heap.size w w':=by
 have HC:=Lib.hid (concat_any A n c us xs I w h hx hsm hn)
 clear h hx hsm hn
 go_enter Tryz.func223,Tryz.ntmps223
 go_wp2_with fail
 refine HC.out.mono ?_
 rintro e w1 ⟨v,rfl,hv,hb⟩
 obtain ⟨A1,c1,rfl,_⟩:=hv.form
 obtain ⟨m,hm⟩:∃ m,m=xs.flatten.length:=⟨_,rfl⟩
 rw [← hm] at hv ⊢
 have HV:=Lib.hid hv
 have HB:=Lib.hid hb
 clear hv hb hm
 go_wp2_with fail
 go_ret
 exact ⟨_,rfl,HV.out,HB.out⟩
end Go.Proofs.YthlommalbkhcjaaGreat
