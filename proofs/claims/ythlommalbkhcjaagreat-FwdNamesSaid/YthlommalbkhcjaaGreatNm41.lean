/- Layer 18: tell. -/
import Derived.Test.YthlommalbkhcjaaGreatNm40
import Derived.Test.YthlommalbkhcjaaGreatNm38
import Derived.Test.YthlommalbkhcjaaGreatNm39
namespace Go.Proofs.YthlommalbkhcjaaGreat
open Go.RowKit Go.Sort Go.BigFrame
def kdM (k:Int):Ic:=if kdB k=true then errM k 0 [] else ic0
theorem kdA_ic (k:Int):kdA k=.agg (icC (kdM k) (.slice none 0 0)):=by
 unfold kdM kdA
 by_cases h1:k=1
 ·subst h1; rfl
 by_cases h2:k=2
 ·subst h2; rfl
 by_cases h3:k=3
 ·subst h3; rfl
 rw [if_neg h1,if_neg h2,if_neg h3,if_neg (by unfold kdB; simp [h1,h2,h3])]
 rfl
theorem kdB_arg (k mtu:Int):errArg k mtu=(!kdB k || decide (mtu < 0) || decide (65535 < mtu) || (decide (k≠2) && decide (mtu≠0))):=by
 unfold errArg kdB
 congr 3
 rw [Bool.eq_iff_iff]
 simp
 omega
theorem ic_var {B:Nat} {w w1:World} (hb:Below B w w1) (hB:B≤w1.heap.size) (m:Ic) (A:Option Addr) (n c:Nat):∃ w2,(Instr.storeAt 86 (.pointer (some ⟨w1.heap.size,0,none⟩)) (.agg (icC m (.slice A n c)))).run Tryz.prog (w1.alloc (.cells #[.int .u8 0,.int .u8 0,.int .u8 0,.int .u8 0,.int .u8 0,.int .u8 0,.slice none 0 0] 86))=.ok () w2∧Below B w w2∧Below w1.heap.size w1 w2∧Blk w2 w1.heap.size 86 (icC m (.slice A n c)) :=
 ⟨_,ic_store (vs:=icC m (.slice A n c)) (Blk.new w1 _ _) rfl rfl (by simp [icC,Value.oneCell']),below_setCells hB _ 0 _ (hb.alloc hB _),below_setCells (Nat.le_refl _) _ 0 _ ((Below.refl _ _).alloc (Nat.le_refl _) _),blk_setCells (Blk.new w1 _ _) rfl⟩
theorem hd_build2 (w:World) (s d:Int):(Instr.build 76 #[(8,.int .u32 s),(9,.int .u32 d)]).run Tryz.prog w=.ok (.agg #[.int .u8 0,.int .u16 0,.bool false,.bool false,.bool false,.int .i64 0,.int .u8 0,.int .u8 0,.int .u32 s,.int .u32 d,.slice none 0 0]) w:=by kernel_rfl
attribute [-go_sem] Instr.storeAt Instr.loadAt in
set_option maxRecDepth 100000 in
set_option maxHeartbeats 8000000 in
theorem icerror_any (k mtu:Int) (fr:Nat) (A:Option Addr) (n c:Nat) (x:By) (I:Nat→Prop) (w:World) (hk:(Lit.int .i64 k).wf=true) (hfr:fr < 2 ^ 32) (h:Reads w I 1 A n (bytesV x)) (hn:x.length=n) (hc:n≤c) (hsm:n≤1000000) :
  Calls Tryz.prog 169 #[.int .i64 k,.slice A n c,.int .u32 (fr:Int),.int .i64 mtu] w (BytPost w (errF k x fr mtu).1 ((errF k x fr mtu).2:Int)):=by
 have hok:=prs_ok x
 have hpl:=prs_len x
 obtain ⟨E,hE⟩:∃ E,E=errF k x fr mtu:=⟨_,rfl⟩
 rw [← hE]
 unfold errF at hE
 rw [kdB_arg] at hE
 unfold emayF at hE
 obtain ⟨R,hR⟩:∃ R,R=prsF x:=⟨_,rfl⟩
 rw [← hR] at hE hok hpl
 have HPA:=Lib.hid (fun wx (hb:Below w.heap.size w wx)=>show Calls Tryz.prog 33 #[.slice A n c] wx (PrsPost wx R) from hR ▸ parse_any A n c x (fun j=>I j∧j < w.heap.size) wx (h.lt.keep (Same.ofBelow hb fun j hj=>hj.2)) hn hc hsm)
 have HQT:=Lib.hid (fun wx (hb:Below w.heap.size w wx)=>quote_any A n c x (fun j=>I j∧j < w.heap.size) wx (h.lt.keep (Same.ofBelow hb fun j hj=>hj.2)) hn hc hsm)
 have hqf:(prsF x).2.2=0→(quoteF x).2=0:=fun h0=>by unfold quoteF; rw [if_neg (by omega)]
 have hfit:=err_fits k x fr mtu.toNat
 have hqlen:=quote_len x
 rw [← hR] at hqf hfit
 obtain ⟨g,y,f⟩:=R
 simp only at hE hok hpl hqf hfit
 have HE:=Lib.hid hE
 have HOK:=Lib.hid hok
 have HQF:=Lib.hid hqf
 have HFIT:=Lib.hid hfit
 have HQLEN:=Lib.hid hqlen
 have hA:=kdA_ic k
 obtain ⟨bb,hbb⟩:∃ b,b=kdB k:=⟨_,rfl⟩
 have HM:=Lib.hid (show bb=true→kdM k=errM k 0 [] from fun e=>by unfold kdM; rw [if_pos (hbb ▸ e)])
 rw [← hbb] at HE
 have HK:=Lib.hid hk
 have HBB:=Lib.hid hbb
 have HA:=Lib.hid hA
 obtain ⟨M,hM⟩:∃ M,M=kdM k:=⟨_,rfl⟩
 rw [← hM] at HM HA
 clear hE hok hpl hR h hn hc hsm hqf hfit hqlen hA hbb hk hM
 go_enter Tryz.func169,Tryz.ntmps169
 go_wp2_with fail
 refine (kinds_any w).mono ?_
 rintro e w1 ⟨b,rfl,hkm,hb1⟩
 have hlk:=hkm.look k HK.out
 rw [HA.out,← HBB.out] at hlk
 obtain ⟨W2,hst1,hb2,hb12,hk2⟩:=ic_var hb1 hb1.size M none 0 0
 have HK2:=Lib.hid hk2
 have HB2:=Lib.hid hb2
 obtain ⟨gi,hgi⟩:∃ g,g=w1.heap.size:=⟨_,rfl⟩
 have HGI:=Lib.hid (show w.heap.size≤gi by rw [hgi]; exact hb1.size)
 clear hkm hb1 hk2 hb2 hb12
 go_upto_region 2 with (fail)
 clear hst1 hlk
 rw [← hgi] at HK2 ⊢
 clear hgi
 go_upto_region 3 with
  (go_at_call 33
   refine (HPA.out _ HB2.out).mono ?_
   rintro e w3 ⟨vo,vq,rfl,ho,hq,_,hb3⟩
   obtain ⟨Ao,co,rfl,_⟩:=ho.form
   obtain ⟨Aq,cq,rfl,_⟩:=hq.form
   obtain ⟨w4,hst4,hb4,hb34,hk4⟩:=hd_var hb3 hb3.size g Ao g.opts.length co
   have HK4:=Lib.hid (HK2.out.below hb4 HK2.out.lt)
   have HH4:=Lib.hid hk4
   have HQ4:=Lib.hid ((hq.below hb34).reads.2)
   have HB4:=Lib.hid (HB2.out.trans (hb4.mono HB2.out.size))
   have HZ4:=Lib.hid (show gi < w3.heap.size from Nat.lt_of_lt_of_le HK2.out.lt hb3.size)
   clear ho hq hb3 hb4 hb34 hk4)
 cases bb with
 | false =>
   have hE:=HE.out
   rw [if_pos (by simp)] at hE
   subst hE
   go_wp2_with fail
   go_ret2
   exact ⟨_,rfl,Row8.nil _ _,HB4.out⟩
 | true =>
 by_cases c1:mtu < 0
 ·have d1:decide (mtu < 0)=true:=decide_eq_true c1
  have hE:=HE.out
  rw [if_pos (by simp [c1])] at hE
  subst hE
  go_wp2_with fail
  go_ret2
  exact ⟨_,rfl,Row8.nil _ _,HB4.out⟩
 have d1:decide (mtu < 0)=false:=decide_eq_false c1
 by_cases c2:65535 < mtu
 ·have d2:decide ((65535:Int) < mtu)=true:=decide_eq_true c2
  have hE:=HE.out
  rw [if_pos (by simp [c2])] at hE
  subst hE
  go_wp2_with fail
  go_ret2
  exact ⟨_,rfl,Row8.nil _ _,HB4.out⟩
 have d2:decide ((65535:Int) < mtu)=false:=decide_eq_false c2
 have HC:=Lib.hid (show 0≤mtu∧mtu≤65535 by omega)
 by_cases c3:mtu=0
 ·have b3:(mtu != 0)=false:=by rw [bne_eq_false_iff_eq]; exact c3
  have hE:=HE.out
  rw [if_neg (by simp [c3])] at hE
  clear HE c1 c2 c3
  by_cases c5:f≠0
  ·have b5:((f:Int) != 0)=true:=by rw [bne_iff_ne]; omega
   rw [if_pos c5] at hE
   subst hE
   clear c5
   go_wp2_with fail
   go_ret2
   exact ⟨_,rfl,Row8.nil _ _,HB4.out⟩
  have b5:((f:Int) != 0)=false:=by rw [bne_eq_false_iff_eq]; omega
  rw [if_neg c5,decide_eq_true (by omega:f=0),Bool.true_and] at hE
  have HF0:=Lib.hid (show f=0 by omega)
  clear c5
  have hld4:=hd_load HH4.out rfl
  have hmy:=icmay_any g Ao g.opts.length co Aq y.length cq y _ w4 HQ4.out rfl
  obtain ⟨mm,hmm⟩:∃ b,b=emayH g y:=⟨_,rfl⟩
  rw [← hmm] at hmy hE
  have HMY:=Lib.hid hmy
  clear hmy hmm
  cases mm with
  | false =>
    rw [if_pos rfl] at hE
    subst hE
    go_wp2_with (go_at_call 207; refine HMY.out.mono ?_; rintro e w5 ⟨rfl,hb5⟩; have HB5:=Lib.hid (HB4.out.trans (hb5.mono HB4.out.size)); clear hb5)
    go_ret2
    exact ⟨_,rfl,Row8.nil _ _,HB5.out⟩
  | true =>
  rw [if_neg (by simp)] at hE
  have HE9:=Lib.hid hE
  clear hE
  go_upto_region 9 with (go_at_call 207; refine HMY.out.mono ?_; rintro e w5 ⟨rfl,hb5⟩; have HB5:=Lib.hid (HB4.out.trans (hb5.mono HB4.out.size)); have HK5:=Lib.hid (HK4.out.below hb5 HK4.out.lt); have HH5:=Lib.hid (HH4.out.below hb5 HH4.out.lt); clear hb5)
  have hs4:=st8 (HK5.out.cell 4) (HK5.out.frozen 4)
  have k6:=HK5.out.set_ 4 (.int .u8 (mtu / 256 % 256))
  have hs5:=st8 (k6.cell 5) (k6.frozen 5)
  have k7:=k6.set_ 5 (.int .u8 (mtu % 256))
  have hmt:=HC.out
  have z2:mtu / 256 % 256=((u8 (mtu.toNat / 256)).toNat:Int):=by rw [u8_nat]; omega
  have z3:mtu % 256=((u8 mtu.toNat).toNat:Int):=by rw [u8_nat]; omega
  have hu:=((Upd.refl (only gi) w5).set_ 4 (.int .u8 (mtu / 256 % 256))).set_ 5 (.int .u8 (mtu % 256))
  have K7:=Lib.hid (show Blk ((w5.setCell ⟨gi,4,none⟩ (.int .u8 (mtu / 256 % 256))).setCell ⟨gi,5,none⟩ (.int .u8 (mtu % 256))) gi 86 (icC (errM k mtu.toNat []) (.slice none 0 0)) from by
   have hm:=HM.out (by trivial)
   have hmm:icC (errM k mtu.toNat []) (.slice none 0 0)=((icC M (.slice none 0 0)).setIfInBounds 4 (.int .u8 (mtu / 256 % 256))).setIfInBounds 5 (.int .u8 (mtu % 256)):=by rw [z2,z3,hm]; rfl
   rw [hmm]
   exact k7)
  have hb7:=HB5.out.trans (hu.below (B:=w.heap.size) (fun j (hj:j=gi)=>by have:=HGI.out; omega) HB5.out.size)
  have HB7:=Lib.hid hb7
  have HH7:=Lib.hid (show Blk _ w3.heap.size 76 (hdC g (.slice Ao g.opts.length co)) from (hu.block _ HH5.out.lt (fun (e:w3.heap.size=gi)=>by have:=HZ4.out; omega)).trans HH5.out)
  clear k6 k7 hmt z2 z3 hu hb7
  go_upto_region 10 with (fail)
  clear hs4 hs5
  generalize (w5.setCell ⟨gi,4,none⟩ (.int .u8 (mtu / 256 % 256))).setCell ⟨gi,5,none⟩ (.int .u8 (mtu % 256))=w7 at K7 HB7 HH7 ⊢
  have hqt:=HQT.out w7 HB7.out
  obtain ⟨Q,hQ⟩:∃ Q,Q=quoteF x:=⟨_,rfl⟩
  have HQ:=Lib.hid hQ
  have HL:=Lib.hid (show Q.1.length≤68 by rw [hQ]; exact HQLEN.out)
  rw [← hQ] at hqt
  have HQ8:=Lib.hid hqt
  clear hqt hQ
  go_wp2_with fail
  refine HQ8.out.mono ?_
  rintro e w8 ⟨v8,rfl,h8,hb8⟩
  have HB8:=Lib.hid (HB7.out.trans (hb8.mono HB7.out.size))
  have k8:=K7.out.below hb8 K7.out.lt
  have HH8:=Lib.hid (HH7.out.below hb8 HH7.out.lt)
  obtain ⟨A8,c8,rfl,_⟩:=h8.form
  have hs8:=st_8s (k8.cell 6) (k8.frozen 6) A8 Q.1.length c8
  have k9:=k8.set_ 6 (.slice A8 Q.1.length c8)
  have K9:=Lib.hid (show Blk (w8.setCell ⟨gi,6,none⟩ (.slice A8 Q.1.length c8)) gi 86 (icC (errM k mtu.toNat Q.1) (.slice A8 Q.1.length c8)) from k9)
  have hu9:=upd_set w8 gi 6 (.slice A8 Q.1.length c8)
  have HB9:=Lib.hid (HB8.out.trans (hu9.below (B:=w.heap.size) (fun j (hj:j=gi)=>by have:=HGI.out; omega) HB8.out.size))
  have HH9:=Lib.hid (show Blk _ w3.heap.size 76 (hdC g (.slice Ao g.opts.length co)) from (hu9.block _ HH8.out.lt (fun (e:w3.heap.size=gi)=>by have:=HZ4.out; omega)).trans HH8.out)
  have hs9:Sl8 (w8.setCell ⟨gi,6,none⟩ (.slice A8 Q.1.length c8)) (fun _=>True) (.slice A8 Q.1.length c8) Q.1:=by
   have hgl:gi < w7.heap.size:=K7.out.lt
   have:=h8.keep (hu9.same (I:=fun j=>gi < j) fun j (hj:j=gi) hi=>by omega) fun q hq=>by have:=(h8.lt hq).1; omega
   exact row_sl this
  have HS9:=Lib.hid hs9
  clear h8 hb8 k8 k9 hu9 hs9
  go_upto_region 11 with (fail)
  clear hs8
  generalize w8.setCell ⟨gi,6,none⟩ (.slice A8 Q.1.length c8)=w9 at K9 HB9 HH9 HS9 ⊢
  have l1:=ic_load K9.out rfl
  obtain ⟨sr,hsr⟩:∃ z,z=g.src:=⟨_,rfl⟩
  have l2:=ld_u32s (show w9.cell? ⟨w3.heap.size,8,none⟩=some (.int .u32 (sr:Int)) by rw [hsr]; exact HH9.out.cell 8)
  have bd:=fun wx=>hd_build2 wx (fr:Int) (sr:Int)
  have hsn:Calls Tryz.prog 167 #[.agg (icC (errM k mtu.toNat Q.1) (.slice A8 Q.1.length c8)),.agg #[.int .u8 0,.int .u16 0,.bool false,.bool false,.bool false,.int .i64 0,.int .u8 0,.int .u8 0,.int .u32 (fr:Int),.int .u32 (sr:Int),.slice none 0 0]] w9 (BytPost w9 (bytesF (errH fr sr) (icB (errM k mtu.toNat Q.1))) 0):=send_any (errM k mtu.toNat Q.1) (.slice A8 Q.1.length c8) { hd0 with src:=fr,dst:=sr } (.slice none 0 0) (fun _=>True) w9 HS9.out (sl_nil _ _) (by show Q.1.length≤900000; have:=HL.out; omega) (errH_ok hfr (by rw [hsr]; exact HOK.out.2.2.2.2.1)) (by
   have:=HFIT.out
   rw [HQ.out,hsr]
   exact this)
  have HSN:=Lib.hid hsn
  have HSR:=Lib.hid hsr
  clear hsn hsr
  go_wp2_with fail
  refine HSN.out.mono ?_
  rintro e w10 ⟨v10,rfl,h10,hb10⟩
  obtain ⟨A10,c10,rfl,_⟩:=h10.form
  have H10:=Lib.hid (own_base h10 HB9.out.size)
  have HB10:=Lib.hid (HB9.out.trans (hb10.mono HB9.out.size))
  clear h10 hb10
  go_wp2_with fail
  go_ret2
  rw [HE9.out]
  refine ⟨_,rfl,?_,HB10.out⟩
  simp only
  rw [← HQ.out,← HSR.out]
  exact H10.out
 have b3:(mtu != 0)=true:=by rw [bne_iff_ne]; exact c3
 by_cases c4:k=2
 ·have b4:(k != 2)=false:=by rw [bne_eq_false_iff_eq]; exact c4
  have hE:=HE.out
  rw [if_neg (by simp [c1,c2,c4])] at hE
  have HC4:=Lib.hid c4
  clear HE c1 c2 c3 c4
  by_cases c5:f≠0
  ·have b5:((f:Int) != 0)=true:=by rw [bne_iff_ne]; omega
   rw [if_pos c5] at hE
   subst hE
   clear c5
   go_wp2_with fail
   go_ret2
   exact ⟨_,rfl,Row8.nil _ _,HB4.out⟩
  have b5:((f:Int) != 0)=false:=by rw [bne_eq_false_iff_eq]; omega
  rw [if_neg c5,decide_eq_true (by omega:f=0),Bool.true_and] at hE
  have HF0:=Lib.hid (show f=0 by omega)
  clear c5
  have hld4:=hd_load HH4.out rfl
  have hmy:=icmay_any g Ao g.opts.length co Aq y.length cq y _ w4 HQ4.out rfl
  obtain ⟨mm,hmm⟩:∃ b,b=emayH g y:=⟨_,rfl⟩
  rw [← hmm] at hmy hE
  have HMY:=Lib.hid hmy
  clear hmy hmm
  cases mm with
  | false =>
    rw [if_pos rfl] at hE
    subst hE
    go_wp2_with (go_at_call 207; refine HMY.out.mono ?_; rintro e w5 ⟨rfl,hb5⟩; have HB5:=Lib.hid (HB4.out.trans (hb5.mono HB4.out.size)); clear hb5)
    go_ret2
    exact ⟨_,rfl,Row8.nil _ _,HB5.out⟩
  | true =>
  rw [if_neg (by simp)] at hE
  have HE9:=Lib.hid hE
  clear hE
  go_upto_region 9 with (go_at_call 207; refine HMY.out.mono ?_; rintro e w5 ⟨rfl,hb5⟩; have HB5:=Lib.hid (HB4.out.trans (hb5.mono HB4.out.size)); have HK5:=Lib.hid (HK4.out.below hb5 HK4.out.lt); have HH5:=Lib.hid (HH4.out.below hb5 HH4.out.lt); clear hb5)
  have hs4:=st8 (HK5.out.cell 4) (HK5.out.frozen 4)
  have k6:=HK5.out.set_ 4 (.int .u8 (mtu / 256 % 256))
  have hs5:=st8 (k6.cell 5) (k6.frozen 5)
  have k7:=k6.set_ 5 (.int .u8 (mtu % 256))
  have hmt:=HC.out
  have z2:mtu / 256 % 256=((u8 (mtu.toNat / 256)).toNat:Int):=by rw [u8_nat]; omega
  have z3:mtu % 256=((u8 mtu.toNat).toNat:Int):=by rw [u8_nat]; omega
  have hu:=((Upd.refl (only gi) w5).set_ 4 (.int .u8 (mtu / 256 % 256))).set_ 5 (.int .u8 (mtu % 256))
  have K7:=Lib.hid (show Blk ((w5.setCell ⟨gi,4,none⟩ (.int .u8 (mtu / 256 % 256))).setCell ⟨gi,5,none⟩ (.int .u8 (mtu % 256))) gi 86 (icC (errM k mtu.toNat []) (.slice none 0 0)) from by
   have hm:=HM.out (by trivial)
   have hmm:icC (errM k mtu.toNat []) (.slice none 0 0)=((icC M (.slice none 0 0)).setIfInBounds 4 (.int .u8 (mtu / 256 % 256))).setIfInBounds 5 (.int .u8 (mtu % 256)):=by rw [z2,z3,hm]; rfl
   rw [hmm]
   exact k7)
  have hb7:=HB5.out.trans (hu.below (B:=w.heap.size) (fun j (hj:j=gi)=>by have:=HGI.out; omega) HB5.out.size)
  have HB7:=Lib.hid hb7
  have HH7:=Lib.hid (show Blk _ w3.heap.size 76 (hdC g (.slice Ao g.opts.length co)) from (hu.block _ HH5.out.lt (fun (e:w3.heap.size=gi)=>by have:=HZ4.out; omega)).trans HH5.out)
  clear k6 k7 hmt z2 z3 hu hb7
  go_upto_region 10 with (fail)
  clear hs4 hs5
  generalize (w5.setCell ⟨gi,4,none⟩ (.int .u8 (mtu / 256 % 256))).setCell ⟨gi,5,none⟩ (.int .u8 (mtu % 256))=w7 at K7 HB7 HH7 ⊢
  have hqt:=HQT.out w7 HB7.out
  obtain ⟨Q,hQ⟩:∃ Q,Q=quoteF x:=⟨_,rfl⟩
  have HQ:=Lib.hid hQ
  have HL:=Lib.hid (show Q.1.length≤68 by rw [hQ]; exact HQLEN.out)
  rw [← hQ] at hqt
  have HQ8:=Lib.hid hqt
  clear hqt hQ
  go_wp2_with fail
  refine HQ8.out.mono ?_
  rintro e w8 ⟨v8,rfl,h8,hb8⟩
  have HB8:=Lib.hid (HB7.out.trans (hb8.mono HB7.out.size))
  have k8:=K7.out.below hb8 K7.out.lt
  have HH8:=Lib.hid (HH7.out.below hb8 HH7.out.lt)
  obtain ⟨A8,c8,rfl,_⟩:=h8.form
  have hs8:=st_8s (k8.cell 6) (k8.frozen 6) A8 Q.1.length c8
  have k9:=k8.set_ 6 (.slice A8 Q.1.length c8)
  have K9:=Lib.hid (show Blk (w8.setCell ⟨gi,6,none⟩ (.slice A8 Q.1.length c8)) gi 86 (icC (errM k mtu.toNat Q.1) (.slice A8 Q.1.length c8)) from k9)
  have hu9:=upd_set w8 gi 6 (.slice A8 Q.1.length c8)
  have HB9:=Lib.hid (HB8.out.trans (hu9.below (B:=w.heap.size) (fun j (hj:j=gi)=>by have:=HGI.out; omega) HB8.out.size))
  have HH9:=Lib.hid (show Blk _ w3.heap.size 76 (hdC g (.slice Ao g.opts.length co)) from (hu9.block _ HH8.out.lt (fun (e:w3.heap.size=gi)=>by have:=HZ4.out; omega)).trans HH8.out)
  have hs9:Sl8 (w8.setCell ⟨gi,6,none⟩ (.slice A8 Q.1.length c8)) (fun _=>True) (.slice A8 Q.1.length c8) Q.1:=by
   have hgl:gi < w7.heap.size:=K7.out.lt
   have:=h8.keep (hu9.same (I:=fun j=>gi < j) fun j (hj:j=gi) hi=>by omega) fun q hq=>by have:=(h8.lt hq).1; omega
   exact row_sl this
  have HS9:=Lib.hid hs9
  clear h8 hb8 k8 k9 hu9 hs9
  go_upto_region 11 with (fail)
  clear hs8
  generalize w8.setCell ⟨gi,6,none⟩ (.slice A8 Q.1.length c8)=w9 at K9 HB9 HH9 HS9 ⊢
  have l1:=ic_load K9.out rfl
  obtain ⟨sr,hsr⟩:∃ z,z=g.src:=⟨_,rfl⟩
  have l2:=ld_u32s (show w9.cell? ⟨w3.heap.size,8,none⟩=some (.int .u32 (sr:Int)) by rw [hsr]; exact HH9.out.cell 8)
  have bd:=fun wx=>hd_build2 wx (fr:Int) (sr:Int)
  have hsn:Calls Tryz.prog 167 #[.agg (icC (errM k mtu.toNat Q.1) (.slice A8 Q.1.length c8)),.agg #[.int .u8 0,.int .u16 0,.bool false,.bool false,.bool false,.int .i64 0,.int .u8 0,.int .u8 0,.int .u32 (fr:Int),.int .u32 (sr:Int),.slice none 0 0]] w9 (BytPost w9 (bytesF (errH fr sr) (icB (errM k mtu.toNat Q.1))) 0):=send_any (errM k mtu.toNat Q.1) (.slice A8 Q.1.length c8) { hd0 with src:=fr,dst:=sr } (.slice none 0 0) (fun _=>True) w9 HS9.out (sl_nil _ _) (by show Q.1.length≤900000; have:=HL.out; omega) (errH_ok hfr (by rw [hsr]; exact HOK.out.2.2.2.2.1)) (by
   have:=HFIT.out
   rw [HQ.out,hsr]
   exact this)
  have HSN:=Lib.hid hsn
  have HSR:=Lib.hid hsr
  clear hsn hsr
  go_wp2_with fail
  refine HSN.out.mono ?_
  rintro e w10 ⟨v10,rfl,h10,hb10⟩
  obtain ⟨A10,c10,rfl,_⟩:=h10.form
  have H10:=Lib.hid (own_base h10 HB9.out.size)
  have HB10:=Lib.hid (HB9.out.trans (hb10.mono HB9.out.size))
  clear h10 hb10
  go_wp2_with fail
  go_ret2
  rw [HE9.out]
  refine ⟨_,rfl,?_,HB10.out⟩
  simp only
  rw [← HQ.out,← HSR.out]
  exact H10.out
 have b4:(k != 2)=true:=by rw [bne_iff_ne]; exact c4
 ·have hE:=HE.out
  rw [if_pos (by simp [c3,c4])] at hE
  subst hE
  clear c1 c2 c3 c4
  go_wp2_with fail
  go_ret2
  exact ⟨_,rfl,Row8.nil _ _,HB4.out⟩
end Go.Proofs.YthlommalbkhcjaaGreat
namespace Go.Proofs.YthlommalbkhcjaaGreat
open Go.RowKit Go.Sort Go.BigFrame
theorem err_le (k:Int) (x:By) (fr:Nat) (mtu:Int):(errF k x fr mtu).1.length≤100:=by
 unfold errF
 split
 ·exact Nat.zero_le _
 ·split
  ·exact Nat.zero_le _
  ·split
   ·exact Nat.zero_le _
   ·have:=quote_len x
    show (bytesF _ _).length≤100
    rw [bytesF_len,icB_len]
    show 20+0+(8+(quoteF x).1.length)≤100
    omega
theorem ld_ptb {w:World} {a:Addr} {b:Nat} (hu:w.cell? a=some (.pointer (some ⟨b,0,none⟩))):(Instr.loadAt 63 (.pointer (some a))).run Tryz.prog w=.ok (.pointer (some ⟨b,0,none⟩)) w:=by
 simp [go_sem,hu]
theorem ld_bys {w:World} {a:Addr} {A:Option Addr} {n c:Nat} (hu:w.cell? a=some (.slice A n c)):(Instr.loadAt 61 (.pointer (some a))).run Tryz.prog w=.ok (.slice A n c) w:=by
 simp [go_sem,hu]
theorem ld_adr {w:World} {a:Addr} {z:Int} (hu:w.cell? a=some (.int .u32 z)):(Instr.loadAt 35 (.pointer (some a))).run Tryz.prog w=.ok (.int .u32 z) w:=by
 simp [go_sem,hu]
theorem st_er {w:World} {g i:Nat} {u:Value} (hu:w.cell? ⟨g,i,none⟩=some u) (hf:w.frozen? ⟨g,i,none⟩=false) (z:Int):(Instr.storeAt 67 (.pointer (some ⟨g,i,none⟩)) (.int .i64 z)).run Tryz.prog w=.ok () (w.setCell ⟨g,i,none⟩ (.int .i64 z)):=by
 simp [go_sem,hu,hf]
section
variable {w0 w wx wy:World} {rb:Nat} {E:Re} {S:Rs} {pk:Nat→Nat→Int × Int}
theorem RnW.take (h:RnW w0 w rb E S) {t:Int} (hu:Upd (only E.bb) w wy) (hb:IsBk wy E.bb 64 1 t 0) (ht:0≤t∧t≤64):RnW w0 wy rb E { S with tok:=t }:=by
 have hlo:=h.bbl
 have hrow:∀ {e:TypeId} {size n:Nat} {v:Value} {xs:List Value},w.ownsRow w0.heap.size e size v n xs→wy.ownsRow w0.heap.size e size v n xs:=fun hr=>own_keep hr (hu.same (I:=fun k=>w0.heap.size≤k) fun k (e:k=E.bb) hI=>by omega) fun g hg=>(own_lt hr hg).1
 refine ⟨⟨h.upd.trans hu fun k (e:k=E.bb)=>.inl e,h.blk.upd hu fun (e:rb=E.bb)=>by have:=h.rbn; omega,h.rbn,h.bbl,?_,hrow h.hv,hb,ht,h.kp.upd hu (blk_tne h.kp h.bk (by decide))⟩,?_,?_⟩
 ·have hpk:=h.pk
  show PkR w0 wy E.bb S
  unfold PkR at hpk ⊢
  split at hpk
  ·exact hrow hpk
  ·exact hpk.keep (hu.same fun k (e:k=E.bb) hI=>hI.2 e)
 ·obtain ⟨us,a,b,c⟩:=h.lc
  exact ⟨us,hrow a,b,fun k x hx=>by obtain ⟨v,e,r⟩:=c k x hx; exact ⟨v,e,hrow r⟩⟩
 ·obtain ⟨Z,a,b,c⟩:=h.ou
  exact ⟨Z,a,hrow b,fun z hz=>hrow (c z hz)⟩
theorem RnW.pkt (h:RnW w0 w rb E S):∃ A n c,S.pv=.slice A n c∧S.x.length=n∧n≤c∧∀ wx,Below w.heap.size w wx→Reads wx (fun k=>k < w.heap.size) 1 A n (bytesV S.x):=by
 have hp:=h.pk
 unfold PkR at hp
 split at hp
 ·obtain ⟨A,c,e,_⟩:=hp.form
  rw [e] at hp
  obtain ⟨h1,h2,h3⟩:=hp.rd
  exact ⟨A,_,c,e,h1,h2,fun wx hb=>(h3.mono fun k hk=>hk.2).keep (Same.ofBelow hb fun k hk=>hk)⟩
 ·obtain ⟨A,c,e,hc,hr⟩:=hp
  exact ⟨A,_,c,e,rfl,hc,fun wx hb=>(hr.lt.mono fun k hk=>hk.2).keep (Same.ofBelow hb fun k hk=>hk)⟩
set_option maxRecDepth 100000 in
set_option maxHeartbeats 8000000 in
attribute [-go_sem] Instr.storeAt Instr.loadAt in
theorem ftell_any (H:TbE w0 E pk) (hp0:PkPos pk) (h:RnW w0 w rb E S) (k:Nat) (hk:k≤3) (mtu:Int) (hsm:S.x.length≤100000) (hl:S.ft.out.length≤100000) (hl2:S.ft.loc.length≤100000) :
  Calls Tryz.prog 130 #[.pointer (some ⟨rb,0,none⟩),.int .i64 (k:Int),.int .i64 mtu] w (FtPost w0 rb E S (fwTell pk E.mtus E.own S.tok k mtu S.x S.ft).1 (fwTell pk E.mtus E.own S.tok k mtu S.x S.ft).2):=by
 obtain ⟨A,n,c,hpv,hn,hc,hrd⟩:=h.pkt
 have HM:=Lib.hid (icmayp_any A n c S.x _ w (hrd w (Below.refl _ _)) hn hc (by omega))
 have HE:=Lib.hid (fun wx (hb:Below w.heap.size w wx)=>icerror_any (k:Int) mtu E.own A n c S.x _ wx (by have:k=0∨k=1∨k=2∨k=3:=(by omega); rcases this with rfl | rfl | rfl | rfl <;> rfl) H.own (hrd wx hb) hn hc (by omega))
 obtain ⟨F,hF⟩:∃ F,F=fwTell pk E.mtus E.own S.tok k mtu S.x S.ft:=⟨_,rfl⟩
 rw [← hF]
 unfold fwTell at hF
 have q4:w.cell? ⟨rb,4,none⟩=some (.slice A n c):=by rw [← hpv]; exact h.blk.cell 4
 have l4:=ld_bys q4
 have HH:=Lib.hid h
 have HPV:=Lib.hid hpv
 have HLE:=Lib.hid (err_le (k:Int) S.x E.own mtu)
 obtain ⟨M,hM⟩:∃ M,M=emayF S.x:=⟨_,rfl⟩
 rw [← hM] at HM hF
 cases M with
 | false =>
   rw [if_pos rfl] at hF
   have HFF:=Lib.hid hF
   have HD:=Lib.hid (fun wx (hb:Below w.heap.size w wx)=>(fdrop_any (h.below hb) 10:Calls Tryz.prog 124 #[.pointer (some ⟨rb,0,none⟩),.int .i64 10] wx fun e w'=>e=.returned (.bool true)∧RnW w0 w' rb E { S with ft:=dropF S.ft 10 }))
   clear hF hM h hpv hn hc hrd HE q4
   go_enter Tryz.func130,Tryz.ntmps130
   go_wp2_with fail
   refine HM.out.mono ?_
   rintro e w1 ⟨rfl,hb1⟩
   have HD1:=Lib.hid (HD.out w1 hb1)
   clear hb1
   go_wp2_with fail
   refine HD1.out.mono ?_
   rintro e w2 ⟨rfl,hw2⟩
   have HF:=Lib.hid hw2
   clear hw2
   go_wp2_with fail
   go_ret
   rw [HFF.out]
   exact ⟨rfl,_,_,HF.out⟩
 | true =>
   rw [if_neg (by decide)] at hF
   have hbk:IsBk w E.bb 64 1 S.tok 0:=h.bk
   have HBT:=Lib.hid (fun wx (hb:Below w.heap.size w wx)=>btake_any E.bb 64 1 S.tok 0 wx (Blk.below hbk hb (Blk.lt hbk)) ⟨by decide,by decide,by decide,by decide,h.tk.1,h.tk.2,by decide,by decide⟩)
   have htk:=h.tk
   have HTK:=Lib.hid htk
   clear hM h hpv hn hc hrd q4 hbk
   by_cases ht:S.tok≤0
   ·rw [if_pos ht] at hF
    have HFF:=Lib.hid hF
    clear hF HE
    have d0:decide (0 < S.tok)=false:=decide_eq_false (by omega)
    have tk0:takeN S.tok=S.tok:=by unfold takeN; rw [if_neg (by omega)]
    rw [d0,tk0] at HBT
    go_enter Tryz.func130,Tryz.ntmps130
    go_wp2_with fail
    refine HM.out.mono ?_
    rintro e w1 ⟨rfl,hb1⟩
    have HB1:=Lib.hid (HBT.out w1 hb1)
    have HH1:=Lib.hid (HH.out.below hb1)
    have l3:=ld_ptb (w:=w1) (a:=⟨rb,3,none⟩) (HH1.out.blk.cell 3)
    clear hb1 HBT l4
    go_wp2_with fail
    refine HB1.out.mono ?_
    rintro e w2 ⟨rfl,hk2,hu2⟩
    have HD:=Lib.hid (show Calls Tryz.prog 124 #[.pointer (some ⟨rb,0,none⟩),.int .i64 11] w2 fun e w'=>e=.returned (.bool true)∧RnW w0 w' rb E { S with ft:=dropF S.ft 11 } from fdrop_any (HH1.out.take hu2 hk2 HTK.out) 11)
    clear hk2 hu2 l3
    go_wp2_with fail
    refine HD.out.mono ?_
    rintro e w3 ⟨rfl,hw3⟩
    have HF:=Lib.hid hw3
    clear hw3
    go_wp2_with fail
    go_ret
    rw [HFF.out]
    exact ⟨rfl,_,_,HF.out⟩
   ·rw [if_neg ht] at hF
    have HFF:=Lib.hid hF
    clear hF
    have d0:decide (0 < S.tok)=true:=decide_eq_true (by omega)
    have tk0:takeN S.tok=S.tok - 1:=by unfold takeN; rw [if_pos (by omega)]
    rw [d0,tk0] at HBT
    go_enter Tryz.func130,Tryz.ntmps130
    go_wp2_with fail
    refine HM.out.mono ?_
    rintro e w1 ⟨rfl,hb1⟩
    have HB1:=Lib.hid (HBT.out w1 hb1)
    have HH1:=Lib.hid (HH.out.below hb1)
    have l3:=ld_ptb (w:=w1) (a:=⟨rb,3,none⟩) (HH1.out.blk.cell 3)
    clear hb1 HBT l4 HE
    go_wp2_with fail
    refine HB1.out.mono ?_
    rintro e w2 ⟨rfl,hk2,hu2⟩
    have h2:RnW w0 w2 rb E { S with tok:=S.tok - 1 }:=HH1.out.take hu2 hk2 ⟨by have:=HTK.out; omega,by have:=HTK.out; omega⟩
    have s19:=st_er (h2.blk.cell 19) (h2.blk.frozen 19) (k:Int)
    have h3:=h2.put (i:=19) (u:=.int .i64 (k:Int)) (S':={ S with tok:=S.tok - 1,ft:={ S.ft with err:=k } }) rfl h2.pk h2.hv h2.lc h2.ou rfl
    obtain ⟨W,hW⟩:∃ W,W=w2.setCell ⟨rb,19,none⟩ (.int .i64 (k:Int)):=⟨_,rfl⟩
    rw [← hW] at s19 h3
    have H3:=Lib.hid h3
    clear hk2 hu2 l3 h2 h3 hW
    go_upto_region 6 with (fail)
    clear s19
    have HSN:=Lib.hid (fun wx (hw:RnW w0 wx rb E { S with tok:=S.tok - 1,ft:={ S.ft with err:=k } }) (A:Option Addr) (n c:Nat) (y:By) (hy:Row8 w0.heap.size wx (.slice A n c) y) (hl3:y.length≤100000)=>fsend_any H hp0 hw hy hl3 hl hl2)
    obtain ⟨A3,n3,c3,hpv3,hn3,hc3,hrd3⟩:=H3.out.pkt
    have HE:=Lib.hid (fun wx (hb:Below W.heap.size W wx)=>icerror_any (k:Int) mtu E.own A3 n3 c3 S.x _ wx (by have:k=0∨k=1∨k=2∨k=3:=(by omega); rcases this with rfl | rfl | rfl | rfl <;> rfl) H.own (hrd3 wx hb) hn3 hc3 (by have:S.x.length=n3:=hn3; omega))
    have HP3:=Lib.hid hpv3
    obtain ⟨Y,hY⟩:∃ Y,Y=errF (k:Int) S.x E.own mtu:=⟨_,rfl⟩
    rw [← hY] at HE HLE HFF
    clear hpv3 hn3 hc3 hrd3 hsm hl hl2 hp0 H hY HM HB1 HH1 HH HPV HTK ht d0 tk0
    refine wp_region_stages [(true,10),(false,1),(true,5)] (by kernel_rfl) (by kernel_rfl) fun wz hz _=>?_
    have HZ:=Lib.hid (H3.out.below hz)
    have HBZ:=Lib.hid hz
    have l4:=fun (d:Nat) (os:Array Obj)=>ld_bys (cell_regrown (show wz.cell? ⟨rb,4,none⟩=some (.slice A3 n3 c3) by rw [← HP3.out]; exact HZ.out.blk.cell 4) d os)
    have l1:=fun (d:Nat) (os:Array Obj)=>ld_adr (cell_regrown (show wz.cell? ⟨rb,1,none⟩=some (.int .u32 (E.own:Int)) from HZ.out.blk.cell 1) d os)
    clear hz H3
    refine wpSt_q ?_
    simp only [List.take_succ_cons,List.take_zero,List.drop_succ_cons,List.drop_zero]
    repeat (go_big_quiet_step (fail))
    refine wpQuiet_nil ?_
    intro _ hw'
    obtain ⟨⟨dq,osq⟩,hw''⟩:=hw'
    subst hw''
    have hq:=below_regrown wz dq osq
    generalize grow (redrawn wz dq) osq=wa at hq ⊢
    have HA:=Lib.hid (HZ.out.below hq)
    have HEA:=Lib.hid (HE.out wa (HBZ.out.trans (hq.mono HBZ.out.size)))
    clear hq l4 l1 HZ HE HBZ
    refine wpSt_l ?_
    go_wp2_with (refine HEA.out.mono ?_; rintro e wb0 ⟨v,rfl,hr,hb0⟩; obtain ⟨Ay,cy,rfl,_⟩:=hr.form)
    refine wpSt_q ?_
    simp only [List.take_succ_cons,List.take_zero,List.drop_succ_cons,List.drop_zero]
    repeat (go_big_quiet_step (fail))
    refine wpQuiet_nil ?_
    intro _ hw'
    obtain ⟨⟨dr,osr⟩,hw''⟩:=hw'
    subst hw''
    have hbr:=below_regrown wb0 dr osr
    generalize grow (redrawn wb0 dr) osr=wb at hbr ⊢
    refine wpSt_end ?_
    have hb:=hb0.trans (hbr.mono hb0.size)
    have hr2:=own_base (Row8.below hr hbr) HA.out.upd.size
    have HS:=Lib.hid (HSN.out wb (HA.out.below hb) Ay Y.1.length cy Y.1 hr2 (by have:=HLE.out; omega))
    clear hb hr hr2 hb0 hbr HEA HSN HA
    go_wp2_with fail
    refine HS.out.mono ?_
    rintro e wc ⟨rfl,lv,ov,hw⟩
    have HF:=Lib.hid hw
    clear hw
    go_wp2_with fail
    go_ret
    rw [HFF.out]
    exact ⟨rfl,lv,ov,HF.out⟩
end
end Go.Proofs.YthlommalbkhcjaaGreat
