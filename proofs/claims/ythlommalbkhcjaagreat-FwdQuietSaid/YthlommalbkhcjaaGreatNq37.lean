/- ref03.Routed. -/
import Derived.Test.YthlommalbkhcjaaGreatNq36
import Derived.Test.YthlommalbkhcjaaGreatNq20
import Derived.Test.YthlommalbkhcjaaGreatNq24
import Derived.Test.YthlommalbkhcjaaGreatNq04
namespace Go.Proofs.YthlommalbkhcjaaGreat
open Go.RowKit Go.Sort Go.BigFrame
theorem Fld.below {w w':World} {Bb:Nat} {y:By} (h:Fld w Bb y) (hb:Below w.heap.size w w'):Fld w' Bb y:=by
 obtain ⟨v,h1,h2⟩:=h
 exact ⟨v,h1.below hb h1.lt,h2.below hb⟩
theorem Fld.lt {w:World} {Bb:Nat} {y:By} (h:Fld w Bb y):Bb < w.heap.size:=by
 obtain ⟨v,h1,_⟩:=h
 exact h1.lt
theorem fld_new (w:World):Fld (w.alloc (.cells #[.slice none 0 0] 61)) w.heap.size []:=⟨_,Blk.new _ _ _,Row8.nil _ _⟩
theorem head_left (h:Hd) (t:Nat):[]++putF (64+(20+h.opts.length) / 4) 1++putF h.tos 1++putF t 2++putF h.id 2++putF (flagsF h) 2++putF h.ttl 1++putF h.proto 1++putF 0 2++putF h.src 4++putF h.dst 4++h.opts=headF h t [0,0]:=by
 unfold headF
 rw [show putF 0 2=[0,0] from by rw [put2]; rfl]
 simp only [List.nil_append,List.append_assoc]
def BytPost (w:World) (x:By) (n:Int) (e:Ending) (w':World):Prop:=∃ v,e=.returned (.tuple #[v,.int .i64 n])∧Row8 w.heap.size w' v x∧Below w.heap.size w w'
set_option maxRecDepth 20000 in
set_option maxHeartbeats 1600000 in
theorem bytes_no (h:Hd) (v vp:Value) (p:By) (I:Nat→Prop) (w:World) (hv:Sl8 w I v h.opts) (hp:Sl8 w I vp p) (hsm:h.opts.length≤1000000) (_:p.length≤1000000) (hf:fitsH h p=false) :
  Calls Tryz.prog 148 #[hdV h v,vp] w (BytPost w [] 2):=by
 have hb0:Below w.heap.size w (w.alloc (.cells (hdC h v) 76)):=(Below.refl _ _).alloc (Nat.le_refl _) _
 have HS:=Lib.hid (size_any h v (fun k=>I k∧k < w.heap.size) _ (hv.lt.keep (Same.ofBelow hb0 fun k hk=>hk.2)) hsm)
 obtain ⟨A,c,rfl,hc,hr⟩:=hv
 obtain ⟨Ap,cp,rfl,hcp,hrp⟩:=hp
 have HB0:=Lib.hid hb0
 obtain ⟨m,hm⟩:∃ m,m=sizeH h:=⟨_,rfl⟩
 rw [← hm] at HS
 obtain ⟨n,hn⟩:∃ n,n=h.opts.length:=⟨_,rfl⟩
 obtain ⟨q,hq⟩:∃ q,q=p.length:=⟨_,rfl⟩
 have hmq:m=0∨(m≠0∧m≤60∧65535 - m < q):=by
  unfold sizeH at hm
  unfold fitsH at hf
  by_cases hmy:mayH h=true
  ·right
   rw [if_pos hmy] at hm
   rw [hmy,Bool.true_and,decide_eq_false_iff_not] at hf
   have:=(may_of hmy).l40
   omega
  ·left
   rw [if_neg hmy] at hm
   exact hm
 rw [← hn] at HS HB0 hsm ⊢
 rw [← hq]
 unfold hdC at HB0 HS
 unfold hdV at HS ⊢
 clear hb0 hr hc hm hn hrp hcp hf hq
 rcases hmq with h0 | ⟨h0,hm60,hlt⟩
 ·subst h0
  go_enter Tryz.func148,Tryz.ntmps148
  go_wp2_with fail
  refine HS.out.mono ?_
  rintro e w1 ⟨rfl,hb1⟩
  have HB1:=Lib.hid (HB0.out.trans (hb1.mono HB0.out.size))
  clear hb1
  go_wp2_with fail
  go_ret2
  exact ⟨_,rfl,Row8.nil _ _,HB1.out⟩
 ·have h0b:((m:Int) == 0)=false:=by rw [beq_eq_false_iff_ne]; omega
  have hd:decide ((65535:Int) - (m:Int) < (q:Int))=true:=decide_eq_true (by omega)
  go_enter Tryz.func148,Tryz.ntmps148
  go_wp2_with fail
  refine HS.out.mono ?_
  rintro e w1 ⟨rfl,hb1⟩
  have HB1:=Lib.hid (HB0.out.trans (hb1.mono HB0.out.size))
  clear hb1
  go_wp2_with fail
  go_ret2
  exact ⟨_,rfl,Row8.nil _ _,HB1.out⟩
set_option maxRecDepth 100000 in
set_option maxHeartbeats 8000000 in
theorem bytes_yes (h:Hd) (v vp:Value) (p:By) (I:Nat→Prop) (w:World) (hv:Sl8 w I v h.opts) (hp:Sl8 w I vp p) (hok:h.ok) (hf:fitsH h p=true) :
  Calls Tryz.prog 148 #[hdV h v,vp] w (BytPost w (bytesF h p) 0):=by
 unfold fitsH at hf
 obtain ⟨hmy,hpl⟩:=Bool.and_eq_true_iff.1 hf
 rw [decide_eq_true_eq] at hpl
 have hM:=may_of hmy
 have hol:=hM.l40
 have hb0:Below w.heap.size w (w.alloc (.cells (hdC h v) 76)):=(Below.refl _ _).alloc (Nat.le_refl _) _
 have HS:=Lib.hid (size_any h v (fun k=>I k∧k < w.heap.size) _ (hv.lt.keep (Same.ofBelow hb0 fun k hk=>hk.2)) (by omega))
 have hkb:=Blk.new w 76 (hdC h v)
 obtain ⟨A,c,rfl,hc,hr⟩:=hv
 obtain ⟨Ap,cp,rfl,hcp,hrp⟩:=hp
 have HR:=Lib.hid hr.lt
 have HRP:=Lib.hid hrp.lt
 have HB0:=Lib.hid hb0
 obtain ⟨m,hm⟩:∃ m,m=sizeH h:=⟨_,rfl⟩
 have hm20:m=20+h.opts.length:=by rw [hm]; unfold sizeH; rw [if_pos hmy]
 rw [← hm] at HS
 obtain ⟨n,hn⟩:∃ n,n=h.opts.length:=⟨_,rfl⟩
 obtain ⟨q,hq⟩:∃ q,q=p.length:=⟨_,rfl⟩
 obtain ⟨R,hR⟩:∃ R,R=bytesF h p:=⟨_,rfl⟩
 rw [← hR]
 rw [← hn] at HS HB0 HR hol hpl hm20 hkb ⊢
 rw [← hq] at HRP hpl ⊢
 have HKB:=Lib.hid hkb
 obtain ⟨o1,o2,o3,o4,o5,o6⟩:=hok
 have hfl:=flags_lt hM
 obtain ⟨fl,hfe⟩:∃ fl,fl=flagsF h:=⟨_,rfl⟩
 have HFL:=Lib.hid (fun wx=>flags_any h A n c wx hM.o0 hM.o1)
 rw [← hfe] at HFL hfl
 obtain ⟨s4,hs4⟩:∃ s,s=m / 4:=⟨_,rfl⟩
 obtain ⟨s5,hs5⟩:∃ s,s=64+s4:=⟨_,rfl⟩
 obtain ⟨t,ht⟩:∃ t,t=m+q:=⟨_,rfl⟩
 have htl:t < 65536:=by omega
 have hm0:((m:Int) == 0)=false:=by rw [beq_eq_false_iff_ne]; omega
 have hdq:decide ((65535:Int) - (m:Int) < (q:Int))=false:=decide_eq_false (by omega)
 have e4:(m:Int) / 4=(s4:Int):=by omega
 have e5:(64:Int)+(s4:Int)=(s5:Int):=by omega
 have et:(m:Int)+(q:Int)=(t:Int):=by omega
 have u5:IntKind.u64.wrap (s5:Int)=(s5:Int):=wraps_u64 _ (by omega) (by omega)
 have ut:IntKind.u64.wrap (t:Int)=(t:Int):=wraps_u64 _ (by omega) (by omega)
 have u1:IntKind.u64.wrap (h.tos:Int)=(h.tos:Int):=wraps_u64 _ (by omega) (by omega)
 have u2:IntKind.u64.wrap (h.id:Int)=(h.id:Int):=wraps_u64 _ (by omega) (by omega)
 have u3:IntKind.u64.wrap (h.ttl:Int)=(h.ttl:Int):=wraps_u64 _ (by omega) (by omega)
 have u4:IntKind.u64.wrap (h.proto:Int)=(h.proto:Int):=wraps_u64 _ (by omega) (by omega)
 have u6:IntKind.u64.wrap (h.src:Int)=(h.src:Int):=wraps_u64 _ (by omega) (by omega)
 have u7:IntKind.u64.wrap (h.dst:Int)=(h.dst:Int):=wraps_u64 _ (by omega) (by omega)
 have P1:=Lib.hid (fun wx=>put1_any s5 wx (by omega))
 have P2:=Lib.hid (fun wx=>put1_any h.tos wx o1)
 have P3:=Lib.hid (fun wx=>put2_any t wx htl)
 have P4:=Lib.hid (fun wx=>put2_any h.id wx o2)
 have P5:=Lib.hid (fun wx=>put2_any fl wx hfl)
 have P6:=Lib.hid (fun wx=>put1_any h.ttl wx o3)
 have P7:=Lib.hid (fun wx=>put1_any h.proto wx o4)
 have P8:=Lib.hid (fun wx=>put2_any 0 wx (by decide))
 have P9:=Lib.hid (fun wx=>put4_any h.src wx (by omega))
 have P10:=Lib.hid (fun wx=>put4_any h.dst wx (by omega))
 have hmn:(0:Int)≤m:=by omega
 have HRR:=Lib.hid hR
 have HN:=Lib.hid hn
 have HQ:=Lib.hid hq
 have HM20:=Lib.hid hm20
 have HFE:=Lib.hid hfe
 have HS5:=Lib.hid (show s5=64+m / 4 by omega)
 have HT:=Lib.hid ht
 have HCC:=Lib.hid (And.intro hc hcp)
 unfold hdC at HB0 HS HKB
 unfold hdV at HS HFL ⊢
 clear hb0 hkb hr hrp hc hcp hf hmy hM hm hm20 hn hq hR hfe hs4 hs5 ht o1 o2 o3 o4 o5 o6
 go_enter Tryz.func148,Tryz.ntmps148
 go_wp2_with fail
 refine HS.out.mono ?_
 rintro e w1 ⟨rfl,hb1⟩
 have HK1:=Lib.hid (HKB.out.below hb1 HKB.out.lt)
 have HB1:=Lib.hid (HB0.out.trans (hb1.mono HB0.out.size))
 clear hb1 HKB HB0 HS
 obtain ⟨Bb,hBb⟩:∃ Bb,Bb=w1.heap.size:=⟨_,rfl⟩
 obtain ⟨W0,hW0⟩:∃ W0,W0=w1.alloc (.cells #[.slice none 0 0] 61):=⟨_,rfl⟩
 have hf0:Fld W0 Bb []:=by rw [hW0,hBb]; exact fld_new _
 have hbw:Below Bb w1 W0:=by rw [hW0,hBb]; exact (Below.refl _ _).alloc (Nat.le_refl _) _
 have HHB:=Lib.hid (show w.heap.size < Bb by rw [hBb]; exact HK1.out.lt)
 have HKX:=Lib.hid (fun (wx:World) (hx:Below Bb w1 wx)=>HK1.out.below hx (show w.heap.size < Bb from HHB.out))
 have HF0:=Lib.hid hf0
 have HBW0:=Lib.hid hbw
 have HBB:=Lib.hid hBb
 have HW0:=Lib.hid hW0
 clear hf0 hbw hBb hW0
 go_wp2_with fail
 rw [← HW0.out,← HBB.out]
 refine (field_any s5 1 Bb _ _ P1.out HF0.out (by simp only [List.length_nil]; omega)).mono ?_
 rintro e W1 ⟨rfl,hf1,hb1⟩
 have HF1:=Lib.hid hf1
 have HBW1:=Lib.hid (HBW0.out.trans hb1)
 clear hf1 hb1
 have g2:W1.cell? ⟨w.heap.size,0,none⟩=some (.int .u8 (h.tos:Int)):=(HKX.out W1 HBW1.out).cell 0
 go_wp2_with fail
 refine (field_any h.tos 1 Bb _ _ P2.out HF1.out (by simp only [List.length_append,putF_len,List.length_nil]; omega)).mono ?_
 rintro e W2 ⟨rfl,hf2,hb2⟩
 have HF2:=Lib.hid hf2
 have HBW2:=Lib.hid (HBW1.out.trans hb2)
 clear hf2 hb2 g2
 go_wp2_with fail
 refine (field_any t 2 Bb _ _ P3.out HF2.out (by simp only [List.length_append,putF_len,List.length_nil]; omega)).mono ?_
 rintro e W3 ⟨rfl,hf3,hb3⟩
 have HF3:=Lib.hid hf3
 have HBW3:=Lib.hid (HBW2.out.trans hb3)
 clear hf3 hb3
 have g4:W3.cell? ⟨w.heap.size,1,none⟩=some (.int .u16 (h.id:Int)):=(HKX.out W3 HBW3.out).cell 1
 go_wp2_with fail
 refine (field_any h.id 2 Bb _ _ P4.out HF3.out (by simp only [List.length_append,putF_len,List.length_nil]; omega)).mono ?_
 rintro e W4 ⟨rfl,hf4,hb4⟩
 have HF4:=Lib.hid hf4
 have HBW4:=Lib.hid (HBW3.out.trans hb4)
 clear hf4 hb4 g4
 have k0:=(HKX.out W4 HBW4.out).cell 0
 have k1:=(HKX.out W4 HBW4.out).cell 1
 have k2:=(HKX.out W4 HBW4.out).cell 2
 have k3:=(HKX.out W4 HBW4.out).cell 3
 have k4:=(HKX.out W4 HBW4.out).cell 4
 have k5:=(HKX.out W4 HBW4.out).cell 5
 have k6:=(HKX.out W4 HBW4.out).cell 6
 have k7:=(HKX.out W4 HBW4.out).cell 7
 have k8:=(HKX.out W4 HBW4.out).cell 8
 have k9:=(HKX.out W4 HBW4.out).cell 9
 have k10:=(HKX.out W4 HBW4.out).cell 10
 go_wp2_with fail
 clear k0 k1 k2 k3 k4 k5 k6 k7 k8 k9 k10
 refine (HFL.out _).mono ?_
 rintro e v5 ⟨rfl,hb5⟩
 have HFV5:=Lib.hid (HF4.out.below hb5)
 have HBV5:=Lib.hid (HBW4.out.trans (hb5.mono (Nat.le_of_lt HF4.out.lt)))
 clear hb5
 go_wp2_with fail
 refine (field_any fl 2 Bb _ _ P5.out HFV5.out (by simp only [List.length_append,putF_len,List.length_nil]; omega)).mono ?_
 rintro e W5 ⟨rfl,hf5,hb5⟩
 have HF5:=Lib.hid hf5
 have HBW5:=Lib.hid (HBV5.out.trans hb5)
 clear hf5 hb5
 have g6:W5.cell? ⟨w.heap.size,6,none⟩=some (.int .u8 (h.ttl:Int)):=(HKX.out W5 HBW5.out).cell 6
 go_wp2_with fail
 refine (field_any h.ttl 1 Bb _ _ P6.out HF5.out (by simp only [List.length_append,putF_len,List.length_nil]; omega)).mono ?_
 rintro e W6 ⟨rfl,hf6,hb6⟩
 have HF6:=Lib.hid hf6
 have HBW6:=Lib.hid (HBW5.out.trans hb6)
 clear hf6 hb6 g6
 have g7:W6.cell? ⟨w.heap.size,7,none⟩=some (.int .u8 (h.proto:Int)):=(HKX.out W6 HBW6.out).cell 7
 go_wp2_with fail
 refine (field_any h.proto 1 Bb _ _ P7.out HF6.out (by simp only [List.length_append,putF_len,List.length_nil]; omega)).mono ?_
 rintro e W7 ⟨rfl,hf7,hb7⟩
 have HF7:=Lib.hid hf7
 have HBW7:=Lib.hid (HBW6.out.trans hb7)
 clear hf7 hb7 g7
 go_wp2_with fail
 refine (field_any 0 2 Bb _ _ P8.out HF7.out (by simp only [List.length_append,putF_len,List.length_nil]; omega)).mono ?_
 rintro e W8 ⟨rfl,hf8,hb8⟩
 have HF8:=Lib.hid hf8
 have HBW8:=Lib.hid (HBW7.out.trans hb8)
 clear hf8 hb8
 have g9:W8.cell? ⟨w.heap.size,8,none⟩=some (.int .u32 (h.src:Int)):=(HKX.out W8 HBW8.out).cell 8
 go_wp2_with fail
 refine (field_any h.src 4 Bb _ _ P9.out HF8.out (by simp only [List.length_append,putF_len,List.length_nil]; omega)).mono ?_
 rintro e W9 ⟨rfl,hf9,hb9⟩
 have HF9:=Lib.hid hf9
 have HBW9:=Lib.hid (HBW8.out.trans hb9)
 clear hf9 hb9 g9
 have g10:W9.cell? ⟨w.heap.size,9,none⟩=some (.int .u32 (h.dst:Int)):=(HKX.out W9 HBW9.out).cell 9
 go_wp2_with fail
 refine (field_any h.dst 4 Bb _ _ P10.out HF9.out (by simp only [List.length_append,putF_len,List.length_nil]; omega)).mono ?_
 rintro e W10 ⟨rfl,hf10,hb10⟩
 have HF10:=Lib.hid hf10
 have HBW10:=Lib.hid (HBW9.out.trans hb10)
 clear hf10 hb10 g10
 obtain ⟨y,hy⟩:∃ y,y=[]++putF s5 1++putF h.tos 1++putF t 2++putF h.id 2++putF fl 2++putF h.ttl 1++putF h.proto 1++putF 0 2++putF h.src 4++putF h.dst 4:=⟨_,rfl⟩
 have hyl:y.length=20:=by rw [hy]; simp only [List.length_append,putF_len,List.length_nil]
 have hfy:Fld W10 Bb y:=by rw [hy]; exact HF10.out
 have HY:=Lib.hid hy
 obtain ⟨lv,hkl,hrl⟩:=hfy
 obtain ⟨A1,c1,rfl,_⟩:=hrl.form
 have k0:W10.cell? ⟨Bb,0,none⟩=some (.slice A1 y.length c1):=hkl.cell 0
 have k10:W10.cell? ⟨w.heap.size,10,none⟩=some (.slice A n c):=(HKX.out W10 HBW10.out).cell 10
 rw [hyl] at k0
 have HYL:=Lib.hid hyl
 have HKL:=Lib.hid hkl
 have HRL:=Lib.hid hrl
 have hB1:Below w.heap.size w W10:=HB1.out.trans (HBW10.out.mono (Nat.le_of_lt HHB.out))
 have HRD:=Lib.hid (HR.out.keep (Same.ofBelow hB1 fun k hk=>hk.2))
 have h63:y.length+n≤140737488355328:=by omega
 have HBL:=Lib.hid (show Bb+1≤W10.heap.size from hkl.lt)
 have HW10:=Lib.hid hB1
 have heqn:Value.slice A1 20 c1=Value.slice A1 y.length c1:=by rw [hyl]
 have HEQ:=Lib.hid heqn
 obtain ⟨z,hz⟩:∃ z,z=y++h.opts:=⟨_,rfl⟩
 have hzl:z.length=m:=by rw [hz,List.length_append,hyl,← HN.out,HM20.out]
 have HZ:=Lib.hid hz
 have HZL:=Lib.hid hzl
 clear hz hzl
 clear hkl hrl hy hyl hB1 heqn HF10 HF0 HF1 HF2 HF3 HF4 HFV5 HF5 HF6 HF7 HF8 HF9 P1 P2 P3 P4 P5 P6 P7 P8 P9 P10
 go_wp2_with (at_builtin; refine wpList_app8 W10 rfl (.tmp 70) (.tmp 72) rfl rfl (Bb+1) _ y HEQ.out HRL.out _ A n c h.opts rfl HN.out.symm HRD.out h63 HBL.out ?_; intro v2 w2 h2 hg2 _; have hfm:∃ A2 d2,v2=Value.slice A2 m d2:=(by obtain ⟨A2,d2,e,_⟩:=h2.form; exact ⟨A2,d2,by rw [e,← HZ.out,HZL.out]⟩); obtain ⟨A2,d2,rfl⟩:=hfm; have hk2:Blk w2 Bb 61 _:=(hg2.block Bb HKL.out.lt fun e=>by have:=(HRL.out.lt e.symm).1; omega).trans HKL.out; have c2:=hk2.cell 0; have z2:=hk2.frozen 0)
 obtain ⟨W11,hW11⟩:∃ W11,W11=w2.setCell ⟨Bb,0,none⟩ (.slice A2 m d2):=⟨_,rfl⟩
 rw [← hW11]
 have hr2:Row8 (Bb+1) w2 (.slice A2 m d2) z:=by rw [HZ.out]; exact h2
 have hr11:Row8 (Bb+1) W11 (.slice A2 m d2) z:=by
  rw [hW11]
  exact hr2.keep (I:=fun k=>k≠Bb) (Upd.same (F:=fun k=>k=Bb) ((Upd.refl (fun k=>k=Bb) w2).setCell (p:=⟨Bb,0,none⟩) (.inl rfl) _) fun k hk hi=>hi hk) fun g hg=>by have:=(own_lt hr2 hg).1; omega
 have hk11:Blk W11 Bb 61 #[.slice A2 m d2]:=by rw [hW11]; exact hk2.set_ 0 _
 have hb11:Below Bb w1 W11:=by rw [hW11]; exact (HBW10.out.grown hg2 (Nat.le_of_lt HKL.out.lt) fun g hg=>by have:=(HRL.out.lt hg).1; omega).setCell (p:=⟨Bb,0,none⟩) (Nat.le_refl _) _
 obtain ⟨g2,cap2,e2,hc2,hg2b,cur,hcur,hcur2⟩:=hr11.blk (by rw [HZL.out]; have:=HM20.out; omega)
 injection e2 with e2 em ed
 subst e2
 subst ed
 have HR11:=Lib.hid hr11
 have HK11:=Lib.hid hk11
 have HB11:=Lib.hid hb11
 have HRDD:=Lib.hid hr11.sl
 have hd2m:m≤d2:=by omega
 obtain ⟨m10,hm10⟩:∃ k,k=m - 10:=⟨_,rfl⟩
 obtain ⟨d10,hd10⟩:∃ k,k=d2 - 10:=⟨_,rfl⟩
 have hm20:20≤m:=by have:=HM20.out; omega
 have SA:=Lib.hid (show ∀ wx:World,(Instr.slice 61 (.slice (some ⟨g2,0,none⟩) m d2) (some (.int .i64 10)) none none).run Tryz.prog wx=.ok (.slice (some ⟨g2,10,none⟩) m10 d10) wx from fun wx=>by
  have:=sl_lo (some ⟨g2,0,none⟩) m d2 wx 10 (by omega)
  rw [if_neg (by omega)] at this
  rw [hm10,hd10]
  exact this)
 obtain ⟨ck,hck⟩:∃ ck,ck=checkF z:=⟨_,rfl⟩
 have hckl:ck < 65536:=by rw [hck]; unfold checkF; omega
 have uck:IntKind.u64.wrap (ck:Int)=(ck:Int):=wraps_u64 _ (by omega) (by omega)
 have HCK:=Lib.hid hck
 have HPU:=Lib.hid (fun wx=>put2_any ck wx hckl)
 have sa:=SA.out
 have HM10:=Lib.hid hm10
 have HG2B:=Lib.hid hg2b
 have HMT:=Lib.hid (show m≤60 by have:=HM20.out; omega)
 clear hW11 h2 hg2 hk2 c2 z2 hr2 hr11 hk11 hb11 hc2 hcur hcur2 hm10 hd10 hck em hg2b k0 k10 h63
 clear e4 e5 et u5 ut u1 u2 u3 u4 u6 u7 hdq hm0
 have hCC:∀ x y:World,(Blk x Bb 61 #[.slice (some ⟨g2,0,none⟩) m d2]∧Row8 (Bb+1) x (.slice (some ⟨g2,0,none⟩) m d2) z∧Below Bb w1 x)→Below x.heap.size x y→(Blk y Bb 61 #[.slice (some ⟨g2,0,none⟩) m d2]∧Row8 (Bb+1) y (.slice (some ⟨g2,0,none⟩) m d2) z∧Below Bb w1 y):=fun x y h k=>⟨h.1.below k h.1.lt,h.2.1.below k,h.2.2.trans (k.mono (Nat.le_of_lt h.1.lt))⟩
 have HCX:=Lib.hid hCC
 clear hCC
 refine wp_region_mix [(true,3),(false,5)] 4 (by kernel_rfl) (fun wx=>Blk wx Bb 61 #[.slice (some ⟨g2,0,none⟩) m d2]∧Row8 (Bb+1) wx (.slice (some ⟨g2,0,none⟩) m d2) z∧Below Bb w1 wx) HCX.out (by kernel_rfl) ⟨HK11.out,HR11.out,HB11.out⟩ (a':=?_) (fun wz hz=>?_) fun wz hz=>?_
 rotate_left
 ·have z1:=cell_regrown (hz.1.cell 0:wz.cell? ⟨Bb,0,none⟩=some (.slice (some ⟨g2,0,none⟩) m d2))
  simp only [pick_nil,pick_tt,pick_ft,List.take_succ_cons,List.take_zero,List.drop_succ_cons,List.drop_zero,List.append_nil]
  repeat (go_big_quiet_step (fail))
  refine wpQuiet_nil ?_
  rfl
 ·simp only [pick_nil,pick_ff,pick_tf,List.take_succ_cons,List.take_zero,List.drop_succ_cons,List.drop_zero,List.append_nil]
  clear sa
  have HS0:=Lib.hid (HCX.out _ _ ⟨HK11.out,HR11.out,HB11.out⟩ hz)
  clear hz
  refine wpMix_step HS0.out fun wa ha=>?_
  have HS1:=Lib.hid (HCX.out _ _ (HCX.out _ _ HS0.out ha) ((Below.refl _ _).alloc (Nat.le_refl _) (.cells #[.slice (some ⟨g2,0,none⟩) m d2] 61)))
  clear ha
  go_wp2_with fail
  obtain ⟨gl,hgl⟩:∃ gl,gl=wa.heap.size:=⟨_,rfl⟩
  obtain ⟨wl,hwl⟩:∃ wl,wl=wa.alloc (.cells #[.slice (some ⟨g2,0,none⟩) m d2] 61):=⟨_,rfl⟩
  have hkl:Blk wl gl 61 #[.slice (some ⟨g2,0,none⟩) m d2]:=by rw [hwl,hgl]; exact Blk.new _ _ _
  rw [← hwl] at HS1 ⊢
  rw [← hgl]
  have HKL2:=Lib.hid hkl
  clear hkl hwl hgl
  refine wpMix_step HS1.out fun wb hb=>?_
  have HS2:=Lib.hid (HCX.out _ _ HS1.out hb)
  have hcl:=(HKL2.out.below hb HKL2.out.lt).cell 0
  have HCH:=Lib.hid (check_any ⟨gl,0,none⟩ 1 (some ⟨g2,0,none⟩) m d2 z _ wb hcl ((HS2.out.2.1.reads).2) HZL.out (by have:=HMT.out; omega))
  rw [← HCK.out] at HCH
  clear hb hcl
  go_wp2_with fail
  refine HCH.out.mono ?_
  rintro e wc ⟨rfl,hc2⟩
  have HS3:=Lib.hid (HCX.out _ _ HS2.out hc2)
  clear hc2
  go_wp2_with fail
  refine wpMix_step HS3.out fun wd hd=>?_
  have HS4:=Lib.hid (HCX.out _ _ HS3.out hd)
  clear hd
  go_wp2_with fail
  refine wpMix_step HS4.out fun we he=>?_
  have HSE:=Lib.hid (HCX.out _ _ HS4.out he)
  clear he
  go_wp2_with fail
  refine (HPU.out we).mono ?_
  rintro e wf ⟨vq,rfl,hvq,hbq⟩
  have HS6:=Lib.hid (HCX.out _ _ HSE.out hbq)
  have HVQ:=Lib.hid hvq
  clear hvq hbq
  go_wp2_with fail
  refine wpMix_step HS6.out fun wg hg=>?_
  have HS7:=Lib.hid (HCX.out _ _ HS6.out hg)
  have hvq:=HVQ.out.below hg
  clear hg
  obtain ⟨A3,c3,e3,hc3⟩:=hvq.form
  rw [putF_len] at e3 hc3
  subst e3
  have hvr:=(hvq.reads).2
  obtain ⟨a3,rfl,_,_,hs3⟩:=hvr.2 (by decide)
  obtain ⟨hk7,hr7,hb7⟩:=HS7.out
  obtain ⟨g2',cap',ev,_,_,cur,hbk,hcur⟩:=hr7.blk (by rw [HZL.out]; have:=HM20.out; omega)
  injection ev with ev ev2 ev3
  clear ev2 ev3
  injection ev with ev
  injection ev with ev ev2 ev3
  clear ev2 ev3
  subst ev
  have hzl:=HZL.out
  have hm20:=HM20.out
  have hex:∀ i,i < m→(wg.cell? ⟨g2,i,none⟩).isSome=true:=fun i hi=>by
   rw [hbk.cell,hcur i _ (List.getElem?_eq_getElem (by rw [bytesV_len,hzl]; exact hi))]
   rfl
  have hcp:=run_copy_cells (P:=Tryz.prog) wg 61 61 3 5 g2 10 m10 d10 a3 2 c3 (bytesV (putF ck 2)) Tryz.underlying61 (by kernel_rfl) (by rw [bytesV_len,putF_len,HM10.out]; exact (Nat.min_eq_left (by omega)).symm) hs3 (fun j hj=>hex _ (by rw [bytesV_len,putF_len] at hj; omega)) (fun j hj=>hbk.frozen _) (bytesV_one _)
  have e9:bytesV (putF ck 2)=[.int .u8 ((u8 (ck / 256)).toNat:Int),.int .u8 ((u8 ck).toNat:Int)]:=by rw [put2]; rfl
  rw [e9] at hcp
  have f1:=Row8.set (i:=10) (b:=u8 (ck / 256)) hr7
  have f2:=Row8.set (i:=11) (b:=u8 ck) f1
  have hgB:Bb+1≤g2:=(own_lt hr7 (g:=g2) rfl).1
  have hfar:=(hk7.far (p:=⟨g2,10,none⟩) (by show Bb≠g2; omega) (.int .u8 ((u8 (ck / 256)).toNat:Int))).far (p:=⟨g2,11,none⟩) (by show Bb≠g2; omega) (.int .u8 ((u8 ck).toNat:Int))
  have hbb:=(hb7.setCell (p:=⟨g2,10,none⟩) (by show Bb≤g2; omega) (.int .u8 ((u8 (ck / 256)).toNat:Int))).setCell (p:=⟨g2,11,none⟩) (by show Bb≤g2; omega) (.int .u8 ((u8 ck).toNat:Int))
  obtain ⟨wh,hwh⟩:∃ wh,wh=(wg.setCell ⟨g2,10,none⟩ (.int .u8 ((u8 (ck / 256)).toNat:Int))).setCell ⟨g2,11,none⟩ (.int .u8 ((u8 ck).toNat:Int)):=⟨_,rfl⟩
  rw [← hwh] at f2 hfar hbb
  have hcp':(Builtin.copy_ #[61,61] 3 #[.slice (some ⟨g2,10,none⟩) m10 d10,.slice (some a3) 2 c3]).run Tryz.prog wg=.ok (.int .i64 2) wh:=by rw [hwh]; exact hcp
  obtain ⟨z2,hz2⟩:∃ z2,z2=(z.set 10 (u8 (ck / 256))).set 11 (u8 ck):=⟨_,rfl⟩
  rw [← hz2] at f2
  have hz2l:z2.length=m:=by rw [hz2,List.length_set,List.length_set,hzl]
  have hbw:Below w.heap.size w wh:=HB1.out.trans (hbb.mono (Nat.le_of_lt HHB.out))
  have kh:=hfar.cell 0
  have HRP2:=Lib.hid (HRP.out.keep (Same.ofBelow hbw fun k hk=>hk.2))
  have HF2:=Lib.hid f2
  have HFAR:=Lib.hid hfar
  have HBW:=Lib.hid hbw
  have HZ2:=Lib.hid hz2
  have HZ2L:=Lib.hid hz2l
  have h63:z2.length+q≤140737488355328:=by omega
  have hsz:Bb+1≤wh.heap.size:=hfar.lt
  clear hcp e9 f1 f2 hgB hfar hbb hwh hz2 hz2l hbw hzl hm20 hex hbk hcur hk7 hr7 hb7 hvr hs3 hvq
  go_wp2_with fail
  refine wpMix_plain ?_
  go_wp2_with (at_builtin; refine wpList_app8 wh rfl (.tmp 82) (.tmp 83) rfl rfl (Bb+1) _ z2 rfl HF2.out _ Ap q cp p rfl HQ.out.symm HRP2.out h63 hsz ?_; intro v5 w5 h5 hg5 _; obtain ⟨A5,d5,rfl,_⟩:=h5.form)
  go_ret2
  refine ⟨.slice A5 (z2++p).length d5,by rw [List.length_append]; rfl,?_,?_⟩
  ·have hz:z=headF h t [0,0]:=by
    rw [HZ.out,HY.out,HS5.out,HFE.out,HM20.out,HN.out]
    exact head_left h t
   have hres:R=z2++p:=by
    rw [HRR.out]
    obtain ⟨s0,s1,e,e0,e1⟩:=bytesF_eq h p
    have ht:t=20+h.opts.length+p.length:=by rw [HT.out,HM20.out,HN.out,HQ.out]
    rw [← ht,← hz,← HCK.out] at e0 e1
    rw [← ht] at e
    rw [e,e0,e1,HZ2.out,hz,head_eq,head_eq]
    rfl
   rw [hres]
   exact own_base h5 (by have:=HHB.out; omega)
  ·exact HBW.out.grown hg5 HBW.out.size fun g hg=>by have:=(HF2.out.lt hg).1; have:=HHB.out; omega
theorem bytes_any (h:Hd) (v vp:Value) (p:By) (I:Nat→Prop) (w:World) (hv:Sl8 w I v h.opts) (hp:Sl8 w I vp p) (hok:h.ok) (hsm:h.opts.length≤1000000) (hps:p.length≤1000000) :
  Calls Tryz.prog 148 #[hdV h v,vp] w (BytPost w (if fitsH h p=true then bytesF h p else []) (if fitsH h p=true then 0 else 2)):=by
 by_cases hf:fitsH h p=true
 ·rw [if_pos hf,if_pos hf]
  exact bytes_yes h v vp p I w hv hp hok hf
 ·rw [if_neg hf,if_neg hf]
  exact bytes_no h v vp p I w hv hp hsm hps (by simpa using hf)
end Go.Proofs.YthlommalbkhcjaaGreat
namespace Go.Proofs.YthlommalbkhcjaaGreat
open Go.RowKit Go.Sort
/-! ### The plain law -/
theorem flatF_app (L M:List (UInt8 × By)):flatF (L++M)=flatF L++flatF M:=by simp [flatF]
theorem steps_prefix:∀ (n:Nat) (x:By),x.length≤n→∃ z,x=flatF (steps x)++z
 | _,[],_=>⟨[],rfl⟩
 | 0,_ :: _,h=>by simp at h
 | n+1,k :: r,h=>by
   rw [steps_cons]
   split
   ·exact ⟨_,rfl⟩
   ·split
    ·exact ⟨k :: r,by simp [flatF]⟩
    ·rename_i h0
     have hl:=stepN_le (k :: r)
     obtain ⟨z,hz⟩:=steps_prefix n ((k :: r).drop (stepN (k :: r))) (by rw [List.length_drop]; simp only [List.length_cons] at h ⊢; omega)
     refine ⟨z,?_⟩
     have e:flatF ((k,(k :: r).take (stepN (k :: r))) :: steps ((k :: r).drop (stepN (k :: r))))=(k :: r).take (stepN (k :: r))++flatF (steps ((k :: r).drop (stepN (k :: r)))):=by simp [flatF]
     rw [e,List.append_assoc,← hz,List.take_append_drop]
/-! ### Options whose bytes lie in J -/
def OptE (J:Nat→Prop) (W:World):List (UInt8 × Value)→List (UInt8 × By)→Prop
 | [],[]=>True
 | p :: us,q :: L=>(p.1=q.1∧Sl8 W J p.2 q.2)∧OptE J W us L
 | _,_=>False
section
variable {J:Nat→Prop} {W W':World}
theorem OptE.get:∀ {us:List (UInt8 × Value)} {L:List (UInt8 × By)} {i:Nat} {q:UInt8 × By},OptE J W us L→L[i]?=some q→∃ u,us[i]?=some (q.1,u)∧Sl8 W J u q.2
 | p :: _,t :: _,0,q,h,e=>by
   obtain rfl:t=q:=by simpa using e
   obtain ⟨⟨h1,h2⟩,_⟩:=h
   exact ⟨p.2,by rw [← h1]; rfl,h2⟩
 | _ :: us,_ :: L,i+1,q,h,e=>by
   have:=OptE.get (i:=i) h.2 (by simpa using e)
   simpa using this
 | [],[],_,_,_,e=>by cases e
 | [],_ :: _,_,_,h,_=>h.elim
 | _ :: _,[],_,_,h,_=>h.elim
theorem OptD.view {B:Nat} (hB:∀ k,B≤k→k < W.heap.size→J k):∀ {us:List (UInt8 × Value)} {L:List (UInt8 × By)},OptD B W us L→OptE J W us L
 | [],[],_=>trivial
 | _ :: _,_ :: _,h=>⟨⟨h.1.1,h.1.2.sl.mono fun k hk=>hB k hk.1 hk.2⟩,OptD.view hB h.2⟩
 | [],_ :: _,h=>h.elim
 | _ :: _,[],h=>h.elim
end
def OptV (W:World) (J:Nat→Prop) (v:Value) (L:List (UInt8 × By)):Prop:=∃ A c us,v=.slice A L.length c∧Reads W J 2 A L.length (us.flatMap optC)∧OptE J W us L
theorem OptR.view {B:Nat} {W:World} {v:Value} {L:List (UInt8 × By)} {J:Nat→Prop} (h:OptR B W v L) (hB:∀ k,B≤k→k < W.heap.size→J k):OptV W J v L:=by
 obtain ⟨us,h1,h2⟩:=h
 obtain ⟨A,c,rfl,_⟩:=own_form h1
 rw [h2.len] at h1 ⊢
 exact ⟨A,c,us,rfl,Reads.of_own h1 fun g hg=>by obtain ⟨a,b⟩:=own_lt h1 hg; exact hB g a b,h2.view hB⟩
theorem optC_get {us:List (UInt8 × Value)} {i:Nat} {p:UInt8 × Value} (h:us[i]?=some p):(us.flatMap optC)[i * 2]?=some (.int .u8 (p.1.toNat:Int))∧(us.flatMap optC)[i * 2+1]?=some p.2:=by
 induction us generalizing i with
 | nil=>cases h
 | cons q us ih =>
   cases i with
   | zero =>
     obtain rfl:q=p:=by simpa using h
     exact ⟨rfl,rfl⟩
   | succ i =>
     have:=ih (i:=i) (by simpa using h)
     rw [List.flatMap_cons,show (i+1) * 2=(i * 2)+2 by omega]
     exact this
/-! ### The walk -/
end Go.Proofs.YthlommalbkhcjaaGreat
namespace Go.Proofs.YthlommalbkhcjaaGreat
open Go.RowKit Go.Sort
theorem any_take {L:List (UInt8 × By)} {i:Nat} {s:UInt8 × By} {p:UInt8 × By→Bool} (h:L[i]?=some s):(L.take (i+1)).any p=((L.take i).any p || p s):=by
 have hi:=(List.getElem?_eq_some_iff.1 h).1
 rw [List.take_succ_eq_append_getElem hi,(List.getElem?_eq_some_iff.1 h).2,List.any_append]
 simp
theorem any_of_take {L:List (UInt8 × By)} {k:Nat} {p:UInt8 × By→Bool} (h:(L.take k).any p=true):L.any p=true:=by
 obtain ⟨s,hs,hp⟩:=List.any_eq_true.1 h
 exact List.any_eq_true.2 ⟨s,List.mem_of_mem_take hs,hp⟩
theorem flat_high_le (L:List (UInt8 × By)) (k:Nat):(flatF (highF (L.take k))).length≤(flatF L).length:=by
 have h1:∀ L:List (UInt8 × By),(flatF (highF L)).length≤(flatF L).length:=by
  intro L
  induction L with
  | nil=>exact Nat.le_refl _
  | cons s r ih =>
    have e:flatF (s :: r)=s.2++flatF r:=by simp [flatF]
    rw [e,List.length_append]
    unfold highF at ih ⊢
    rw [List.filter_cons]
    split
    ·have e:flatF (s :: r.filter fun s=>decide (128≤s.1))=s.2++flatF (r.filter fun s=>decide (128≤s.1)):=by simp [flatF]
     rw [e,List.length_append]; omega
    ·omega
 have h2:(flatF (L.take k)).length≤(flatF L).length:=by
  have:=congrArg (fun l=>(flatF l).length) (List.take_append_drop k L)
  simp only [flatF_app,List.length_append] at this
  omega
 exact Nat.le_trans (h1 _) h2
end Go.Proofs.YthlommalbkhcjaaGreat
namespace Go.Proofs.YthlommalbkhcjaaGreat
open Go.RowKit
def routeS (s:UInt8 × By):Bool:=s.1 == 131 || s.1 == 137
end Go.Proofs.YthlommalbkhcjaaGreat
