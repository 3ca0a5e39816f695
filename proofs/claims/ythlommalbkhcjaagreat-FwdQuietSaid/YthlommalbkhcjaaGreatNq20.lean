/- A struct of many cells, stored and loaded as a whole. -/
import Derived.Test.YthlommalbkhcjaaGreatNq17
import Derived.Test.YthlommalbkhcjaaGreatNq19
import Derived.Test.YthlommalbkhcjaaGreatNq06
import Derived.BigQuiet
import Derived.Deep.MidRow
namespace Go.Proofs.YthlommalbkhcjaaGreat
open Go.RowKit
theorem sum_take {l:List Nat} {k:Nat} (h:k < l.length):sumF (l.take (k+1))=addF (sumF (l.take k)) l[k]:=by
 unfold sumF
 rw [List.take_succ_eq_append_getElem h,List.foldl_append]
 rfl
set_option maxRecDepth 20000 in
set_option maxHeartbeats 1600000 in
theorem rtotal_any (A:Option Addr) (n c:Nat) (x:By) (I:Nat→Prop) (w:World) (h:Reads w I 1 A n (bytesV x)) (hn:x.length=n) (hsm:n≤1000000) :
  Calls Tryz.prog 73 #[.slice A n c] w fun e w'=>e=.returned (.int .u16 (totalF x:Int))∧Below w.heap.size w w':=by
 have HC:=Lib.hid (words_any A n c x I w h hn hsm)
 have HW:=Lib.hid (wordsF_lt x)
 have hml:=words_len x
 obtain ⟨L,hL⟩:∃ L,L=wordsF x:=⟨_,rfl⟩
 have ht:totalF x=sumF L:=by unfold totalF; rw [hL]
 rw [ht]
 obtain ⟨m,hm⟩:∃ m,m=L.length:=⟨_,rfl⟩
 have hmn:m≤1000000:=by rw [hm,hL,hml,hn]; omega
 rw [← hL] at HC HW
 rw [← hm] at HC
 have HM:=Lib.hid hm
 clear h hn hml hL ht hm
 go_enter Tryz.func73,Tryz.ntmps73
 go_wp2_with fail
 refine HC.out.mono ?_
 rintro e w1 ⟨v,rfl,hown,hb⟩
 obtain ⟨Aw,cw,rfl,_⟩:=own_form hown
 have HR:=Lib.hid (Reads.of_own (I:=fun _=>True) hown fun _ _=>trivial)
 have HB:=Lib.hid hb
 clear hown hb
 go_wp2_with fail
 go_loop [4,5] (fun s i=>∃ k:Nat,k≤m∧i=.int .i64 (k:Int)∧s=.int .u16 (sumF (L.take k):Int)) (fun _ i=>m - (intOf i).toNat)
 case atStart=>exact ⟨0,by omega,rfl,rfl⟩
 case round =>
  obtain ⟨k,hk,rfl,rfl⟩:=hrel
  by_cases hlt:k < m
  ·have hkl:k < L.length:=by rw [← HM.out]; exact hlt
   obtain ⟨ad,rfl,_,_,hc⟩:=HR.out.2 (by omega)
   have hcell:w1.cell? (ad.add k)=some (.int .u16 (L[k]:Int)):=hc _ _ (by simp [u16V,List.getElem?_eq_getElem hkl])
   have hx:=HW.out L[k] (List.getElem_mem hkl)
   have hs:sumF (L.take k) < 65536:=fold_lt _ _ (by omega) fun y hy=>HW.out y (List.mem_of_mem_take hy)
   have hst:=sum_take hkl
   obtain ⟨y,hy⟩:∃ y,y=L[k]:=⟨_,rfl⟩
   obtain ⟨s,hse⟩:∃ s,s=sumF (L.take k):=⟨_,rfl⟩
   rw [← hy] at hcell hx hst
   rw [← hse] at hs hst ⊢
   have HA:=Lib.hid (radd_any s y w1 hs hx)
   have HST:=Lib.hid hst
   have hd0:decide (k < m)=true:=decide_eq_true hlt
   have hd1:decide ((k:Int) < (m:Int))=true:=decide_eq_true (by omega)
   have hi0:(0:Int)≤k:=by omega
   have hi1:(k:Int) < m:=by omega
   clear hc hst hy hse hx hs
   go_wp2_with fail
   refine HA.out.mono ?_
   rintro e w2 ⟨rfl,rfl⟩
   go_wp2_with fail
   go_round
   case rel=>exact ⟨k+1,by omega,by go_num,by rw [HST.out]⟩
   case measure=>simp [intOf]; omega
  ·obtain rfl:k=m:=by omega
   have hd0:decide (k < k)=false:=by simp
   have hd1:decide ((k:Int) < (k:Int))=false:=by simp
   have hx:L.take k=L:=List.take_of_length_le (by rw [← HM.out]; exact Nat.le_refl _)
   rw [hx]
   go_wp2_with fail
   go_ret
   exact ⟨rfl,HB.out⟩
theorem rcheck_any (A:Option Addr) (n c:Nat) (x:By) (I:Nat→Prop) (w:World) (h:Reads w I 1 A n (bytesV x)) (hn:x.length=n) (hsm:n≤1000000) :
  Calls Tryz.prog 121 #[.slice A n c] w fun e w'=>e=.returned (.int .u16 (checkF x:Int))∧Below w.heap.size w w':=by
 have HC:=Lib.hid (rtotal_any A n c x I w h hn hsm)
 have ht:=totalF_lt x
 clear h hn
 go_enter Tryz.func121,Tryz.ntmps121
 go_wp2_with fail
 refine HC.out.mono ?_
 rintro e w1 ⟨rfl,hb⟩
 go_wp2_with fail
 go_ret
 refine ⟨ret_u16 ?_,hb⟩
 unfold checkF
 omega
/-! ### The program's -/
structure AccB (w:World) (bn bh bo:Nat) (s:Nat × Nat × Bool):Prop where
 n:Blk w bn 74 #[.int .u16 (s.1:Int)]
 h:Blk w bh 5 #[.int .u8 (s.2.1:Int)]
 o:Blk w bo 4 #[.bool s.2.2]
def accStep (s:Nat × Nat × Bool) (c:Nat):Nat × Nat × Bool:=(if s.2.2=true then addF s.1 (256 * s.2.1+c) else s.1,c,!s.2.2)
theorem or8 (h b:Nat) (hh:h < 256) (hb:b < 256):bits .or .u16 ((h:Int) * 256) (b:Int)=((256 * h+b:Nat):Int):=by
 have e:=u16_or_nat (h * 256) b (by omega) (by omega)
 rw [or_byte h b hb,show h * 256+b=256 * h+b by omega] at e
 rw [← e]
 congr 1
set_option maxRecDepth 20000 in
set_option maxHeartbeats 1600000 in
theorem take_any (bn bh bo:Nat) (s:Nat × Nat × Bool) (c:Nat) (w:World) (hw:AccB w bn bh bo s) (h1:bn≠bh) (h2:bn≠bo) (h3:bh≠bo) (hs:s.1 < 65536) (hh:s.2.1 < 256) (hc:c < 256) :
  Calls Tryz.prog 213 #[.int .u8 (c:Int),.pointer (some ⟨bo,0,none⟩),.pointer (some ⟨bn,0,none⟩),.pointer (some ⟨bh,0,none⟩)] w fun e w'=>e=.returned (.tuple #[])∧AccB w' bn bh bo (accStep s c)∧Upd (fun k=>k=bn∨k=bh∨k=bo) w w':=by
 obtain ⟨s1,s2,s3⟩:=s
 simp only at hs hh
 have kn:=hw.n
 have kh:=hw.h
 have ko:=hw.o
 simp only at kn kh ko
 have o0:w.cell? ⟨bo,0,none⟩=some (.bool s3):=ko.cell 0
 have n0:w.cell? ⟨bn,0,none⟩=some (.int .u16 (s1:Int)):=kn.cell 0
 have h0:w.cell? ⟨bh,0,none⟩=some (.int .u8 (s2:Int)):=kh.cell 0
 have fo:w.frozen? ⟨bo,0,none⟩=false:=ko.frozen 0
 have fn:w.frozen? ⟨bn,0,none⟩=false:=kn.frozen 0
 have fh:w.frozen? ⟨bh,0,none⟩=false:=kh.frozen 0
 have KN:=Lib.hid kn
 have KH:=Lib.hid kh
 have KO:=Lib.hid ko
 clear hw kn kh ko
 cases s3 with
 | true =>
   have HA:=Lib.hid (add_any s1 (256 * s2+c) w hs (by omega))
   have HO:=Lib.hid (or8 s2 c hh hc)
   go_enter Tryz.func213,Tryz.ntmps213
   go_wp2_with fail
   rw [HO.out]
   refine HA.out.mono ?_
   rintro e w' ⟨rfl,rfl⟩
   go_wp2_with fail
   generalize hw1:w.setCell ⟨bn,0,none⟩ (.int .u16 (addF s1 (256 * s2+c):Int))=w1
   have kn1:Blk w1 bn 74 #[.int .u16 (addF s1 (256 * s2+c):Int)]:=by rw [← hw1]; exact KN.out.set_ 0 _
   have kh1:Blk w1 bh 5 #[.int .u8 (s2:Int)]:=by rw [← hw1]; exact KH.out.far (p:=⟨bn,0,none⟩) (fun e=>h1 e.symm) _
   have ko1:Blk w1 bo 4 #[.bool true]:=by rw [← hw1]; exact KO.out.far (p:=⟨bn,0,none⟩) (fun e=>h2 e.symm) _
   have hu1:Upd (fun k=>k=bn∨k=bh∨k=bo) w w1:=by rw [← hw1]; exact (Upd.refl _ _).setCell (p:=⟨bn,0,none⟩) (.inl (.inl rfl)) _
   have o0:w1.cell? ⟨bo,0,none⟩=some (.bool true):=ko1.cell 0
   have h0:w1.cell? ⟨bh,0,none⟩=some (.int .u8 (s2:Int)):=kh1.cell 0
   have fo:w1.frozen? ⟨bo,0,none⟩=false:=ko1.frozen 0
   have fh:w1.frozen? ⟨bh,0,none⟩=false:=kh1.frozen 0
   have KN1:=Lib.hid kn1
   have KH1:=Lib.hid kh1
   have KO1:=Lib.hid ko1
   have HU1:=Lib.hid hu1
   have h4:bo≠bh:=fun e=>h3 e.symm
   clear kn1 kh1 ko1 hu1 hw1 n0 fn HA HO
   go_region
   go_end0
   refine ⟨rfl,⟨?_,?_,?_⟩,?_⟩
   ·exact (((KN1.out.far (p:=⟨bh,0,none⟩) h1 _).far (p:=⟨bo,0,none⟩) h2 _)).drew
   ·exact (((KH1.out.set_ 0 _).far (p:=⟨bo,0,none⟩) h3 _)).drew
   ·exact (((KO1.out.far (p:=⟨bh,0,none⟩) h4 _).set_ 0 _)).drew
   ·exact ((HU1.out.setCell (p:=⟨bh,0,none⟩) (.inl (.inr (.inl rfl))) _).setCell (p:=⟨bo,0,none⟩) (.inl (.inr (.inr rfl))) _).drew
 | false =>
   have h4:bo≠bh:=fun e=>h3 e.symm
   go_enter Tryz.func213,Tryz.ntmps213
   go_wp2_with fail
   go_region
   go_end0
   refine ⟨rfl,⟨?_,?_,?_⟩,?_⟩
   ·exact (((KN.out.far (p:=⟨bh,0,none⟩) h1 _).far (p:=⟨bo,0,none⟩) h2 _)).drew
   ·exact (((KH.out.set_ 0 _).far (p:=⟨bo,0,none⟩) h3 _)).drew
   ·exact (((KO.out.far (p:=⟨bh,0,none⟩) h4 _).set_ 0 _)).drew
   ·exact (((Upd.refl _ _).setCell (p:=⟨bh,0,none⟩) (.inl (.inr (.inl rfl))) _).setCell (p:=⟨bo,0,none⟩) (.inl (.inr (.inr rfl))) _).drew
theorem accF_take {x:By} {k:Nat} (h:k < x.length):accF (x.take (k+1))=accStep (accF (x.take k)) x[k].toNat:=by
 rw [List.take_succ_eq_append_getElem h,accF_snoc]
 rfl
set_option maxRecDepth 20000 in
set_option maxHeartbeats 3200000 in
theorem total_any (la:Addr) (lc:Nat) (A:Option Addr) (n c:Nat) (x:By) (I:Nat→Prop) (w:World) (hl:w.cell? la=some (.slice A n c)) (h:Reads w I 1 A n (bytesV x)) (hn:x.length=n) (hsm:n≤1000000) :
  Calls Tryz.prog 175 #[.slice (some la) 1 lc] w fun e w'=>e=.returned (.int .u16 (totalF x:Int))∧Below w.heap.size w w':=by
 obtain ⟨W0,hW0⟩:∃ W0,W0=((w.alloc (.cells #[.int .u16 0] 74)).alloc (.cells #[.int .u8 0] 5)).alloc (.cells #[.bool false] 4):=⟨_,rfl⟩
 have hb0:Below w.heap.size w W0:=by rw [hW0]; exact (((Below.refl _ _).alloc (Nat.le_refl _) _).alloc (by simp) _).alloc (by simp; omega) _
 have ha0:AccB W0 w.heap.size (w.heap.size+1) (w.heap.size+1+1) (accF []):=by
  have hz:accF []=(0,0,false):=rfl
  rw [hW0,hz]
  refine ⟨((Blk.new _ _ _).alloc _).alloc _,?_,?_⟩
  ·have:=(Blk.new (w.alloc (.cells #[.int .u16 0] 74)) 5 #[.int .u8 0]).alloc (.cells #[.bool false] 4)
   simpa using this
  ·have:=Blk.new ((w.alloc (.cells #[.int .u16 0] 74)).alloc (.cells #[.int .u8 0] 5)) 4 #[.bool false]
   simpa using this
 have HW0:=Lib.hid hW0
 have HB0:=Lib.hid hb0
 have HA0:=Lib.hid ha0
 have HR:=Lib.hid h.lt
 have HL:=Lib.hid hn
 have hlb:=block_lt_of_cell hl
 have hcl:=fun (wx:World) (hb:Below w.heap.size w wx)=>(hb.cell hlb).trans hl
 have HCL:=Lib.hid hcl
 clear hW0 hb0 ha0 h hn hlb hcl hl
 go_enter Tryz.func175,Tryz.ntmps175
 go_wp2_with fail
 rw [← HW0.out]
 have hl0:=HCL.out _ HB0.out
 obtain ⟨bn,hbn⟩:∃ bn,bn=w.heap.size:=⟨_,rfl⟩
 have HBN:=Lib.hid hbn
 have ha1:=HA0.out
 rw [← hbn] at ha1 ⊢
 have HA1:=Lib.hid ha1
 clear ha1 hbn HA0
 refine wp_loop_rounds 2 ?_
 rw [rounds_succ]
 go_wp2_with fail
 clear hl0
 go_loopw [19] (fun i wr=>∃ k:Nat,k≤n∧i=.int .i64 (k:Int)∧AccB wr bn (bn+1) (bn+1+1) (accF (x.take k))∧Below w.heap.size w wr) (fun i _=>n - (intOf i).toNat)
 case atStart=>exact ⟨0,by omega,rfl,HA1.out,HB0.out⟩
 case round =>
  obtain ⟨k,hk,rfl,hacc,hb⟩:=hrel
  have HACC:=Lib.hid hacc
  have HB:=Lib.hid hb
  have hrd:=HR.out.keep (Same.ofBelow hb fun k hk=>hk.2)
  clear hacc hb
  by_cases hlt:k < n
  ·have hkx:k < x.length:=by rw [HL.out]; exact hlt
   obtain ⟨ad,rfl,_,hc0⟩:=byte_at hrd hkx
   have hst:=accF_take hkx
   have hbl:=x[k].toNat_lt
   obtain ⟨b,hbe⟩:∃ b,b=x[k].toNat:=⟨_,rfl⟩
   rw [← hbe] at hc0 hst hbl
   obtain ⟨l1,l2⟩:=accF_lt (x.take k)
   have HT:=Lib.hid (take_any bn (bn+1) (bn+1+1) (accF (x.take k)) b wr HACC.out (by omega) (by omega) (by omega) l1 l2 hbl)
   have HST:=Lib.hid hst
   have hd0:decide (k < n)=true:=decide_eq_true hlt
   have hd1:decide ((k:Int) < (n:Int))=true:=decide_eq_true (by omega)
   have hi0:(0:Int)≤k:=by omega
   have hi1:(k:Int) < n:=by omega
   clear hst hbe hrd l1 l2
   go_wp2_with fail
   refine HT.out.mono ?_
   rintro e w2 ⟨rfl,h2,hu2⟩
   rw [← HST.out] at h2
   have H2:=Lib.hid h2
   have HB2:=Lib.hid (HB.out.trans (hu2.below (B:=w.heap.size) (fun i hi=>by have:=HBN.out; omega) HB.out.size))
   clear h2 hu2
   go_wp2_with fail
   go_roundw
   case rel=>exact ⟨k+1,by omega,by go_num,H2.out,HB2.out⟩
   case measure=>simp [intOf]; omega
  ·obtain rfl:k=n:=by omega
   have hd0:decide (k < k)=false:=by simp
   have hd1:decide ((k:Int) < (k:Int))=false:=by simp
   have hx:x.take k=x:=List.take_of_length_le (by rw [HL.out]; exact Nat.le_refl _)
   have hacc:=HACC.out
   rw [hx] at hacc
   obtain ⟨l1,l2⟩:=accF_lt x
   have htot:=acc_total x
   obtain ⟨s,hs⟩:∃ s,s=accF x:=⟨_,rfl⟩
   rw [← hs] at hacc l1 l2 htot
   obtain ⟨s1,s2,s3⟩:=s
   have kn:Blk wr bn 74 #[.int .u16 (s1:Int)]:=hacc.n
   have ko:Blk wr (bn+1+1) 4 #[.bool s3]:=hacc.o
   have n0:wr.cell? ⟨bn,0,none⟩=some (.int .u16 (s1:Int)):=kn.cell 0
   have o0:wr.cell? ⟨bn+1+1,0,none⟩=some (.bool s3):=ko.cell 0
   have HT:=Lib.hid (take_any bn (bn+1) (bn+1+1) (s1,s2,s3) 0 wr hacc (by omega) (by omega) (by omega) l1 l2 (by omega))
   have HTO:=Lib.hid htot
   clear hacc hx hs l1 l2 htot kn ko hrd hd0 hd1
   have hd0:decide (k < k)=false:=by simp
   have hd1:decide ((k:Int) < (k:Int))=false:=by simp
   cases s3 with
   | false =>
     go_wp2_with fail
     rw [rounds_succ]
     go_wp2_with fail
     go_ret
     exact ⟨by rw [← HTO.out]; rfl,HB.out⟩
   | true =>
     go_wp2_with fail
     rw [rounds_succ]
     go_wp2_with fail
     refine HT.out.mono ?_
     rintro e w2 ⟨rfl,h2,hu2⟩
     have kn:Blk w2 bn 74 #[.int .u16 (addF s1 (256 * s2):Int)]:=h2.n
     have n0:w2.cell? ⟨bn,0,none⟩=some (.int .u16 (addF s1 (256 * s2):Int)):=kn.cell 0
     have HB2:=Lib.hid (HB.out.trans (hu2.below (B:=w.heap.size) (fun i hi=>by have:=HBN.out; omega) HB.out.size))
     clear kn h2 hu2
     go_wp2_with fail
     go_ret
     exact ⟨by rw [← HTO.out]; rfl,HB2.out⟩
theorem check_any (la:Addr) (lc:Nat) (A:Option Addr) (n c:Nat) (x:By) (I:Nat→Prop) (w:World) (hl:w.cell? la=some (.slice A n c)) (h:Reads w I 1 A n (bytesV x)) (hn:x.length=n) (hsm:n≤1000000) :
  Calls Tryz.prog 138 #[.slice (some la) 1 lc] w fun e w'=>e=.returned (.int .u16 (checkF x:Int))∧Below w.heap.size w w':=by
 have HC:=Lib.hid (total_any la lc A n c x I w hl h hn hsm)
 have H1:=Lib.hid (not16 (totalF x) (totalF_lt x))
 clear h hn hl
 go_enter Tryz.func138,Tryz.ntmps138
 go_wp2_with fail
 refine HC.out.mono ?_
 rintro e w1 ⟨rfl,hb⟩
 go_wp2_with fail
 rw [H1.out]
 go_ret
 exact ⟨rfl,hb⟩
theorem good_any (A:Option Addr) (n c:Nat) (x:By) (I:Nat→Prop) (w:World) (h:Reads w I 1 A n (bytesV x)) (hn:x.length=n) (hsm:n≤1000000) :
  Calls Tryz.prog 78 #[.slice A n c] w fun e w'=>e=.returned (.bool (decide (totalF x=65535)))∧Below w.heap.size w w':=by
 have hb0:Below w.heap.size w (w.alloc (.cells #[.slice A n c] 61)):=(Below.refl _ _).alloc (Nat.le_refl _) _
 have HB0:=Lib.hid hb0
 have HC:=Lib.hid (check_any ⟨w.heap.size,0,none⟩ 1 A n c x (fun k=>I k∧k < w.heap.size) _ (Blk.cell (Blk.new w 61 #[.slice A n c]) 0) (h.lt.keep (Same.ofBelow hb0 fun k hk=>hk.2)) hn hsm)
 have ht:=totalF_lt x
 have e1:checkF x=65535 - totalF x:=rfl
 obtain ⟨t,htt⟩:∃ t,t=totalF x:=⟨_,rfl⟩
 rw [← htt] at e1 ht ⊢
 rw [e1] at HC
 clear h hn hb0 e1 htt
 go_enter Tryz.func78,Tryz.ntmps78
 go_wp2_with fail
 refine HC.out.mono ?_
 rintro e w1 ⟨rfl,hb⟩
 have HB1:=Lib.hid (HB0.out.trans (hb.mono HB0.out.size))
 clear hb
 by_cases h65:t=65535
 ·subst h65
  go_wp2_with fail
  go_ret
  exact ⟨rfl,HB1.out⟩
 ·have hd:decide (t=65535)=false:=decide_eq_false h65
  go_wp2_with fail
  go_ret
  refine ⟨?_,HB1.out⟩
  rw [hd]
  show Ending.returned (.bool (((65535 - t:Nat):Int) == 0))=_
  have hz:(((65535 - t:Nat):Int) == 0)=false:=by rw [beq_eq_false_iff_ne]; omega
  rw [hz]
end Go.Proofs.YthlommalbkhcjaaGreat
namespace Go.Proofs.YthlommalbkhcjaaGreat
open Go.RowKit
theorem wrap_i64 (n:Int) (h0:-9223372036854775808≤n) (h1:n < 9223372036854775808):IntKind.i64.wrap n=n:=by
 exact IntWalk.i64_in _ (by omega)
theorem byte_getD {w:World} {I:Nat→Prop} {A:Option Addr} {n k:Nat} {x:By} (h:Reads w I 1 A n (bytesV x)) (hk:k < n):∃ ad,A=some ad∧w.cell? (ad.add k)=some (.int .u8 ((x.getD k 0).toNat:Int)):=by
 have hn:x.length=n:=by have:=h.1; rw [bytesV_len] at this; omega
 obtain ⟨ad,hA,_,hc⟩:=byte_at h (k:=k) (by omega)
 refine ⟨ad,hA,?_⟩
 rw [hc,List.getD_eq_getElem?_getD,List.getElem?_eq_getElem (by omega)]
 rfl
set_option maxRecDepth 20000 in
set_option maxHeartbeats 1600000 in
theorem wrong_any (A:Option Addr) (n c:Nat) (x:By) (I:Nat→Prop) (w:World) (h:Reads w I 1 A n (bytesV x)) (hn:x.length=n) (hc:n≤c) (hsm:n≤1000000) :
  Calls Tryz.prog 75 #[.slice A n c] w fun e w'=>e=.returned (.int .i64 (wrongF x:Int))∧Below w.heap.size w w':=by
 by_cases h20:n < 20
 ·have hw:wrongF x=1:=by unfold wrongF; rw [if_pos (by omega)]
  rw [hw]
  clear h hn
  go_enter Tryz.func75,Tryz.ntmps75
  go_wp2_with fail
  go_ret
  exact ⟨rfl,Below.refl _ _⟩
 ·obtain ⟨ad,rfl,hb0⟩:=byte_getD h (k:=0) (by omega)
  rw [show ad.add 0=ad from by unfold Addr.add; simp] at hb0
  have q24:=cut_lohi (a:=2) (b:=4) (cap:=c) (by rw [hn]; exact h) (by omega) (by omega) (by omega)
  obtain ⟨cv,hcv⟩:∃ cv,cv=Value.slice (if c=2 then some ad else (some ad).map (·.add 2)) (4 - 2) (c - 2):=⟨_,rfl⟩
  rw [← hcv] at q24
  have e24:∀ wx:World,(Instr.slice 61 (.slice (some ad) n c) (some (.int .i64 2)) (some (.int .i64 4)) none).run Tryz.prog wx=.ok cv wx:=fun wx=>by rw [hcv]; exact sl_lohi (some ad) n c wx 2 4 (by omega) (by omega)
  clear hcv
  have HGE:=Lib.hid (fun (v:Value) (hv:Sl8 w I v (partF x 2 4))=>(show ∀ nq,Calls Tryz.prog 76 #[v] (w.drewN nq) fun e w'=>e=.returned (.int .u64 (getF (partF x 2 4):Int))∧∃ k,w'=w.drewN k from fun nq=>by
   obtain ⟨A1,c1,rfl,_,h1⟩:=hv
   exact (number_any A1 _ c1 _ I (w.drewN nq) h1 rfl (by rw [part_len (by omega)]; omega) (by rw [part_len (by omega)]; omega)).mono (by rintro e w' ⟨rfl,rfl⟩; exact ⟨rfl,_,rfl⟩)))
  have hl24:=getF_lt (partF x 2 4)
  rw [part_len (by omega)] at hl24
  have HNUM:=Lib.hid (HGE.out _ q24)
  obtain ⟨t,ht⟩:∃ t,t=getF (partF x 2 4):=⟨_,rfl⟩
  obtain ⟨b0,hb0e⟩:∃ b0,b0=(x.getD 0 0).toNat:=⟨_,rfl⟩
  have hb0l:b0 < 256:=by rw [hb0e]; exact UInt8.toNat_lt _
  rw [← ht] at HNUM hl24
  rw [← hb0e] at hb0
  have h0:0 < n:=by omega
  have h0i:(0:Int) < (n:Int):=by omega
  have a15:bits .and .u8 (b0:Int) 15=((b0 % 16:Nat):Int):=by
   have:∀ b:Fin 256,bits .and .u8 (b.val:Int) 15=((b.val % 16:Nat):Int):=by decide +kernel
   exact this ⟨b0,hb0l⟩
  obtain ⟨s,hs⟩:∃ s,s=b0 % 16:=⟨_,rfl⟩
  rw [← hs] at a15
  have hsl:s < 16:=by omega
  obtain ⟨m,hm⟩:∃ m,m=4 * s:=⟨_,rfl⟩
  have w1:IntKind.i64.wrap (s:Int)=(s:Int):=wrap_i64 _ (by omega) (by omega)
  have w2:IntKind.i64.wrap (4 * (s:Int))=(m:Int):=by rw [wrap_i64 _ (by omega) (by omega),hm]; push_cast; rfl
  have w3:IntKind.i64.wrap (t:Int)=(t:Int):=wrap_i64 _ (by omega) (by omega)
  have hml:m < 64:=by omega
  have HM:=Lib.hid hm
  clear hm
  have HT:=Lib.hid ht
  have HB0:=Lib.hid hb0e
  have HS:=Lib.hid hs
  have HN:=Lib.hid hn
  have HR:=Lib.hid h
  clear q24 HGE h ht hb0e hs hn
  go_enter Tryz.func75,Tryz.ntmps75
  go_wp2_with fail
  go_quiet (first | (go_at_call 76; exact HNUM.out _))
  have hbq:Below w.heap.size w (w.drewN nq):=⟨rfl,rfl,rfl,Nat.le_refl _,fun _ _=>rfl⟩
  have hcq:(w.drewN nq).cell? ad=some (.int .u8 (b0:Int)):=hb0
  have hrq:Reads (w.drewN nq) (fun k=>I k∧k < w.heap.size) 1 (some ad) n (bytesV x):=HR.out.lt
  generalize w.drewN nq=W at hbq hcq hrq ⊢
  have HBQ:=Lib.hid hbq
  have HRQ:=Lib.hid hrq
  have hw:wrongF x=if b0 / 16≠4 then 2 else if m < 20∨n < m then 3 else if t < m∨n < t then 4 else if totalF (x.take m)≠65535 then 5 else if goodF (partF x 20 m)=true then 0 else 6:=by
   unfold wrongF
   have e1:sizeF x=m:=by rw [HM.out,HS.out,HB0.out]; rfl
   have e2:lenF x=t:=HT.out.symm
   rw [e1,e2,← HB0.out,HN.out,if_neg h20]
  have HW:=Lib.hid hw
  clear hw hb0 hbq hrq HNUM e24 a15 w1 w2 w3
  by_cases hv:b0 / 16=4
  case neg =>
   go_wp2_with fail
   go_ret
   exact ⟨by rw [HW.out,if_pos hv]; rfl,HBQ.out⟩
  by_cases h31:m < 20
  ·go_wp2_with fail
   go_ret
   exact ⟨by rw [HW.out,if_neg (fun h=>h hv),if_pos (.inl h31)]; rfl,HBQ.out⟩
  by_cases h32:n < m
  ·go_wp2_with fail
   go_ret
   exact ⟨by rw [HW.out,if_neg (fun h=>h hv),if_pos (.inr h32)]; rfl,HBQ.out⟩
  by_cases h41:t < m
  ·go_wp2_with fail
   go_ret
   exact ⟨by rw [HW.out,if_neg (fun h=>h hv),if_neg (not_or.2 ⟨h31,h32⟩),if_pos (.inl h41)]; rfl,HBQ.out⟩
  by_cases h42:n < t
  ·go_wp2_with fail
   go_ret
   exact ⟨by rw [HW.out,if_neg (fun h=>h hv),if_neg (not_or.2 ⟨h31,h32⟩),if_pos (.inr h42)]; rfl,HBQ.out⟩
  have ht1:(x.take m).length=m:=by rw [List.length_take,HN.out]; omega
  have HG:=Lib.hid (good_any (some ad) m c (x.take m) (fun k=>I k∧k < w.heap.size) W (by
   have:=(cut_hi (k:=m) (cap:=c) (x:=x) (by rw [HN.out]; exact HRQ.out) (by rw [HN.out]; omega) (by omega)).len.2.2
   rw [ht1] at this
   exact this) ht1 (by omega))
  have hw:=HW.out
  rw [if_neg (fun h=>h hv),if_neg (not_or.2 ⟨h31,h32⟩),if_neg (not_or.2 ⟨h41,h42⟩)] at hw
  have q3:=cut_lohi (a:=20) (b:=m) (cap:=c) (x:=x) (by rw [HN.out]; exact HRQ.out) (by omega) (by rw [HN.out]; omega) (by rw [HN.out]; omega)
  obtain ⟨cv3,hcv3⟩:∃ cv,cv=Value.slice (if c=20 then some ad else (some ad).map (·.add 20)) (m - 20) (c - 20):=⟨_,rfl⟩
  rw [← hcv3] at q3
  have e3:∀ wx:World,(Instr.slice 61 (.slice (some ad) n c) (some (.int .i64 20)) (some (.int .i64 (m:Int))) none).run Tryz.prog wx=.ok cv3 wx:=fun wx=>by rw [hcv3]; exact sl_lohi (some ad) n c wx 20 m (by omega) (by omega)
  have hol:(partF x 20 m).length≤1000000:=by rw [part_len (by rw [HN.out]; omega)]; omega
  have HOC:=Lib.hid (fun (wq:World) (hq:Below w.heap.size W wq)=>options_any cv3 (partF x 20 m) (fun k=>I k∧k < w.heap.size) wq (q3.keep (Same.ofBelow hq fun k hk=>hk.2)) hol)
  obtain ⟨G,hG⟩:∃ G,G=goodF (partF x 20 m):=⟨_,rfl⟩
  unfold OptPost at HOC
  rw [← hG] at hw HOC
  obtain ⟨T,hT⟩:∃ T,T=totalF (x.take m):=⟨_,rfl⟩
  rw [← hT] at hw HG
  have HW2:=Lib.hid hw
  clear hw hT ht1 hcv3 q3 hol hG
  go_wp2_with fail
  refine HG.out.mono ?_
  rintro e W2 ⟨rfl,hb2⟩
  have HB2:=Lib.hid hb2
  have HB3:=Lib.hid (HBQ.out.trans (hb2.mono HBQ.out.size))
  clear hb2
  by_cases h5:T=65535
  case neg =>
   have h5d:decide (T=65535)=false:=decide_eq_false h5
   go_wp2_with fail
   go_ret
   exact ⟨by rw [HW2.out,if_pos h5]; rfl,HB3.out⟩
  have h5d:decide (T=65535)=true:=decide_eq_true h5
  have HOC2:=Lib.hid (HOC.out W2 (HB2.out.mono HBQ.out.size))
  go_wp2_with fail
  refine HOC2.out.mono ?_
  rintro e W3 ⟨v,rfl,_,hb4⟩
  have HB4:=Lib.hid (HB3.out.trans (hb4.mono HB3.out.size))
  clear hb4
  cases G with
  | true =>
    go_wp2_with fail
    go_ret
    exact ⟨by rw [HW2.out,if_neg (fun h=>h h5)]; rfl,HB4.out⟩
  | false =>
    go_wp2_with fail
    go_ret
    exact ⟨by rw [HW2.out,if_neg (fun h=>h h5)]; rfl,HB4.out⟩
end Go.Proofs.YthlommalbkhcjaaGreat
namespace Go.Proofs.YthlommalbkhcjaaGreat
open Go.RowKit
section
variable {w:World} {g:Nat} {cs vs:Array Value}
theorem hd_info:(Tryz.prog.info? 76).map (·.size)=some 11:=by kernel_rfl
theorem hd_store (h:Blk w g 76 cs) (hc:cs.size=11) (hv:vs.size=11) (h1:vs.all (·.oneCell')=true):(Instr.storeAt 76 (.pointer (some ⟨g,0,none⟩)) (.agg vs)).run Tryz.prog w=.ok () (w.setCells g 0 vs.toList) :=
 run_storeAt_mid w g 0 _ vs (by have:=blk_there h; rwa [hc,← hv] at this) (by rw [hv]; exact hd_info) h1
theorem hd_load (h:Blk w g 76 cs) (hc:cs.size=11):(Instr.loadAt 76 (.pointer (some ⟨g,0,none⟩))).run Tryz.prog w=.ok (.agg cs) w:=by
 have:=run_loadAt_mid (P:=Tryz.prog) w g 0 76 cs.toList _ (blk_range h) Tryz.underlying76 rfl (by simpa [hc] using hd_info)
 simpa using this
theorem res_hd {fn:Func} {p u v:Tmp} (hf:fn.results=#[.cell p 76,.tmp u,.tmp v]) (tmps:Array Value) (hp:tmps.getD p undef=.pointer (some ⟨g,0,none⟩)) (h:Blk w g 76 cs) (hc:cs.size=11) :
  (results fn tmps).run Tryz.prog w=.ok (.tuple #[.agg cs,tmps.getD u undef,tmps.getD v undef]) w:=by
 have hl:=run_loadVar_mid (P:=Tryz.prog) w g 0 76 cs.toList _ (blk_range h) Tryz.underlying76 rfl (by simpa [hc] using hd_info)
 have e1:tmps[p]?.getD undef=.pointer (some ⟨g,0,none⟩):=by simpa using hp
 simp only [results,hf]
 simp [Result.andThen,e1,asAddr,hl]
end
end Go.Proofs.YthlommalbkhcjaaGreat
