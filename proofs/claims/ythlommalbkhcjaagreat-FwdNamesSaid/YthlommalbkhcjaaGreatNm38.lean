/- Icmp: messages in memory; icmp.Bytes. -/
import Derived.Test.YthlommalbkhcjaaGreatNm37
import Derived.Test.YthlommalbkhcjaaGreatNm11
import Derived.Test.YthlommalbkhcjaaGreatNm34
import Derived.Test.YthlommalbkhcjaaGreatNm10
import Derived.Test.YthlommalbkhcjaaGreatNm08
namespace Go.Proofs.YthlommalbkhcjaaGreat
open Go.RowKit Go.Sort Go.BigFrame
theorem ld_rows {w:World} {a:Addr} {A:Option Addr} {n c:Nat} (hu:w.cell? a=some (.slice A n c)):(Instr.loadAt 68 (.pointer (some a))).run Tryz.prog w=.ok (.slice A n c) w:=by
 simp [go_sem,hu]
theorem st_rows {w:World} {g i:Nat} {u:Value} (hu:w.cell? ⟨g,i,none⟩=some u) (hf:w.frozen? ⟨g,i,none⟩=false) (A:Option Addr) (n c:Nat):(Instr.storeAt 68 (.pointer (some ⟨g,i,none⟩)) (.slice A n c)).run Tryz.prog w=.ok () (w.setCell ⟨g,i,none⟩ (.slice A n c)):=by
 simp [go_sem,hu,hf]
section
variable {w0 w wx wy:World} {rb:Nat} {E:Re} {S:Rs} {pk:Nat→Nat→Int × Int}
theorem Snts.grown {B B2:Nat} {v:Value} {L:List (Int × By)} (h:Snts B wx v L) {e:TypeId} {size n:Nat} {u:Value} {xs:List Value} (ho:wx.ownsRow B2 e size u n xs) (n1:e≠83) (n2:e≠5) (hg:wx.grownBy wy u.ownBlock):Snts B wy v L:=by
 obtain ⟨Z,a,b,c⟩:=h
 exact ⟨Z,a,own_type b hg.size fun k cs hk hb=>hg.block k hk fun e=>own_blk_ne ho hb n1 e.symm,fun z hz=>own_type (c z hz) hg.size fun k cs hk hb=>hg.block k hk fun e=>own_blk_ne ho hb n2 e.symm⟩
theorem Row8.rd {A:Option Addr} {n c:Nat} {x:By} (h:Row8 w0.heap.size w (.slice A n c) x):x.length=n∧n≤c∧Reads w (fun k=>w0.heap.size≤k∧k < w.heap.size) 1 A n (bytesV x):=by
 obtain ⟨e,hr⟩:=h.reads
 obtain ⟨A1,c1,e1,hc⟩:=h.form
 injection e1 with e1 e2 e3
 subst e1 e2 e3
 exact ⟨rfl,hc,hr⟩
def PkPos (pk:Nat→Nat→Int × Int):Prop:=∀ a u,(pk a u).1=3→0≤(pk a u).2
theorem PkPos.way (h:PkPos pk) {ports:Nat} {x:By} {dt:Nat}:(fwWay pk ports x dt).1=3→0≤(fwWay pk ports x dt).2∧(fwWay pk ports x dt).2 < ports:=fun e=>by
 unfold fwWay at e ⊢
 split at e
 ·cases e
 ·rename_i hne
  rw [if_neg hne]
  refine ⟨h _ _ e,?_⟩
  have:=h _ _ e
  omega
set_option maxRecDepth 100000 in
set_option maxHeartbeats 8000000 in
attribute [-go_sem] Instr.storeAt Instr.loadAt in
theorem fsend_any (H:TbE w0 E pk) (hp0:PkPos pk) (h:RnW w0 w rb E S) {A:Option Addr} {n c:Nat} {x:By} (hy:Row8 w0.heap.size w (.slice A n c) x) (hsm:x.length≤100000) (hl:S.ft.out.length≤100000) (hl2:S.ft.loc.length≤100000) :
  Calls Tryz.prog 79 #[.pointer (some ⟨rb,0,none⟩),.slice A n c] w (FtPost w0 rb E S (fwSend pk E.mtus x S.ft) S.tok):=by
 obtain ⟨hn,hc,hx⟩:=hy.rd
 have HP:=Lib.hid (parse_any A n c x _ w hx hn hc (by omega))
 have hok:=(prs_ok x).2.2.2.2.2
 have HWY:=Lib.hid (fun wx (hb:Below w.heap.size w wx)=>fway_any H (h.below hb) A n c x (fun k=>k < w.heap.size) ((hx.mono fun k hk=>hk.2).keep (Same.ofBelow hb fun k hk=>hk)) hn hc (by omega) (prsF x).1.dst hok)
 have HOUT:=Lib.hid (fun wx (po:Nat) (hb:Below w.heap.size w wx) (hp:po < E.mtus.length)=>fout_any H (h.below hb) hp A n c x (fun k=>k < w.heap.size) ((hx.mono fun k hk=>hk.2).keep (Same.ofBelow hb fun k hk=>hk)) hn hc (by omega) hl)
 have hwp:=hp0.way (ports:=E.mtus.length) (x:=x) (dt:=(prsF x).1.dst)
 unfold fwSend
 obtain ⟨Wy,hWy⟩:∃ z,z=fwWay pk E.mtus.length x (prsF x).1.dst:=⟨_,rfl⟩
 rw [← hWy] at HWY hwp ⊢
 obtain ⟨kd,po⟩:=Wy
 simp only at HWY hwp ⊢
 obtain ⟨R,hR⟩:∃ R,R=prsF x:=⟨_,rfl⟩
 rw [← hR] at HP HWY hok
 obtain ⟨h',p',f'⟩:=R
 obtain ⟨F,hF⟩:∃ F,F=(if kd=1 then { S.ft with loc:=S.ft.loc++[x] } else if kd=3 then fwOut E.mtus po x S.ft else dropF S.ft 12):=⟨_,rfl⟩
 rw [← hF]
 have F1:=Lib.hid (fun (e:kd=1)=>(by rw [hF,if_pos e]:F={ S.ft with loc:=S.ft.loc++[x] }))
 have F3:=Lib.hid (fun (e:kd=3)=>(by rw [hF,e,if_neg (by decide),if_pos rfl]:F=fwOut E.mtus po x S.ft))
 have F0:=Lib.hid (fun (e1:kd≠1) (e3:kd≠3)=>(by rw [hF,if_neg e1,if_neg e3]:F=dropF S.ft 12))
 have HH:=Lib.hid h
 have HY:=Lib.hid hy
 have HL2:=Lib.hid hl2
 have HWP:=Lib.hid hwp
 clear H hp0 h hy hn hc hx hWy hR hl hl2 hwp hF
 go_enter Tryz.func79,Tryz.ntmps79
 go_wp2_with fail
 refine HP.out.mono ?_
 rintro e w1 ⟨vo,vp,rfl,ho,hp,hdj,hb1⟩
 obtain ⟨Ao,co,rfl,_⟩:=ho.form
 obtain ⟨w2,hst,hb2,hb12,hk2⟩:=hd_var hb1 hb1.size h' Ao h'.opts.length co
 have HB2:=Lib.hid hb2
 have HW2:=Lib.hid (HWY.out w2 hb2)
 have q9:=ld_u32s (hk2.cell 9)
 simp only at hok ⊢
 clear ho hp hdj hb1 hb2 hb12 hk2 HP HWY
 go_wp2_with fail
 refine HW2.out.mono ?_
 rintro e w3 ⟨rfl,hb3⟩
 have HB3:=Lib.hid (HB2.out.trans (hb3.mono HB2.out.size))
 clear hb3 q9 hst
 by_cases k1:kd=1
 ·subst k1
  have hw3:=HH.out.below HB3.out
  obtain ⟨us,h1,h2,h3⟩:=hw3.lc
  obtain ⟨Al,cl,hlv,hcl⟩:=own_form h1
  obtain ⟨m,hm⟩:∃ m,m=S.ft.loc.length:=⟨_,rfl⟩
  have q20:w3.cell? ⟨rb,20,none⟩=some (.slice Al m cl):=by rw [hm,← hlv]; exact hw3.blk.cell 20
  have l20:=ld_rows q20
  obtain ⟨i0,hi,hz0,hz1,hz2⟩:=info_parts info_sl8
  have hmx:m+1≤maxLen:=by unfold maxLen; have:=HL2.out; omega
  have hmb:(m+1) * 24≤140737488355328:=by have:=HL2.out; omega
  have HW3:=Lib.hid hw3
  have H1:=Lib.hid (show w3.ownsRow w0.heap.size 61 1 (.slice Al m cl) m us by rw [hm,← hlv]; exact h1)
  have H4:=Lib.hid (fun (v2:Value) (w4:World) (h4:w4.ownsRow w0.heap.size 61 1 v2 (m+1) (us++[.slice A n c])) (hg:w3.grownBy w4 (Value.slice Al m cl).ownBlock)=>(⟨hw3.toRnC.grown (e:=61) (v:=.slice Al m cl) (by rw [hm,← hlv]; exact h1) (by decide) (by decide) hg,Rows8.push (L:=S.ft.loc) (v:=.slice Al m cl) (us:=us) (by rw [← hm]; exact h4) (by rw [hm,← hlv]; exact h1) h2 hg h3 (HY.out.below HB3.out),hw3.ou.grown (e:=61) (u:=.slice Al m cl) (by rw [hm,← hlv]; exact h1) (by decide) (by decide) hg⟩:RnC w0 w4 rb E S∧Rows8 w0.heap.size w4 v2 (S.ft.loc++[x])∧Snts w0.heap.size w4 S.ov S.ft.out))
  clear q20 h1 h2 h3 hlv hcl hw3 hm HOUT
  go_wp2_with (at_builtin; refine wpList_push1 w3 rfl (.tmp 32) (.tmp 34) _ 61 rfl rfl i0 _ 24 Tryz.underlying68 hi hz0 hz1 hz2 rfl w0.heap.size (.slice Al m cl) m us (.slice A n c) rfl rfl H1.out rfl hmx hmb HW3.out.upd.size ?_; intro v2 w4 h4 hg4 hat4; obtain ⟨A2,c2,rfl,_⟩:=own_form h4; have H5:=Lib.hid (H4.out _ w4 h4 hg4); have s20:=st_rows (H5.out.1.blk.cell 20) (H5.out.1.blk.frozen 20) A2 (m+1) c2; clear h4 hg4 hat4)
  go_ret
  rw [F1.out (by trivial)]
  exact ⟨rfl,.slice A2 (m+1) c2,S.ov,⟨H5.out.1.put (i:=20) (S':={ S with lv:=.slice A2 (m+1) c2,ft:={ S.ft with loc:=S.ft.loc++[x] } }) rfl H5.out.1.pk H5.out.1.hv rfl,H5.out.2.1.set H5.out.1.blk 20 _,H5.out.2.2.set H5.out.1.blk 20 _⟩⟩
 ·have k1b:(kd == 1)=false:=by rw [beq_eq_false_iff_ne]; exact k1
  by_cases k3:kd=3
  ·subst k3
   obtain ⟨hp0,hpo⟩:=HWP.out rfl
   obtain ⟨q,rfl⟩:∃ q:Nat,po=q:=⟨po.toNat,(Int.toNat_of_nonneg hp0).symm⟩
   have HO:=Lib.hid (HOUT.out w3 q HB3.out (by omega))
   clear hpo hp0 HOUT
   go_wp2_with fail
   refine HO.out.mono ?_
   rintro e w4 ⟨rfl,lv,ov,hw4⟩
   have HF:=Lib.hid hw4
   clear hw4
   go_wp2_with fail
   go_ret
   rw [F3.out (by trivial)]
   exact ⟨rfl,lv,ov,HF.out⟩
  ·have k3b:(kd == 3)=false:=by rw [beq_eq_false_iff_ne]; exact k3
   have HD:=Lib.hid (show Calls Tryz.prog 124 #[.pointer (some ⟨rb,0,none⟩),.int .i64 12] w3 fun e w'=>e=.returned (.bool true)∧RnW w0 w' rb E { S with ft:=dropF S.ft 12 } from fdrop_any (HH.out.below HB3.out) 12)
   go_wp2_with fail
   refine HD.out.mono ?_
   rintro e w4 ⟨rfl,hw4⟩
   have HF:=Lib.hid hw4
   clear hw4
   go_wp2_with fail
   go_ret
   rw [F0.out k1 k3]
   exact ⟨rfl,_,_,HF.out⟩
end
end Go.Proofs.YthlommalbkhcjaaGreat
namespace Go.Proofs.YthlommalbkhcjaaGreat
open Go.RowKit Go.Sort
theorem own_none {w:World} {B n c m:Nat} {A:Option Addr} {e:TypeId} {xs:List Value} (h:w.ownsRow B e 1 (.slice A n c) m xs):w.ownsRow B e 1 (.slice A 0 c) 0 []:=by
 refine ⟨rfl,?_⟩
 rcases h.2 with ⟨h1,_⟩ | ⟨g,cap,cur,h1,h2,h3,h4,h5,h6,h7⟩
 ·injection h1 with a b d
  subst a d
  exact .inl ⟨rfl,rfl⟩
 ·injection h1 with a b d
  subst a b d
  exact .inr ⟨g,c,cur,rfl,h2,h3,Nat.zero_le _,h5,h6,by simp⟩
set_option maxHeartbeats 800000 in
theorem grow_any (n:Nat) (w:World) (hn:n≤1000000) :
  Calls Tryz.prog 234 #[.slice none 0 0,.int .i64 (n:Int)] w fun e w'=>∃ v,e=.returned v∧Row8 w.heap.size w' v []∧Below w.heap.size w w':=by
 go_enter Tryz.func234,Tryz.ntmps234
 have d0:decide ((n:Int) < 0)=false:=decide_eq_false (by omega)
 by_cases h0:n=0
 ·subst h0
  go_wp2_with fail
  go_ret
  exact ⟨_,rfl,Row8.nil _ _,Below.refl _ _⟩
 have d1:decide ((0:Int) < (n:Int))=true:=decide_eq_true (by omega)
 have d2:decide (0 < n)=true:=decide_eq_true (by omega)
 have hs:(Instr.slice 61 (.slice none 0 0) none (some (.int .i64 0)) none).run Tryz.prog w=.ok (.slice none 0 0) w:=sl_hi none 0 0 w 0 (by omega)
 obtain ⟨i0,hi,hz0,hz1,hz2⟩:=info_parts info_u8
 have hmx:0+n≤maxLen:=by unfold maxLen; omega
 have hmb:(0+n) * 1≤140737488355328:=by omega
 go_wp2_with (at_builtin; refine wpList_append_zeros w rfl (.tmp 20) (.tmp 21) _ _ rfl w.heap.size 5 .i64 i0 _ 1 Tryz.underlying61 Tryz.underlying3 hi hz0 hz1 hz2 rfl rfl (.slice none 0 0) 0 [] rfl (World.ownsRow_nil _ _ _ _) n rfl hmx hmb (Nat.le_refl _) ?_; intro v2 w2 h2 hg2 hat; rw [Nat.zero_add] at h2; obtain ⟨A2,c2,rfl,hc2⟩:=own_form h2; have h3:=own_none h2; have hs2:=sl_hi A2 n c2 w2 0 (Nat.zero_le _); have H3:=Lib.hid h3; have HB:=Lib.hid ((Below.refl w.heap.size w).grown hg2 (Nat.le_refl _) fun g hg=>by cases hg); clear h2 hg2 hat h3)
 go_ret
 exact ⟨_,rfl,H3.out,HB.out⟩
set_option maxHeartbeats 1600000 in
theorem concat_any (A:Option Addr) (n c:Nat) (us:List Value) (xs:List By) (I:Nat→Prop) (w:World) (h:Reads w I 1 A n us) (hx:RowsE w us xs) (hsm:xs.flatten.length≤1000000) (hn:n≤1000000) :
  Calls Tryz.prog 232 #[.slice A n c] w fun e w'=>∃ v,e=.returned v∧Row8 w.heap.size w' v xs.flatten∧Below w.heap.size w w':=by
 have HR:=Lib.hid h.lt
 have HX:=Lib.hid hx
 have HL:=Lib.hid (show xs.length=n by have:=h.1; rw [← hx.len]; omega)
 have HTK:=Lib.hid (show ∀ k x,xs[k]?=some x→(xs.take (k+1)).flatten=(xs.take k).flatten++x from fun k x hx=>by
  have hkl:k < xs.length:=(List.getElem?_eq_some_iff.1 hx).1
  rw [List.take_succ_eq_append_getElem hkl,(List.getElem?_eq_some_iff.1 hx).2,List.flatten_append]
  simp)
 have HLN:=Lib.hid (show ∀ k,(xs.take k).flatten.length≤1000000 from fun k=>by
  have h1:=congrArg (fun l=>l.flatten.length) (List.take_append_drop k xs)
  simp only [List.flatten_append,List.length_append] at h1
  omega)
 obtain ⟨i0,hi,hz0,hz1,hz2⟩:=info_parts info_u8
 clear h hx
 go_enter Tryz.func232,Tryz.ntmps232
 go_wp2_with fail
 go_loopw [3,11] (fun s i wr=>∃ k:Nat,k≤n∧i=.int .i64 (k:Int)∧s=.int .i64 ((xs.take k).flatten.length:Int)∧wr=w) (fun _ i _=>n - (intOf i).toNat)
 case atStart=>exact ⟨0,Nat.zero_le _,rfl,rfl,rfl⟩
 case round =>
  obtain ⟨k,hk,rfl,rfl,rfl⟩:=hrel
  by_cases hlt:k < n
  ·obtain ⟨x,hx⟩:∃ x,xs[k]?=some x:=⟨xs[k]'(by rw [HL.out]; exact hlt),List.getElem?_eq_getElem _⟩
   obtain ⟨u,hu,A2,c2,rfl,hc2,hr2⟩:=HX.out.get hx
   obtain ⟨ad,rfl,_,hadl,hc⟩:=HR.out.2 (by omega)
   have hcell:wr.cell? (ad.add k)=some (.slice A2 x.length c2):=hc _ _ hu
   have htk:=congrArg List.length (HTK.out k x hx)
   rw [List.length_append] at htk
   have hl1:=HLN.out (k+1)
   obtain ⟨m,hm⟩:∃ m,m=x.length:=⟨_,rfl⟩
   obtain ⟨s,hs⟩:∃ s,s=(xs.take k).flatten.length:=⟨_,rfl⟩
   rw [← hm] at hcell htk
   rw [← hs] at htk ⊢
   have HT:=Lib.hid htk
   have hi0:(0:Int)≤k:=by omega
   have hi1:(k:Int) < n:=by omega
   have hsb:s+m≤1000000:=by omega
   have hd:decide ((s:Int)+(m:Int) < 0)=false:=decide_eq_false (by omega)
   clear hx hu hc hc2 hr2 htk hm hs hl1
   go_wp2_with fail
   go_roundw
   case rel=>exact ⟨k+1,by omega,by simp,by rw [HT.out]; simp,trivial⟩
   case measure=>simp [intOf]; omega
  ·obtain rfl:k=n:=by omega
   have hfl:(xs.take k).flatten=xs.flatten:=by rw [← HL.out,List.take_length]
   rw [hfl]
   obtain ⟨m,hm⟩:∃ m,m=xs.flatten.length:=⟨_,rfl⟩
   rw [← hm] at hsm ⊢
   have HM:=Lib.hid hm
   clear hfl hm
   go_wp2_with fail
   refine (grow_any m _ hsm).mono ?_
   rintro e w1 ⟨v1,rfl,hv1,hb1⟩
   have HV1:=Lib.hid hv1
   have HB1:=Lib.hid hb1
   clear hv1 hb1
   go_wp2_with fail
   obtain ⟨wo,rfl⟩:∃ wo:World,wo=wr:=⟨_,rfl⟩
   go_loopw [6,27] (fun v i wr=>∃ j:Nat,j≤k∧i=.int .i64 (j:Int)∧Row8 wo.heap.size wr v (xs.take j).flatten∧Below wo.heap.size wo wr) (fun _ i _=>k - (intOf i).toNat)
   case atStart=>exact ⟨0,Nat.zero_le _,rfl,HV1.out,HB1.out⟩
   case round =>
    obtain ⟨j,hj,rfl,hv,hb⟩:=hrel
    have HV:=Lib.hid hv
    have HB:=Lib.hid hb
    clear hv hb
    by_cases hlt:j < k
    ·obtain ⟨x,hx⟩:∃ x,xs[j]?=some x:=⟨xs[j]'(by rw [HL.out]; exact hlt),List.getElem?_eq_getElem _⟩
     obtain ⟨u,hu,hs⟩:=HX.out.get hx
     obtain ⟨A2,c2,rfl,hc2,hr2⟩:=hs.below HB.out
     obtain ⟨ad,rfl,_,hadl,hc⟩:=HR.out.2 (by omega)
     have hcell:wr.cell? (ad.add j)=some (.slice A2 x.length c2):=(HB.out.cell (by rw [block_of_add]; exact hadl)).trans (hc _ _ hu)
     have htk:=HTK.out j x hx
     have hlen:=HLN.out (j+1)
     rw [htk,List.length_append] at hlen
     obtain ⟨q,hq⟩:∃ q,q=x.length:=⟨_,rfl⟩
     rw [← hq] at hcell hr2 hlen
     have HT:=Lib.hid htk
     have HR2:=Lib.hid hr2
     have HQ:=Lib.hid hq
     have hi0:(0:Int)≤j:=by omega
     have hi1:(j:Int) < k:=by omega
     have h63:((xs.take j).flatten).length+q≤140737488355328:=by omega
     clear hx hu hs hc hc2 hr2 htk hlen hq
     go_wp2_with (at_builtin; refine wpList_app8 wr rfl (.tmp 31) (.tmp 32) rfl rfl wo.heap.size _ ((xs.take j).flatten) rfl HV.out _ A2 q c2 x rfl HQ.out.symm HR2.out h63 HB.out.size ?_; intro v2 w2 h2 hg2 _; have H2:=Lib.hid h2; have HB2:=Lib.hid (HB.out.grown hg2 HB.out.size fun g hg=>(HV.out.lt hg).1); clear h2 hg2)
     go_roundw
     case rel=>exact ⟨j+1,by omega,by simp,by rw [HT.out]; exact H2.out,HB2.out⟩
     case measure=>simp [intOf]; omega
    ·obtain rfl:j=k:=by omega
     have hfl:(xs.take j).flatten=xs.flatten:=by rw [← HL.out,List.take_length]
     have hv:=HV.out
     rw [hfl] at hv
     clear HV hfl
     go_wp2_with fail
     go_ret
     exact ⟨_,rfl,hv,HB.out⟩
theorem wjoin_any (A:Option Addr) (n c:Nat) (us:List Value) (xs:List By) (I:Nat→Prop) (w:World) (h:Reads w I 1 A n us) (hx:RowsE w us xs) (hsm:xs.flatten.length≤1000000) (hn:n≤1000000) :
  Calls Tryz.prog 223 #[.slice A n c] w fun e w'=>∃ v,e=.returned v∧Row8 w.heap.size w' v xs.flatten∧Below w.heap.size w w':=by
 have HC:=Lib.hid (concat_any A n c us xs I w h hx hsm hn)
 clear h hx hsm hn
 go_enter Tryz.func223,Tryz.ntmps223
 go_wp2_with fail
 refine HC.out.mono ?_
 rintro e w1 ⟨v,rfl,hv,hb⟩
 obtain ⟨A1,c1,rfl,_⟩:=hv.form
 obtain ⟨m,hm⟩:∃ m,m=xs.flatten.length:=⟨_,rfl⟩
 rw [← hm] at hv ⊢
 have HV:=Lib.hid hv
 have HB:=Lib.hid hb
 clear hv hb hm
 go_wp2_with fail
 go_ret
 exact ⟨_,rfl,HV.out,HB.out⟩
end Go.Proofs.YthlommalbkhcjaaGreat
namespace Go.Proofs.YthlommalbkhcjaaGreat
open Go.RowKit Go.Sort Go.BigFrame
def icC (m:Ic) (v:Value):Array Value:=#[.int .u8 (m.ty.toNat:Int),.int .u8 (m.co.toNat:Int),.int .u8 (m.r0.toNat:Int),.int .u8 (m.r1.toNat:Int),.int .u8 (m.r2.toNat:Int),.int .u8 (m.r3.toNat:Int),v]
def icV (m:Ic) (v:Value):Value:=.agg (icC m v)
theorem ic_info:(Tryz.prog.info? 86).map (·.size)=some 7:=by kernel_rfl
section
variable {w:World} {g:Nat} {cs vs:Array Value}
theorem ic_store (h:Blk w g 86 cs) (hc:cs.size=7) (hv:vs.size=7) (h1:vs.all (·.oneCell')=true):(Instr.storeAt 86 (.pointer (some ⟨g,0,none⟩)) (.agg vs)).run Tryz.prog w=.ok () (w.setCells g 0 vs.toList) :=
 run_storeAt_mid w g 0 _ vs (by have:=blk_there h; rwa [hc,← hv] at this) (by rw [hv]; exact ic_info) h1
theorem ic_load (h:Blk w g 86 cs) (hc:cs.size=7):(Instr.loadAt 86 (.pointer (some ⟨g,0,none⟩))).run Tryz.prog w=.ok (.agg cs) w:=by
 have:=run_loadAt_mid (P:=Tryz.prog) w g 0 86 cs.toList _ (blk_range h) Tryz.underlying86 rfl (by simpa [hc] using ic_info)
 simpa using this
theorem res_ic {fn:Func} {p u:Tmp} (hf:fn.results=#[.cell p 86,.tmp u]) (tmps:Array Value) (hp:tmps.getD p undef=.pointer (some ⟨g,0,none⟩)) (h:Blk w g 86 cs) (hc:cs.size=7) :
  (results fn tmps).run Tryz.prog w=.ok (.tuple #[.agg cs,tmps.getD u undef]) w:=by
 have hl:=run_loadVar_mid (P:=Tryz.prog) w g 0 86 cs.toList _ (blk_range h) Tryz.underlying86 rfl (by simpa [hc] using ic_info)
 have e1:tmps[p]?.getD undef=.pointer (some ⟨g,0,none⟩):=by simpa using hp
 simp only [results,hf]
 simp [Result.andThen,e1,asAddr,hl]
theorem sl_arr4 (w:World) (a:Addr):(Instr.sliceAt 84 (.pointer (some a)) none none none).run Tryz.prog w=.ok (.slice (some a) 4 4) w:=by
 have h4:Tryz.prog.arrayLen 84=4:=by kernel_rfl
 have hz:(sizeOf (Tryz.prog.elem 84)).run Tryz.prog w=.ok 1 w:=by kernel_rfl
 rw [run_sliceAt_array_all w 84 a (by kernel_rfl),hz,h4]
 simp [Result.andThen,slicedAt,Addr.add]
theorem rest_sl {m:Ic} {v:Value} (h:Blk w g 86 (icC m v)):Sl8 w (fun _=>True) (.slice (some ⟨g,2,none⟩) 4 4) [m.r0,m.r1,m.r2,m.r3]:=by
 refine ⟨some ⟨g,2,none⟩,4,rfl,Nat.le_refl _,by simp [bytesV],fun _=>⟨⟨g,2,none⟩,rfl,trivial,h.lt,fun j u hu=>?_⟩⟩
 rw [add_off,h.cell]
 match j,hu with
 | 0,hu=>simpa [bytesV,icC] using hu
 | 1,hu=>simpa [bytesV,icC] using hu
 | 2,hu=>simpa [bytesV,icC] using hu
 | 3,hu=>simpa [bytesV,icC] using hu
 | j+4,hu=>simp [bytesV] at hu
theorem lit4_sl {x0 x1 x2 x3:UInt8} {b:Nat} (h:Blk w b 5 #[.int .u8 (x0.toNat:Int),.int .u8 (x1.toNat:Int),.int .u8 (x2.toNat:Int),.int .u8 (x3.toNat:Int)]):Sl8 w (fun _=>True) (.slice (some ⟨b,0,none⟩) 4 4) [x0,x1,x2,x3]:=by
 refine ⟨some ⟨b,0,none⟩,4,rfl,Nat.le_refl _,by simp [bytesV],fun _=>⟨⟨b,0,none⟩,rfl,trivial,h.lt,fun j u hu=>?_⟩⟩
 rw [add_off,Nat.zero_add,h.cell]
 match j,hu with
 | 0,hu=>simpa [bytesV] using hu
 | 1,hu=>simpa [bytesV] using hu
 | 2,hu=>simpa [bytesV] using hu
 | 3,hu=>simpa [bytesV] using hu
 | j+4,hu=>simp [bytesV] at hu
end
theorem copy2 {w:World} {B C g n cap off k d c3 ck:Nat} {x:By} {a3:Option Addr} (h:Row8 B w (.slice (some ⟨g,0,none⟩) n cap) x) (hl:x.length=n) (ho:off+2≤n) (hk:2≤k) (hv:Row8 C w (.slice a3 2 c3) (putF ck 2)) :
  ∃ w2,(Builtin.copy_ #[61,61] 3 #[.slice (some ⟨g,off,none⟩) k d,.slice a3 2 c3]).run Tryz.prog w=.ok (.int .i64 2) w2 ∧
    Row8 B w2 (.slice (some ⟨g,0,none⟩) n cap) ((x.set off (u8 (ck / 256))).set (off+1) (u8 ck))∧Upd (only g) w w2:=by
 obtain ⟨ad,rfl,_,_,hs3⟩:=(hv.reads).2.2 (by decide)
 obtain ⟨g2',cap',ev,_,_,cur,hbk,hcur⟩:=h.blk (by omega)
 injection ev with ev ev2 ev3
 clear ev2 ev3
 injection ev with ev
 injection ev with ev ev2 ev3
 clear ev2 ev3
 subst ev
 have hex:∀ i,i < n→(w.cell? ⟨g,i,none⟩).isSome=true:=fun i hi=>by
  rw [hbk.cell,hcur i _ (List.getElem?_eq_getElem (by rw [bytesV_len,hl]; exact hi))]
  rfl
 have hcp:=run_copy_cells (P:=Tryz.prog) w 61 61 3 5 g off k d ad 2 c3 (bytesV (putF ck 2)) Tryz.underlying61 (by kernel_rfl) (by rw [bytesV_len,putF_len]; exact (Nat.min_eq_left (by omega)).symm) hs3 (fun j hj=>hex _ (by rw [bytesV_len,putF_len] at hj; omega)) (fun j hj=>hbk.frozen _) (bytesV_one _)
 have e9:bytesV (putF ck 2)=[.int .u8 ((u8 (ck / 256)).toNat:Int),.int .u8 ((u8 ck).toNat:Int)]:=by rw [put2]; rfl
 rw [e9] at hcp
 have f1:=Row8.set (i:=off) (b:=u8 (ck / 256)) h
 have f2:=Row8.set (i:=off+1) (b:=u8 ck) f1
 exact ⟨_,hcp,f2,((Upd.refl (only g) w).set_ off _).set_ (off+1) _⟩
def IcBPost (w:World) (y:By) (e:Ending) (w':World):Prop:=∃ v,e=.returned v∧Row8 w.heap.size w' v y∧Below w.heap.size w w'
attribute [-go_sem] Instr.storeAt Instr.loadAt in
set_option maxRecDepth 100000 in
set_option maxHeartbeats 4000000 in
theorem icbytes_any (m:Ic) (v:Value) (I:Nat→Prop) (w:World) (hv:Sl8 w I v m.body) (hsm:m.body.length≤900000) :
  Calls Tryz.prog 206 #[icV m v] w (IcBPost w (icB m)):=by
 obtain ⟨A,c,rfl,hc,hr⟩:=hv
 obtain ⟨n,hn⟩:∃ n,n=m.body.length:=⟨_,rfl⟩
 rw [← hn] at hc hr hsm ⊢
 obtain ⟨W,hW⟩:∃ W,W=w.alloc (.cells (icC m (.slice A n c)) 86):=⟨_,rfl⟩
 have hb0:Below w.heap.size w W:=by rw [hW]; exact (Below.refl _ _).alloc (Nat.le_refl _) _
 have hk0:Blk W w.heap.size 86 (icC m (.slice A n c)):=by rw [hW]; exact Blk.new _ _ _
 have hs0:Sl8 W (fun _=>True) (.slice A n c) m.body:=⟨A,c,by rw [hn],by omega,by rw [← hn]; exact ((hr.lt).keep (Same.ofBelow hb0 fun k hk=>hk.2)).mono fun _ _=>trivial⟩
 have HW:=Lib.hid hW
 have HB0:=Lib.hid hb0
 have HK0:=Lib.hid hk0
 have HS0:=Lib.hid hs0
 have HN:=Lib.hid hn
 obtain ⟨ty,hty⟩:∃ z:Int,z=(m.ty.toNat:Int):=⟨_,rfl⟩
 obtain ⟨co,hco⟩:∃ z:Int,z=(m.co.toNat:Int):=⟨_,rfl⟩
 have HTY:=Lib.hid hty
 have HCO:=Lib.hid hco
 clear hW hb0 hk0 hs0 hc hr hn hty hco
 unfold icV
 go_enter Tryz.func206,Tryz.ntmps206
 go_upto_region 1 with (fail)
 rw [← HW.out]
 have HCC:=Lib.hid (fun (a b:World) (ha:Blk a w.heap.size 86 (icC m (.slice A n c))∧Sl8 a (fun _=>True) (.slice A n c) m.body∧Below w.heap.size w a) (hb:Below a.heap.size a b)=>(⟨ha.1.below hb ha.1.lt,ha.2.1.below hb,ha.2.2.trans (hb.mono ha.2.2.size)⟩:Blk b w.heap.size 86 (icC m (.slice A n c))∧Sl8 b (fun _=>True) (.slice A n c) m.body∧Below w.heap.size w b))
 refine wp_region_mix [(true,4),(false,1),(true,4),(false,3)] 1 (by kernel_rfl) (fun a=>Blk a w.heap.size 86 (icC m (.slice A n c))∧Sl8 a (fun _=>True) (.slice A n c) m.body∧Below w.heap.size w a) HCC.out (by kernel_rfl) ⟨HK0.out,HS0.out,HB0.out⟩ (a':=?_) (fun wz hz=>?_) fun wz hz=>?_
 rotate_left
 ·obtain ⟨hk,_,_⟩:=hz
  have x0:=fun (dd:Nat) (os:Array Obj)=>ld_u8s (z:=ty) (by rw [HTY.out]; exact (hk.below (below_regrown wz dd os) hk.lt).cell 0)
  have x1:=fun (dd:Nat) (os:Array Obj)=>ld_u8s (z:=co) (by rw [HCO.out]; exact (hk.below (below_regrown wz dd os) hk.lt).cell 1)
  have x2:=fun (wx:World)=>sl_arr4 wx ⟨w.heap.size,2,none⟩
  have x3:=fun (dd:Nat) (os:Array Obj)=>ld8s ((hk.below (below_regrown wz dd os) hk.lt).cell 6)
  clear hk
  simp only [pick_nil,pick_tt,pick_ft,List.take_succ_cons,List.take_zero,List.drop_succ_cons,List.drop_zero,List.append_nil,List.cons_append,List.nil_append]
  repeat (go_big_quiet_step (fail))
  refine wpQuiet_nil ?_
  rfl
 ·simp only [pick_nil,pick_ff,pick_tf,List.take_succ_cons,List.take_zero,List.drop_succ_cons,List.drop_zero,List.append_nil,List.cons_append,List.nil_append]
  have S1:=Lib.hid (HCC.out _ _ ⟨HK0.out,HS0.out,HB0.out⟩ hz)
  clear hz
  refine wpMix_step S1.out fun wa ha=>?_
  obtain ⟨W1,hW1⟩:∃ W,W=wa.alloc (.cells #[.int .u8 ty,.int .u8 co,.int .u8 0,.int .u8 0] 5):=⟨_,rfl⟩
  have hb1:Below wa.heap.size wa W1:=by rw [hW1]; exact (Below.refl _ _).alloc (Nat.le_refl _) _
  have S2:=Lib.hid (HCC.out _ _ (HCC.out _ _ S1.out ha) hb1)
  have K2:=Lib.hid (show Blk W1 wa.heap.size 5 #[.int .u8 (m.ty.toNat:Int),.int .u8 (m.co.toNat:Int),.int .u8 ((0:UInt8).toNat:Int),.int .u8 ((0:UInt8).toNat:Int)] by rw [hW1,HTY.out,HCO.out]; exact Blk.new _ _ _)
  have HW1:=Lib.hid hW1
  clear ha hb1 hW1
  go_wp2_with fail
  rw [← HW1.out]
  obtain ⟨gb,hgb⟩:∃ g,g=wa.heap.size:=⟨_,rfl⟩
  rw [← hgb] at K2 ⊢
  clear hgb HW1
  refine wpMix_step S2.out fun wb hb=>?_
  obtain ⟨W2,hW2⟩:∃ W,W=wb.alloc (.cells #[.slice (some ⟨gb,0,none⟩) 4 4,.slice (some ⟨w.heap.size,2,none⟩) 4 4,.slice A n c] 61):=⟨_,rfl⟩
  have hb2:Below wb.heap.size wb W2:=by rw [hW2]; exact (Below.refl _ _).alloc (Nat.le_refl _) _
  have s3:=HCC.out _ _ (HCC.out _ _ S2.out hb) hb2
  have k3:=(K2.out.below hb K2.out.lt).below hb2 (K2.out.below hb K2.out.lt).lt
  have hj:=wjoin_any (some ⟨wb.heap.size,0,none⟩) 3 3 [.slice (some ⟨gb,0,none⟩) 4 4,.slice (some ⟨w.heap.size,2,none⟩) 4 4,.slice A n c] [[m.ty,m.co,0,0],[m.r0,m.r1,m.r2,m.r3],m.body] _ W2 (by rw [hW2]; exact reads_lit wb 61 _ 3 1 (0,0) rfl) ⟨lit4_sl k3,rest_sl s3.1,s3.2.1,trivial⟩ (by have:=HN.out; simp only [List.flatten_cons,List.flatten_nil,List.length_append,List.length_cons,List.length_nil]; omega) (by omega)
  have hfl:[[m.ty,m.co,0,0],[m.r0,m.r1,m.r2,m.r3],m.body].flatten=icW m 0 0:=by simp [icW]
  rw [hfl] at hj
  have HJ:=Lib.hid hj
  have HBB:=Lib.hid s3.2.2
  have HW2:=Lib.hid hW2
  clear hb hb2 s3 k3 hj hfl hW2
  go_wp2_with fail
  rw [← HW2.out]
  refine wpMix_plain ?_
  go_wp2_with fail
  refine HJ.out.mono ?_
  rintro e w3 ⟨v3,rfl,h3,hb3⟩
  obtain ⟨x,hx⟩:∃ x,x=icW m 0 0:=⟨_,rfl⟩
  rw [← hx] at h3
  have hxl:x.length=8+n:=by rw [hx]; unfold icW; have:=HN.out; simp only [List.length_cons]; omega
  obtain ⟨g,cap,rfl,hcap,hgB,_⟩:=h3.blk (by omega)
  obtain ⟨q,hq⟩:∃ q,q=x.length:=⟨_,rfl⟩
  rw [← hq] at hcap hxl h3 ⊢
  have HX:=Lib.hid hx
  have HQ:=Lib.hid hq
  have H3:=Lib.hid h3
  have HB3:=Lib.hid (HBB.out.trans (hb3.mono HBB.out.size))
  have HG:=Lib.hid (Nat.le_trans HBB.out.size hgB)
  have hq8:8≤q:=by omega
  have hqn:q≤900008:=by omega
  clear h3 hb3 hx hq hgB hxl
  obtain ⟨W4,hW4⟩:∃ W,W=w3.alloc (.cells #[.slice (some ⟨g,0,none⟩) q cap] 61):=⟨_,rfl⟩
  have hb4:Below w3.heap.size w3 W4:=by rw [hW4]; exact (Below.refl _ _).alloc (Nat.le_refl _) _
  have k4:Blk W4 w3.heap.size 61 #[.slice (some ⟨g,0,none⟩) q cap]:=by rw [hW4]; exact Blk.new _ _ _
  have h4:=H3.out.below hb4
  have hck:=check_any ⟨w3.heap.size,0,none⟩ 1 (some ⟨g,0,none⟩) q cap x _ W4 (k4.cell 0) ((h4.reads).2) HQ.out.symm (by omega)
  obtain ⟨ck,hckk⟩:∃ k,k=checkF x:=⟨_,rfl⟩
  rw [← hckk] at hck
  have hc16:ck < 65536:=by rw [hckk]; unfold checkF; omega
  have HCK:=Lib.hid hck
  have HCKK:=Lib.hid hckk
  have H4:=Lib.hid h4
  have HB4:=Lib.hid (HB3.out.trans (hb4.mono HB3.out.size))
  have HW4:=Lib.hid hW4
  clear hb4 k4 h4 hck hckk hW4
  go_wp2_with fail
  rw [← HW4.out]
  refine HCK.out.mono ?_
  rintro e w5 ⟨rfl,hb5⟩
  have H5:=Lib.hid (H4.out.below hb5)
  have HB5:=Lib.hid (HB4.out.trans (hb5.mono HB4.out.size))
  have HPU:=Lib.hid (fun (wx:World)=>wput2_any ck wx hc16)
  have hwr:IntKind.u64.wrap (ck:Int)=(ck:Int):=wraps_u64 _ (by omega) (by omega)
  clear hb5
  go_wp2_with fail
  refine (HPU.out _).mono ?_
  rintro e w6 ⟨v6,rfl,h6,hb6⟩
  obtain ⟨A6,c6,rfl,_⟩:=h6.form
  rw [putF_len] at h6 ⊢
  obtain ⟨w7,hcp,h7,hu7⟩:=copy2 (off:=2) (k:=q - 2) (d:=cap - 2) (H5.out.below hb6) HQ.out.symm (by omega) (by omega) h6
  have HB6:=Lib.hid (HB5.out.trans (hb6.mono HB5.out.size))
  have hb7:=HB6.out.trans (hu7.below (B:=w.heap.size) (fun k (hk:k=g)=>by have:=HG.out; omega) HB6.out.size)
  have hs2:=sl_lo (some ⟨g,0,none⟩) q cap w6 2 (by omega)
  have H7:=Lib.hid h7
  have HB7:=Lib.hid hb7
  have hcp2:cap≠2:=by omega
  rw [if_neg hcp2,Option.map_some,add_off] at hs2
  clear h6 hb6 h7 hu7 hb7
  go_wp2_with fail
  go_ret
  refine ⟨_,rfl,?_,HB7.out⟩
  have hres:icB m=(x.set 2 (u8 (ck / 256))).set 3 (u8 ck):=by
   rw [HCKK.out,HX.out]
   rfl
  have hl:(icB m).length=q:=by rw [hres,List.length_set,List.length_set,HQ.out]
  unfold Row8
  rw [hl,hres]
  have h7:=H7.out
  unfold Row8 at h7
  rw [List.length_set,List.length_set,← HQ.out] at h7
  exact own_base h7 HBB.out.size
end Go.Proofs.YthlommalbkhcjaaGreat
