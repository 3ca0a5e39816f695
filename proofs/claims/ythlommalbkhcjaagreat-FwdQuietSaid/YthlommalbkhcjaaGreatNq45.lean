/- Icmp: Error. -/
import Derived.Test.YthlommalbkhcjaaGreatNq44
namespace Go.Proofs.YthlommalbkhcjaaGreat
open Go.RowKit Go.Sort Go.BigFrame
def sentH (h:Hd):Hd:={ h with ttl:=64,proto:=1 }
structure SnS (w:World) (m:Ic) (v:Value) (h:Hd) (vo:Value) (wx:World):Prop where
 ic:Blk wx w.heap.size 86 (icC m v)
 hd:Blk wx (w.heap.size+1) 76 (hdC (sentH h) vo)
 sv:Sl8 wx (fun _=>True) v m.body
 so:Sl8 wx (fun _=>True) vo h.opts
 below:Below w.heap.size w wx
theorem SnS.on {w wx wy:World} {m:Ic} {v:Value} {h:Hd} {vo:Value} (s:SnS w m v h vo wx) (hb:Below wx.heap.size wx wy):SnS w m v h vo wy :=
 ⟨s.ic.below hb s.ic.lt,s.hd.below hb s.hd.lt,s.sv.below hb,s.so.below hb,s.below.trans (hb.mono s.below.size)⟩
def SndΦ (H C:Array Value) (B:Nat) (x z:By):Nat→Value→World→Prop
 | 0,u,_=>u=.agg H
 | 1,u,_=>u=.agg C
 | 2,u,w=>Sl8 w (fun _=>True) u x
 | 3,u,w=>∃ v,u=.tuple #[v,.int .i64 0]∧Row8 B w v z
 | 4,u,w=>Row8 B w u z
 | 5,u,_=>u=.int .i64 0
 | 6,u,w=>Row8 B w u z
 | 7,u,_=>u=.int .i64 0
 | _,_,_=>True
theorem SndΦ.keep {H C:Array Value} {B:Nat} {x z:By} {wx wy:World} (hb:Below wx.heap.size wx wy):∀ (j:Nat) (u:Value),SndΦ H C B x z j u wx→SndΦ H C B x z j u wy
 | 0,_,h=>h
 | 1,_,h=>h
 | 2,_,h=>Sl8.below h hb
 | 3,_,⟨v,e,h⟩=>⟨v,e,Row8.below h hb⟩
 | 4,_,h=>Row8.below h hb
 | 5,_,h=>h
 | 6,_,h=>Row8.below h hb
 | 7,_,h=>h
 | _+8,_,_=>trivial
attribute [-go_sem] Instr.storeAt Instr.loadAt in
set_option maxRecDepth 100000 in
set_option maxHeartbeats 4000000 in
theorem send_any (m:Ic) (v:Value) (h:Hd) (vo:Value) (I:Nat→Prop) (w:World) (hv:Sl8 w I v m.body) (hvo:Sl8 w I vo h.opts) (hsm:m.body.length≤900000) (ok:(sentH h).ok) (hf:fitsH (sentH h) (icB m)=true) :
  Calls Tryz.prog 167 #[icV m v,hdV h vo] w (BytPost w (bytesF (sentH h) (icB m)) 0):=by
 have hv':=hv
 obtain ⟨A,c,e1,hc,hr⟩:=hv'
 obtain ⟨Ao,co,e2,hco,hro⟩:=hvo
 obtain ⟨W0,hW0⟩:∃ W,W=(w.alloc (.cells (icC m v) 86)).alloc (.cells (hdC h vo) 76):=⟨_,rfl⟩
 have hb0:Below w.heap.size w W0:=by rw [hW0]; exact ((Below.refl _ _).alloc (Nat.le_refl _) _).alloc (by simp) _
 have hk1:Blk W0 w.heap.size 86 (icC m v):=by rw [hW0]; exact (Blk.new _ _ _).alloc _
 have hk2:Blk W0 (w.heap.size+1) 76 (hdC h vo):=by
  rw [hW0]
  have:=Blk.new (w.alloc (.cells (icC m v) 86)) 76 (hdC h vo)
  simpa using this
 have s6:=st8 (hk2.cell 6) (hk2.frozen 6) 64
 obtain ⟨W1,hW1⟩:∃ W,W=W0.setCell ⟨w.heap.size+1,6,none⟩ (.int .u8 64):=⟨_,rfl⟩
 have hk3:Blk W1 (w.heap.size+1) 76 (hdC { h with ttl:=64 } vo):=by rw [hW1]; exact hk2.set_ 6 _
 have s7:=st8 (hk3.cell 7) (hk3.frozen 7) 1
 obtain ⟨W2,hW2⟩:∃ W,W=W1.setCell ⟨w.heap.size+1,7,none⟩ (.int .u8 1):=⟨_,rfl⟩
 have hk4:Blk W2 (w.heap.size+1) 76 (hdC (sentH h) vo):=by rw [hW2]; exact hk3.set_ 7 _
 have hu:Upd (only (w.heap.size+1)) W0 W2:=by
  rw [hW2,hW1]
  exact ((Upd.refl (only (w.heap.size+1)) W0).set_ 6 _).set_ 7 _
 have hb2:Below w.heap.size w W2:=hb0.trans (hu.below (B:=w.heap.size) (fun k (hk:k=_)=>by omega) hb0.size)
 have S2:SnS w m v h vo W2:=by
  refine ⟨(hu.block _ hk1.lt (fun (e:w.heap.size=w.heap.size+1)=>by omega)).trans hk1,hk4,?_,?_,hb2⟩
  ·exact (hv.lt.keep (Same.ofBelow hb2 fun k hk=>hk.2)).mono fun _ _=>trivial
  ·exact ⟨Ao,co,e2,hco,(hro.lt.keep (Same.ofBelow hb2 fun k hk=>hk.2)).mono fun _ _=>trivial⟩
 rw [← hW1] at s6
 rw [← hW2] at s7
 have HW0:=Lib.hid hW0
 have HS:=Lib.hid S2
 have HOK:=Lib.hid ok
 have HF:=Lib.hid hf
 subst e1 e2
 clear hb0 hk1 hk2 hk3 hk4 hu hb2 S2 hv hr hro hc hco hW0 hW1 hW2 ok hf
 unfold icV hdV
 go_enter Tryz.func167,Tryz.ntmps167
 go_upto_region 1 with (fail)
 have hw0:=HW0.out
 unfold hdC at hw0
 rw [← hw0]
 clear hw0
 go_upto_region 2 with (fail)
 have HZ2:=Lib.hid HS.out.below.size
 refine wp_region_rel (by kernel_rfl) (fun p q=>Below W2.heap.size p q∧p.heap.size≤q.heap.size) (SndΦ (hdC (sentH h) (.slice Ao h.opts.length co)) (icC m (.slice A m.body.length c)) w.heap.size (icB m) (bytesF (sentH h) (icB m))) 8 (fun _ _=>True) (fun _ _=>false) (by kernel_rfl) (fun p=>⟨Below.refl _ p,Nat.le_refl _⟩) (fun h k=>⟨h.1.trans k.1,Nat.le_trans h.2 k.2⟩) (obl_of ?_) (fun o h=>by cases h) ?_
 ·refine ⟨fun _=>?_,fun _=>?_,fun _=>?_,fun _=>?_,fun _=>?_,fun _=>?_,fun _=>?_,fun _=>?_,trivial⟩
  ·
   intro val wx hg hd hb hs K hK
   generalize hρ:rhoV _ _ val=ρ
   have r3:ρ (.tmp 3)=.pointer (some ⟨w.heap.size+1,0,none⟩):=by rw [← hρ]; rfl
   have hbx:Below W2.heap.size W2 wx:=⟨hg.1.os,hg.1.tape,hg.1.output,hg.1.size,hg.1.block⟩
   have hl:=hd_load (HS.out.on hbx).hd rfl
   clear hρ hd hb hs
   refine ifv rfl ?_
   go_simp
   exact hK _ _ ⟨Below.refl _ _,Nat.le_refl _⟩ rfl fun _ _ _ _ h=>h
  ·
   intro val wx hg hd hb hs K hK
   generalize hρ:rhoV _ _ val=ρ
   have r2:ρ (.tmp 2)=.pointer (some ⟨w.heap.size,0,none⟩):=by rw [← hρ]; rfl
   have hbx:Below W2.heap.size W2 wx:=⟨hg.1.os,hg.1.tape,hg.1.output,hg.1.size,hg.1.block⟩
   have hl:=ic_load (HS.out.on hbx).ic rfl
   clear hρ hd hb hs
   refine ifv rfl ?_
   go_simp
   exact hK _ _ ⟨Below.refl _ _,Nat.le_refl _⟩ rfl fun _ _ _ _ h=>h
  ·
   intro val wx hg hd hb hs K hK
   generalize hρ:rhoV _ _ val=ρ
   have ff:∀ u,ρ (.func u)=.func (.func u) #[] #[]:=fun u=>by rw [← hρ]; rfl
   have r9:ρ (.tmp 9)=.agg (icC m (.slice A m.body.length c)):=by rw [← hρ]; exact hd 1 rfl rfl
   have hbx:Below W2.heap.size W2 wx:=⟨hg.1.os,hg.1.tape,hg.1.output,hg.1.size,hg.1.block⟩
   have hc:=icbytes_any m (.slice A m.body.length c) _ wx (HS.out.on hbx).sv hsm
   unfold icV at hc
   have hzx:W2.heap.size≤wx.heap.size:=hg.1.size
   clear hρ hd hb hs
   refine ifv rfl ?_
   go_simp
   refine hc.mono ?_
   rintro e w3 ⟨v3,rfl,h3,hb3⟩
   exact ⟨_,rfl,hK _ _ ⟨hb3.mono hzx,hb3.size⟩ (row_sl h3) fun j _ _ _ h=>SndΦ.keep hb3 j _ h⟩
  ·
   intro val wx hg hd hb hs K hK
   generalize hρ:rhoV _ _ val=ρ
   have ff:∀ u,ρ (.func u)=.func (.func u) #[] #[]:=fun u=>by rw [← hρ]; rfl
   have r8:ρ (.tmp 8)=.agg (hdC (sentH h) (.slice Ao h.opts.length co)):=by rw [← hρ]; exact hd 0 rfl rfl
   have r10:ρ (.tmp 10)=val 2:=by rw [← hρ]; rfl
   have p2:Sl8 wx (fun _=>True) (val 2) (icB m):=hd 2 rfl rfl
   have hbx:Below W2.heap.size W2 wx:=⟨hg.1.os,hg.1.tape,hg.1.output,hg.1.size,hg.1.block⟩
   obtain ⟨A3,c3,e3,_⟩:=id p2
   rw [e3] at r10 p2
   have hc:=bytes_yes (sentH h) (.slice Ao h.opts.length co) (.slice A3 (icB m).length c3) (icB m) _ wx (HS.out.on hbx).so p2 HOK.out HF.out
   rw [hdV_eq] at hc
   have hzx:W2.heap.size≤wx.heap.size:=hg.1.size
   have hzw:w.heap.size≤wx.heap.size:=Nat.le_trans HZ2.out hzx
   clear hρ hd hb hs e3 p2
   refine ifv rfl ?_
   go_simp
   refine hc.mono ?_
   rintro e w3 ⟨v3,rfl,h3,hb3⟩
   exact ⟨_,rfl,hK _ _ ⟨hb3.mono hzx,hb3.size⟩ ⟨v3,rfl,own_base h3 hzw⟩ fun j _ _ _ h=>SndΦ.keep hb3 j _ h⟩
  ·
   intro val wx hg hd hb hs K hK
   generalize hρ:rhoV _ _ val=ρ
   have r11:ρ (.tmp 11)=val 3:=by rw [← hρ]; rfl
   obtain ⟨v3,e3,h3⟩:∃ v,val 3=.tuple #[v,.int .i64 0]∧Row8 w.heap.size wx v (bytesF (sentH h) (icB m)):=hd 3 rfl rfl
   rw [e3] at r11
   clear hρ hd hb hs e3
   refine ifv rfl ?_
   go_simp
   exact hK _ _ ⟨Below.refl _ _,Nat.le_refl _⟩ h3 fun _ _ _ _ h=>h
  ·
   intro val wx hg hd hb hs K hK
   generalize hρ:rhoV _ _ val=ρ
   have r11:ρ (.tmp 11)=val 3:=by rw [← hρ]; rfl
   obtain ⟨v3,e3,h3⟩:∃ v,val 3=.tuple #[v,.int .i64 0]∧Row8 w.heap.size wx v (bytesF (sentH h) (icB m)):=hd 3 rfl rfl
   rw [e3] at r11
   clear hρ hd hb hs e3 h3
   refine ifv rfl ?_
   go_simp
   exact hK _ _ ⟨Below.refl _ _,Nat.le_refl _⟩ rfl fun _ _ _ _ h=>h
  ·
   intro val wx hg hd hb hs K hK
   generalize hρ:rhoV _ _ val=ρ
   have r12:ρ (.tmp 12)=val 4:=by rw [← hρ]; rfl
   have h4:Row8 w.heap.size wx (val 4) (bytesF (sentH h) (icB m)):=hd 4 rfl rfl
   clear hρ hd hb hs
   refine ifv rfl ?_
   go_simp
   exact hK _ _ ⟨Below.refl _ _,Nat.le_refl _⟩ h4 fun _ _ _ _ h=>h
  ·
   intro val wx hg hd hb hs K hK
   generalize hρ:rhoV _ _ val=ρ
   have r13:ρ (.tmp 13)=.int .i64 0:=by rw [← hρ]; exact hd 5 rfl rfl
   clear hρ hd hb hs
   refine ifv rfl ?_
   go_simp
   exact hK _ _ ⟨Below.refl _ _,Nat.le_refl _⟩ rfl fun _ _ _ _ h=>h
 ·intro val w9 h9
  rw [if_neg (by decide)] at h9
  obtain ⟨hb9,h9⟩:=h9
  have p6:Row8 w.heap.size w9 (val 6) (bytesF (sentH h) (icB m)):=h9 6 (by decide) fun _ _=>rfl
  have p7:val 7=.int .i64 0:=h9 7 (by decide) fun _ _=>rfl
  have HB9:=Lib.hid (show Below w.heap.size w w9 from HS.out.below.trans (Below.mono (⟨hb9.1.os,hb9.1.tape,hb9.1.output,hb9.1.size,hb9.1.block⟩:Below W2.heap.size W2 w9) HS.out.below.size))
  have HP6:=Lib.hid p6
  simp only [putAll,p7]
  simp only [Act.put,List.setIfInBounds_toArray,List.set_cons_succ,List.set_cons_zero]
  clear h9 hb9 p6 p7
  generalize val 0=x0,val 1=x1,val 2=x2,val 3=x3,val 4=x4,val 5=x5,val 6=x6 at HP6 ⊢
  obtain ⟨A6,c6,rfl,_⟩:=HP6.out.form
  go_wp2_with fail
  go_ret2
  exact ⟨_,rfl,HP6.out,HB9.out⟩
end Go.Proofs.YthlommalbkhcjaaGreat
namespace Go.Proofs.YthlommalbkhcjaaGreat
open Go.RowKit Go.Sort Go.BigFrame
def kdM (k:Int):Ic:=if kdB k=true then errM k 0 [] else ic0
theorem kdA_ic (k:Int):kdA k=.agg (icC (kdM k) (.slice none 0 0)):=by
 unfold kdM kdA
 by_cases h1:k=1
 ·subst h1; rfl
 by_cases h2:k=2
 ·subst h2; rfl
 by_cases h3:k=3
 ·subst h3; rfl
 rw [if_neg h1,if_neg h2,if_neg h3,if_neg (by unfold kdB; simp [h1,h2,h3])]
 rfl
theorem kdB_arg (k mtu:Int):errArg k mtu=(!kdB k || decide (mtu < 0) || decide (65535 < mtu) || (decide (k≠2) && decide (mtu≠0))):=by
 unfold errArg kdB
 congr 3
 rw [Bool.eq_iff_iff]
 simp
 omega
theorem ic_var {B:Nat} {w w1:World} (hb:Below B w w1) (hB:B≤w1.heap.size) (m:Ic) (A:Option Addr) (n c:Nat):∃ w2,(Instr.storeAt 86 (.pointer (some ⟨w1.heap.size,0,none⟩)) (.agg (icC m (.slice A n c)))).run Tryz.prog (w1.alloc (.cells #[.int .u8 0,.int .u8 0,.int .u8 0,.int .u8 0,.int .u8 0,.int .u8 0,.slice none 0 0] 86))=.ok () w2∧Below B w w2∧Below w1.heap.size w1 w2∧Blk w2 w1.heap.size 86 (icC m (.slice A n c)) :=
 ⟨_,ic_store (vs:=icC m (.slice A n c)) (Blk.new w1 _ _) rfl rfl (by simp [icC,Value.oneCell']),below_setCells hB _ 0 _ (hb.alloc hB _),below_setCells (Nat.le_refl _) _ 0 _ ((Below.refl _ _).alloc (Nat.le_refl _) _),blk_setCells (Blk.new w1 _ _) rfl⟩
theorem hd_build2 (w:World) (s d:Int):(Instr.build 76 #[(8,.int .u32 s),(9,.int .u32 d)]).run Tryz.prog w=.ok (.agg #[.int .u8 0,.int .u16 0,.bool false,.bool false,.bool false,.int .i64 0,.int .u8 0,.int .u8 0,.int .u32 s,.int .u32 d,.slice none 0 0]) w:=by kernel_rfl
attribute [-go_sem] Instr.storeAt Instr.loadAt in
set_option maxRecDepth 100000 in
set_option maxHeartbeats 8000000 in
theorem icerror_any (k mtu:Int) (fr:Nat) (A:Option Addr) (n c:Nat) (x:By) (I:Nat→Prop) (w:World) (hk:(Lit.int .i64 k).wf=true) (hfr:fr < 2 ^ 32) (h:Reads w I 1 A n (bytesV x)) (hn:x.length=n) (hc:n≤c) (hsm:n≤1000000) :
  Calls Tryz.prog 169 #[.int .i64 k,.slice A n c,.int .u32 (fr:Int),.int .i64 mtu] w (BytPost w (errF k x fr mtu).1 ((errF k x fr mtu).2:Int)):=by
 have hok:=prs_ok x
 have hpl:=prs_len x
 obtain ⟨E,hE⟩:∃ E,E=errF k x fr mtu:=⟨_,rfl⟩
 rw [← hE]
 unfold errF at hE
 rw [kdB_arg] at hE
 unfold emayF at hE
 obtain ⟨R,hR⟩:∃ R,R=prsF x:=⟨_,rfl⟩
 rw [← hR] at hE hok hpl
 have HPA:=Lib.hid (fun wx (hb:Below w.heap.size w wx)=>show Calls Tryz.prog 33 #[.slice A n c] wx (PrsPost wx R) from hR ▸ parse_any A n c x (fun j=>I j∧j < w.heap.size) wx (h.lt.keep (Same.ofBelow hb fun j hj=>hj.2)) hn hc hsm)
 have HQT:=Lib.hid (fun wx (hb:Below w.heap.size w wx)=>quote_any A n c x (fun j=>I j∧j < w.heap.size) wx (h.lt.keep (Same.ofBelow hb fun j hj=>hj.2)) hn hc hsm)
 have hqf:(prsF x).2.2=0→(quoteF x).2=0:=fun h0=>by unfold quoteF; rw [if_neg (by omega)]
 have hfit:=err_fits k x fr mtu.toNat
 have hqlen:=quote_len x
 rw [← hR] at hqf hfit
 obtain ⟨g,y,f⟩:=R
 simp only at hE hok hpl hqf hfit
 have HE:=Lib.hid hE
 have HOK:=Lib.hid hok
 have HQF:=Lib.hid hqf
 have HFIT:=Lib.hid hfit
 have HQLEN:=Lib.hid hqlen
 have hA:=kdA_ic k
 obtain ⟨bb,hbb⟩:∃ b,b=kdB k:=⟨_,rfl⟩
 have HM:=Lib.hid (show bb=true→kdM k=errM k 0 [] from fun e=>by unfold kdM; rw [if_pos (hbb ▸ e)])
 rw [← hbb] at HE
 have HK:=Lib.hid hk
 have HBB:=Lib.hid hbb
 have HA:=Lib.hid hA
 obtain ⟨M,hM⟩:∃ M,M=kdM k:=⟨_,rfl⟩
 rw [← hM] at HM HA
 clear hE hok hpl hR h hn hc hsm hqf hfit hqlen hA hbb hk hM
 go_enter Tryz.func169,Tryz.ntmps169
 go_wp2_with fail
 refine (kinds_any w).mono ?_
 rintro e w1 ⟨b,rfl,hkm,hb1⟩
 have hlk:=hkm.look k HK.out
 rw [HA.out,← HBB.out] at hlk
 obtain ⟨W2,hst1,hb2,hb12,hk2⟩:=ic_var hb1 hb1.size M none 0 0
 have HK2:=Lib.hid hk2
 have HB2:=Lib.hid hb2
 obtain ⟨gi,hgi⟩:∃ g,g=w1.heap.size:=⟨_,rfl⟩
 have HGI:=Lib.hid (show w.heap.size≤gi by rw [hgi]; exact hb1.size)
 clear hkm hb1 hk2 hb2 hb12
 go_upto_region 2 with (fail)
 clear hst1 hlk
 rw [← hgi] at HK2 ⊢
 clear hgi
 go_upto_region 3 with
  (go_at_call 33
   refine (HPA.out _ HB2.out).mono ?_
   rintro e w3 ⟨vo,vq,rfl,ho,hq,_,hb3⟩
   obtain ⟨Ao,co,rfl,_⟩:=ho.form
   obtain ⟨Aq,cq,rfl,_⟩:=hq.form
   obtain ⟨w4,hst4,hb4,hb34,hk4⟩:=hd_var hb3 hb3.size g Ao g.opts.length co
   have HK4:=Lib.hid (HK2.out.below hb4 HK2.out.lt)
   have HH4:=Lib.hid hk4
   have HQ4:=Lib.hid ((hq.below hb34).reads.2)
   have HB4:=Lib.hid (HB2.out.trans (hb4.mono HB2.out.size))
   have HZ4:=Lib.hid (show gi < w3.heap.size from Nat.lt_of_lt_of_le HK2.out.lt hb3.size)
   clear ho hq hb3 hb4 hb34 hk4)
 cases bb with
 | false =>
   have hE:=HE.out
   rw [if_pos (by simp)] at hE
   subst hE
   go_wp2_with fail
   go_ret2
   exact ⟨_,rfl,Row8.nil _ _,HB4.out⟩
 | true =>
 by_cases c1:mtu < 0
 ·have d1:decide (mtu < 0)=true:=decide_eq_true c1
  have hE:=HE.out
  rw [if_pos (by simp [c1])] at hE
  subst hE
  go_wp2_with fail
  go_ret2
  exact ⟨_,rfl,Row8.nil _ _,HB4.out⟩
 have d1:decide (mtu < 0)=false:=decide_eq_false c1
 by_cases c2:65535 < mtu
 ·have d2:decide ((65535:Int) < mtu)=true:=decide_eq_true c2
  have hE:=HE.out
  rw [if_pos (by simp [c2])] at hE
  subst hE
  go_wp2_with fail
  go_ret2
  exact ⟨_,rfl,Row8.nil _ _,HB4.out⟩
 have d2:decide ((65535:Int) < mtu)=false:=decide_eq_false c2
 have HC:=Lib.hid (show 0≤mtu∧mtu≤65535 by omega)
 by_cases c3:mtu=0
 ·have b3:(mtu != 0)=false:=by rw [bne_eq_false_iff_eq]; exact c3
  have hE:=HE.out
  rw [if_neg (by simp [c3])] at hE
  clear HE c1 c2 c3
  by_cases c5:f≠0
  ·have b5:((f:Int) != 0)=true:=by rw [bne_iff_ne]; omega
   rw [if_pos c5] at hE
   subst hE
   clear c5
   go_wp2_with fail
   go_ret2
   exact ⟨_,rfl,Row8.nil _ _,HB4.out⟩
  have b5:((f:Int) != 0)=false:=by rw [bne_eq_false_iff_eq]; omega
  rw [if_neg c5,decide_eq_true (by omega:f=0),Bool.true_and] at hE
  have HF0:=Lib.hid (show f=0 by omega)
  clear c5
  have hld4:=hd_load HH4.out rfl
  have hmy:=icmay_any g Ao g.opts.length co Aq y.length cq y _ w4 HQ4.out rfl
  obtain ⟨mm,hmm⟩:∃ b,b=emayH g y:=⟨_,rfl⟩
  rw [← hmm] at hmy hE
  have HMY:=Lib.hid hmy
  clear hmy hmm
  cases mm with
  | false =>
    rw [if_pos rfl] at hE
    subst hE
    go_wp2_with (go_at_call 207; refine HMY.out.mono ?_; rintro e w5 ⟨rfl,hb5⟩; have HB5:=Lib.hid (HB4.out.trans (hb5.mono HB4.out.size)); clear hb5)
    go_ret2
    exact ⟨_,rfl,Row8.nil _ _,HB5.out⟩
  | true =>
  rw [if_neg (by simp)] at hE
  have HE9:=Lib.hid hE
  clear hE
  go_upto_region 9 with (go_at_call 207; refine HMY.out.mono ?_; rintro e w5 ⟨rfl,hb5⟩; have HB5:=Lib.hid (HB4.out.trans (hb5.mono HB4.out.size)); have HK5:=Lib.hid (HK4.out.below hb5 HK4.out.lt); have HH5:=Lib.hid (HH4.out.below hb5 HH4.out.lt); clear hb5)
  have hs4:=st8 (HK5.out.cell 4) (HK5.out.frozen 4)
  have k6:=HK5.out.set_ 4 (.int .u8 (mtu / 256 % 256))
  have hs5:=st8 (k6.cell 5) (k6.frozen 5)
  have k7:=k6.set_ 5 (.int .u8 (mtu % 256))
  have hmt:=HC.out
  have z2:mtu / 256 % 256=((u8 (mtu.toNat / 256)).toNat:Int):=by rw [u8_nat]; omega
  have z3:mtu % 256=((u8 mtu.toNat).toNat:Int):=by rw [u8_nat]; omega
  have hu:=((Upd.refl (only gi) w5).set_ 4 (.int .u8 (mtu / 256 % 256))).set_ 5 (.int .u8 (mtu % 256))
  have K7:=Lib.hid (show Blk ((w5.setCell ⟨gi,4,none⟩ (.int .u8 (mtu / 256 % 256))).setCell ⟨gi,5,none⟩ (.int .u8 (mtu % 256))) gi 86 (icC (errM k mtu.toNat []) (.slice none 0 0)) from by
   have hm:=HM.out (by trivial)
   have hmm:icC (errM k mtu.toNat []) (.slice none 0 0)=((icC M (.slice none 0 0)).setIfInBounds 4 (.int .u8 (mtu / 256 % 256))).setIfInBounds 5 (.int .u8 (mtu % 256)):=by rw [z2,z3,hm]; rfl
   rw [hmm]
   exact k7)
  have hb7:=HB5.out.trans (hu.below (B:=w.heap.size) (fun j (hj:j=gi)=>by have:=HGI.out; omega) HB5.out.size)
  have HB7:=Lib.hid hb7
  have HH7:=Lib.hid (show Blk _ w3.heap.size 76 (hdC g (.slice Ao g.opts.length co)) from (hu.block _ HH5.out.lt (fun (e:w3.heap.size=gi)=>by have:=HZ4.out; omega)).trans HH5.out)
  clear k6 k7 hmt z2 z3 hu hb7
  go_upto_region 10 with (fail)
  clear hs4 hs5
  generalize (w5.setCell ⟨gi,4,none⟩ (.int .u8 (mtu / 256 % 256))).setCell ⟨gi,5,none⟩ (.int .u8 (mtu % 256))=w7 at K7 HB7 HH7 ⊢
  have hqt:=HQT.out w7 HB7.out
  obtain ⟨Q,hQ⟩:∃ Q,Q=quoteF x:=⟨_,rfl⟩
  have HQ:=Lib.hid hQ
  have HL:=Lib.hid (show Q.1.length≤68 by rw [hQ]; exact HQLEN.out)
  rw [← hQ] at hqt
  have HQ8:=Lib.hid hqt
  clear hqt hQ
  go_wp2_with fail
  refine HQ8.out.mono ?_
  rintro e w8 ⟨v8,rfl,h8,hb8⟩
  have HB8:=Lib.hid (HB7.out.trans (hb8.mono HB7.out.size))
  have k8:=K7.out.below hb8 K7.out.lt
  have HH8:=Lib.hid (HH7.out.below hb8 HH7.out.lt)
  obtain ⟨A8,c8,rfl,_⟩:=h8.form
  have hs8:=st_8s (k8.cell 6) (k8.frozen 6) A8 Q.1.length c8
  have k9:=k8.set_ 6 (.slice A8 Q.1.length c8)
  have K9:=Lib.hid (show Blk (w8.setCell ⟨gi,6,none⟩ (.slice A8 Q.1.length c8)) gi 86 (icC (errM k mtu.toNat Q.1) (.slice A8 Q.1.length c8)) from k9)
  have hu9:=upd_set w8 gi 6 (.slice A8 Q.1.length c8)
  have HB9:=Lib.hid (HB8.out.trans (hu9.below (B:=w.heap.size) (fun j (hj:j=gi)=>by have:=HGI.out; omega) HB8.out.size))
  have HH9:=Lib.hid (show Blk _ w3.heap.size 76 (hdC g (.slice Ao g.opts.length co)) from (hu9.block _ HH8.out.lt (fun (e:w3.heap.size=gi)=>by have:=HZ4.out; omega)).trans HH8.out)
  have hs9:Sl8 (w8.setCell ⟨gi,6,none⟩ (.slice A8 Q.1.length c8)) (fun _=>True) (.slice A8 Q.1.length c8) Q.1:=by
   have hgl:gi < w7.heap.size:=K7.out.lt
   have:=h8.keep (hu9.same (I:=fun j=>gi < j) fun j (hj:j=gi) hi=>by omega) fun q hq=>by have:=(h8.lt hq).1; omega
   exact row_sl this
  have HS9:=Lib.hid hs9
  clear h8 hb8 k8 k9 hu9 hs9
  go_upto_region 11 with (fail)
  clear hs8
  generalize w8.setCell ⟨gi,6,none⟩ (.slice A8 Q.1.length c8)=w9 at K9 HB9 HH9 HS9 ⊢
  have l1:=ic_load K9.out rfl
  obtain ⟨sr,hsr⟩:∃ z,z=g.src:=⟨_,rfl⟩
  have l2:=ld_u32s (show w9.cell? ⟨w3.heap.size,8,none⟩=some (.int .u32 (sr:Int)) by rw [hsr]; exact HH9.out.cell 8)
  have bd:=fun wx=>hd_build2 wx (fr:Int) (sr:Int)
  have hsn:Calls Tryz.prog 167 #[.agg (icC (errM k mtu.toNat Q.1) (.slice A8 Q.1.length c8)),.agg #[.int .u8 0,.int .u16 0,.bool false,.bool false,.bool false,.int .i64 0,.int .u8 0,.int .u8 0,.int .u32 (fr:Int),.int .u32 (sr:Int),.slice none 0 0]] w9 (BytPost w9 (bytesF (errH fr sr) (icB (errM k mtu.toNat Q.1))) 0):=send_any (errM k mtu.toNat Q.1) (.slice A8 Q.1.length c8) { hd0 with src:=fr,dst:=sr } (.slice none 0 0) (fun _=>True) w9 HS9.out (sl_nil _ _) (by show Q.1.length≤900000; have:=HL.out; omega) (errH_ok hfr (by rw [hsr]; exact HOK.out.2.2.2.2.1)) (by
   have:=HFIT.out
   rw [HQ.out,hsr]
   exact this)
  have HSN:=Lib.hid hsn
  have HSR:=Lib.hid hsr
  clear hsn hsr
  go_wp2_with fail
  refine HSN.out.mono ?_
  rintro e w10 ⟨v10,rfl,h10,hb10⟩
  obtain ⟨A10,c10,rfl,_⟩:=h10.form
  have H10:=Lib.hid (own_base h10 HB9.out.size)
  have HB10:=Lib.hid (HB9.out.trans (hb10.mono HB9.out.size))
  clear h10 hb10
  go_wp2_with fail
  go_ret2
  rw [HE9.out]
  refine ⟨_,rfl,?_,HB10.out⟩
  simp only
  rw [← HQ.out,← HSR.out]
  exact H10.out
 have b3:(mtu != 0)=true:=by rw [bne_iff_ne]; exact c3
 by_cases c4:k=2
 ·have b4:(k != 2)=false:=by rw [bne_eq_false_iff_eq]; exact c4
  have hE:=HE.out
  rw [if_neg (by simp [c1,c2,c4])] at hE
  have HC4:=Lib.hid c4
  clear HE c1 c2 c3 c4
  by_cases c5:f≠0
  ·have b5:((f:Int) != 0)=true:=by rw [bne_iff_ne]; omega
   rw [if_pos c5] at hE
   subst hE
   clear c5
   go_wp2_with fail
   go_ret2
   exact ⟨_,rfl,Row8.nil _ _,HB4.out⟩
  have b5:((f:Int) != 0)=false:=by rw [bne_eq_false_iff_eq]; omega
  rw [if_neg c5,decide_eq_true (by omega:f=0),Bool.true_and] at hE
  have HF0:=Lib.hid (show f=0 by omega)
  clear c5
  have hld4:=hd_load HH4.out rfl
  have hmy:=icmay_any g Ao g.opts.length co Aq y.length cq y _ w4 HQ4.out rfl
  obtain ⟨mm,hmm⟩:∃ b,b=emayH g y:=⟨_,rfl⟩
  rw [← hmm] at hmy hE
  have HMY:=Lib.hid hmy
  clear hmy hmm
  cases mm with
  | false =>
    rw [if_pos rfl] at hE
    subst hE
    go_wp2_with (go_at_call 207; refine HMY.out.mono ?_; rintro e w5 ⟨rfl,hb5⟩; have HB5:=Lib.hid (HB4.out.trans (hb5.mono HB4.out.size)); clear hb5)
    go_ret2
    exact ⟨_,rfl,Row8.nil _ _,HB5.out⟩
  | true =>
  rw [if_neg (by simp)] at hE
  have HE9:=Lib.hid hE
  clear hE
  go_upto_region 9 with (go_at_call 207; refine HMY.out.mono ?_; rintro e w5 ⟨rfl,hb5⟩; have HB5:=Lib.hid (HB4.out.trans (hb5.mono HB4.out.size)); have HK5:=Lib.hid (HK4.out.below hb5 HK4.out.lt); have HH5:=Lib.hid (HH4.out.below hb5 HH4.out.lt); clear hb5)
  have hs4:=st8 (HK5.out.cell 4) (HK5.out.frozen 4)
  have k6:=HK5.out.set_ 4 (.int .u8 (mtu / 256 % 256))
  have hs5:=st8 (k6.cell 5) (k6.frozen 5)
  have k7:=k6.set_ 5 (.int .u8 (mtu % 256))
  have hmt:=HC.out
  have z2:mtu / 256 % 256=((u8 (mtu.toNat / 256)).toNat:Int):=by rw [u8_nat]; omega
  have z3:mtu % 256=((u8 mtu.toNat).toNat:Int):=by rw [u8_nat]; omega
  have hu:=((Upd.refl (only gi) w5).set_ 4 (.int .u8 (mtu / 256 % 256))).set_ 5 (.int .u8 (mtu % 256))
  have K7:=Lib.hid (show Blk ((w5.setCell ⟨gi,4,none⟩ (.int .u8 (mtu / 256 % 256))).setCell ⟨gi,5,none⟩ (.int .u8 (mtu % 256))) gi 86 (icC (errM k mtu.toNat []) (.slice none 0 0)) from by
   have hm:=HM.out (by trivial)
   have hmm:icC (errM k mtu.toNat []) (.slice none 0 0)=((icC M (.slice none 0 0)).setIfInBounds 4 (.int .u8 (mtu / 256 % 256))).setIfInBounds 5 (.int .u8 (mtu % 256)):=by rw [z2,z3,hm]; rfl
   rw [hmm]
   exact k7)
  have hb7:=HB5.out.trans (hu.below (B:=w.heap.size) (fun j (hj:j=gi)=>by have:=HGI.out; omega) HB5.out.size)
  have HB7:=Lib.hid hb7
  have HH7:=Lib.hid (show Blk _ w3.heap.size 76 (hdC g (.slice Ao g.opts.length co)) from (hu.block _ HH5.out.lt (fun (e:w3.heap.size=gi)=>by have:=HZ4.out; omega)).trans HH5.out)
  clear k6 k7 hmt z2 z3 hu hb7
  go_upto_region 10 with (fail)
  clear hs4 hs5
  generalize (w5.setCell ⟨gi,4,none⟩ (.int .u8 (mtu / 256 % 256))).setCell ⟨gi,5,none⟩ (.int .u8 (mtu % 256))=w7 at K7 HB7 HH7 ⊢
  have hqt:=HQT.out w7 HB7.out
  obtain ⟨Q,hQ⟩:∃ Q,Q=quoteF x:=⟨_,rfl⟩
  have HQ:=Lib.hid hQ
  have HL:=Lib.hid (show Q.1.length≤68 by rw [hQ]; exact HQLEN.out)
  rw [← hQ] at hqt
  have HQ8:=Lib.hid hqt
  clear hqt hQ
  go_wp2_with fail
  refine HQ8.out.mono ?_
  rintro e w8 ⟨v8,rfl,h8,hb8⟩
  have HB8:=Lib.hid (HB7.out.trans (hb8.mono HB7.out.size))
  have k8:=K7.out.below hb8 K7.out.lt
  have HH8:=Lib.hid (HH7.out.below hb8 HH7.out.lt)
  obtain ⟨A8,c8,rfl,_⟩:=h8.form
  have hs8:=st_8s (k8.cell 6) (k8.frozen 6) A8 Q.1.length c8
  have k9:=k8.set_ 6 (.slice A8 Q.1.length c8)
  have K9:=Lib.hid (show Blk (w8.setCell ⟨gi,6,none⟩ (.slice A8 Q.1.length c8)) gi 86 (icC (errM k mtu.toNat Q.1) (.slice A8 Q.1.length c8)) from k9)
  have hu9:=upd_set w8 gi 6 (.slice A8 Q.1.length c8)
  have HB9:=Lib.hid (HB8.out.trans (hu9.below (B:=w.heap.size) (fun j (hj:j=gi)=>by have:=HGI.out; omega) HB8.out.size))
  have HH9:=Lib.hid (show Blk _ w3.heap.size 76 (hdC g (.slice Ao g.opts.length co)) from (hu9.block _ HH8.out.lt (fun (e:w3.heap.size=gi)=>by have:=HZ4.out; omega)).trans HH8.out)
  have hs9:Sl8 (w8.setCell ⟨gi,6,none⟩ (.slice A8 Q.1.length c8)) (fun _=>True) (.slice A8 Q.1.length c8) Q.1:=by
   have hgl:gi < w7.heap.size:=K7.out.lt
   have:=h8.keep (hu9.same (I:=fun j=>gi < j) fun j (hj:j=gi) hi=>by omega) fun q hq=>by have:=(h8.lt hq).1; omega
   exact row_sl this
  have HS9:=Lib.hid hs9
  clear h8 hb8 k8 k9 hu9 hs9
  go_upto_region 11 with (fail)
  clear hs8
  generalize w8.setCell ⟨gi,6,none⟩ (.slice A8 Q.1.length c8)=w9 at K9 HB9 HH9 HS9 ⊢
  have l1:=ic_load K9.out rfl
  obtain ⟨sr,hsr⟩:∃ z,z=g.src:=⟨_,rfl⟩
  have l2:=ld_u32s (show w9.cell? ⟨w3.heap.size,8,none⟩=some (.int .u32 (sr:Int)) by rw [hsr]; exact HH9.out.cell 8)
  have bd:=fun wx=>hd_build2 wx (fr:Int) (sr:Int)
  have hsn:Calls Tryz.prog 167 #[.agg (icC (errM k mtu.toNat Q.1) (.slice A8 Q.1.length c8)),.agg #[.int .u8 0,.int .u16 0,.bool false,.bool false,.bool false,.int .i64 0,.int .u8 0,.int .u8 0,.int .u32 (fr:Int),.int .u32 (sr:Int),.slice none 0 0]] w9 (BytPost w9 (bytesF (errH fr sr) (icB (errM k mtu.toNat Q.1))) 0):=send_any (errM k mtu.toNat Q.1) (.slice A8 Q.1.length c8) { hd0 with src:=fr,dst:=sr } (.slice none 0 0) (fun _=>True) w9 HS9.out (sl_nil _ _) (by show Q.1.length≤900000; have:=HL.out; omega) (errH_ok hfr (by rw [hsr]; exact HOK.out.2.2.2.2.1)) (by
   have:=HFIT.out
   rw [HQ.out,hsr]
   exact this)
  have HSN:=Lib.hid hsn
  have HSR:=Lib.hid hsr
  clear hsn hsr
  go_wp2_with fail
  refine HSN.out.mono ?_
  rintro e w10 ⟨v10,rfl,h10,hb10⟩
  obtain ⟨A10,c10,rfl,_⟩:=h10.form
  have H10:=Lib.hid (own_base h10 HB9.out.size)
  have HB10:=Lib.hid (HB9.out.trans (hb10.mono HB9.out.size))
  clear h10 hb10
  go_wp2_with fail
  go_ret2
  rw [HE9.out]
  refine ⟨_,rfl,?_,HB10.out⟩
  simp only
  rw [← HQ.out,← HSR.out]
  exact H10.out
 have b4:(k != 2)=true:=by rw [bne_iff_ne]; exact c4
 ·have hE:=HE.out
  rw [if_pos (by simp [c3,c4])] at hE
  subst hE
  clear c1 c2 c3 c4
  go_wp2_with fail
  go_ret2
  exact ⟨_,rfl,Row8.nil _ _,HB4.out⟩
end Go.Proofs.YthlommalbkhcjaaGreat
