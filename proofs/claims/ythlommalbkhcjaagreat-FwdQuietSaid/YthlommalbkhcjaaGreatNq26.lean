/- guidepostref03.Bytes. -/
import Derived.Test.YthlommalbkhcjaaGreatNq24
namespace Go.Proofs.YthlommalbkhcjaaGreat
open Go.RowKit Go.Sort Go.BigFrame
def RByΦ (h:Hd) (w0:World) (A Ap:Option Addr) (n c q cp m s4 s5 t a1 a2 a3 a12 a13 o fl:Nat) (B:Nat) (x z:By):Nat→Value→World→Prop
 | 0,u,_=>u=.int .i64 (m:Int)
 | 1,u,_=>u=.int .i64 (s4:Int)
 | 2,u,_=>u=.int .i64 (s5:Int)
 | 3,u,_=>u=.int .u64 (s5:Int)
 | 4,u,w=>Row8 B w u (putF s5 1)
 | 5,u,_=>u=.pointer (some ⟨w0.heap.size,0,none⟩)
 | 6,u,_=>u=.int .u8 (h.tos:Int)
 | 7,u,_=>u=.int .u64 (h.tos:Int)
 | 8,u,w=>Row8 B w u (putF h.tos 1)
 | 9,u,_=>u=.int .i64 (m:Int)
 | 10,u,_=>u=.slice Ap q cp
 | 11,u,_=>u=.int .i64 (q:Int)
 | 12,u,_=>u=.int .i64 (t:Int)
 | 13,u,_=>u=.int .u64 (t:Int)
 | 14,u,w=>Row8 B w u (putF t 2)
 | 15,u,_=>u=.pointer (some ⟨w0.heap.size,1,none⟩)
 | 16,u,_=>u=.int .u16 (h.id:Int)
 | 17,u,_=>u=.int .u64 (h.id:Int)
 | 18,u,w=>Row8 B w u (putF h.id 2)
 | 19,u,_=>u=.pointer (some ⟨w0.heap.size,2,none⟩)
 | 20,u,_=>u=.bool h.evil
 | 21,u,_=>u=.int .u64 (a1:Int)
 | 22,u,_=>u=.pointer (some ⟨w0.heap.size,3,none⟩)
 | 23,u,_=>u=.bool h.df
 | 24,u,_=>u=.int .u64 (a2:Int)
 | 25,u,_=>u=.int .u64 (a12:Int)
 | 26,u,_=>u=.pointer (some ⟨w0.heap.size,4,none⟩)
 | 27,u,_=>u=.bool h.mf
 | 28,u,_=>u=.int .u64 (a3:Int)
 | 29,u,_=>u=.int .u64 (a13:Int)
 | 30,u,_=>u=.pointer (some ⟨w0.heap.size,5,none⟩)
 | 31,u,_=>u=.int .i64 (o:Int)
 | 32,u,_=>u=.int .u64 (o:Int)
 | 33,u,_=>u=.int .u64 (fl:Int)
 | 34,u,w=>Row8 B w u (putF fl 2)
 | 35,u,_=>u=.pointer (some ⟨w0.heap.size,6,none⟩)
 | 36,u,_=>u=.int .u8 (h.ttl:Int)
 | 37,u,_=>u=.int .u64 (h.ttl:Int)
 | 38,u,w=>Row8 B w u (putF h.ttl 1)
 | 39,u,_=>u=.pointer (some ⟨w0.heap.size,7,none⟩)
 | 40,u,_=>u=.int .u8 (h.proto:Int)
 | 41,u,_=>u=.int .u64 (h.proto:Int)
 | 42,u,w=>Row8 B w u (putF h.proto 1)
 | 43,u,w=>Row8 B w u [0,0]
 | 44,u,_=>u=.pointer (some ⟨w0.heap.size,8,none⟩)
 | 45,u,_=>u=.int .u32 (h.src:Int)
 | 46,u,_=>u=.int .u64 (h.src:Int)
 | 47,u,w=>Row8 B w u (putF h.src 4)
 | 48,u,_=>u=.pointer (some ⟨w0.heap.size,9,none⟩)
 | 49,u,_=>u=.int .u32 (h.dst:Int)
 | 50,u,_=>u=.int .u64 (h.dst:Int)
 | 51,u,w=>Row8 B w u (putF h.dst 4)
 | 52,u,_=>u=.pointer (some ⟨w0.heap.size,10,none⟩)
 | 53,u,_=>u=.slice A n c
 | 54,u,w=>∃ (g:Nat) (us:List Value),u=.slice (some ⟨g,0,none⟩) 11 11∧Blk w g 61 us.toArray∧us.length=11∧RowsE w us [putF s5 1,putF h.tos 1,putF t 2,putF h.id 2,putF fl 2,putF h.ttl 1,putF h.proto 1,[0,0],putF h.src 4,putF h.dst 4,x]
 | 55,u,w=>Row8 B w u z
 | 56,u,w=>Row8 B w u z
 | _,_,_=>True
theorem RByΦ.keep {h:Hd} {w0:World} {A Ap:Option Addr} {n c q cp m s4 s5 t a1 a2 a3 a12 a13 o fl:Nat} {B:Nat} {x z:By} {wx wy:World} (hb:Below wx.heap.size wx wy):∀ j u,RByΦ h w0 A Ap n c q cp m s4 s5 t a1 a2 a3 a12 a13 o fl B x z j u wx→RByΦ h w0 A Ap n c q cp m s4 s5 t a1 a2 a3 a12 a13 o fl B x z j u wy:=by
 intro j u h
 unfold RByΦ at h ⊢
 split at h
 all_goals first
  | exact h
  | exact Row8.below h hb
  | (obtain ⟨g,us,h1,h2,h3,h4⟩:=h; exact ⟨g,us,h1,h2.below hb h2.lt,h3,h4.below hb⟩)
set_option maxRecDepth 100000 in
set_option maxHeartbeats 16000000 in
theorem rbytes_any (h:Hd) (v vp:Value) (p:By) (I:Nat→Prop) (w:World) (hv:Sl8 w I v h.opts) (hp:Sl8 w I vp p) (hok:h.ok) (hf:fitsH h p=true) :
  Calls Tryz.prog 63 #[hdV h v,vp] w fun e w'=>∃ v,e=.returned v∧Row8 w.heap.size w' v (bytesF h p)∧Below w.heap.size w w':=by
 unfold fitsH at hf
 obtain ⟨hmy,hpl⟩:=Bool.and_eq_true_iff.1 hf
 rw [decide_eq_true_eq] at hpl
 have hM:=may_of hmy
 have hol:=hM.l40
 obtain ⟨A,c,rfl,hc,hr⟩:=hv
 obtain ⟨Ap,cp,rfl,hcp,hrp⟩:=hp
 obtain ⟨W1,hW1⟩:∃ W1,W1=w.alloc (.cells (hdC h (.slice A h.opts.length c)) 76):=⟨_,rfl⟩
 have hb0:Below w.heap.size w W1:=by rw [hW1]; exact (Below.refl _ _).alloc (Nat.le_refl _) _
 have hkb:Blk W1 w.heap.size 76 (hdC h (.slice A h.opts.length c)):=by rw [hW1]; exact Blk.new _ _ _
 have HR:=Lib.hid hr.lt
 have HRP:=Lib.hid hrp.lt
 have HB0:=Lib.hid hb0
 obtain ⟨x,hx⟩:∃ x,x=h.opts:=⟨_,rfl⟩
 rw [← hx] at hkb HR hW1 hol hpl ⊢
 obtain ⟨n,hn⟩:∃ n,n=x.length:=⟨_,rfl⟩
 obtain ⟨q,hq⟩:∃ q,q=p.length:=⟨_,rfl⟩
 obtain ⟨R,hR⟩:∃ R,R=bytesF h p:=⟨_,rfl⟩
 rw [← hR]
 rw [← hn] at hkb HR hW1 hol hpl ⊢
 rw [← hq] at HRP hpl ⊢
 obtain ⟨o1,o2,o3,o4,o5,o6⟩:=hok
 have hfl:=flags_lt hM
 have hf0:=hM.o0
 have hf1:=hM.o1
 obtain ⟨o,ho⟩:∃ o,o=h.off.toNat:=⟨_,rfl⟩
 have hoff:h.off=(o:Int):=by omega
 obtain ⟨fl,hfe⟩:∃ fl,fl=flagsF h:=⟨_,rfl⟩
 rw [← hfe] at hfl
 obtain ⟨a1,ha1⟩:∃ a,a=bitF h.evil 32768:=⟨_,rfl⟩
 obtain ⟨a2,ha2⟩:∃ a,a=bitF h.df 16384:=⟨_,rfl⟩
 obtain ⟨a3,ha3⟩:∃ a,a=bitF h.mf 8192:=⟨_,rfl⟩
 obtain ⟨a12,ha12⟩:∃ a,a=a1+a2:=⟨_,rfl⟩
 obtain ⟨a13,ha13⟩:∃ a,a=a12+a3:=⟨_,rfl⟩
 have hflo:fl=a13+o:=by rw [hfe,ha13,ha12,ha1,ha2,ha3,ho]; rfl
 have T32:=Lib.hid (fun wx=>bit_any h.evil 32768 wx)
 have T35:=Lib.hid (fun wx=>bit_any h.df 16384 wx)
 have T39:=Lib.hid (fun wx=>bit_any h.mf 8192 wx)
 rw [← ha1] at T32
 rw [← ha2] at T35
 rw [← ha3] at T39
 obtain ⟨m,hm⟩:∃ m,m=20+n:=⟨_,rfl⟩
 obtain ⟨s4,hs4⟩:∃ s,s=m / 4:=⟨_,rfl⟩
 obtain ⟨s5,hs5⟩:∃ s,s=64+s4:=⟨_,rfl⟩
 obtain ⟨t,ht⟩:∃ t,t=m+q:=⟨_,rfl⟩
 have htl:t < 65536:=by omega
 have em:(20:Int)+(n:Int)=(m:Int):=by omega
 have e4:(m:Int) / 4=(s4:Int):=by omega
 have e4t:(m:Int).tdiv 4=(s4:Int):=by rw [Int.tdiv_eq_ediv_of_nonneg (by omega)]; exact e4
 have w4:IntKind.i64.wrap (s4:Int)=(s4:Int):=wrap_i64 _ (by omega) (by omega)
 have w5:IntKind.i64.wrap ((64:Int)+(s4:Int))=(s5:Int):=by rw [wrap_i64 _ (by omega) (by omega)]; omega
 have wt:IntKind.i64.wrap ((m:Int)+(q:Int))=(t:Int):=by rw [wrap_i64 _ (by omega) (by omega)]; omega
 have w12:IntKind.u64.wrap ((a1:Int)+(a2:Int))=(a12:Int):=by rw [wraps_u64 _ (by omega) (by omega)]; omega
 have w13:IntKind.u64.wrap ((a12:Int)+(a3:Int))=(a13:Int):=by rw [wraps_u64 _ (by omega) (by omega)]; omega
 have wfl:IntKind.u64.wrap ((a13:Int)+(o:Int))=(fl:Int):=by rw [wraps_u64 _ (by omega) (by omega)]; omega
 have u5:IntKind.u64.wrap (s5:Int)=(s5:Int):=wraps_u64 _ (by omega) (by omega)
 have ut:IntKind.u64.wrap (t:Int)=(t:Int):=wraps_u64 _ (by omega) (by omega)
 have uo:IntKind.u64.wrap (o:Int)=(o:Int):=wraps_u64 _ (by omega) (by omega)
 have u1:IntKind.u64.wrap (h.tos:Int)=(h.tos:Int):=wraps_u64 _ (by omega) (by omega)
 have u2:IntKind.u64.wrap (h.id:Int)=(h.id:Int):=wraps_u64 _ (by omega) (by omega)
 have u3:IntKind.u64.wrap (h.ttl:Int)=(h.ttl:Int):=wraps_u64 _ (by omega) (by omega)
 have u4:IntKind.u64.wrap (h.proto:Int)=(h.proto:Int):=wraps_u64 _ (by omega) (by omega)
 have u6:IntKind.u64.wrap (h.src:Int)=(h.src:Int):=wraps_u64 _ (by omega) (by omega)
 have u7:IntKind.u64.wrap (h.dst:Int)=(h.dst:Int):=wraps_u64 _ (by omega) (by omega)
 have P1:=Lib.hid (fun wx=>rput1_any s5 wx (by omega))
 have P2:=Lib.hid (fun wx=>rput1_any h.tos wx o1)
 have P3:=Lib.hid (fun wx=>rput2_any t wx htl)
 have P4:=Lib.hid (fun wx=>rput2_any h.id wx o2)
 have P5:=Lib.hid (fun wx=>rput2_any fl wx hfl)
 have P6:=Lib.hid (fun wx=>rput1_any h.ttl wx o3)
 have P7:=Lib.hid (fun wx=>rput1_any h.proto wx o4)
 have P8:=Lib.hid (fun wx=>rput4_any h.src wx (by omega))
 have P9:=Lib.hid (fun wx=>rput4_any h.dst wx (by omega))
 have hmn:(0:Int)≤m:=by omega
 obtain ⟨z,hz⟩:∃ z,z=headF h t [0,0]:=⟨_,rfl⟩
 have hzl:z.length=m:=by rw [hz,head_len,← hx,← hn,hm]
 have HXS:=Lib.hid (show ([putF s5 1,putF h.tos 1,putF t 2,putF h.id 2,putF fl 2,putF h.ttl 1,putF h.proto 1,[0,0],putF h.src 4,putF h.dst 4,x]:List By).flatten=z by
  rw [hz,hs5,hs4,hm,hfe,hn,hx]
  simp only [List.flatten_cons,List.flatten_nil,List.append_nil]
  rfl)
 have HZL:=Lib.hid (show z.length≤1000 by omega)
 have HZM:=Lib.hid hzl
 have HZ:=Lib.hid hz
 have HRR:=Lib.hid hR
 have HN:=Lib.hid hn
 have HX:=Lib.hid hx
 have HQ:=Lib.hid hq
 have HM:=Lib.hid hm
 have HT:=Lib.hid ht
 have HTL:=Lib.hid htl
 have HC:=Lib.hid (show n≤c by rw [hn,hx]; exact hc)
 have HOFF:=Lib.hid hoff
 unfold hdC at hkb hW1
 rw [hoff] at hkb hW1
 unfold hdV
 rw [hoff]
 have HK:=Lib.hid hkb
 have HW1:=Lib.hid hW1
 obtain ⟨B,hB⟩:∃ B,B=W1.heap.size:=⟨_,rfl⟩
 have HBB:=Lib.hid (Nat.le_of_eq hB)
 have HBE:=Lib.hid hB
 clear hb0 hkb hr hrp hcp hf hmy hM hm hn hq hR hfe hs4 hs5 ht o1 o2 o3 o4 o5 o6 hx hz hzl hW1 hc hoff ho ha1 ha2 ha3 ha12 ha13 hflo hf0 hf1 hB hfl htl hpl
 go_enter Tryz.func63,Tryz.ntmps63
 go_upto_region 1 with (fail)
 rw [← HW1.out]
 have c10:W1.cell? ⟨w.heap.size,10,none⟩=some (.slice A n c):=HK.out.cell 10
 go_wp2_with fail
 clear c10
 refine wp_region_rel (by kernel_rfl) (fun p q=>Below W1.heap.size p q) (RByΦ h w A Ap n c q cp m s4 s5 t a1 a2 a3 a12 a13 o fl B x z) 57 (fun _ _=>True) (fun _ _=>false) (by kernel_rfl) (fun p=>Below.refl _ p) (fun h k=>h.trans k) (obl_of ?_) (fun o h=>by cases h) ?_
 ·refine ⟨fun _=>?_,fun _=>?_,fun _=>?_,fun _=>?_,fun _=>?_,fun _=>?_,fun _=>?_,fun _=>?_,fun _=>?_,fun _=>?_,fun _=>?_,fun _=>?_,fun _=>?_,fun _=>?_,fun _=>?_,fun _=>?_,fun _=>?_,fun _=>?_,fun _=>?_,fun _=>?_,fun _=>?_,fun _=>?_,fun _=>?_,fun _=>?_,fun _=>?_,fun _=>?_,fun _=>?_,fun _=>?_,fun _=>?_,fun _=>?_,fun _=>?_,fun _=>?_,fun _=>?_,fun _=>?_,fun _=>?_,fun _=>?_,fun _=>?_,fun _=>?_,fun _=>?_,fun _=>?_,fun _=>?_,fun _=>?_,fun _=>?_,fun _=>?_,fun _=>?_,fun _=>?_,fun _=>?_,fun _=>?_,fun _=>?_,fun _=>?_,fun _=>?_,fun _=>?_,fun _=>?_,fun _=>?_,fun _=>?_,fun _=>?_,fun _=>?_,trivial⟩
  ·
   intro val wx hg hd hb hs K hK
   generalize hρ:rhoV _ _ val=ρ
   have cc:∀ u,ρ (.const u)=u:=fun u=>by rw [← hρ]; rfl
   have ff:∀ u,ρ (.func u)=.func (.func u) #[] #[]:=fun u=>by rw [← hρ]; rfl
   have r5:ρ (.tmp 5)=.int .i64 (m:Int):=by rw [← hρ]; rfl
   clear hρ hd hb hs
   refine ifv rfl ?_
   go_simp
   exact hK _ _ (Below.refl _ _) rfl fun _ _ _ _ h=>h
  ·
   intro val wx hg hd hb hs K hK
   generalize hρ:rhoV _ _ val=ρ
   have cc:∀ u,ρ (.const u)=u:=fun u=>by rw [← hρ]; rfl
   have ff:∀ u,ρ (.func u)=.func (.func u) #[] #[]:=fun u=>by rw [← hρ]; rfl
   have r11:ρ (.tmp 11)=.int .i64 (m:Int):=by rw [← hρ]; exact hd 0 rfl rfl
   clear hρ hd hb hs
   refine ifv rfl ?_
   go_simp
   exact hK _ _ (Below.refl _ _) rfl fun _ _ _ _ h=>h
  ·
   intro val wx hg hd hb hs K hK
   generalize hρ:rhoV _ _ val=ρ
   have cc:∀ u,ρ (.const u)=u:=fun u=>by rw [← hρ]; rfl
   have ff:∀ u,ρ (.func u)=.func (.func u) #[] #[]:=fun u=>by rw [← hρ]; rfl
   have r12:ρ (.tmp 12)=.int .i64 (s4:Int):=by rw [← hρ]; exact hd 1 rfl rfl
   clear hρ hd hb hs
   refine ifv rfl ?_
   go_simp
   exact hK _ _ (Below.refl _ _) rfl fun _ _ _ _ h=>h
  ·
   intro val wx hg hd hb hs K hK
   generalize hρ:rhoV _ _ val=ρ
   have cc:∀ u,ρ (.const u)=u:=fun u=>by rw [← hρ]; rfl
   have ff:∀ u,ρ (.func u)=.func (.func u) #[] #[]:=fun u=>by rw [← hρ]; rfl
   have r13:ρ (.tmp 13)=.int .i64 (s5:Int):=by rw [← hρ]; exact hd 2 rfl rfl
   clear hρ hd hb hs
   refine ifv rfl ?_
   go_simp
   exact hK _ _ (Below.refl _ _) rfl fun _ _ _ _ h=>h
  ·
   intro val wx hg hd hb hs K hK
   generalize hρ:rhoV _ _ val=ρ
   have cc:∀ u,ρ (.const u)=u:=fun u=>by rw [← hρ]; rfl
   have ff:∀ u,ρ (.func u)=.func (.func u) #[] #[]:=fun u=>by rw [← hρ]; rfl
   have r14:ρ (.tmp 14)=.int .u64 (s5:Int):=by rw [← hρ]; exact hd 3 rfl rfl
   have hc:=P1.out wx
   have hwb:B≤wx.heap.size:=Nat.le_trans HBB.out hg.size
   have hwz:W1.heap.size≤wx.heap.size:=hg.size
   clear hρ hd hb hs
   refine ifv rfl ?_
   go_simp
   refine hc.mono ?_
   rintro e w2 ⟨v2,rfl,h2,hb2⟩
   exact ⟨_,rfl,hK _ _ (hb2.mono hwz) (own_base h2 hwb) fun j _ _ _ h=>RByΦ.keep hb2 j _ h⟩
  ·
   intro val wx hg hd hb hs K hK
   generalize hρ:rhoV _ _ val=ρ
   have cc:∀ u,ρ (.const u)=u:=fun u=>by rw [← hρ]; rfl
   have ff:∀ u,ρ (.func u)=.func (.func u) #[] #[]:=fun u=>by rw [← hρ]; rfl
   have r2:ρ (.tmp 2)=.pointer (some ⟨w.heap.size,0,none⟩):=by rw [← hρ]; rfl
   clear hρ hd hb hs
   refine ifv rfl ?_
   go_simp
   exact hK _ _ (Below.refl _ _) rfl fun _ _ _ _ h=>h
  ·
   intro val wx hg hd hb hs K hK
   generalize hρ:rhoV _ _ val=ρ
   have cc:∀ u,ρ (.const u)=u:=fun u=>by rw [← hρ]; rfl
   have ff:∀ u,ρ (.func u)=.func (.func u) #[] #[]:=fun u=>by rw [← hρ]; rfl
   have r16:ρ (.tmp 16)=.pointer (some ⟨w.heap.size,0,none⟩):=by rw [← hρ]; exact hd 5 rfl rfl
   have g0:wx.cell? ⟨w.heap.size,0,none⟩=some (.int .u8 (h.tos:Int)):=(Below.cell (show Below W1.heap.size W1 wx from ⟨hg.os,hg.tape,hg.output,hg.size,hg.block⟩) (p:=⟨w.heap.size,0,none⟩) HK.out.lt).trans (HK.out.cell 0)
   clear hρ hd hb hs
   refine ifv rfl ?_
   go_simp
   exact hK _ _ (Below.refl _ _) rfl fun _ _ _ _ h=>h
  ·
   intro val wx hg hd hb hs K hK
   generalize hρ:rhoV _ _ val=ρ
   have cc:∀ u,ρ (.const u)=u:=fun u=>by rw [← hρ]; rfl
   have ff:∀ u,ρ (.func u)=.func (.func u) #[] #[]:=fun u=>by rw [← hρ]; rfl
   have r17:ρ (.tmp 17)=.int .u8 (h.tos:Int):=by rw [← hρ]; exact hd 6 rfl rfl
   clear hρ hd hb hs
   refine ifv rfl ?_
   go_simp
   exact hK _ _ (Below.refl _ _) rfl fun _ _ _ _ h=>h
  ·
   intro val wx hg hd hb hs K hK
   generalize hρ:rhoV _ _ val=ρ
   have cc:∀ u,ρ (.const u)=u:=fun u=>by rw [← hρ]; rfl
   have ff:∀ u,ρ (.func u)=.func (.func u) #[] #[]:=fun u=>by rw [← hρ]; rfl
   have r18:ρ (.tmp 18)=.int .u64 (h.tos:Int):=by rw [← hρ]; exact hd 7 rfl rfl
   have hc:=P2.out wx
   have hwb:B≤wx.heap.size:=Nat.le_trans HBB.out hg.size
   have hwz:W1.heap.size≤wx.heap.size:=hg.size
   clear hρ hd hb hs
   refine ifv rfl ?_
   go_simp
   refine hc.mono ?_
   rintro e w2 ⟨v2,rfl,h2,hb2⟩
   exact ⟨_,rfl,hK _ _ (hb2.mono hwz) (own_base h2 hwb) fun j _ _ _ h=>RByΦ.keep hb2 j _ h⟩
  ·
   intro val wx hg hd hb hs K hK
   generalize hρ:rhoV _ _ val=ρ
   have cc:∀ u,ρ (.const u)=u:=fun u=>by rw [← hρ]; rfl
   have ff:∀ u,ρ (.func u)=.func (.func u) #[] #[]:=fun u=>by rw [← hρ]; rfl
   have r5:ρ (.tmp 5)=.int .i64 (m:Int):=by rw [← hρ]; rfl
   clear hρ hd hb hs
   refine ifv rfl ?_
   go_simp
   exact hK _ _ (Below.refl _ _) rfl fun _ _ _ _ h=>h
  ·
   intro val wx hg hd hb hs K hK
   generalize hρ:rhoV _ _ val=ρ
   have cc:∀ u,ρ (.const u)=u:=fun u=>by rw [← hρ]; rfl
   have ff:∀ u,ρ (.func u)=.func (.func u) #[] #[]:=fun u=>by rw [← hρ]; rfl
   have r1:ρ (.tmp 1)=.slice Ap q cp:=by rw [← hρ]; rfl
   clear hρ hd hb hs
   refine ifv rfl ?_
   go_simp
   exact hK _ _ (Below.refl _ _) rfl fun _ _ _ _ h=>h
  ·
   intro val wx hg hd hb hs K hK
   generalize hρ:rhoV _ _ val=ρ
   have cc:∀ u,ρ (.const u)=u:=fun u=>by rw [← hρ]; rfl
   have ff:∀ u,ρ (.func u)=.func (.func u) #[] #[]:=fun u=>by rw [← hρ]; rfl
   have r21:ρ (.tmp 21)=.slice Ap q cp:=by rw [← hρ]; exact hd 10 rfl rfl
   clear hρ hd hb hs
   refine ifv rfl ?_
   go_simp
   exact hK _ _ (Below.refl _ _) rfl fun _ _ _ _ h=>h
  ·
   intro val wx hg hd hb hs K hK
   generalize hρ:rhoV _ _ val=ρ
   have cc:∀ u,ρ (.const u)=u:=fun u=>by rw [← hρ]; rfl
   have ff:∀ u,ρ (.func u)=.func (.func u) #[] #[]:=fun u=>by rw [← hρ]; rfl
   have r20:ρ (.tmp 20)=.int .i64 (m:Int):=by rw [← hρ]; exact hd 9 rfl rfl
   have r22:ρ (.tmp 22)=.int .i64 (q:Int):=by rw [← hρ]; exact hd 11 rfl rfl
   clear hρ hd hb hs
   refine ifv rfl ?_
   go_simp
   exact hK _ _ (Below.refl _ _) rfl fun _ _ _ _ h=>h
  ·
   intro val wx hg hd hb hs K hK
   generalize hρ:rhoV _ _ val=ρ
   have cc:∀ u,ρ (.const u)=u:=fun u=>by rw [← hρ]; rfl
   have ff:∀ u,ρ (.func u)=.func (.func u) #[] #[]:=fun u=>by rw [← hρ]; rfl
   have r23:ρ (.tmp 23)=.int .i64 (t:Int):=by rw [← hρ]; exact hd 12 rfl rfl
   clear hρ hd hb hs
   refine ifv rfl ?_
   go_simp
   exact hK _ _ (Below.refl _ _) rfl fun _ _ _ _ h=>h
  ·
   intro val wx hg hd hb hs K hK
   generalize hρ:rhoV _ _ val=ρ
   have cc:∀ u,ρ (.const u)=u:=fun u=>by rw [← hρ]; rfl
   have ff:∀ u,ρ (.func u)=.func (.func u) #[] #[]:=fun u=>by rw [← hρ]; rfl
   have r24:ρ (.tmp 24)=.int .u64 (t:Int):=by rw [← hρ]; exact hd 13 rfl rfl
   have hc:=P3.out wx
   have hwb:B≤wx.heap.size:=Nat.le_trans HBB.out hg.size
   have hwz:W1.heap.size≤wx.heap.size:=hg.size
   clear hρ hd hb hs
   refine ifv rfl ?_
   go_simp
   refine hc.mono ?_
   rintro e w2 ⟨v2,rfl,h2,hb2⟩
   exact ⟨_,rfl,hK _ _ (hb2.mono hwz) (own_base h2 hwb) fun j _ _ _ h=>RByΦ.keep hb2 j _ h⟩
  ·
   intro val wx hg hd hb hs K hK
   generalize hρ:rhoV _ _ val=ρ
   have cc:∀ u,ρ (.const u)=u:=fun u=>by rw [← hρ]; rfl
   have ff:∀ u,ρ (.func u)=.func (.func u) #[] #[]:=fun u=>by rw [← hρ]; rfl
   have r2:ρ (.tmp 2)=.pointer (some ⟨w.heap.size,0,none⟩):=by rw [← hρ]; rfl
   clear hρ hd hb hs
   refine ifv rfl ?_
   go_simp
   exact hK _ _ (Below.refl _ _) rfl fun _ _ _ _ h=>h
  ·
   intro val wx hg hd hb hs K hK
   generalize hρ:rhoV _ _ val=ρ
   have cc:∀ u,ρ (.const u)=u:=fun u=>by rw [← hρ]; rfl
   have ff:∀ u,ρ (.func u)=.func (.func u) #[] #[]:=fun u=>by rw [← hρ]; rfl
   have r26:ρ (.tmp 26)=.pointer (some ⟨w.heap.size,1,none⟩):=by rw [← hρ]; exact hd 15 rfl rfl
   have g0:wx.cell? ⟨w.heap.size,1,none⟩=some (.int .u16 (h.id:Int)):=(Below.cell (show Below W1.heap.size W1 wx from ⟨hg.os,hg.tape,hg.output,hg.size,hg.block⟩) (p:=⟨w.heap.size,1,none⟩) HK.out.lt).trans (HK.out.cell 1)
   clear hρ hd hb hs
   refine ifv rfl ?_
   go_simp
   exact hK _ _ (Below.refl _ _) rfl fun _ _ _ _ h=>h
  ·
   intro val wx hg hd hb hs K hK
   generalize hρ:rhoV _ _ val=ρ
   have cc:∀ u,ρ (.const u)=u:=fun u=>by rw [← hρ]; rfl
   have ff:∀ u,ρ (.func u)=.func (.func u) #[] #[]:=fun u=>by rw [← hρ]; rfl
   have r27:ρ (.tmp 27)=.int .u16 (h.id:Int):=by rw [← hρ]; exact hd 16 rfl rfl
   clear hρ hd hb hs
   refine ifv rfl ?_
   go_simp
   exact hK _ _ (Below.refl _ _) rfl fun _ _ _ _ h=>h
  ·
   intro val wx hg hd hb hs K hK
   generalize hρ:rhoV _ _ val=ρ
   have cc:∀ u,ρ (.const u)=u:=fun u=>by rw [← hρ]; rfl
   have ff:∀ u,ρ (.func u)=.func (.func u) #[] #[]:=fun u=>by rw [← hρ]; rfl
   have r28:ρ (.tmp 28)=.int .u64 (h.id:Int):=by rw [← hρ]; exact hd 17 rfl rfl
   have hc:=P4.out wx
   have hwb:B≤wx.heap.size:=Nat.le_trans HBB.out hg.size
   have hwz:W1.heap.size≤wx.heap.size:=hg.size
   clear hρ hd hb hs
   refine ifv rfl ?_
   go_simp
   refine hc.mono ?_
   rintro e w2 ⟨v2,rfl,h2,hb2⟩
   exact ⟨_,rfl,hK _ _ (hb2.mono hwz) (own_base h2 hwb) fun j _ _ _ h=>RByΦ.keep hb2 j _ h⟩
  ·
   intro val wx hg hd hb hs K hK
   generalize hρ:rhoV _ _ val=ρ
   have cc:∀ u,ρ (.const u)=u:=fun u=>by rw [← hρ]; rfl
   have ff:∀ u,ρ (.func u)=.func (.func u) #[] #[]:=fun u=>by rw [← hρ]; rfl
   have r2:ρ (.tmp 2)=.pointer (some ⟨w.heap.size,0,none⟩):=by rw [← hρ]; rfl
   clear hρ hd hb hs
   refine ifv rfl ?_
   go_simp
   exact hK _ _ (Below.refl _ _) rfl fun _ _ _ _ h=>h
  ·
   intro val wx hg hd hb hs K hK
   generalize hρ:rhoV _ _ val=ρ
   have cc:∀ u,ρ (.const u)=u:=fun u=>by rw [← hρ]; rfl
   have ff:∀ u,ρ (.func u)=.func (.func u) #[] #[]:=fun u=>by rw [← hρ]; rfl
   have r30:ρ (.tmp 30)=.pointer (some ⟨w.heap.size,2,none⟩):=by rw [← hρ]; exact hd 19 rfl rfl
   have g0:wx.cell? ⟨w.heap.size,2,none⟩=some (.bool h.evil):=(Below.cell (show Below W1.heap.size W1 wx from ⟨hg.os,hg.tape,hg.output,hg.size,hg.block⟩) (p:=⟨w.heap.size,2,none⟩) HK.out.lt).trans (HK.out.cell 2)
   clear hρ hd hb hs
   refine ifv rfl ?_
   go_simp
   exact hK _ _ (Below.refl _ _) rfl fun _ _ _ _ h=>h
  ·
   intro val wx hg hd hb hs K hK
   generalize hρ:rhoV _ _ val=ρ
   have cc:∀ u,ρ (.const u)=u:=fun u=>by rw [← hρ]; rfl
   have ff:∀ u,ρ (.func u)=.func (.func u) #[] #[]:=fun u=>by rw [← hρ]; rfl
   have r31:ρ (.tmp 31)=.bool h.evil:=by rw [← hρ]; exact hd 20 rfl rfl
   have hc:=T32.out wx
   clear hρ hd hb hs
   refine ifv rfl ?_
   go_simp
   refine hc.mono ?_
   rintro e w2 ⟨rfl,rfl⟩
   exact ⟨_,rfl,hK _ _ (Below.refl _ _) rfl fun _ _ _ _ h=>h⟩
  ·
   intro val wx hg hd hb hs K hK
   generalize hρ:rhoV _ _ val=ρ
   have cc:∀ u,ρ (.const u)=u:=fun u=>by rw [← hρ]; rfl
   have ff:∀ u,ρ (.func u)=.func (.func u) #[] #[]:=fun u=>by rw [← hρ]; rfl
   have r2:ρ (.tmp 2)=.pointer (some ⟨w.heap.size,0,none⟩):=by rw [← hρ]; rfl
   clear hρ hd hb hs
   refine ifv rfl ?_
   go_simp
   exact hK _ _ (Below.refl _ _) rfl fun _ _ _ _ h=>h
  ·
   intro val wx hg hd hb hs K hK
   generalize hρ:rhoV _ _ val=ρ
   have cc:∀ u,ρ (.const u)=u:=fun u=>by rw [← hρ]; rfl
   have ff:∀ u,ρ (.func u)=.func (.func u) #[] #[]:=fun u=>by rw [← hρ]; rfl
   have r33:ρ (.tmp 33)=.pointer (some ⟨w.heap.size,3,none⟩):=by rw [← hρ]; exact hd 22 rfl rfl
   have g0:wx.cell? ⟨w.heap.size,3,none⟩=some (.bool h.df):=(Below.cell (show Below W1.heap.size W1 wx from ⟨hg.os,hg.tape,hg.output,hg.size,hg.block⟩) (p:=⟨w.heap.size,3,none⟩) HK.out.lt).trans (HK.out.cell 3)
   clear hρ hd hb hs
   refine ifv rfl ?_
   go_simp
   exact hK _ _ (Below.refl _ _) rfl fun _ _ _ _ h=>h
  ·
   intro val wx hg hd hb hs K hK
   generalize hρ:rhoV _ _ val=ρ
   have cc:∀ u,ρ (.const u)=u:=fun u=>by rw [← hρ]; rfl
   have ff:∀ u,ρ (.func u)=.func (.func u) #[] #[]:=fun u=>by rw [← hρ]; rfl
   have r34:ρ (.tmp 34)=.bool h.df:=by rw [← hρ]; exact hd 23 rfl rfl
   have hc:=T35.out wx
   clear hρ hd hb hs
   refine ifv rfl ?_
   go_simp
   refine hc.mono ?_
   rintro e w2 ⟨rfl,rfl⟩
   exact ⟨_,rfl,hK _ _ (Below.refl _ _) rfl fun _ _ _ _ h=>h⟩
  ·
   intro val wx hg hd hb hs K hK
   generalize hρ:rhoV _ _ val=ρ
   have cc:∀ u,ρ (.const u)=u:=fun u=>by rw [← hρ]; rfl
   have ff:∀ u,ρ (.func u)=.func (.func u) #[] #[]:=fun u=>by rw [← hρ]; rfl
   have r32:ρ (.tmp 32)=.int .u64 (a1:Int):=by rw [← hρ]; exact hd 21 rfl rfl
   have r35:ρ (.tmp 35)=.int .u64 (a2:Int):=by rw [← hρ]; exact hd 24 rfl rfl
   clear hρ hd hb hs
   refine ifv rfl ?_
   go_simp
   exact hK _ _ (Below.refl _ _) rfl fun _ _ _ _ h=>h
  ·
   intro val wx hg hd hb hs K hK
   generalize hρ:rhoV _ _ val=ρ
   have cc:∀ u,ρ (.const u)=u:=fun u=>by rw [← hρ]; rfl
   have ff:∀ u,ρ (.func u)=.func (.func u) #[] #[]:=fun u=>by rw [← hρ]; rfl
   have r2:ρ (.tmp 2)=.pointer (some ⟨w.heap.size,0,none⟩):=by rw [← hρ]; rfl
   clear hρ hd hb hs
   refine ifv rfl ?_
   go_simp
   exact hK _ _ (Below.refl _ _) rfl fun _ _ _ _ h=>h
  ·
   intro val wx hg hd hb hs K hK
   generalize hρ:rhoV _ _ val=ρ
   have cc:∀ u,ρ (.const u)=u:=fun u=>by rw [← hρ]; rfl
   have ff:∀ u,ρ (.func u)=.func (.func u) #[] #[]:=fun u=>by rw [← hρ]; rfl
   have r37:ρ (.tmp 37)=.pointer (some ⟨w.heap.size,4,none⟩):=by rw [← hρ]; exact hd 26 rfl rfl
   have g0:wx.cell? ⟨w.heap.size,4,none⟩=some (.bool h.mf):=(Below.cell (show Below W1.heap.size W1 wx from ⟨hg.os,hg.tape,hg.output,hg.size,hg.block⟩) (p:=⟨w.heap.size,4,none⟩) HK.out.lt).trans (HK.out.cell 4)
   clear hρ hd hb hs
   refine ifv rfl ?_
   go_simp
   exact hK _ _ (Below.refl _ _) rfl fun _ _ _ _ h=>h
  ·
   intro val wx hg hd hb hs K hK
   generalize hρ:rhoV _ _ val=ρ
   have cc:∀ u,ρ (.const u)=u:=fun u=>by rw [← hρ]; rfl
   have ff:∀ u,ρ (.func u)=.func (.func u) #[] #[]:=fun u=>by rw [← hρ]; rfl
   have r38:ρ (.tmp 38)=.bool h.mf:=by rw [← hρ]; exact hd 27 rfl rfl
   have hc:=T39.out wx
   clear hρ hd hb hs
   refine ifv rfl ?_
   go_simp
   refine hc.mono ?_
   rintro e w2 ⟨rfl,rfl⟩
   exact ⟨_,rfl,hK _ _ (Below.refl _ _) rfl fun _ _ _ _ h=>h⟩
  ·
   intro val wx hg hd hb hs K hK
   generalize hρ:rhoV _ _ val=ρ
   have cc:∀ u,ρ (.const u)=u:=fun u=>by rw [← hρ]; rfl
   have ff:∀ u,ρ (.func u)=.func (.func u) #[] #[]:=fun u=>by rw [← hρ]; rfl
   have r36:ρ (.tmp 36)=.int .u64 (a12:Int):=by rw [← hρ]; exact hd 25 rfl rfl
   have r39:ρ (.tmp 39)=.int .u64 (a3:Int):=by rw [← hρ]; exact hd 28 rfl rfl
   clear hρ hd hb hs
   refine ifv rfl ?_
   go_simp
   exact hK _ _ (Below.refl _ _) rfl fun _ _ _ _ h=>h
  ·
   intro val wx hg hd hb hs K hK
   generalize hρ:rhoV _ _ val=ρ
   have cc:∀ u,ρ (.const u)=u:=fun u=>by rw [← hρ]; rfl
   have ff:∀ u,ρ (.func u)=.func (.func u) #[] #[]:=fun u=>by rw [← hρ]; rfl
   have r2:ρ (.tmp 2)=.pointer (some ⟨w.heap.size,0,none⟩):=by rw [← hρ]; rfl
   clear hρ hd hb hs
   refine ifv rfl ?_
   go_simp
   exact hK _ _ (Below.refl _ _) rfl fun _ _ _ _ h=>h
  ·
   intro val wx hg hd hb hs K hK
   generalize hρ:rhoV _ _ val=ρ
   have cc:∀ u,ρ (.const u)=u:=fun u=>by rw [← hρ]; rfl
   have ff:∀ u,ρ (.func u)=.func (.func u) #[] #[]:=fun u=>by rw [← hρ]; rfl
   have r41:ρ (.tmp 41)=.pointer (some ⟨w.heap.size,5,none⟩):=by rw [← hρ]; exact hd 30 rfl rfl
   have g0:wx.cell? ⟨w.heap.size,5,none⟩=some (.int .i64 (o:Int)):=(Below.cell (show Below W1.heap.size W1 wx from ⟨hg.os,hg.tape,hg.output,hg.size,hg.block⟩) (p:=⟨w.heap.size,5,none⟩) HK.out.lt).trans (HK.out.cell 5)
   clear hρ hd hb hs
   refine ifv rfl ?_
   go_simp
   exact hK _ _ (Below.refl _ _) rfl fun _ _ _ _ h=>h
  ·
   intro val wx hg hd hb hs K hK
   generalize hρ:rhoV _ _ val=ρ
   have cc:∀ u,ρ (.const u)=u:=fun u=>by rw [← hρ]; rfl
   have ff:∀ u,ρ (.func u)=.func (.func u) #[] #[]:=fun u=>by rw [← hρ]; rfl
   have r42:ρ (.tmp 42)=.int .i64 (o:Int):=by rw [← hρ]; exact hd 31 rfl rfl
   clear hρ hd hb hs
   refine ifv rfl ?_
   go_simp
   exact hK _ _ (Below.refl _ _) rfl fun _ _ _ _ h=>h
  ·
   intro val wx hg hd hb hs K hK
   generalize hρ:rhoV _ _ val=ρ
   have cc:∀ u,ρ (.const u)=u:=fun u=>by rw [← hρ]; rfl
   have ff:∀ u,ρ (.func u)=.func (.func u) #[] #[]:=fun u=>by rw [← hρ]; rfl
   have r40:ρ (.tmp 40)=.int .u64 (a13:Int):=by rw [← hρ]; exact hd 29 rfl rfl
   have r43:ρ (.tmp 43)=.int .u64 (o:Int):=by rw [← hρ]; exact hd 32 rfl rfl
   clear hρ hd hb hs
   refine ifv rfl ?_
   go_simp
   exact hK _ _ (Below.refl _ _) rfl fun _ _ _ _ h=>h
  ·
   intro val wx hg hd hb hs K hK
   generalize hρ:rhoV _ _ val=ρ
   have cc:∀ u,ρ (.const u)=u:=fun u=>by rw [← hρ]; rfl
   have ff:∀ u,ρ (.func u)=.func (.func u) #[] #[]:=fun u=>by rw [← hρ]; rfl
   have r44:ρ (.tmp 44)=.int .u64 (fl:Int):=by rw [← hρ]; exact hd 33 rfl rfl
   have hc:=P5.out wx
   have hwb:B≤wx.heap.size:=Nat.le_trans HBB.out hg.size
   have hwz:W1.heap.size≤wx.heap.size:=hg.size
   clear hρ hd hb hs
   refine ifv rfl ?_
   go_simp
   refine hc.mono ?_
   rintro e w2 ⟨v2,rfl,h2,hb2⟩
   exact ⟨_,rfl,hK _ _ (hb2.mono hwz) (own_base h2 hwb) fun j _ _ _ h=>RByΦ.keep hb2 j _ h⟩
  ·
   intro val wx hg hd hb hs K hK
   generalize hρ:rhoV _ _ val=ρ
   have cc:∀ u,ρ (.const u)=u:=fun u=>by rw [← hρ]; rfl
   have ff:∀ u,ρ (.func u)=.func (.func u) #[] #[]:=fun u=>by rw [← hρ]; rfl
   have r2:ρ (.tmp 2)=.pointer (some ⟨w.heap.size,0,none⟩):=by rw [← hρ]; rfl
   clear hρ hd hb hs
   refine ifv rfl ?_
   go_simp
   exact hK _ _ (Below.refl _ _) rfl fun _ _ _ _ h=>h
  ·
   intro val wx hg hd hb hs K hK
   generalize hρ:rhoV _ _ val=ρ
   have cc:∀ u,ρ (.const u)=u:=fun u=>by rw [← hρ]; rfl
   have ff:∀ u,ρ (.func u)=.func (.func u) #[] #[]:=fun u=>by rw [← hρ]; rfl
   have r46:ρ (.tmp 46)=.pointer (some ⟨w.heap.size,6,none⟩):=by rw [← hρ]; exact hd 35 rfl rfl
   have g0:wx.cell? ⟨w.heap.size,6,none⟩=some (.int .u8 (h.ttl:Int)):=(Below.cell (show Below W1.heap.size W1 wx from ⟨hg.os,hg.tape,hg.output,hg.size,hg.block⟩) (p:=⟨w.heap.size,6,none⟩) HK.out.lt).trans (HK.out.cell 6)
   clear hρ hd hb hs
   refine ifv rfl ?_
   go_simp
   exact hK _ _ (Below.refl _ _) rfl fun _ _ _ _ h=>h
  ·
   intro val wx hg hd hb hs K hK
   generalize hρ:rhoV _ _ val=ρ
   have cc:∀ u,ρ (.const u)=u:=fun u=>by rw [← hρ]; rfl
   have ff:∀ u,ρ (.func u)=.func (.func u) #[] #[]:=fun u=>by rw [← hρ]; rfl
   have r47:ρ (.tmp 47)=.int .u8 (h.ttl:Int):=by rw [← hρ]; exact hd 36 rfl rfl
   clear hρ hd hb hs
   refine ifv rfl ?_
   go_simp
   exact hK _ _ (Below.refl _ _) rfl fun _ _ _ _ h=>h
  ·
   intro val wx hg hd hb hs K hK
   generalize hρ:rhoV _ _ val=ρ
   have cc:∀ u,ρ (.const u)=u:=fun u=>by rw [← hρ]; rfl
   have ff:∀ u,ρ (.func u)=.func (.func u) #[] #[]:=fun u=>by rw [← hρ]; rfl
   have r48:ρ (.tmp 48)=.int .u64 (h.ttl:Int):=by rw [← hρ]; exact hd 37 rfl rfl
   have hc:=P6.out wx
   have hwb:B≤wx.heap.size:=Nat.le_trans HBB.out hg.size
   have hwz:W1.heap.size≤wx.heap.size:=hg.size
   clear hρ hd hb hs
   refine ifv rfl ?_
   go_simp
   refine hc.mono ?_
   rintro e w2 ⟨v2,rfl,h2,hb2⟩
   exact ⟨_,rfl,hK _ _ (hb2.mono hwz) (own_base h2 hwb) fun j _ _ _ h=>RByΦ.keep hb2 j _ h⟩
  ·
   intro val wx hg hd hb hs K hK
   generalize hρ:rhoV _ _ val=ρ
   have cc:∀ u,ρ (.const u)=u:=fun u=>by rw [← hρ]; rfl
   have ff:∀ u,ρ (.func u)=.func (.func u) #[] #[]:=fun u=>by rw [← hρ]; rfl
   have r2:ρ (.tmp 2)=.pointer (some ⟨w.heap.size,0,none⟩):=by rw [← hρ]; rfl
   clear hρ hd hb hs
   refine ifv rfl ?_
   go_simp
   exact hK _ _ (Below.refl _ _) rfl fun _ _ _ _ h=>h
  ·
   intro val wx hg hd hb hs K hK
   generalize hρ:rhoV _ _ val=ρ
   have cc:∀ u,ρ (.const u)=u:=fun u=>by rw [← hρ]; rfl
   have ff:∀ u,ρ (.func u)=.func (.func u) #[] #[]:=fun u=>by rw [← hρ]; rfl
   have r50:ρ (.tmp 50)=.pointer (some ⟨w.heap.size,7,none⟩):=by rw [← hρ]; exact hd 39 rfl rfl
   have g0:wx.cell? ⟨w.heap.size,7,none⟩=some (.int .u8 (h.proto:Int)):=(Below.cell (show Below W1.heap.size W1 wx from ⟨hg.os,hg.tape,hg.output,hg.size,hg.block⟩) (p:=⟨w.heap.size,7,none⟩) HK.out.lt).trans (HK.out.cell 7)
   clear hρ hd hb hs
   refine ifv rfl ?_
   go_simp
   exact hK _ _ (Below.refl _ _) rfl fun _ _ _ _ h=>h
  ·
   intro val wx hg hd hb hs K hK
   generalize hρ:rhoV _ _ val=ρ
   have cc:∀ u,ρ (.const u)=u:=fun u=>by rw [← hρ]; rfl
   have ff:∀ u,ρ (.func u)=.func (.func u) #[] #[]:=fun u=>by rw [← hρ]; rfl
   have r51:ρ (.tmp 51)=.int .u8 (h.proto:Int):=by rw [← hρ]; exact hd 40 rfl rfl
   clear hρ hd hb hs
   refine ifv rfl ?_
   go_simp
   exact hK _ _ (Below.refl _ _) rfl fun _ _ _ _ h=>h
  ·
   intro val wx hg hd hb hs K hK
   generalize hρ:rhoV _ _ val=ρ
   have cc:∀ u,ρ (.const u)=u:=fun u=>by rw [← hρ]; rfl
   have ff:∀ u,ρ (.func u)=.func (.func u) #[] #[]:=fun u=>by rw [← hρ]; rfl
   have r52:ρ (.tmp 52)=.int .u64 (h.proto:Int):=by rw [← hρ]; exact hd 41 rfl rfl
   have hc:=P7.out wx
   have hwb:B≤wx.heap.size:=Nat.le_trans HBB.out hg.size
   have hwz:W1.heap.size≤wx.heap.size:=hg.size
   clear hρ hd hb hs
   refine ifv rfl ?_
   go_simp
   refine hc.mono ?_
   rintro e w2 ⟨v2,rfl,h2,hb2⟩
   exact ⟨_,rfl,hK _ _ (hb2.mono hwz) (own_base h2 hwb) fun j _ _ _ h=>RByΦ.keep hb2 j _ h⟩
  ·
   intro val wx hg hd hb hs K hK
   generalize hρ:rhoV _ _ val=ρ
   have cc:∀ u,ρ (.const u)=u:=fun u=>by rw [← hρ]; rfl
   have ff:∀ u,ρ (.func u)=.func (.func u) #[] #[]:=fun u=>by rw [← hρ]; rfl
   have hwb:B≤wx.heap.size:=Nat.le_trans HBB.out hg.size
   have hwz:W1.heap.size≤wx.heap.size:=hg.size
   have hal:Below wx.heap.size wx (wx.alloc (.cells #[.int .u8 0,.int .u8 0] 5)):=(Below.refl _ _).alloc (Nat.le_refl _) _
   have hrow:=row8_lit wx [0,0] #[.int .u8 0,.int .u8 0] (by decide) rfl
   clear hρ hd hb hs
   refine ifv rfl ?_
   go_simp
   exact hK _ _ (hal.mono hwz) (own_base hrow hwb) fun j _ _ _ h=>RByΦ.keep hal j _ h
  ·
   intro val wx hg hd hb hs K hK
   generalize hρ:rhoV _ _ val=ρ
   have cc:∀ u,ρ (.const u)=u:=fun u=>by rw [← hρ]; rfl
   have ff:∀ u,ρ (.func u)=.func (.func u) #[] #[]:=fun u=>by rw [← hρ]; rfl
   have r2:ρ (.tmp 2)=.pointer (some ⟨w.heap.size,0,none⟩):=by rw [← hρ]; rfl
   clear hρ hd hb hs
   refine ifv rfl ?_
   go_simp
   exact hK _ _ (Below.refl _ _) rfl fun _ _ _ _ h=>h
  ·
   intro val wx hg hd hb hs K hK
   generalize hρ:rhoV _ _ val=ρ
   have cc:∀ u,ρ (.const u)=u:=fun u=>by rw [← hρ]; rfl
   have ff:∀ u,ρ (.func u)=.func (.func u) #[] #[]:=fun u=>by rw [← hρ]; rfl
   have r55:ρ (.tmp 55)=.pointer (some ⟨w.heap.size,8,none⟩):=by rw [← hρ]; exact hd 44 rfl rfl
   have g0:wx.cell? ⟨w.heap.size,8,none⟩=some (.int .u32 (h.src:Int)):=(Below.cell (show Below W1.heap.size W1 wx from ⟨hg.os,hg.tape,hg.output,hg.size,hg.block⟩) (p:=⟨w.heap.size,8,none⟩) HK.out.lt).trans (HK.out.cell 8)
   clear hρ hd hb hs
   refine ifv rfl ?_
   go_simp
   exact hK _ _ (Below.refl _ _) rfl fun _ _ _ _ h=>h
  ·
   intro val wx hg hd hb hs K hK
   generalize hρ:rhoV _ _ val=ρ
   have cc:∀ u,ρ (.const u)=u:=fun u=>by rw [← hρ]; rfl
   have ff:∀ u,ρ (.func u)=.func (.func u) #[] #[]:=fun u=>by rw [← hρ]; rfl
   have r56:ρ (.tmp 56)=.int .u32 (h.src:Int):=by rw [← hρ]; exact hd 45 rfl rfl
   clear hρ hd hb hs
   refine ifv rfl ?_
   go_simp
   exact hK _ _ (Below.refl _ _) rfl fun _ _ _ _ h=>h
  ·
   intro val wx hg hd hb hs K hK
   generalize hρ:rhoV _ _ val=ρ
   have cc:∀ u,ρ (.const u)=u:=fun u=>by rw [← hρ]; rfl
   have ff:∀ u,ρ (.func u)=.func (.func u) #[] #[]:=fun u=>by rw [← hρ]; rfl
   have r57:ρ (.tmp 57)=.int .u64 (h.src:Int):=by rw [← hρ]; exact hd 46 rfl rfl
   have hc:=P8.out wx
   have hwb:B≤wx.heap.size:=Nat.le_trans HBB.out hg.size
   have hwz:W1.heap.size≤wx.heap.size:=hg.size
   clear hρ hd hb hs
   refine ifv rfl ?_
   go_simp
   refine hc.mono ?_
   rintro e w2 ⟨v2,rfl,h2,hb2⟩
   exact ⟨_,rfl,hK _ _ (hb2.mono hwz) (own_base h2 hwb) fun j _ _ _ h=>RByΦ.keep hb2 j _ h⟩
  ·
   intro val wx hg hd hb hs K hK
   generalize hρ:rhoV _ _ val=ρ
   have cc:∀ u,ρ (.const u)=u:=fun u=>by rw [← hρ]; rfl
   have ff:∀ u,ρ (.func u)=.func (.func u) #[] #[]:=fun u=>by rw [← hρ]; rfl
   have r2:ρ (.tmp 2)=.pointer (some ⟨w.heap.size,0,none⟩):=by rw [← hρ]; rfl
   clear hρ hd hb hs
   refine ifv rfl ?_
   go_simp
   exact hK _ _ (Below.refl _ _) rfl fun _ _ _ _ h=>h
  ·
   intro val wx hg hd hb hs K hK
   generalize hρ:rhoV _ _ val=ρ
   have cc:∀ u,ρ (.const u)=u:=fun u=>by rw [← hρ]; rfl
   have ff:∀ u,ρ (.func u)=.func (.func u) #[] #[]:=fun u=>by rw [← hρ]; rfl
   have r59:ρ (.tmp 59)=.pointer (some ⟨w.heap.size,9,none⟩):=by rw [← hρ]; exact hd 48 rfl rfl
   have g0:wx.cell? ⟨w.heap.size,9,none⟩=some (.int .u32 (h.dst:Int)):=(Below.cell (show Below W1.heap.size W1 wx from ⟨hg.os,hg.tape,hg.output,hg.size,hg.block⟩) (p:=⟨w.heap.size,9,none⟩) HK.out.lt).trans (HK.out.cell 9)
   clear hρ hd hb hs
   refine ifv rfl ?_
   go_simp
   exact hK _ _ (Below.refl _ _) rfl fun _ _ _ _ h=>h
  ·
   intro val wx hg hd hb hs K hK
   generalize hρ:rhoV _ _ val=ρ
   have cc:∀ u,ρ (.const u)=u:=fun u=>by rw [← hρ]; rfl
   have ff:∀ u,ρ (.func u)=.func (.func u) #[] #[]:=fun u=>by rw [← hρ]; rfl
   have r60:ρ (.tmp 60)=.int .u32 (h.dst:Int):=by rw [← hρ]; exact hd 49 rfl rfl
   clear hρ hd hb hs
   refine ifv rfl ?_
   go_simp
   exact hK _ _ (Below.refl _ _) rfl fun _ _ _ _ h=>h
  ·
   intro val wx hg hd hb hs K hK
   generalize hρ:rhoV _ _ val=ρ
   have cc:∀ u,ρ (.const u)=u:=fun u=>by rw [← hρ]; rfl
   have ff:∀ u,ρ (.func u)=.func (.func u) #[] #[]:=fun u=>by rw [← hρ]; rfl
   have r61:ρ (.tmp 61)=.int .u64 (h.dst:Int):=by rw [← hρ]; exact hd 50 rfl rfl
   have hc:=P9.out wx
   have hwb:B≤wx.heap.size:=Nat.le_trans HBB.out hg.size
   have hwz:W1.heap.size≤wx.heap.size:=hg.size
   clear hρ hd hb hs
   refine ifv rfl ?_
   go_simp
   refine hc.mono ?_
   rintro e w2 ⟨v2,rfl,h2,hb2⟩
   exact ⟨_,rfl,hK _ _ (hb2.mono hwz) (own_base h2 hwb) fun j _ _ _ h=>RByΦ.keep hb2 j _ h⟩
  ·
   intro val wx hg hd hb hs K hK
   generalize hρ:rhoV _ _ val=ρ
   have cc:∀ u,ρ (.const u)=u:=fun u=>by rw [← hρ]; rfl
   have ff:∀ u,ρ (.func u)=.func (.func u) #[] #[]:=fun u=>by rw [← hρ]; rfl
   have r2:ρ (.tmp 2)=.pointer (some ⟨w.heap.size,0,none⟩):=by rw [← hρ]; rfl
   clear hρ hd hb hs
   refine ifv rfl ?_
   go_simp
   exact hK _ _ (Below.refl _ _) rfl fun _ _ _ _ h=>h
  ·
   intro val wx hg hd hb hs K hK
   generalize hρ:rhoV _ _ val=ρ
   have cc:∀ u,ρ (.const u)=u:=fun u=>by rw [← hρ]; rfl
   have ff:∀ u,ρ (.func u)=.func (.func u) #[] #[]:=fun u=>by rw [← hρ]; rfl
   have r63:ρ (.tmp 63)=.pointer (some ⟨w.heap.size,10,none⟩):=by rw [← hρ]; exact hd 52 rfl rfl
   have g0:wx.cell? ⟨w.heap.size,10,none⟩=some (.slice A n c):=(Below.cell (show Below W1.heap.size W1 wx from ⟨hg.os,hg.tape,hg.output,hg.size,hg.block⟩) (p:=⟨w.heap.size,10,none⟩) HK.out.lt).trans (HK.out.cell 10)
   clear hρ hd hb hs
   refine ifv rfl ?_
   go_simp
   exact hK _ _ (Below.refl _ _) rfl fun _ _ _ _ h=>h
  ·
   intro val wx hg hd hb hs K hK
   generalize hρ:rhoV _ _ val=ρ
   have cc:∀ u,ρ (.const u)=u:=fun u=>by rw [← hρ]; rfl
   have ff:∀ u,ρ (.func u)=.func (.func u) #[] #[]:=fun u=>by rw [← hρ]; rfl
   have r15:ρ (.tmp 15)=val 4:=by rw [← hρ]; rfl
   have p4:=hd 4 rfl rfl
   have r19:ρ (.tmp 19)=val 8:=by rw [← hρ]; rfl
   have p8:=hd 8 rfl rfl
   have r25:ρ (.tmp 25)=val 14:=by rw [← hρ]; rfl
   have p14:=hd 14 rfl rfl
   have r29:ρ (.tmp 29)=val 18:=by rw [← hρ]; rfl
   have p18:=hd 18 rfl rfl
   have r45:ρ (.tmp 45)=val 34:=by rw [← hρ]; rfl
   have p34:=hd 34 rfl rfl
   have r49:ρ (.tmp 49)=val 38:=by rw [← hρ]; rfl
   have p38:=hd 38 rfl rfl
   have r53:ρ (.tmp 53)=val 42:=by rw [← hρ]; rfl
   have p42:=hd 42 rfl rfl
   have r54:ρ (.tmp 54)=val 43:=by rw [← hρ]; rfl
   have p43:=hd 43 rfl rfl
   have r58:ρ (.tmp 58)=val 47:=by rw [← hρ]; rfl
   have p47:=hd 47 rfl rfl
   have r62:ρ (.tmp 62)=val 51:=by rw [← hρ]; rfl
   have p51:=hd 51 rfl rfl
   have r64:ρ (.tmp 64)=.slice A n c:=by rw [← hρ]; exact hd 53 rfl rfl
   have q15:Row8 B wx (val 4) (putF s5 1):=p4
   obtain ⟨A15,c15,e15,_⟩:=q15.form
   rw [e15] at q15 r15
   rw [putF_len] at r15
   have x15:Sl8 wx (fun _=>True) (.slice A15 1 c15) (putF s5 1):=by have:=q15.sl.mono (J:=fun _=>True) fun _ _=>trivial; rw [putF_len] at this; exact this
   have q19:Row8 B wx (val 8) (putF h.tos 1):=p8
   obtain ⟨A19,c19,e19,_⟩:=q19.form
   rw [e19] at q19 r19
   rw [putF_len] at r19
   have x19:Sl8 wx (fun _=>True) (.slice A19 1 c19) (putF h.tos 1):=by have:=q19.sl.mono (J:=fun _=>True) fun _ _=>trivial; rw [putF_len] at this; exact this
   have q25:Row8 B wx (val 14) (putF t 2):=p14
   obtain ⟨A25,c25,e25,_⟩:=q25.form
   rw [e25] at q25 r25
   rw [putF_len] at r25
   have x25:Sl8 wx (fun _=>True) (.slice A25 2 c25) (putF t 2):=by have:=q25.sl.mono (J:=fun _=>True) fun _ _=>trivial; rw [putF_len] at this; exact this
   have q29:Row8 B wx (val 18) (putF h.id 2):=p18
   obtain ⟨A29,c29,e29,_⟩:=q29.form
   rw [e29] at q29 r29
   rw [putF_len] at r29
   have x29:Sl8 wx (fun _=>True) (.slice A29 2 c29) (putF h.id 2):=by have:=q29.sl.mono (J:=fun _=>True) fun _ _=>trivial; rw [putF_len] at this; exact this
   have q45:Row8 B wx (val 34) (putF fl 2):=p34
   obtain ⟨A45,c45,e45,_⟩:=q45.form
   rw [e45] at q45 r45
   rw [putF_len] at r45
   have x45:Sl8 wx (fun _=>True) (.slice A45 2 c45) (putF fl 2):=by have:=q45.sl.mono (J:=fun _=>True) fun _ _=>trivial; rw [putF_len] at this; exact this
   have q49:Row8 B wx (val 38) (putF h.ttl 1):=p38
   obtain ⟨A49,c49,e49,_⟩:=q49.form
   rw [e49] at q49 r49
   rw [putF_len] at r49
   have x49:Sl8 wx (fun _=>True) (.slice A49 1 c49) (putF h.ttl 1):=by have:=q49.sl.mono (J:=fun _=>True) fun _ _=>trivial; rw [putF_len] at this; exact this
   have q53:Row8 B wx (val 42) (putF h.proto 1):=p42
   obtain ⟨A53,c53,e53,_⟩:=q53.form
   rw [e53] at q53 r53
   rw [putF_len] at r53
   have x53:Sl8 wx (fun _=>True) (.slice A53 1 c53) (putF h.proto 1):=by have:=q53.sl.mono (J:=fun _=>True) fun _ _=>trivial; rw [putF_len] at this; exact this
   have q54:Row8 B wx (val 43) ([0,0]):=p43
   obtain ⟨A54,c54,e54,_⟩:=q54.form
   rw [e54] at q54 r54
   have x54:Sl8 wx (fun _=>True) (.slice A54 2 c54) [0,0]:=q54.sl.mono (J:=fun _=>True) fun _ _=>trivial
   have q58:Row8 B wx (val 47) (putF h.src 4):=p47
   obtain ⟨A58,c58,e58,_⟩:=q58.form
   rw [e58] at q58 r58
   rw [putF_len] at r58
   have x58:Sl8 wx (fun _=>True) (.slice A58 4 c58) (putF h.src 4):=by have:=q58.sl.mono (J:=fun _=>True) fun _ _=>trivial; rw [putF_len] at this; exact this
   have q62:Row8 B wx (val 51) (putF h.dst 4):=p51
   obtain ⟨A62,c62,e62,_⟩:=q62.form
   rw [e62] at q62 r62
   rw [putF_len] at r62
   have x62:Sl8 wx (fun _=>True) (.slice A62 4 c62) (putF h.dst 4):=by have:=q62.sl.mono (J:=fun _=>True) fun _ _=>trivial; rw [putF_len] at this; exact this
   have hbx:Below w.heap.size w wx:=HB0.out.trans (Below.mono ⟨hg.os,hg.tape,hg.output,hg.size,hg.block⟩ HB0.out.size)
   have x64:Sl8 wx (fun _=>True) (.slice A n c) x:=by have h1:=(HR.out.keep (Same.ofBelow hbx fun k hk=>hk.2)).mono (J:=fun _=>True) fun _ _=>trivial; rw [HN.out] at h1 ⊢; exact ⟨A,c,rfl,by rw [← HN.out]; exact HC.out,h1⟩
   have hal:Below wx.heap.size wx (wx.alloc (.cells #[.slice A15 1 c15,.slice A19 1 c19,.slice A25 2 c25,.slice A29 2 c29,.slice A45 2 c45,.slice A49 1 c49,.slice A53 1 c53,.slice A54 2 c54,.slice A58 4 c58,.slice A62 4 c62,.slice A n c] 61)):=(Below.refl _ _).alloc (Nat.le_refl _) _
   have hrw:RowsE wx [.slice A15 1 c15,.slice A19 1 c19,.slice A25 2 c25,.slice A29 2 c29,.slice A45 2 c45,.slice A49 1 c49,.slice A53 1 c53,.slice A54 2 c54,.slice A58 4 c58,.slice A62 4 c62,.slice A n c] [putF s5 1,putF h.tos 1,putF t 2,putF h.id 2,putF fl 2,putF h.ttl 1,putF h.proto 1,[0,0],putF h.src 4,putF h.dst 4,x]:=⟨x15,x19,x25,x29,x45,x49,x53,x54,x58,x62,x64,trivial⟩
   have hwz:W1.heap.size≤wx.heap.size:=hg.size
   clear hρ hd hb hs q15 e15 x15 p4 q19 e19 x19 p8 q25 e25 x25 p14 q29 e29 x29 p18 q45 e45 x45 p34 q49 e49 x49 p38 q53 e53 x53 p42 q54 e54 x54 p43 q58 e58 x58 p47 q62 e62 x62 p51 x64 hbx
   refine ifv rfl ?_
   go_simp
   exact hK _ _ (hal.mono hwz) ⟨_,_,rfl,Blk.new _ _ _,rfl,hrw.below hal⟩ fun j _ _ _ h=>RByΦ.keep hal j _ h
  ·
   intro val wx hg hd hb hs K hK
   generalize hρ:rhoV _ _ val=ρ
   have cc:∀ u,ρ (.const u)=u:=fun u=>by rw [← hρ]; rfl
   have ff:∀ u,ρ (.func u)=.func (.func u) #[] #[]:=fun u=>by rw [← hρ]; rfl
   have r65:ρ (.tmp 65)=val 54:=by rw [← hρ]; rfl
   have p54:=hd 54 rfl rfl
   obtain ⟨g,us,e65,hk65,hl65,hrw⟩:∃ (g:Nat) (us:List Value),val 54=.slice (some ⟨g,0,none⟩) 11 11∧Blk wx g 61 us.toArray∧us.length=11∧RowsE wx us [putF s5 1,putF h.tos 1,putF t 2,putF h.id 2,putF fl 2,putF h.ttl 1,putF h.proto 1,[0,0],putF h.src 4,putF h.dst 4,x]:=p54
   rw [e65] at r65
   have hrd:Reads wx (fun _=>True) 1 (some ⟨g,0,none⟩) 11 us:=by have h1:=reads_blk (n:=11) (size:=1) hk65 (by simp [hl65]); simpa using h1
   have hc:=join_any (some ⟨g,0,none⟩) 11 11 us [putF s5 1,putF h.tos 1,putF t 2,putF h.id 2,putF fl 2,putF h.ttl 1,putF h.proto 1,[0,0],putF h.src 4,putF h.dst 4,x] _ wx hrd hrw (by rw [HXS.out]; have:=HZL.out; omega) (by decide)
   rw [HXS.out] at hc
   have hwb:B≤wx.heap.size:=Nat.le_trans HBB.out hg.size
   have hwz:W1.heap.size≤wx.heap.size:=hg.size
   clear hρ hd hb hs hrd hrw hk65 hl65 e65
   refine ifv rfl ?_
   go_simp
   refine hc.mono ?_
   rintro e w2 ⟨v2,rfl,h2,hb2⟩
   exact ⟨_,rfl,hK _ _ (hb2.mono hwz) (own_base h2 hwb) fun j _ _ _ h=>RByΦ.keep hb2 j _ h⟩
  ·
   intro val wx hg hd hb hs K hK
   generalize hρ:rhoV _ _ val=ρ
   have cc:∀ u,ρ (.const u)=u:=fun u=>by rw [← hρ]; rfl
   have ff:∀ u,ρ (.func u)=.func (.func u) #[] #[]:=fun u=>by rw [← hρ]; rfl
   have r66:ρ (.tmp 66)=val 55:=by rw [← hρ]; rfl
   have p55:=hd 55 rfl rfl
   have q66:Row8 B wx (val 55) z:=p55
   clear hρ hd hb hs p55
   refine ifv rfl ?_
   go_simp
   exact hK _ _ (Below.refl _ _) q66 fun _ _ _ _ h=>h
 ·intro val w9 h9
  rw [if_neg (by decide)] at h9
  obtain ⟨hb9,h9⟩:=h9
  have p9:Row8 B w9 (val 56) z:=h9 56 (by decide) fun _ _=>rfl
  have HB9:=Lib.hid (show Below W1.heap.size W1 w9 from ⟨hb9.os,hb9.tape,hb9.output,hb9.size,hb9.block⟩)
  have HP9:=Lib.hid p9
  clear hb9 p9 h9
  obtain ⟨g2,cap2,e56,hcap2,hgB,_⟩:=HP9.out.blk (by rw [HZM.out]; have:=HM.out; omega)
  rw [HZM.out] at hcap2 e56
  rw [e56] at HP9
  simp only [putAll,e56]
  simp only [Act.put,List.setIfInBounds_toArray,List.set_cons_succ,List.set_cons_zero]
  clear e56
  generalize val 0=x0,val 1=x1,val 2=x2,val 3=x3,val 4=x4,val 5=x5,val 6=x6,val 7=x7,val 8=x8,val 9=x9,val 10=x10,val 11=x11,val 12=x12,val 13=x13,val 14=x14,val 15=x15,val 16=x16,val 17=x17,val 18=x18,val 19=x19,val 20=x20,val 21=x21,val 22=x22,val 23=x23,val 24=x24,val 25=x25,val 26=x26,val 27=x27,val 28=x28,val 29=x29,val 30=x30,val 31=x31,val 32=x32,val 33=x33,val 34=x34,val 35=x35,val 36=x36,val 37=x37,val 38=x38,val 39=x39,val 40=x40,val 41=x41,val 42=x42,val 43=x43,val 44=x44,val 45=x45,val 46=x46,val 47=x47,val 48=x48,val 49=x49,val 50=x50,val 51=x51,val 52=x52,val 53=x53,val 54=x54,val 55=x55
  have hm20:20≤m:=by have:=HM.out; omega
  have HGB:=Lib.hid hgB
  obtain ⟨ck,hck⟩:∃ ck,ck=checkF z:=⟨_,rfl⟩
  have hckl:ck < 65536:=by rw [hck]; unfold checkF; omega
  have uck:IntKind.u64.wrap (ck:Int)=(ck:Int):=wraps_u64 _ (by omega) (by omega)
  have HCK:=Lib.hid hck
  have HPU:=Lib.hid (fun wx=>rput2_any ck wx hckl)
  obtain ⟨d10,hd10⟩:∃ k,k=cap2 - 10:=⟨_,rfl⟩
  have sa:∀ wx:World,(Instr.slice 61 (.slice (some ⟨g2,0,none⟩) m cap2) (some (.int .i64 10)) (some (.int .i64 12)) none).run Tryz.prog wx=.ok (.slice (some ⟨g2,10,none⟩) 2 d10) wx:=fun wx=>by
   have:=sl_lohi (some ⟨g2,0,none⟩) m cap2 wx 10 12 (by decide) (by omega)
   rw [if_neg (by omega)] at this
   rw [hd10]
   exact this
  clear hck hcap2 hgB hd10 em e4 e4t w4 w5 wt w12 w13 wfl u5 ut uo u1 u2 u3 u4 u6 u7
  go_wp2_with fail
  have hCC:∀ x y:World,(Row8 B x (.slice (some ⟨g2,0,none⟩) m cap2) z∧Below W1.heap.size W1 x∧W1.heap.size≤x.heap.size)→Below x.heap.size x y→(Row8 B y (.slice (some ⟨g2,0,none⟩) m cap2) z∧Below W1.heap.size W1 y∧W1.heap.size≤y.heap.size):=fun x y h k=>⟨h.1.below k,h.2.1.trans (k.mono h.2.2),Nat.le_trans h.2.2 k.size⟩
  have HCX:=Lib.hid hCC
  clear hCC
  refine wp_region_mix [(true,3),(false,4)] 3 (by kernel_rfl) (fun wx=>Row8 B wx (.slice (some ⟨g2,0,none⟩) m cap2) z∧Below W1.heap.size W1 wx∧W1.heap.size≤wx.heap.size) HCX.out (by kernel_rfl) ⟨HP9.out,HB9.out,HB9.out.size⟩ (a':=?_) (fun wz hz=>?_) fun wz hz=>?_
  rotate_left
  ·simp only [pick_nil,pick_tt,pick_ft,List.take_succ_cons,List.take_zero,List.drop_succ_cons,List.drop_zero,List.append_nil]
   repeat (go_big_quiet_step (fail))
   refine wpQuiet_nil ?_
   rfl
  ·simp only [pick_nil,pick_ff,pick_tf,List.take_succ_cons,List.take_zero,List.drop_succ_cons,List.drop_zero,List.append_nil]
   clear sa
   have HS0:=Lib.hid (HCX.out _ _ ⟨HP9.out,HB9.out,HB9.out.size⟩ hz)
   clear hz
   refine wpMix_step HS0.out fun wa ha=>?_
   have HS1:=Lib.hid (HCX.out _ _ HS0.out ha)
   have hch:=rcheck_any (some ⟨g2,0,none⟩) m cap2 z _ wa ((HS1.out.1.reads).2) HZM.out (by have:=HZL.out; have:=HZM.out; omega)
   rw [← HCK.out] at hch
   have HCH:=Lib.hid hch
   clear ha hch
   go_wp2_with fail
   refine HCH.out.mono ?_
   rintro e wb ⟨rfl,hb⟩
   have HS2:=Lib.hid (HCX.out _ _ HS1.out hb)
   clear hb
   go_wp2_with fail
   refine wpMix_step HS2.out fun wd hd=>?_
   have HS3:=Lib.hid (HCX.out _ _ HS2.out hd)
   clear hd
   go_wp2_with fail
   refine wpMix_step HS3.out fun we he=>?_
   have HS4:=Lib.hid (HCX.out _ _ HS3.out he)
   clear he
   go_wp2_with fail
   refine (HPU.out we).mono ?_
   rintro e wf ⟨vq,rfl,hvq,hbq⟩
   have HS5:=Lib.hid (HCX.out _ _ HS4.out hbq)
   have HVQ:=Lib.hid hvq
   clear hvq hbq
   go_wp2_with fail
   refine wpMix_step HS5.out fun wg hg=>?_
   have HS6:=Lib.hid (HCX.out _ _ HS5.out hg)
   have hvq:=HVQ.out.below hg
   clear hg
   obtain ⟨A3,c3,e3,hc3⟩:=hvq.form
   rw [putF_len] at e3 hc3
   subst e3
   have hvr:=(hvq.reads).2
   obtain ⟨a3',rfl,_,_,hs3⟩:=hvr.2 (by decide)
   obtain ⟨hr7,hb7,hz7⟩:=HS6.out
   obtain ⟨g2',cap',ev,_,_,cur,hbk,hcur⟩:=hr7.blk (by rw [HZM.out]; omega)
   injection ev with ev ev2 ev3
   clear ev2 ev3
   injection ev with ev
   injection ev with ev ev2 ev3
   clear ev2 ev3
   subst ev
   have hzl:=HZM.out
   have hex:∀ i,i < m→(wg.cell? ⟨g2,i,none⟩).isSome=true:=fun i hi=>by
    rw [hbk.cell,hcur i _ (List.getElem?_eq_getElem (by rw [bytesV_len,hzl]; exact hi))]
    rfl
   have hcp:=run_copy_cells (P:=Tryz.prog) wg 61 61 3 5 g2 10 2 d10 a3' 2 c3 (bytesV (putF ck 2)) Tryz.underlying61 (by kernel_rfl) (by rw [bytesV_len,putF_len]; rfl) hs3 (fun j hj=>hex _ (by rw [bytesV_len,putF_len] at hj; omega)) (fun j hj=>hbk.frozen _) (bytesV_one _)
   have e9:bytesV (putF ck 2)=[.int .u8 ((u8 (ck / 256)).toNat:Int),.int .u8 ((u8 ck).toNat:Int)]:=by rw [put2]; rfl
   rw [e9] at hcp
   have f1:=Row8.set (i:=10) (b:=u8 (ck / 256)) hr7
   have f2:=Row8.set (i:=11) (b:=u8 ck) f1
   have hgW:W1.heap.size≤g2:=by have:=HBE.out; have:=HGB.out; omega
   have hbb:=(hb7.setCell (p:=⟨g2,10,none⟩) hgW (.int .u8 ((u8 (ck / 256)).toNat:Int))).setCell (p:=⟨g2,11,none⟩) hgW (.int .u8 ((u8 ck).toNat:Int))
   obtain ⟨wh,hwh⟩:∃ wh,wh=(wg.setCell ⟨g2,10,none⟩ (.int .u8 ((u8 (ck / 256)).toNat:Int))).setCell ⟨g2,11,none⟩ (.int .u8 ((u8 ck).toNat:Int)):=⟨_,rfl⟩
   rw [← hwh] at f2 hbb
   have hcp':(Builtin.copy_ #[61,61] 3 #[.slice (some ⟨g2,10,none⟩) 2 d10,.slice (some a3') 2 c3]).run Tryz.prog wg=.ok (.int .i64 2) wh:=by rw [hwh]; exact hcp
   obtain ⟨z2,hz2⟩:∃ z2,z2=(z.set 10 (u8 (ck / 256))).set 11 (u8 ck):=⟨_,rfl⟩
   rw [← hz2] at f2
   have hz2l:z2.length=m:=by rw [hz2,List.length_set,List.length_set,hzl]
   have hbw:Below w.heap.size w wh:=HB0.out.trans (hbb.mono HB0.out.size)
   have HRP2:=Lib.hid (HRP.out.keep (Same.ofBelow hbw fun k hk=>hk.2))
   have HF2:=Lib.hid f2
   have HBW:=Lib.hid hbw
   have HZ2:=Lib.hid hz2
   have hq1:q≤65535:=by have:=HTL.out; have:=HT.out; omega
   have h63:z2.length+q≤140737488355328:=by have:=HZL.out; omega
   have hsz:B≤wh.heap.size:=by have:=hbb.size; have:=HBE.out; omega
   clear hcp e9 f1 f2 hgW hbb hwh hz2 hz2l hbw hzl hex hbk hcur hr7 hb7 hz7 hvr hs3 hvq
   go_wp2_with fail
   refine wpMix_plain ?_
   go_wp2_with (at_builtin; refine wpList_app8 wh rfl (.tmp 74) (.tmp 75) rfl rfl B _ z2 rfl HF2.out _ Ap q cp p rfl HQ.out.symm HRP2.out h63 hsz ?_; intro v5 w5 h5 hg5 _)
   go_ret
   refine ⟨v5,rfl,?_,?_⟩
   ·have hres:R=z2++p:=by
     rw [HRR.out]
     obtain ⟨s0,s1,e,e0,e1⟩:=bytesF_eq h p
     have ht:t=20+h.opts.length+p.length:=by rw [HT.out,HM.out,HN.out,HX.out,HQ.out]
     rw [← ht,← HZ.out,← HCK.out] at e0 e1
     rw [← ht] at e
     rw [e,e0,e1,HZ2.out,HZ.out,head_eq,head_eq]
     rfl
    rw [hres]
    exact own_base h5 (by have:=HBE.out; have:=HB0.out.size; omega)
   ·exact HBW.out.grown hg5 HBW.out.size fun g hg=>by have:=(HF2.out.lt hg).1; have:=HBE.out; have:=HB0.out.size; omega
end Go.Proofs.YthlommalbkhcjaaGreat
