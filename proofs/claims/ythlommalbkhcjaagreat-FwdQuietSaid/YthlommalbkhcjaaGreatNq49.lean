/- ip.Less. -/
import Derived.Test.YthlommalbkhcjaaGreatNq22
import Derived.Test.YthlommalbkhcjaaGreatNq48
import Derived.Laws.IdiomCopy
namespace Go.Proofs.YthlommalbkhcjaaGreat
open Go.RowKit Go.Sort Go.BigFrame
def LessPost (w:World) (r:By × Nat) (e:Ending) (w':World):Prop:=∃ v,e=.returned (.tuple #[v,.int .i64 (r.2:Int)])∧Row8 w.heap.size w' v r.1∧Below w.heap.size w w'
set_option maxRecDepth 20000 in
set_option maxHeartbeats 1600000 in
theorem less_no (A:Option Addr) (n c:Nat) (x:By) (I:Nat→Prop) (w:World) (h:Reads w I 1 A n (bytesV x)) (hn:x.length=n) (hc:n≤c) (hsm:n≤1000000) (h0:wrongF x≠0∨(x.getD 8 0).toNat=0) :
  Calls Tryz.prog 131 #[.slice A n c] w (LessPost w (lessF x)):=by
 have HC:=Lib.hid (wrong_any A n c x I w h hn hc hsm)
 obtain ⟨R,hR⟩:∃ R,R=lessF x:=⟨_,rfl⟩
 rw [← hR]
 unfold lessF at hR
 by_cases hw:wrongF x=0
 ·have h8:=h0.resolve_left (fun h=>h hw)
  obtain ⟨z1,_⟩:=wrong0 hw
  have hR2:=hR
  rw [if_neg (by rw [hw]; decide),if_pos h8] at hR2
  obtain ⟨ad,rfl,c8⟩:=byte_getD h (k:=8) (by omega)
  rw [h8,add_pos _ _ (by decide)] at c8
  have hl:ad.block < w.heap.size:=World.block_lt_of_cell? w ⟨ad.block,ad.off+8,none⟩ c8
  rw [hw] at HC
  have C8:=Lib.hid c8
  have i8:(8:Int) < n:=by omega
  have i8n:8 < n:=by omega
  have p8:=add_pos ad 8 (by decide)
  subst hR2
  clear h hR h0 hw h8 z1 hn c8
  go_enter Tryz.func131,Tryz.ntmps131
  go_wp2_with fail
  refine HC.out.mono ?_
  rintro e w1 ⟨rfl,hb1⟩
  have HB1:=Lib.hid hb1
  have c8:w1.cell? ⟨ad.block,ad.off+8,none⟩=some (.int .u8 0):=(hb1.cell (p:=⟨ad.block,ad.off+8,none⟩) hl).trans C8.out
  clear hb1
  go_wp2_with fail
  go_ret2
  exact ⟨.slice none 0 0,rfl,Row8.nil _ _,HB1.out⟩
 ·rw [if_pos hw] at hR
  subst hR
  obtain ⟨q,hq⟩:∃ q,q=wrongF x:=⟨_,rfl⟩
  rw [← hq] at HC hw
  clear h hq h0 hn
  go_enter Tryz.func131,Tryz.ntmps131
  go_wp2_with fail
  refine HC.out.mono ?_
  rintro e w1 ⟨rfl,hb1⟩
  have HB1:=Lib.hid hb1
  have h0i:((q:Int) != 0)=true:=by rw [bne_iff_ne]; omega
  clear hb1
  go_wp2_with fail
  go_ret2
  exact ⟨.slice none 0 0,rfl,Row8.nil _ _,HB1.out⟩
def LessΦ (ad:Addr) (n c g cap n10 c10 m m1 cs r:Nat) (cvb:Value) (B:Nat) (y:By):Nat→Value→World→Prop
 | 0,u,_=>u=.slice (some ⟨g,0,none⟩) n cap
 | 1,u,_=>u=.slice (some ⟨g,10,none⟩) n10 c10
 | 2,u,_=>u=.slice (some ad) n c
 | 3,u,_=>u=cvb
 | 4,u,_=>u=.int .u64 (cs:Int)
 | 5,u,_=>u=.int .u16 (cs:Int)
 | 6,u,_=>u=.int .u16 (m:Int)
 | 7,u,_=>u=.int .u16 (m:Int)
 | 8,u,_=>u=.int .u16 (m1:Int)
 | 9,u,_=>u=.int .u16 (r:Int)
 | 10,u,_=>u=.int .u64 (r:Int)
 | 11,u,w=>Row8 B w u y
 | _,_,_=>True
theorem LessΦ.keep {ad:Addr} {n c g cap n10 c10 m m1 cs r:Nat} {cvb:Value} {B:Nat} {y:By} {wx wy:World} (hb:Below wx.heap.size wx wy):∀ j u,LessΦ ad n c g cap n10 c10 m m1 cs r cvb B y j u wx→LessΦ ad n c g cap n10 c10 m m1 cs r cvb B y j u wy:=by
 intro j u h
 unfold LessΦ at h ⊢
 split at h
 all_goals first
  | exact h
  | exact Row8.below h hb
set_option maxRecDepth 100000 in
set_option maxHeartbeats 4000000 in
theorem less_yes (A:Option Addr) (n c:Nat) (x:By) (I:Nat→Prop) (w:World) (h:Reads w I 1 A n (bytesV x)) (hn:x.length=n) (hc:n≤c) (hsm:n≤1000000) (hw:wrongF x=0) (h8:(x.getD 8 0).toNat≠0) :
  Calls Tryz.prog 131 #[.slice A n c] w (LessPost w (lessF x)):=by
 obtain ⟨R,hR⟩:∃ R,R=lessF x:=⟨_,rfl⟩
 rw [← hR]
 unfold lessF at hR
 rw [if_neg (by rw [hw]; decide),if_neg h8] at hR
 obtain ⟨z1,_⟩:=wrong0 hw
 have HC:=Lib.hid (wrong_any A n c x I w h hn hc hsm)
 rw [hw] at HC
 have HH:=Lib.hid h.lt
 obtain ⟨ad,rfl,c8⟩:=byte_getD h (k:=8) (by omega)
 obtain ⟨b8,hb8⟩:∃ b,b=(x.getD 8 0).toNat:=⟨_,rfl⟩
 have hb8l:b8 < 256:=by rw [hb8]; exact UInt8.toNat_lt _
 obtain ⟨m,hm⟩:∃ m,m=getF (partF x 8 10):=⟨_,rfl⟩
 have hml:m < 65536:=by have:=get_lt (x:=x) (a:=8) (b:=10) (by omega); rw [hm]; simpa using this
 have hm8:256≤m:=by
  have e:partF x 8 10=[x.getD 8 0,x.getD 9 0]:=by
   unfold partF
   apply List.ext_getElem?
   intro i
   rw [List.getElem?_drop,List.getElem?_take]
   match i with
   | 0=>simp [List.getD_eq_getElem?_getD,List.getElem?_eq_getElem (show 8 < x.length by omega)]
   | 1=>simp [List.getD_eq_getElem?_getD,List.getElem?_eq_getElem (show 9 < x.length by omega)]
   | i+2=>rw [if_neg (by omega)]; rfl
  rw [hm,e,get2]
  omega
 obtain ⟨cs,hcs⟩:∃ m,m=getF (partF x 10 12):=⟨_,rfl⟩
 have hcl:cs < 65536:=by have:=get_lt (x:=x) (a:=10) (b:=12) (by omega); rw [hcs]; simpa using this
 rw [← hb8,← hm,← hcs] at hR
 rw [← hb8,add_pos _ _ (by decide)] at c8
 rw [← hb8] at h8
 have L8:ad.block < w.heap.size:=World.block_lt_of_cell? w ⟨ad.block,ad.off+8,none⟩ c8
 have C8:=Lib.hid c8
 have HR:=Lib.hid hR
 have HM:=Lib.hid hm
 have HCS:=Lib.hid hcs
 have HN:=Lib.hid hn
 have HB8:=Lib.hid hb8
 have h8i:((b8:Int) == 0)=false:=by rw [beq_eq_false_iff_ne]; omega
 have i8:(8:Int) < n:=by omega
 have i8n:8 < n:=by omega
 have p8:=add_pos ad 8 (by decide)
 have hn10:10≤n:=by omega
 have hn12:12≤n:=by omega
 clear h hR hw hm hcs hn hb8 c8
 go_enter Tryz.func131,Tryz.ntmps131
 go_wp2_with fail
 refine HC.out.mono ?_
 rintro e w1 ⟨rfl,hb1⟩
 have HB1:=Lib.hid hb1
 have c8:w1.cell? ⟨ad.block,ad.off+8,none⟩=some (.int .u8 (b8:Int)):=(hb1.cell (p:=⟨ad.block,ad.off+8,none⟩) L8).trans C8.out
 have h1:Reads w1 (fun k=>I k∧k < w.heap.size) 1 (some ad) n (bytesV x):=HH.out.keep (Same.ofBelow hb1 fun k hk=>hk.2)
 have HCL:=Lib.hid (clone8_any (some ad) n c (bytesV x) _ w1 h1 (bytesV_one _) (by omega))
 clear hb1 h1
 go_wp2_with fail
 refine HCL.out.mono ?_
 rintro e w2 ⟨v,rfl,hv,hb2⟩
 have hv8:Row8 w.heap.size w2 v x:=by
  unfold Row8
  rw [HN.out]
  exact own_base hv HB1.out.size
 obtain ⟨g,cap,rfl,hcap,hgB,cur,hgK,hcur⟩:=hv8.blk (by rw [HN.out]; omega)
 rw [HN.out] at hcap hv8 hv ⊢
 have HV:=Lib.hid hv8
 have hb2':=HB1.out.trans (hb2.mono HB1.out.size)
 have HB2:=Lib.hid hb2'
 have hgne:w1.heap.size≤g:=(own_lt hv (g:=g) rfl).1
 have h2:Reads w2 (fun k=>I k∧k < w.heap.size) 1 (some ad) n (bytesV x):=HH.out.keep (Same.ofBelow hb2' fun k hk=>hk.2)
 obtain ⟨cva,ea,na⟩:=num_cut h2 HN.out hc 8 10 (by decide) (by omega) (by decide)
 have NA:=Lib.hid (show Calls Tryz.prog 76 #[cva] w2 (fun e w'=>e=.returned (.int .u64 (m:Int))∧w2=w') from (na w2 (Same.ofHeap _ rfl)).mono (by rintro e w' ⟨rfl,rfl⟩; exact ⟨by rw [HM.out],rfl⟩))
 have ea':(Instr.slice 61 (.slice (some ad) n c) (some (.int .i64 8)) (some (.int .i64 10)) none).run Tryz.prog w2=.ok cva w2:=ea w2
 have H2:=Lib.hid h2
 have HG:=Lib.hid hgne
 have HGK:=Lib.hid hgK
 have um:IntKind.u16.wrap (m:Int)=(m:Int):=by simp [IntKind.wrap,IntKind.bits,IntKind.signed]; omega
 obtain ⟨d8,hd8⟩:∃ d,d=b8 - 1:=⟨_,rfl⟩
 have ub:IntKind.u8.wrap ((b8:Int) - 1)=(d8:Int):=by simp [IntKind.wrap,IntKind.bits,IntKind.signed]; omega
 have k8:w2.cell? ⟨g,8,none⟩=some (.int .u8 (b8:Int)):=by
  rw [hgK.cell]
  refine hcur 8 _ ?_
  rw [HB8.out]
  have:=bytes_get (x:=x) (k:=8) (by rw [HN.out]; omega)
  rw [this,List.getD_eq_getElem?_getD,List.getElem?_eq_getElem (by rw [HN.out]; omega)]
  rfl
 have z8:w2.frozen? ⟨g,8,none⟩=false:=hgK.frozen 8
 have HD8:=Lib.hid hd8
 clear hb2 hv hv8 hb2' h2 ea na hgK hcur hgne hd8 C8 c8
 go_wp2_with fail
 refine NA.out.mono ?_
 rintro e _ ⟨rfl,rfl⟩
 go_wp2_with fail
 obtain ⟨w9,hw9⟩:∃ w9:World,w9=w2.setCell ⟨g,8,none⟩ (.int .u8 (d8:Int)):=⟨_,rfl⟩
 rw [← hw9]
 have h9v:Row8 w.heap.size w9 (.slice (some ⟨g,0,none⟩) n cap) (x.set 8 (u8 d8)):=by
  have:=Row8.set (i:=8) (b:=u8 d8) HV.out
  rw [u8_nat,show d8 % 256=d8 from by have:=HD8.out; omega] at this
  rw [hw9]; exact this
 have h9b:Below w.heap.size w w9:=by rw [hw9]; exact HB2.out.setCell (p:=⟨g,8,none⟩) hgB _
 have h9r:Reads w9 (fun k=>I k∧k < w.heap.size) 1 (some ad) n (bytesV x):=HH.out.keep (Same.ofBelow h9b fun k hk=>hk.2)
 obtain ⟨cvb,eb,nb⟩:=num_cut h9r HN.out hc 10 12 (by decide) (by omega) (by decide)
 have NB:=Lib.hid (show ∀ wx,Below w9.heap.size w9 wx→Calls Tryz.prog 76 #[cvb] wx (fun e w'=>e=.returned (.int .u64 (cs:Int))∧wx=w') from fun wx hb=>(nb wx (Same.ofBelow hb fun k hk=>Nat.lt_of_lt_of_le hk.2 h9b.size)).mono (by rintro e w' ⟨rfl,rfl⟩; exact ⟨by rw [HCS.out],rfl⟩))
 have SB:=Lib.hid (show ∀ wx:World,(Instr.slice 61 (.slice (some ad) n c) (some (.int .i64 10)) (some (.int .i64 12)) none).run Tryz.prog wx=.ok cvb wx from eb)
 obtain ⟨n10,hn10'⟩:∃ k,k=n - 10:=⟨_,rfl⟩
 obtain ⟨c10,hc10'⟩:∃ k,k=cap - 10:=⟨_,rfl⟩
 have SA:=Lib.hid (show ∀ wx:World,(Instr.slice 61 (.slice (some ⟨g,0,none⟩) n cap) (some (.int .i64 10)) none none).run Tryz.prog wx=.ok (.slice (some ⟨g,10,none⟩) n10 c10) wx from fun wx=>by
  have:=sl_lo (some ⟨g,0,none⟩) n cap wx 10 hn10
  rw [if_neg (by have:=HN.out; omega)] at this
  rw [hn10',hc10']
  exact this)
 obtain ⟨m1,hm1⟩:∃ k,k=m - 256:=⟨_,rfl⟩
 obtain ⟨r,hr⟩:∃ k,k=changeF cs m m1:=⟨_,rfl⟩
 have hrl:r < 65536:=by rw [hr]; unfold changeF; omega
 have HCH:=Lib.hid (show ∀ wx,Calls Tryz.prog 171 #[.int .u16 (cs:Int),.int .u16 (m:Int),.int .u16 (m1:Int)] wx (fun e w'=>e=.returned (.int .u16 (r:Int))∧wx=w') from fun wx=>by rw [hr]; exact change_any cs m m1 wx hcl hml (by omega))
 have HPU:=Lib.hid (fun wx=>put2_any r wx hrl)
 obtain ⟨y,hy⟩:∃ y,y=putF r 2:=⟨_,rfl⟩
 rw [← hy] at HPU
 have uc:IntKind.u16.wrap (cs:Int)=(cs:Int):=by simp [IntKind.wrap,IntKind.bits,IntKind.signed]; omega
 have u1:IntKind.u16.wrap ((m:Int) - 256)=(m1:Int):=by simp [IntKind.wrap,IntKind.bits,IntKind.signed]; omega
 have ur:IntKind.u64.wrap (r:Int)=(r:Int):=wraps_u64 _ (by omega) (by omega)
 obtain ⟨B,hB⟩:∃ B,B=w9.heap.size:=⟨_,rfl⟩
 have HBZ:=Lib.hid (Nat.le_of_eq hB)
 have HY:=Lib.hid hy
 have HRE:=Lib.hid hr
 have HM1:=Lib.hid hm1
 have HW9:=Lib.hid hw9
 have H9V:=Lib.hid h9v
 have H9B:=Lib.hid h9b
 have HN10:=Lib.hid hn10'
 have HBE:=Lib.hid hB
 clear hw9 h9v h9b h9r eb nb hn10' hc10' hr hy NA ea' ub um k8 z8 hm1 hB i8 i8n p8 hn10 hn12
 refine wp_region_rel (by kernel_rfl) (fun p q=>Below w9.heap.size p q) (LessΦ ad n c g cap n10 c10 m m1 cs r cvb B y) 12 (fun val w'=>Row8 w.heap.size w' (.slice (some ⟨g,0,none⟩) n cap) R.1∧Below w.heap.size w w') (fun _ _=>false) (by kernel_rfl) (fun p=>Below.refl _ p) (fun h k=>h.trans k) (obl_of ?_) ?_ ?_
 ·refine ⟨fun _=>?_,fun _=>?_,fun _=>?_,fun _=>?_,fun _=>?_,fun _=>?_,fun _=>?_,fun _=>?_,fun _=>?_,fun _=>?_,fun _=>?_,fun _=>?_,fun h=>absurd rfl h,trivial⟩
  ·
   intro val wx hg hd hb hs K hK
   generalize hρ:rhoV _ _ val=ρ
   have cc:∀ u,ρ (.const u)=u:=fun u=>by rw [← hρ]; rfl
   have ff:∀ u,ρ (.func u)=.func (.func u) #[] #[]:=fun u=>by rw [← hρ]; rfl
   have r4:ρ (.tmp 4)=.slice (some ⟨g,0,none⟩) n cap:=by rw [← hρ]; rfl
   clear hρ hd hb hs
   refine ifv rfl ?_
   go_simp
   exact hK _ _ (Below.refl _ _) rfl fun _ _ _ _ h=>h
  ·
   intro val wx hg hd hb hs K hK
   generalize hρ:rhoV _ _ val=ρ
   have cc:∀ u,ρ (.const u)=u:=fun u=>by rw [← hρ]; rfl
   have ff:∀ u,ρ (.func u)=.func (.func u) #[] #[]:=fun u=>by rw [← hρ]; rfl
   have r26:ρ (.tmp 26)=.slice (some ⟨g,0,none⟩) n cap:=by rw [← hρ]; exact hd 0 rfl rfl
   have hsl:=SA.out wx
   clear hρ hd hb hs
   refine ifv rfl ?_
   go_simp
   exact hK _ _ (Below.refl _ _) rfl fun _ _ _ _ h=>h
  ·
   intro val wx hg hd hb hs K hK
   generalize hρ:rhoV _ _ val=ρ
   have cc:∀ u,ρ (.const u)=u:=fun u=>by rw [← hρ]; rfl
   have ff:∀ u,ρ (.func u)=.func (.func u) #[] #[]:=fun u=>by rw [← hρ]; rfl
   have r0:ρ (.tmp 0)=.slice (some ad) n c:=by rw [← hρ]; rfl
   clear hρ hd hb hs
   refine ifv rfl ?_
   go_simp
   exact hK _ _ (Below.refl _ _) rfl fun _ _ _ _ h=>h
  ·
   intro val wx hg hd hb hs K hK
   generalize hρ:rhoV _ _ val=ρ
   have cc:∀ u,ρ (.const u)=u:=fun u=>by rw [← hρ]; rfl
   have ff:∀ u,ρ (.func u)=.func (.func u) #[] #[]:=fun u=>by rw [← hρ]; rfl
   have r28:ρ (.tmp 28)=.slice (some ad) n c:=by rw [← hρ]; exact hd 2 rfl rfl
   have hsl:=SB.out wx
   clear hρ hd hb hs
   refine ifv rfl ?_
   go_simp
   exact hK _ _ (Below.refl _ _) rfl fun _ _ _ _ h=>h
  ·
   intro val wx hg hd hb hs K hK
   generalize hρ:rhoV _ _ val=ρ
   have cc:∀ u,ρ (.const u)=u:=fun u=>by rw [← hρ]; rfl
   have ff:∀ u,ρ (.func u)=.func (.func u) #[] #[]:=fun u=>by rw [← hρ]; rfl
   have r29:ρ (.tmp 29)=cvb:=by rw [← hρ]; exact hd 3 rfl rfl
   have hc:=NB.out wx ⟨hg.os,hg.tape,hg.output,hg.size,hg.block⟩
   clear hρ hd hb hs
   refine ifv rfl ?_
   go_simp
   refine hc.mono ?_
   rintro e w2 ⟨rfl,rfl⟩
   exact ⟨_,rfl,hK _ _ (Below.refl _ _) rfl fun _ _ _ _ h=>h⟩
  ·
   intro val wx hg hd hb hs K hK
   generalize hρ:rhoV _ _ val=ρ
   have cc:∀ u,ρ (.const u)=u:=fun u=>by rw [← hρ]; rfl
   have ff:∀ u,ρ (.func u)=.func (.func u) #[] #[]:=fun u=>by rw [← hρ]; rfl
   have r30:ρ (.tmp 30)=.int .u64 (cs:Int):=by rw [← hρ]; exact hd 4 rfl rfl
   clear hρ hd hb hs
   refine ifv rfl ?_
   go_simp
   exact hK _ _ (Below.refl _ _) rfl fun _ _ _ _ h=>h
  ·
   intro val wx hg hd hb hs K hK
   generalize hρ:rhoV _ _ val=ρ
   have cc:∀ u,ρ (.const u)=u:=fun u=>by rw [← hρ]; rfl
   have ff:∀ u,ρ (.func u)=.func (.func u) #[] #[]:=fun u=>by rw [← hρ]; rfl
   have r5:ρ (.tmp 5)=.int .u16 (m:Int):=by rw [← hρ]; rfl
   clear hρ hd hb hs
   refine ifv rfl ?_
   go_simp
   exact hK _ _ (Below.refl _ _) rfl fun _ _ _ _ h=>h
  ·
   intro val wx hg hd hb hs K hK
   generalize hρ:rhoV _ _ val=ρ
   have cc:∀ u,ρ (.const u)=u:=fun u=>by rw [← hρ]; rfl
   have ff:∀ u,ρ (.func u)=.func (.func u) #[] #[]:=fun u=>by rw [← hρ]; rfl
   have r5:ρ (.tmp 5)=.int .u16 (m:Int):=by rw [← hρ]; rfl
   clear hρ hd hb hs
   refine ifv rfl ?_
   go_simp
   exact hK _ _ (Below.refl _ _) rfl fun _ _ _ _ h=>h
  ·
   intro val wx hg hd hb hs K hK
   generalize hρ:rhoV _ _ val=ρ
   have cc:∀ u,ρ (.const u)=u:=fun u=>by rw [← hρ]; rfl
   have ff:∀ u,ρ (.func u)=.func (.func u) #[] #[]:=fun u=>by rw [← hρ]; rfl
   have r33:ρ (.tmp 33)=.int .u16 (m:Int):=by rw [← hρ]; exact hd 7 rfl rfl
   clear hρ hd hb hs
   refine ifv rfl ?_
   go_simp
   exact hK _ _ (Below.refl _ _) rfl fun _ _ _ _ h=>h
  ·
   intro val wx hg hd hb hs K hK
   generalize hρ:rhoV _ _ val=ρ
   have cc:∀ u,ρ (.const u)=u:=fun u=>by rw [← hρ]; rfl
   have ff:∀ u,ρ (.func u)=.func (.func u) #[] #[]:=fun u=>by rw [← hρ]; rfl
   have r31:ρ (.tmp 31)=.int .u16 (cs:Int):=by rw [← hρ]; exact hd 5 rfl rfl
   have r32:ρ (.tmp 32)=.int .u16 (m:Int):=by rw [← hρ]; exact hd 6 rfl rfl
   have r34:ρ (.tmp 34)=.int .u16 (m1:Int):=by rw [← hρ]; exact hd 8 rfl rfl
   have hc:=HCH.out wx
   clear hρ hd hb hs
   refine ifv rfl ?_
   go_simp
   refine hc.mono ?_
   rintro e w2 ⟨rfl,rfl⟩
   exact ⟨_,rfl,hK _ _ (Below.refl _ _) rfl fun _ _ _ _ h=>h⟩
  ·
   intro val wx hg hd hb hs K hK
   generalize hρ:rhoV _ _ val=ρ
   have cc:∀ u,ρ (.const u)=u:=fun u=>by rw [← hρ]; rfl
   have ff:∀ u,ρ (.func u)=.func (.func u) #[] #[]:=fun u=>by rw [← hρ]; rfl
   have r35:ρ (.tmp 35)=.int .u16 (r:Int):=by rw [← hρ]; exact hd 9 rfl rfl
   clear hρ hd hb hs
   refine ifv rfl ?_
   go_simp
   exact hK _ _ (Below.refl _ _) rfl fun _ _ _ _ h=>h
  ·
   intro val wx hg hd hb hs K hK
   generalize hρ:rhoV _ _ val=ρ
   have cc:∀ u,ρ (.const u)=u:=fun u=>by rw [← hρ]; rfl
   have ff:∀ u,ρ (.func u)=.func (.func u) #[] #[]:=fun u=>by rw [← hρ]; rfl
   have r36:ρ (.tmp 36)=.int .u64 (r:Int):=by rw [← hρ]; exact hd 10 rfl rfl
   have hc:=HPU.out wx
   have hwb:B≤wx.heap.size:=Nat.le_trans HBZ.out hg.size
   have hwz:w9.heap.size≤wx.heap.size:=hg.size
   clear hρ hd hb hs
   refine ifv rfl ?_
   go_simp
   refine hc.mono ?_
   rintro e w2 ⟨v2,rfl,h2,hb2⟩
   exact ⟨_,rfl,hK _ _ (hb2.mono hwz) (own_base h2 hwb) fun j _ _ _ h=>LessΦ.keep hb2 j _ h⟩
 ·intro o ho
  injection ho with ho
  subst ho
  intro val wx hg hd hs K hK
  have q1:=hd 1 (by decide) (by decide) fun i _ _=>rfl
  have q11:Row8 B wx (val 11) y:=hd 11 (by decide) (by decide) fun i _ _=>rfl
  generalize hρ:rhoV _ _ val=ρ
  have r27:ρ (.tmp 27)=.slice (some ⟨g,10,none⟩) n10 c10:=by rw [← hρ]; exact q1
  have r37:ρ (.tmp 37)=val 11:=by rw [← hρ]; rfl
  obtain ⟨A2,c2,e2,hc2⟩:=q11.form
  have hyl:y.length=2:=by rw [HY.out,putF_len]
  rw [e2,hyl] at r37
  rw [e2] at q11
  have q11r:=(q11.reads).2
  rw [hyl] at q11r
  obtain ⟨a2,rfl,_,_,hs2⟩:=q11r.2 (by decide)
  have hg:Below w9.heap.size w9 wx:=⟨hg.os,hg.tape,hg.output,hg.size,hg.block⟩
  have hvx:Row8 w.heap.size wx (.slice (some ⟨g,0,none⟩) n cap) (x.set 8 (u8 d8)):=H9V.out.below hg
  obtain ⟨g',cap',ev,_,_,cur,hbk,hcur⟩:=hvx.blk (by rw [List.length_set]; omega)
  injection ev with ev _ _
  injection ev with ev
  injection ev with ev _ _
  subst ev
  have hlen:(bytesV (x.set 8 (u8 d8))).length=n:=by rw [bytesV_len,List.length_set,HN.out]
  have hn20:20≤n:=by have:=HN.out; omega
  have hex:∀ i,i < n→(wx.cell? ⟨g,i,none⟩).isSome=true:=fun i hi=>by
   rw [hbk.cell,hcur i _ (List.getElem?_eq_getElem (by rw [hlen]; exact hi))]
   rfl
  have hfr:∀ i,wx.frozen? ⟨g,i,none⟩=false:=fun i=>hbk.frozen i
  have hcp:=run_copy_cells (P:=Tryz.prog) wx 61 61 3 5 g 10 n10 c10 a2 2 c2 (bytesV y) Tryz.underlying61 (by kernel_rfl) (by rw [bytesV_len,hyl,HN10.out]; exact (Nat.min_eq_left (by omega)).symm) hs2 (fun j hj=>hex _ (by rw [bytesV_len,hyl] at hj; omega)) (fun j hj=>hfr _) (bytesV_one _)
  have hbx:Below w.heap.size w wx:=H9B.out.trans (hg.mono H9B.out.size)
  have hyb:y=[u8 (r / 256),u8 r]:=by rw [HY.out,put2]
  have e9:bytesV y=[.int .u8 ((u8 (r / 256)).toNat:Int),.int .u8 ((u8 r).toNat:Int)]:=by rw [hyb]; rfl
  rw [e9] at hcp
  have f1:=Row8.set (i:=10) (b:=u8 (r / 256)) hvx
  have f2:=Row8.set (i:=11) (b:=u8 r) f1
  have hbz:Below w.heap.size w ((wx.setCell ⟨g,10,none⟩ (.int .u8 ((u8 (r / 256)).toNat:Int))).setCell ⟨g,11,none⟩ (.int .u8 ((u8 r).toNat:Int))):=(hbx.setCell (p:=⟨g,10,none⟩) hgB _).setCell (p:=⟨g,11,none⟩) hgB _
  have HF:=Lib.hid f2
  have HBZ2:=Lib.hid hbz
  have HCP:=Lib.hid hcp
  clear hρ hd hs hbx f1 f2 hbz hcp e9 hyb hex hfr hcur hbk hvx hs2 q11 q1 q11r
  refine ifv rfl ?_
  have hcp:=HCP.out
  go_simp
  refine hK _ _ ⟨?_,HBZ2.out⟩
  rw [HR.out,← HM1.out,← HRE.out]
  have h8e:UInt8.ofNat (b8 - 1)=u8 d8:=by rw [HD8.out]; rfl
  rw [h8e]
  exact HF.out
 ·intro val w' h'
  rw [if_pos (by decide)] at h'
  obtain ⟨h1,h2⟩:=h'
  have H1:=Lib.hid h1
  have H2':=Lib.hid h2
  simp only [putAll]
  simp only [Act.put,List.setIfInBounds_toArray,List.set_cons_succ,List.set_cons_zero]
  generalize val 0=x0,val 1=x1,val 2=x2,val 3=x3,val 4=x4,val 5=x5,val 6=x6,val 7=x7,val 8=x8,val 9=x9,val 10=x10,val 11=x11,val 12=x12
  clear h1 h2 uc u1 ur
  go_wp2_with fail
  go_ret2
  exact ⟨_,by rw [show R.2=0 from by rw [HR.out]]; rfl,H1.out,H2'.out⟩
theorem less_any (A:Option Addr) (n c:Nat) (x:By) (I:Nat→Prop) (w:World) (h:Reads w I 1 A n (bytesV x)) (hn:x.length=n) (hc:n≤c) (hsm:n≤1000000) :
  Calls Tryz.prog 131 #[.slice A n c] w (LessPost w (lessF x)):=by
 by_cases hw:wrongF x=0
 ·by_cases h8:(x.getD 8 0).toNat=0
  ·exact less_no A n c x I w h hn hc hsm (.inr h8)
  ·exact less_yes A n c x I w h hn hc hsm hw h8
 ·exact less_no A n c x I w h hn hc hsm (.inl hw)
end Go.Proofs.YthlommalbkhcjaaGreat
