/- Layer 18: the simple table. -/
import Derived.Test.YthlommalbkhcjaaGreatNm45
import Derived.Test.YthlommalbkhcjaaGreatNm37
namespace Go.Proofs.YthlommalbkhcjaaGreat
open Go.RowKit Go.Sort Go.BigFrame
structure FtA where
 d:Int
 e:Int
 Al:Option Addr
 nl:Nat
 cl:Nat
 us:List Value
 ls:List By
 Ao:Option Addr
 no:Nat
 co:Nat
 Z:List Zs
def ftV (F:FtA):Array Value:=#[.int .i64 F.d,.int .i64 F.e,.slice F.Al F.nl F.cl,.slice F.Ao F.no F.co]
structure FtM (w:World) (I:Nat→Prop) (F:FtA):Prop where
 lc:Lst8 w I F.Al F.nl F.us F.ls
 ou:SnM w I F.Ao F.no F.Z
theorem FtM.keep {w w':World} {I:Nat→Prop} {F:FtA} (h:FtM w I F) (hs:Same I w w'):FtM w' I F:=⟨h.lc.keep hs,h.ou.keep hs⟩
theorem FtM.lt {w:World} {I:Nat→Prop} {F:FtA} (h:FtM w I F):FtM w (fun k=>I k∧k < w.heap.size) F:=⟨h.lc.lt,h.ou.lt⟩
def sameA (F G:FtA):Bool:=F.d == G.d && (F.e == G.e && (F.ls == G.ls && F.Z.map zsP == G.Z.map zsP))
set_option maxRecDepth 100000 in
set_option maxHeartbeats 4000000 in
theorem fwsame_any (F G:FtA) (I J:Nat→Prop) (w:World) (hF:FtM w I F) (hG:FtM w J G) (h1:F.nl≤1000000) (h2:F.no≤1000000) :
  Calls Tryz.prog 38 #[.agg (ftV F),.agg (ftV G)] w fun e w'=>e=.returned (.bool (sameA F G))∧Below w.heap.size w w':=by
 obtain ⟨W,hW⟩:∃ Z,Z=(w.alloc (.cells (ftV F) 71)).alloc (.cells (ftV G) 71):=⟨_,rfl⟩
 have hbW:Below w.heap.size w W:=by rw [hW]; exact ((Below.refl _ _).alloc (Nat.le_refl _) _).alloc (by simp) _
 have k1:Blk W w.heap.size 71 (ftV F):=by rw [hW]; exact (Blk.new w _ _).alloc _
 have k2:Blk W (w.heap.size+1) 71 (ftV G):=by
  rw [hW]
  have:=Blk.new (w.alloc (.cells (ftV F) 71)) 71 (ftV G)
  simpa using this
 have hFW:=hF.lt.keep (Same.ofBelow hbW fun k hk=>hk.2)
 have hGW:=hG.lt.keep (Same.ofBelow hbW fun k hk=>hk.2)
 have HE1:=Lib.hid (eqf1_any F.Al G.Al F.nl G.nl F.cl G.cl F.us G.us F.ls G.ls _ _ W hFW.lc hGW.lc h1)
 have HE2:=Lib.hid (eqf2_any F.Ao G.Ao F.no G.no F.co G.co F.Z G.Z _ _ W hFW.ou hGW.ou h2)
 have hr:sameA F G=(F.d == G.d && (F.e == G.e && (F.ls == G.ls && F.Z.map zsP == G.Z.map zsP))):=rfl
 rw [hr]
 obtain ⟨b3,e3⟩:∃ b,b=(F.ls == G.ls):=⟨_,rfl⟩
 obtain ⟨b4,e4⟩:∃ b,b=(F.Z.map zsP == G.Z.map zsP):=⟨_,rfl⟩
 rw [← e3] at HE1 ⊢
 rw [← e4] at HE2 ⊢
 obtain ⟨d1,e1,A1,n1,c1,us1,ls1,B1,m1,g1,Z1⟩:=F
 obtain ⟨d2,e2,A2,n2,c2,us2,ls2,B2,m2,g2,Z2⟩:=G
 have q:=fun (wx:World) (hb:Below W.heap.size W wx)=>(⟨(k1.below hb k1.lt).cell 0,(k1.below hb k1.lt).cell 1,(k1.below hb k1.lt).cell 2,(k1.below hb k1.lt).cell 3,(k2.below hb k2.lt).cell 0,(k2.below hb k2.lt).cell 1,(k2.below hb k2.lt).cell 2,(k2.below hb k2.lt).cell 3⟩ :
  wx.cell? ⟨w.heap.size,0,none⟩=some (.int .i64 d1)∧wx.cell? ⟨w.heap.size,1,none⟩=some (.int .i64 e1)∧wx.cell? ⟨w.heap.size,2,none⟩=some (.slice A1 n1 c1)∧wx.cell? ⟨w.heap.size,3,none⟩=some (.slice B1 m1 g1) ∧
  wx.cell? ⟨w.heap.size+1,0,none⟩=some (.int .i64 d2)∧wx.cell? ⟨w.heap.size+1,1,none⟩=some (.int .i64 e2)∧wx.cell? ⟨w.heap.size+1,2,none⟩=some (.slice A2 n2 c2)∧wx.cell? ⟨w.heap.size+1,3,none⟩=some (.slice B2 m2 g2))
 have HQ:=Lib.hid q
 have HW:=Lib.hid hW
 have HBW:=Lib.hid hbW
 obtain ⟨_,_,q2,q3,_,_,r2,r3⟩:=q W (Below.refl _ _)
 simp only at HE1 HE2 HW ⊢
 have H1:=Lib.hid h1
 clear hF hG h1 h2 hW hbW k1 k2 hFW hGW hr e3 e4 q
 unfold ftV at HW ⊢
 simp only at HW ⊢
 obtain ⟨x1,hx1⟩:∃ b,b=(d1 == d2):=⟨_,rfl⟩
 obtain ⟨x2,hx2⟩:∃ b,b=(e1 == e2):=⟨_,rfl⟩
 rw [← hx1,← hx2]
 have y1:=hx1.symm
 have y2:=hx2.symm
 clear hx1 hx2
 cases x1 with
 | false =>
   go_enter Tryz.func38,Tryz.ntmps38
   go_upto_region 1 with (fail)
   rw [← HW.out]
   go_wp2_with fail
   refine HE1.out.mono ?_
   rintro e w' ⟨rfl,rfl⟩
   go_wp2_with fail
   refine HE2.out.mono ?_
   rintro e w2 ⟨rfl,hb2⟩
   obtain ⟨p0,p1,_,_,s0,s1,_,_⟩:=HQ.out w2 hb2
   have HB2:=Lib.hid (HBW.out.trans (hb2.mono HBW.out.size))
   clear hb2
   go_wp2_with fail
   go_ret
   exact ⟨rfl,HB2.out⟩
 | true =>
 cases x2 with
 | false =>
   go_enter Tryz.func38,Tryz.ntmps38
   go_upto_region 1 with (fail)
   rw [← HW.out]
   go_wp2_with fail
   refine HE1.out.mono ?_
   rintro e w' ⟨rfl,rfl⟩
   go_wp2_with fail
   refine HE2.out.mono ?_
   rintro e w2 ⟨rfl,hb2⟩
   obtain ⟨p0,p1,_,_,s0,s1,_,_⟩:=HQ.out w2 hb2
   have HB2:=Lib.hid (HBW.out.trans (hb2.mono HBW.out.size))
   clear hb2
   go_wp2_with fail
   go_ret
   exact ⟨rfl,HB2.out⟩
 | true =>
 cases b3 with
 | false =>
   go_enter Tryz.func38,Tryz.ntmps38
   go_upto_region 1 with (fail)
   rw [← HW.out]
   go_wp2_with fail
   refine HE1.out.mono ?_
   rintro e w' ⟨rfl,rfl⟩
   go_wp2_with fail
   refine HE2.out.mono ?_
   rintro e w2 ⟨rfl,hb2⟩
   obtain ⟨p0,p1,_,_,s0,s1,_,_⟩:=HQ.out w2 hb2
   have HB2:=Lib.hid (HBW.out.trans (hb2.mono HBW.out.size))
   clear hb2
   go_wp2_with fail
   go_ret
   exact ⟨rfl,HB2.out⟩
 | true =>
   go_enter Tryz.func38,Tryz.ntmps38
   go_upto_region 1 with (fail)
   rw [← HW.out]
   go_wp2_with fail
   refine HE1.out.mono ?_
   rintro e w' ⟨rfl,rfl⟩
   go_wp2_with fail
   refine HE2.out.mono ?_
   rintro e w2 ⟨rfl,hb2⟩
   obtain ⟨p0,p1,_,_,s0,s1,_,_⟩:=HQ.out w2 hb2
   have HB2:=Lib.hid (HBW.out.trans (hb2.mono HBW.out.size))
   clear hb2
   go_wp2_with fail
   go_ret
   exact ⟨rfl,HB2.out⟩
end Go.Proofs.YthlommalbkhcjaaGreat
namespace Go.Proofs.YthlommalbkhcjaaGreat
open Go.RowKit Go.Sort Go.BigFrame
set_option maxRecDepth 100000 in
set_option maxHeartbeats 8000000 in
theorem rsame18_any (F G:FtA) (I J:Nat→Prop) (w:World) (hF:FtM w I F) (hG:FtM w J G) (h1:F.nl≤1000000) (h2:F.no≤1000000) :
  Calls Tryz.prog 40 #[.agg (ftV F),.agg (ftV G)] w fun e w'=>e=.returned (.bool (sameA F G))∧Below w.heap.size w w':=by
 obtain ⟨W,hW⟩:∃ Z,Z=(w.alloc (.cells (ftV F) 71)).alloc (.cells (ftV G) 71):=⟨_,rfl⟩
 have hbW:Below w.heap.size w W:=by rw [hW]; exact ((Below.refl _ _).alloc (Nat.le_refl _) _).alloc (by simp) _
 have k1:Blk W w.heap.size 71 (ftV F):=by rw [hW]; exact (Blk.new w _ _).alloc _
 have k2:Blk W (w.heap.size+1) 71 (ftV G):=by
  rw [hW]
  have:=Blk.new (w.alloc (.cells (ftV F) 71)) 71 (ftV G)
  simpa using this
 have hFW:=hF.lt.keep (Same.ofBelow hbW fun k hk=>hk.2)
 have hGW:=hG.lt.keep (Same.ofBelow hbW fun k hk=>hk.2)
 obtain ⟨R,hR⟩:∃ R,R=sameA F G:=⟨_,rfl⟩
 rw [← hR]
 unfold sameA at hR
 obtain ⟨d1,e1,A1,n1,c1,us1,ls1,B1,m1,g1,Z1⟩:=F
 obtain ⟨d2,e2,A2,n2,c2,us2,ls2,B2,m2,g2,Z2⟩:=G
 have q:=fun (wx:World) (hb:Below W.heap.size W wx)=>(⟨(k1.below hb k1.lt).cell 0,(k1.below hb k1.lt).cell 1,(k1.below hb k1.lt).cell 2,(k1.below hb k1.lt).cell 3,(k2.below hb k2.lt).cell 0,(k2.below hb k2.lt).cell 1,(k2.below hb k2.lt).cell 2,(k2.below hb k2.lt).cell 3⟩ :
  wx.cell? ⟨w.heap.size,0,none⟩=some (.int .i64 d1)∧wx.cell? ⟨w.heap.size,1,none⟩=some (.int .i64 e1)∧wx.cell? ⟨w.heap.size,2,none⟩=some (.slice A1 n1 c1)∧wx.cell? ⟨w.heap.size,3,none⟩=some (.slice B1 m1 g1) ∧
  wx.cell? ⟨w.heap.size+1,0,none⟩=some (.int .i64 d2)∧wx.cell? ⟨w.heap.size+1,1,none⟩=some (.int .i64 e2)∧wx.cell? ⟨w.heap.size+1,2,none⟩=some (.slice A2 n2 c2)∧wx.cell? ⟨w.heap.size+1,3,none⟩=some (.slice B2 m2 g2))
 have HQ:=Lib.hid q
 have HW:=Lib.hid hW
 have HBW:=Lib.hid hbW
 simp only at hR HW h1 h2 ⊢
 have HFW:=Lib.hid (⟨hFW.lc,hFW.ou⟩:Lst8 W _ A1 n1 us1 ls1∧SnM W _ B1 m1 Z1)
 have HGW:=Lib.hid (⟨hGW.lc,hGW.ou⟩:Lst8 W _ A2 n2 us2 ls2∧SnM W _ B2 m2 Z2)
 have HR:=Lib.hid hR
 clear hF hG hW hbW k1 k2 hFW hGW q hR
 unfold ftV at HW ⊢
 simp only at HW ⊢
 obtain ⟨q0,q1,q2,q3,r0,r1,r2,r3⟩:=HQ.out W (Below.refl _ _)
 obtain ⟨gF,hgF⟩:∃ g,g=w.heap.size:=⟨_,rfl⟩
 by_cases x1:d1=d2
 case neg =>
  have y1:(d1 != d2)=true:=by rw [bne_iff_ne]; exact x1
  have hs:=Lib.hid (show R=false by rw [HR.out,beq_eq_false_iff_ne.2 x1]; rfl)
  clear x1 hgF
  go_enter Tryz.func40,Tryz.ntmps40
  go_upto_region 1 with (fail)
  rw [← HW.out]
  go_wp2_with fail
  go_ret
  exact ⟨by rw [hs.out]; rfl,HBW.out⟩
 have y1:(d1 != d2)=false:=by rw [x1]; simp
 by_cases x2:e1=e2
 case neg =>
  have y2:(e1 != e2)=true:=by rw [bne_iff_ne]; exact x2
  have hs:=Lib.hid (show R=false by rw [HR.out,beq_eq_false_iff_ne.2 x2]; simp)
  clear x1 x2 hgF
  go_enter Tryz.func40,Tryz.ntmps40
  go_upto_region 1 with (fail)
  rw [← HW.out]
  go_wp2_with fail
  go_ret
  exact ⟨by rw [hs.out]; rfl,HBW.out⟩
 have y2:(e1 != e2)=false:=by rw [x2]; simp
 by_cases x3:n1=n2
 case neg =>
  have y3:((n1:Int) != (n2:Int))=true:=by rw [bne_iff_ne]; omega
  have hs:=Lib.hid (show R=false by
   have:ls1≠ls2:=fun e=>by
    have a:=HFW.out.1.2.1
    have b:=HGW.out.1.2.1
    rw [e] at a
    omega
   rw [HR.out,beq_eq_false_iff_ne.2 this]; simp)
  clear x1 x2 x3 hgF
  go_enter Tryz.func40,Tryz.ntmps40
  go_upto_region 1 with (fail)
  rw [← HW.out]
  go_wp2_with fail
  go_ret
  exact ⟨by rw [hs.out]; rfl,HBW.out⟩
 subst x3
 have y3:((n1:Int) != (n1:Int))=false:=by simp
 by_cases x4:m1=m2
 case neg =>
  have y4:((m1:Int) != (m2:Int))=true:=by rw [bne_iff_ne]; omega
  have hs:=Lib.hid (show R=false by
   have:Z1.map zsP≠Z2.map zsP:=fun e=>by
    have a:=HFW.out.2.len
    have b:=HGW.out.2.len
    have c:=congrArg List.length e
    rw [List.length_map,List.length_map] at c
    omega
   rw [HR.out,beq_eq_false_iff_ne.2 this]; simp)
  clear x1 x2 x4 hgF
  go_enter Tryz.func40,Tryz.ntmps40
  go_upto_region 1 with (fail)
  rw [← HW.out]
  go_wp2_with fail
  go_ret
  exact ⟨by rw [hs.out]; rfl,HBW.out⟩
 subst x4
 have y4:((m1:Int) != (m1:Int))=false:=by simp
 have hr:R=(ls1 == ls2 && Z1.map zsP == Z2.map zsP):=by rw [HR.out,x1,x2]; simp
 have HRR:=Lib.hid hr
 clear x1 x2 hr HR
 go_enter Tryz.func40,Tryz.ntmps40
 go_upto_region 1 with (fail)
 rw [← HW.out,← hgF]
 rw [← hgF] at q0 q1 q2 q3 r0 r1 r2 r3
 rw [← hgF] at HQ
 clear hgF HW
 go_wp2_with fail
 go_loopw [5] (fun i wr=>∃ k:Nat,k≤n1∧i=.int .i64 (k:Int)∧ls1.take k=ls2.take k∧Below W.heap.size W wr) (fun i _=>n1 - (intOf i).toNat)
 case atStart=>exact ⟨0,Nat.zero_le _,rfl,rfl,Below.refl _ _⟩
 case round =>
  obtain ⟨k,hk,rfl,htk,hbr⟩:=hrel
  have HTK:=Lib.hid htk
  have HBR:=Lib.hid hbr
  obtain ⟨_,_,w2,w3,_,_,v2,v3⟩:=HQ.out wr hbr
  clear htk hbr q0 q1 q2 q3 r0 r1 r2 r3
  by_cases hlt:k < n1
  ·have a1:=HFW.out.1.keep (Same.ofBelow HBR.out fun k hk=>Nat.lt_of_lt_of_le hk.2 HBW.out.size)
   have b1:=HGW.out.1.keep (Same.ofBelow HBR.out fun k hk=>Nat.lt_of_lt_of_le hk.2 HBW.out.size)
   obtain ⟨x,hx⟩:∃ x,ls1[k]?=some x:=⟨_,List.getElem?_eq_getElem (by rw [a1.2.1]; exact hlt)⟩
   obtain ⟨y,hy⟩:∃ y,ls2[k]?=some y:=⟨_,List.getElem?_eq_getElem (by rw [b1.2.1]; exact hlt)⟩
   obtain ⟨U1,f1,j1,_,o1⟩:=a1.2.2 k x hx
   obtain ⟨U2,f2,j2,_,o2⟩:=b1.2.2 k y hy
   obtain ⟨ad,rfl,_,_,p1⟩:=a1.1.2 (by omega)
   obtain ⟨bd,rfl,_,_,p2⟩:=b1.1.2 (by omega)
   have hc1:wr.cell? (ad.add k)=some (.slice U1 x.length f1):=by have:=p1 _ _ j1; simpa using this
   have hc2:wr.cell? (bd.add k)=some (.slice U2 y.length f2):=by have:=p2 _ _ j2; simpa using this
   have s1:=fun wx (e:wx.heap=wr.heap)=>run_str wx _ U1 x f1 (o1.keep (Same.ofHeap _ e))
   have s2:=fun wx (e:wx.heap=wr.heap)=>run_str wx _ U2 y f2 (o2.keep (Same.ofHeap _ e))
   have HS:=Lib.hid (fun e:x=y=>takes_succ HTK.out hx (by rw [e]; exact hy))
   have HN:=Lib.hid (fun e:x≠y=>takes_ne hx hy e)
   have hi0:(0:Int)≤k:=by omega
   have hi1:(k:Int) < n1:=by omega
   clear a1 b1 hx hy j1 j2 o1 o2 p1 p2 HTK
   by_cases hxy:x=y
   ·have hs:=Lib.hid (HS.out hxy)
    have z1:(x == y)=true:=by rw [hxy]; simp
    clear HS HN hxy
    go_upto_region 6 with (fail)
    go_quiet (first | (rw [s1 (wr.drewN _) rfl]; exact ⟨rfl,rfl⟩) | (rw [s2 (wr.drewN _) rfl]; exact ⟨rfl,rfl⟩))
    go_wp2_with fail
    go_roundw
    case rel=>exact ⟨k+1,by omega,by simp,hs.out,HBR.out.trans ⟨rfl,rfl,rfl,Nat.le_refl _,fun _ _=>rfl⟩⟩
    case measure=>simp [intOf]; omega
   ·have hs:=Lib.hid (show R=false by
     rw [HRR.out,beq_eq_false_iff_ne.2 (HN.out hxy)]; rfl)
    have z1:(x == y)=false:=by rw [beq_eq_false_iff_ne]; exact hxy
    clear HS HN hxy
    go_upto_region 6 with (fail)
    go_quiet (first | (rw [s1 (wr.drewN _) rfl]; exact ⟨rfl,rfl⟩) | (rw [s2 (wr.drewN _) rfl]; exact ⟨rfl,rfl⟩))
    go_wp2_with fail
    go_ret
    exact ⟨by rw [hs.out]; rfl,HBW.out.trans ((HBR.out.trans (show Below W.heap.size wr (wr.drewN _) from ⟨rfl,rfl,rfl,Nat.le_refl _,fun _ _=>rfl⟩)).mono HBW.out.size)⟩
  ·obtain rfl:k=n1:=by omega
   have hls:ls1=ls2:=by
    have:=HTK.out
    rwa [List.take_of_length_le (by rw [HFW.out.1.2.1]; exact Nat.le_refl _),List.take_of_length_le (by rw [HGW.out.1.2.1]; exact Nat.le_refl _)] at this
   have hr:R=(Z1.map zsP == Z2.map zsP):=by rw [HRR.out,hls]; simp
   have HR2:=Lib.hid hr
   have e1:decide ((k:Int) < (k:Int))=false:=decide_eq_false (by omega)
   clear hls hr HRR HTK hlt
   go_upto_region 8 with (fail)
   obtain ⟨wq,hwq⟩:∃ z,z=wr:=⟨_,rfl⟩
   rw [← hwq]
   rw [← hwq] at HBR w2 w3 v2 v3
   clear hwq e1
   go_wp2_with fail
   go_loopw [6] (fun i wr=>∃ j:Nat,j≤m1∧i=.int .i64 (j:Int)∧(Z1.map zsP).take j=(Z2.map zsP).take j∧Below W.heap.size W wr) (fun i _=>m1 - (intOf i).toNat)
   case atStart=>exact ⟨0,Nat.zero_le _,rfl,rfl,HBR.out⟩
   case round =>
    obtain ⟨j,hj,rfl,htk,hbr⟩:=hrel
    have HTK:=Lib.hid htk
    have HBX:=Lib.hid hbr
    obtain ⟨_,_,_,w3,_,_,_,v3⟩:=HQ.out wr hbr
    clear htk hbr w2 v2
    by_cases hlt:j < m1
    ·have a1:=HFW.out.2.keep (Same.ofBelow HBX.out fun k hk=>Nat.lt_of_lt_of_le hk.2 HBW.out.size)
     have b1:=HGW.out.2.keep (Same.ofBelow HBX.out fun k hk=>Nat.lt_of_lt_of_le hk.2 HBW.out.size)
     obtain ⟨x,hx⟩:∃ x,Z1[j]?=some x:=⟨_,List.getElem?_eq_getElem (by rw [a1.len]; exact hlt)⟩
     obtain ⟨y,hy⟩:∃ y,Z2[j]?=some y:=⟨_,List.getElem?_eq_getElem (by rw [b1.len]; exact hlt)⟩
     obtain ⟨ad,U1,f1,rfl,_,p1,p2,o1⟩:=a1.at hx
     obtain ⟨bd,U2,f2,rfl,_,t1,t2,o2⟩:=b1.at hy
     have hx':(Z1.map zsP)[j]?=some (x.p,x.x):=by rw [List.getElem?_map,hx]; rfl
     have hy':(Z2.map zsP)[j]?=some (y.p,y.x):=by rw [List.getElem?_map,hy]; rfl
     have HS:=Lib.hid (fun e:(x.p,x.x)=(y.p,y.x)=>takes_succ HTK.out hx' (by rw [e]; exact hy'))
     have HN:=Lib.hid (fun e:(x.p,x.x)≠(y.p,y.x)=>takes_ne hx' hy' e)
     obtain ⟨xp,xx,xu⟩:=x
     obtain ⟨yp,yx,yu⟩:=y
     simp only at p1 p2 t1 t2 HS HN o1 o2
     have s1:=fun wx (e:wx.heap=wr.heap)=>run_str wx _ U1 xx f1 (o1.keep (Same.ofHeap _ e))
     have s2:=fun wx (e:wx.heap=wr.heap)=>run_str wx _ U2 yx f2 (o2.keep (Same.ofHeap _ e))
     have hi0:(0:Int)≤j:=by omega
     have hi1:(j:Int) < m1:=by omega
     have e1:decide ((j:Int) < (m1:Int))=true:=decide_eq_true hi1
     clear a1 b1 hx hy hx' hy' o1 o2 HTK
     by_cases hp:xp=yp
     ·have z0:(xp != yp)=false:=by rw [hp]; simp
      by_cases hxy:xx=yx
      ·have hs:=Lib.hid (HS.out (by rw [hp,hxy]))
       have z1:(xx == yx)=true:=by rw [hxy]; simp
       clear HS HN hxy hp
       go_upto_region 11 with (fail)
       go_quiet (first | (rw [s1 (wr.drewN _) rfl]; exact ⟨rfl,rfl⟩) | (rw [s2 (wr.drewN _) rfl]; exact ⟨rfl,rfl⟩))
       go_wp2_with fail
       go_roundw
       case rel=>exact ⟨j+1,by omega,by simp,hs.out,HBX.out.trans ⟨rfl,rfl,rfl,Nat.le_refl _,fun _ _=>rfl⟩⟩
       case measure=>simp [intOf]; omega
      ·have hs:=Lib.hid (show R=false by rw [HR2.out,beq_eq_false_iff_ne]; exact HN.out fun e=>hxy (by injection e))
       have z1:(xx == yx)=false:=by rw [beq_eq_false_iff_ne]; exact hxy
       clear HS HN hxy hp
       go_upto_region 11 with (fail)
       go_quiet (first | (rw [s1 (wr.drewN _) rfl]; exact ⟨rfl,rfl⟩) | (rw [s2 (wr.drewN _) rfl]; exact ⟨rfl,rfl⟩))
       go_wp2_with fail
       go_ret
       exact ⟨by rw [hs.out]; rfl,HBW.out.trans ((HBX.out.trans (show Below W.heap.size wr (wr.drewN _) from ⟨rfl,rfl,rfl,Nat.le_refl _,fun _ _=>rfl⟩)).mono HBW.out.size)⟩
     ·have z0:(xp != yp)=true:=by rw [bne_iff_ne]; exact hp
      have hs:=Lib.hid (show R=false by rw [HR2.out,beq_eq_false_iff_ne]; exact HN.out fun e=>hp (by injection e))
      clear HS HN hp s1 s2
      go_upto_region 11 with (fail)
      go_quiet (fail)
      go_wp2_with fail
      go_ret
      exact ⟨by rw [hs.out]; rfl,HBW.out.trans ((HBX.out.trans (show Below W.heap.size wr (wr.drewN _) from ⟨rfl,rfl,rfl,Nat.le_refl _,fun _ _=>rfl⟩)).mono HBW.out.size)⟩
    ·obtain rfl:j=m1:=by omega
     have e1:decide ((j:Int) < (j:Int))=false:=decide_eq_false (by omega)
     have hs:=Lib.hid (show R=true by
      rw [HR2.out]
      have:=HTK.out
      rw [List.take_of_length_le (by rw [List.length_map,HFW.out.2.len]; exact Nat.le_refl _),List.take_of_length_le (by rw [List.length_map,HGW.out.2.len]; exact Nat.le_refl _)] at this
      simpa using this)
     clear hlt
     go_wp2_with fail
     go_ret
     exact ⟨by rw [hs.out]; rfl,HBW.out.trans (HBX.out.mono HBW.out.size)⟩
end Go.Proofs.YthlommalbkhcjaaGreat
namespace Go.Proofs.YthlommalbkhcjaaGreat
open Go.RowKit Go.Sort
theorem tab_mem (l:List Nx):∀ (k:Nat) (x:Int),x ∈ tabGo l k→∃ i,i < k∧x=(nxAt l i).1
 | 0,x,h=>by simp [tabGo] at h
 | k+1,x,h=>by
   unfold tabGo at h
   rcases List.mem_append.1 h with h | h
   ·obtain ⟨i,h1,h2⟩:=tab_mem l k x h
    exact ⟨i,by omega,h2⟩
   ·exact ⟨k,by omega,(List.mem_replicate.1 h).2⟩
theorem table_port {l:List Nx} (hm:mayF l=true) {x:Int} (h:x ∈ tableF l):0≤x∧x < 8:=by
 obtain ⟨i,h1,rfl⟩:=tab_mem l l.length x h
 have:=may_port hm h1
 exact ⟨this.1,this.2.1⟩
structure WkOk (wz:Int × List Int):Prop where
 len:wz.2.length=256
 no:wz.1≠3→wz.2=zs0
 port:∀ x ∈ wz.2,0≤x∧x < 8
theorem zs0_port:∀ x ∈ zs0,(0:Int)≤x∧x < 8:=fun x hx=>by
 unfold zs0 at hx
 rw [(List.mem_replicate.1 hx).2]
 omega
theorem wayR_ok {r:Rt} (h:mayR r=true):WkOk (wayR r):=by
 refine ⟨wayR_len h,?_,?_⟩
 ·unfold wayR
  split
  ·intro _; rfl
  ·split
   ·intro _; rfl
   ·intro h; exact absurd rfl h
 ·unfold wayR
  split
  ·exact zs0_port
  ·split
   ·exact zs0_port
   ·rename_i h1 h2
    have hm:mayF r.nx=true:=by
     unfold mayR at h
     rw [decide_eq_false (fun e=>h2 (.inr e))] at h
     simp at h
     exact h.2
    exact fun x hx=>table_port hm hx
theorem wkL_ok (l:List Rt) (v:Int):WkOk (wkL l v):=by
 unfold wkL
 split
 ·split
  ·rename_i r _ h
   exact wayR_ok h.2
  ·exact ⟨zs0_len,fun _=>rfl,zs0_port⟩
 ·exact ⟨zs0_len,fun _=>rfl,zs0_port⟩
theorem WkOk.at_port {wz:Int × List Int} (h:WkOk wz) (i:Nat):0≤wz.2.getD i 0∧wz.2.getD i 0 < 8:=by
 rw [List.getD_eq_getElem?_getD]
 cases he:wz.2[i]? with
 | none=>simp
 | some x=>exact h.port x (List.mem_of_getElem? he)
end Go.Proofs.YthlommalbkhcjaaGreat
namespace Go.Proofs.YthlommalbkhcjaaGreat
open Go.RowKit Go.Sort Go.BigFrame
def sr1:Rt:=⟨167772160,8,true,true,0,none,0,0,[]⟩
def sr2 (A:Option Addr):Rt:=⟨184549376,8,false,true,3,A,1,1,[(0,3)]⟩
def sr3 (A:Option Addr):Rt:=⟨201326592,8,false,true,3,A,1,1,[(1,3)]⟩
def sT:TT:=((TT.nil.ins (bitsB 167772160 8) 1).ins (bitsB 184549376 8) 2).ins (bitsB 201326592 8) 3
theorem mk_simple (A B:Option Addr):mkT vk 0 [sr1,sr2 A,sr3 B] .nil=some sT:=by kernel_rfl
theorem sT_cov1:sT.cov (bitsB 184549381 32)=[(bitsB 184549376 8,2)]:=by kernel_rfl
theorem sT_cov2:sT.cov (bitsB 201326597 32)=[(bitsB 201326592 8,3)]:=by kernel_rfl
theorem sw2 (A B:Option Addr):wkL [sr1,sr2 A,sr3 B] 2=(3,List.replicate 256 0):=by kernel_rfl
theorem sw3 (A B:Option Addr):wkL [sr1,sr2 A,sr3 B] 3=(3,List.replicate 256 1):=by kernel_rfl
theorem sT_len:sT.list.length=3:=by kernel_rfl
theorem rep_getD {n:Nat} (z:Int) {u:Nat} (h:u < n):(List.replicate n z).getD u 0=z:=by
 simp [List.getD_eq_getElem?_getD,h]
theorem simple_pk (A B:Option Addr):(∀ u,pkF (wkL [sr1,sr2 A,sr3 B]) sT 184549381 u=(3,0))∧∀ u,pkF (wkL [sr1,sr2 A,sr3 B]) sT 201326597 u=(3,1):=by
 constructor
 ·intro u
  unfold pkF
  rw [sT_cov1,if_neg (by simp)]
  show ((wkL [sr1,sr2 A,sr3 B] 2).1,(wkL [sr1,sr2 A,sr3 B] 2).2.getD (u % 256) 0)=_
  rw [sw2,rep_getD _ (Nat.mod_lt _ (by decide))]
 ·intro u
  unfold pkF
  rw [sT_cov2,if_neg (by simp)]
  show ((wkL [sr1,sr2 A,sr3 B] 3).1,(wkL [sr1,sr2 A,sr3 B] 3).2.getD (u % 256) 0)=_
  rw [sw3,rep_getD _ (Nat.mod_lt _ (by decide))]
theorem pk_pos (l:List Rt) (T:TT):PkPos (pkF (wkL l) T):=fun a u _=>by
 unfold pkF
 split
 ·exact Int.le_refl _
 ·exact ((wkL_ok l _).at_port _).1
theorem ask_info:(Tryz.prog.info? 60).map (·.size)=some 4:=by kernel_rfl
def askV (Ar:Option Addr) (nr cr:Nat) (own:Int) (Am:Option Addr) (nm cm:Nat) (tok:Int):Array Value:=#[.slice Ar nr cr,.int .u32 own,.slice Am nm cm,.int .i64 tok]
def SmPost (w:World) (e:Ending) (w':World):Prop :=
 ∃ Ar Am A B,e=.returned (.agg (askV Ar 3 3 167772161 Am 2 2 5))∧RtsM w' (fun k=>w.heap.size≤k∧k < w'.heap.size) Ar 3 [sr1,sr2 A,sr3 B]∧Reads w' (fun k=>w.heap.size≤k∧k < w'.heap.size) 1 Am 2 (izV [1500,600])∧Below w.heap.size w w'
theorem res_ask {w:World} {g:Nat} {cs:Array Value} {fn:Func} {p:Tmp} (hf:fn.results=#[.cell p 60]) (tmps:Array Value) (hp:tmps.getD p undef=.pointer (some ⟨g,0,none⟩)) (h:Blk w g 60 cs) (hc:cs.size=4) :
  (results fn tmps).run Tryz.prog w=.ok (.agg cs) w:=by
 have hl:=run_loadVar_mid (P:=Tryz.prog) w g 0 60 cs.toList _ (blk_range h) Tryz.underlying60 rfl (by simpa [hc] using ask_info)
 have e1:tmps[p]?.getD undef=.pointer (some ⟨g,0,none⟩):=by simpa using hp
 simp only [results,hf]
 simp [e1,asAddr,hl]
theorem simple_mem {w w1 w2 w3 w4:World} (h1:w1=w.alloc (.cells #[.int .i64 0,.int .i64 3] 110)) (h2:w2=w1.alloc (.cells #[.int .i64 1,.int .i64 3] 110))
  (h3:w3=w2.alloc (.cells #[.int .u32 167772160,.int .i64 8,.bool true,.bool true,.int .i64 0,.slice none 0 0,.int .u32 184549376,.int .i64 8,.bool false,.bool true,.int .i64 3,.slice (some ⟨w.heap.size,0,none⟩) 1 1,.int .u32 201326592,.int .i64 8,.bool false,.bool true,.int .i64 3,.slice (some ⟨w.heap.size+1,0,none⟩) 1 1] 54))
  (h4:w4=w3.alloc (.cells #[.int .i64 1500,.int .i64 600] 3)) :
  RtsM w4 (fun k=>w.heap.size≤k∧k < w4.heap.size) (some ⟨w.heap.size+1+1,0,none⟩) 3 [sr1,sr2 (some ⟨w.heap.size,0,none⟩),sr3 (some ⟨w.heap.size+1,0,none⟩)]∧Reads w4 (fun k=>w.heap.size≤k∧k < w4.heap.size) 1 (some ⟨w.heap.size+1+1+1,0,none⟩) 2 (izV [1500,600])∧Below w.heap.size w w4:=by
 have s1:w1.heap.size=w.heap.size+1:=by rw [h1]; simp
 have s2:w2.heap.size=w1.heap.size+1:=by rw [h2]; simp
 rw [← s1] at h3 ⊢
 rw [← s2]
 have s3:w3.heap.size=w2.heap.size+1:=by rw [h3]; simp
 rw [← s3]
 have s4:w4.heap.size=w3.heap.size+1:=by rw [h4]; simp
 have b1:Below w.heap.size w w1:=by rw [h1]; exact (Below.refl _ _).alloc (Nat.le_refl _) _
 have b2:Below w1.heap.size w1 w2:=by rw [h2]; exact (Below.refl _ _).alloc (Nat.le_refl _) _
 have b3:Below w2.heap.size w2 w3:=by rw [h3]; exact (Below.refl _ _).alloc (Nat.le_refl _) _
 have b4:Below w3.heap.size w3 w4:=by rw [h4]; exact (Below.refl _ _).alloc (Nat.le_refl _) _
 have b34:Below w2.heap.size w2 w4:=b3.trans (b4.mono b3.size)
 have b24:Below w1.heap.size w1 w4:=b2.trans (b34.mono b2.size)
 have r1:=reads_lit w 110 #[.int .i64 0,.int .i64 3] 1 2 (0,0) rfl
 have r2:=reads_lit w1 110 #[.int .i64 1,.int .i64 3] 1 2 (0,0) rfl
 have r3:=reads_lit w2 54 #[.int .u32 167772160,.int .i64 8,.bool true,.bool true,.int .i64 0,.slice none 0 0,.int .u32 184549376,.int .i64 8,.bool false,.bool true,.int .i64 3,.slice (some ⟨w.heap.size,0,none⟩) 1 1,.int .u32 201326592,.int .i64 8,.bool false,.bool true,.int .i64 3,.slice (some ⟨w1.heap.size,0,none⟩) 1 1] 3 6 (0,0) rfl
 have r4:=reads_lit w3 3 #[.int .i64 1500,.int .i64 600] 2 1 (0,0) rfl
 rw [← h1] at r1
 rw [← h2] at r2
 rw [← h3] at r3
 rw [← h4] at r4
 have q1:Reads w4 (fun k=>w.heap.size≤k∧k < w4.heap.size) 2 (some ⟨w.heap.size,0,none⟩) 1 [.int .i64 0,.int .i64 3] :=
  (r1.keep (Same.ofBelow b24 fun k (e:k=w.heap.size)=>by omega)).mono fun k (e:k=w.heap.size)=>⟨by omega,by omega⟩
 have q2:Reads w4 (fun k=>w.heap.size≤k∧k < w4.heap.size) 2 (some ⟨w1.heap.size,0,none⟩) 1 [.int .i64 1,.int .i64 3] :=
  (r2.keep (Same.ofBelow b34 fun k (e:k=w1.heap.size)=>by omega)).mono fun k (e:k=w1.heap.size)=>⟨by omega,by omega⟩
 refine ⟨⟨(r3.keep (Same.ofBelow b4 fun k (e:k=w2.heap.size)=>by omega)).mono fun k (e:k=w2.heap.size)=>⟨by omega,by omega⟩,rfl,fun r hr=>?_⟩,r4.mono fun k (e:k=w3.heap.size)=>⟨by omega,by omega⟩,b1.trans (b24.mono b1.size)⟩
 rcases List.mem_cons.1 hr with rfl | hr
 ·exact ⟨by decide,rfl,by decide,rfl,fun h=>absurd h (by decide)⟩
 rcases List.mem_cons.1 hr with rfl | hr
 ·exact ⟨show 184549376 < 2 ^ 32 by decide,rfl,show 1≤1000000 by decide,q1⟩
 rcases List.mem_cons.1 hr with rfl | hr
 ·exact ⟨show 201326592 < 2 ^ 32 by decide,rfl,show 1≤1000000 by decide,q2⟩
 ·simp at hr
set_option maxRecDepth 100000 in
set_option maxHeartbeats 4000000 in
attribute [-go_sem] Instr.storeAt Instr.loadAt in
theorem simple_any (w:World):Calls Tryz.prog 36 #[] w (SmPost w):=by
 obtain ⟨W,hW⟩:∃ Z,Z=w.alloc (.cells #[.slice none 0 0,.int .u32 0,.slice none 0 0,.int .i64 0] 60):=⟨_,rfl⟩
 have hbW:Below w.heap.size w W:=by rw [hW]; exact (Below.refl _ _).alloc (Nat.le_refl _) _
 have hkW:Blk W w.heap.size 60 #[.slice none 0 0,.int .u32 0,.slice none 0 0,.int .i64 0]:=by rw [hW]; exact Blk.new w _ _
 obtain ⟨w1,h1⟩:∃ Z,Z=W.alloc (.cells #[.int .i64 0,.int .i64 3] 110):=⟨_,rfl⟩
 obtain ⟨w2,h2⟩:∃ Z,Z=w1.alloc (.cells #[.int .i64 1,.int .i64 3] 110):=⟨_,rfl⟩
 obtain ⟨w3,h3⟩:∃ Z,Z=w2.alloc (.cells #[.int .u32 167772160,.int .i64 8,.bool true,.bool true,.int .i64 0,.slice none 0 0,.int .u32 184549376,.int .i64 8,.bool false,.bool true,.int .i64 3,.slice (some ⟨W.heap.size,0,none⟩) 1 1,.int .u32 201326592,.int .i64 8,.bool false,.bool true,.int .i64 3,.slice (some ⟨W.heap.size+1,0,none⟩) 1 1] 54):=⟨_,rfl⟩
 obtain ⟨w4,h4⟩:∃ Z,Z=w3.alloc (.cells #[.int .i64 1500,.int .i64 600] 3):=⟨_,rfl⟩
 obtain ⟨m1,m2,m3⟩:=simple_mem h1 h2 h3 h4
 have hk4:=hkW.below m3 hkW.lt
 obtain ⟨cs,hcs⟩:∃ cs,cs=askV (some ⟨W.heap.size+1+1,0,none⟩) 3 3 167772161 (some ⟨W.heap.size+1+1+1,0,none⟩) 2 2 5:=⟨_,rfl⟩
 have hc4:cs.size=4:=by rw [hcs]; rfl
 have hst:(Instr.storeAt 60 (.pointer (some ⟨w.heap.size,0,none⟩)) (.agg cs)).run Tryz.prog w4=.ok () (w4.setCells w.heap.size 0 cs.toList):=stc_store ask_info hk4 rfl hc4 (by rw [hcs]; simp [askV,Value.oneCell'])
 have hk5:Blk (w4.setCells w.heap.size 0 cs.toList) w.heap.size 60 cs:=blk_setCells hk4 (by rw [hc4]; rfl)
 have hup:Upd (fun k=>k=w.heap.size) w4 (w4.setCells w.heap.size 0 cs.toList):=Upd.setCells _ _ _ (Upd.refl _ _) (.inl rfl)
 have hsz:W.heap.size=w.heap.size+1:=by rw [hW]; simp
 have hsm:=hup.same (I:=fun k=>W.heap.size≤k∧k < w4.heap.size) fun k (e:k=w.heap.size) hI=>by omega
 have hfin:SmPost w (.returned (.agg cs)) (w4.setCells w.heap.size 0 cs.toList):=by
  refine ⟨some ⟨W.heap.size+1+1,0,none⟩,some ⟨W.heap.size+1+1+1,0,none⟩,_,_,by rw [hcs],(m1.keep hsm).mono fun k hk=>⟨by omega,Nat.lt_of_lt_of_le hk.2 hup.size⟩,(m2.keep hsm).mono fun k hk=>⟨by omega,Nat.lt_of_lt_of_le hk.2 hup.size⟩,?_⟩
  exact (hbW.trans (m3.mono hbW.size)).trans (hup.below (fun k (e:k=w.heap.size)=>by omega) (Nat.le_trans hbW.size m3.size))
 rw [h4,h3,h2,h1] at hst
 rw [hcs] at hst
 unfold askV at hst
 have HK:=Lib.hid hk5
 have HF:=Lib.hid hfin
 have HALL:=Lib.hid (⟨h1,h2,h3,h4,hcs,hc4⟩:_∧_∧_∧_∧_∧_)
 obtain ⟨g,hg⟩:∃ g,g=w.heap.size:=⟨_,rfl⟩
 rw [← hg] at hst HK HF
 have HG:=Lib.hid hg
 have HW:=Lib.hid hW
 clear hk5 hfin hW h1 h2 h3 h4 hcs hup hsz hsm m1 m2 m3 hk4 hbW hkW hc4 hg
 go_enter Tryz.func36,Tryz.ntmps36
 go_upto_region 1 with (fail)
 rw [← HW.out,← HG.out]
 go_wp2_with fail
 obtain ⟨h1,h2,h3,h4,hcs,hc4⟩:=HALL.out
 have hk:=HK.out
 have hf:=HF.out
 rw [h4,h3,h2,h1,hcs] at hk hf
 rw [hcs] at hc4
 refine bodyPost_ret_by (res_ask rfl _ rfl hk hc4) rfl ?_
 exact hf
end Go.Proofs.YthlommalbkhcjaaGreat
