/- Routes; fib.May. -/
import Derived.Test.YthlommalbkhcjaaGreatNq09
import Derived.Test.YthlommalbkhcjaaGreatNq04
import Derived.Test.YthlommalbkhcjaaGreatNq05
import Derived.Deep.LoopGhost
import Derived.WalkMore
import Derived.Lib.QuietBelow
import Derived.Outline
import Derived.Deep.DeepCutAuto
import Derived.Deep.Cut
import Derived.RegionTactic
import Derived.ChangeAlike
import Derived.BigRegion
import Derived.StillTailTactics
namespace Go.Proofs.YthlommalbkhcjaaGreat
open Go.RowKit Go.Sort Go.BigFrame
theorem newb_any (limit:Int) (w:World):Calls Tryz.prog 149 #[.int .i64 limit] w fun e w'=>e=.returned (.pointer (some ⟨w.heap.size,0,none⟩))∧w'=w.alloc (.cells #[.pointer none,.int .i64 (max 0 limit),.int .i64 0,.bool true] 272):=by
 go_enter Tryz.func149,Tryz.ntmps149
 go_wp2
 go_ret
 exact ⟨rfl,rfl⟩
theorem thereb_any (tb:Nat) (a1 a2 a3:Value) (w:World) (h:Blk w tb 272 #[a1,a2,a3,.bool true]) :
  Calls Tryz.prog 183 #[.pointer (some ⟨tb,0,none⟩)] w fun e w'=>e=.returned (.bool true)∧w=w':=by
 have hc:w.cell? ⟨tb,3,none⟩=some (.bool true):=h.cell 3
 clear h
 go_enter Tryz.func183,Tryz.ntmps183
 go_wp2
 go_ret
 exact ⟨rfl,rfl⟩
set_option maxHeartbeats 4000000 in
theorem placeb_any (a:Nat) (n:Int) (tb:Nat) (a2 a3 a4:Value) (w:World) (h:Blk w tb 272 #[.pointer none,a2,a3,a4]) :
  Calls Tryz.prog 184 #[.pointer (some ⟨tb,0,none⟩),pxV a n] w fun e w'=>e=.returned (.pointer (some ⟨tb,0,none⟩))∧Below w.heap.size w w':=by
 have hb0:Hid (Below w.heap.size w (w.alloc (.cells #[.int .u32 (a:Int),.int .i64 n] 37))):=Lib.hid ((Below.refl _ _).alloc (Nat.le_refl _) _)
 have hc:(w.alloc (.cells #[.int .u32 (a:Int),.int .i64 n] 37)).cell? ⟨tb,0,none⟩=some (.pointer none):=(h.below hb0.out h.lt).cell 0
 clear h
 go_enter Tryz.func184,Tryz.ntmps184
 go_wp2_with fail
 go_step3
 go_wp2_with fail
 go_step3
 go_wp2_with fail
 go_loopg [5] 0 (fun g s5 wr=>s5=.pointer (some ⟨tb,0,none⟩)∧wr=w.alloc (.cells #[.int .u32 (a:Int),.int .i64 n] 37))
 case atStart=>exact ⟨rfl,rfl⟩
 case round =>
  obtain ⟨rfl,rfl⟩:=hrel
  go_wp2_with fail
  rw [Exit.noGoto_ret]
  go_ret
  exact ⟨rfl,hb0.out⟩
theorem mayb_yes (a:Nat) (n:Int) (w:World) (ha:a < 2 ^ 32) (h:mayB a n=true):Calls Tryz.prog 104 #[pxV a n] w fun e w'=>e=.returned (.bool true)∧Below w.heap.size w w' :=
 (tmay_any a n w ha).mono fun e w' ⟨he,m,hw⟩=>⟨by rw [he,h],by rw [hw]; exact below_box _ _ _⟩
theorem mayb_no (a:Nat) (n:Int) (w:World) (ha:a < 2 ^ 32) (h:mayB a n=false):Calls Tryz.prog 104 #[pxV a n] w fun e w'=>e=.returned (.bool false)∧Below w.heap.size w w' :=
 (tmay_any a n w ha).mono fun e w' ⟨he,m,hw⟩=>⟨by rw [he,h],by rw [hw]; exact below_box _ _ _⟩
theorem insb_no (a:Nat) (n:Int) (tb:Nat) (a1 a2 a3:Value) (w:World) (hk:Blk w tb 272 #[a1,a2,a3,.bool true]) (ha:a < 2 ^ 32) (hm:mayB a n=false) :
  Calls Tryz.prog 150 #[.pointer (some ⟨tb,0,none⟩),pxV a n,.bool true] w fun e w'=>e=.returned (.int .i64 2)∧Below w.heap.size w w':=by
 have HT:=Lib.hid (fun (o:Obj)=>thereb_any tb _ _ _ (w.alloc o) (hk.alloc o))
 have HM:=Lib.hid (fun (wx:World)=>mayb_no a n wx ha hm)
 clear hk hm
 go_enter Tryz.func150,Tryz.ntmps150
 go_wp2_with (first | (go_at_call 183; refine (HT.out _).mono ?_; rintro e w' ⟨rfl,rfl⟩) | (go_at_call 104; refine (HM.out _).mono ?_; rintro e w' ⟨rfl,hb⟩))
 go_ret
 exact ⟨rfl,((Below.refl _ _).alloc (Nat.le_refl _) _).trans (hb.mono (by simp))⟩
theorem drewN_below {B:Nat} {a w:World} (h:Below B a w) (n:Nat):Below B a (w.drewN n):=⟨h.os,h.tape,h.output,h.size,h.block⟩
set_option maxRecDepth 20000 in
set_option maxHeartbeats 8000000 in
theorem insb_yes (a:Nat) (n:Int) (tb:Nat) (w:World) (hk:Blk w tb 272 #[.pointer none,.int .i64 1,.int .i64 0,.bool true]) (ha:a < 2 ^ 32) (hm:mayB a n=true) :
  Calls Tryz.prog 150 #[.pointer (some ⟨tb,0,none⟩),pxV a n,.bool true] w fun e w'=>e=.returned (.int .i64 0)∧Upd (only tb) w w':=by
 have HT:=Lib.hid (fun (o:Obj)=>thereb_any tb _ _ _ (w.alloc o) (hk.alloc o))
 have HM:=Lib.hid (fun (wx:World)=>mayb_yes a n wx ha hm)
 have HPL:=Lib.hid (fun (wx:World) (hb:Below w.heap.size w wx)=>placeb_any a n tb _ _ _ wx (hk.below hb hk.lt))
 have HK:=Lib.hid hk
 have hB0:Hid (∀ o,Below w.heap.size w (w.alloc o)):=Lib.hid fun o=>(Below.refl _ _).alloc (Nat.le_refl _) o
 have htl:=hk.lt
 clear hk hm
 go_enter Tryz.func150,Tryz.ntmps150
 go_wp2_with (go_at_call 183; refine (HT.out _).mono ?_; rintro e w' ⟨rfl,rfl⟩)
 refine (HM.out _).mono ?_
 rintro e w2 ⟨rfl,hb2⟩
 have hx2:Blk w2 w.heap.size 37 #[.int .u32 (a:Int),.int .i64 n]:=(Blk.new w _ _).below hb2 (by simp)
 have hb3:Below w.heap.size w w2:=(hB0.out _).trans (hb2.mono (by simp))
 have x0:w2.cell? ⟨w.heap.size,0,none⟩=some (.int .u32 (a:Int)):=hx2.cell 0
 have x1:w2.cell? ⟨w.heap.size,1,none⟩=some (.int .i64 n):=hx2.cell 1
 have HX:=Lib.hid hx2
 have HB3:=Lib.hid hb3
 clear hb2 hx2 hb3
 go_wp2_with fail
 refine (HPL.out w2 HB3.out).mono ?_
 rintro e w4 ⟨rfl,hb4⟩
 have hb5:=HB3.out.trans (hb4.mono HB3.out.size)
 have hk4:=HK.out.below hb5 HK.out.lt
 have t0:w4.cell? ⟨tb,0,none⟩=some (.pointer none):=hk4.cell 0
 have t1:w4.cell? ⟨tb,1,none⟩=some (.int .i64 1):=hk4.cell 1
 have t2:w4.cell? ⟨tb,2,none⟩=some (.int .i64 0):=hk4.cell 2
 have t3:w4.frozen? ⟨tb,2,none⟩=false:=hk4.frozen 2
 have HK4:=Lib.hid hk4
 have HX4:=Lib.hid (HX.out.below hb4 HX.out.lt)
 have HB5:=Lib.hid hb5
 clear hb4 hb5 hk4 x0 x1
 go_wp2_with fail
 go_quiet (fail)
 generalize nq=m1
 clear nq
 go_wp2_with fail
 go_quiet (fail)
 generalize nq=m2
 clear nq
 go_wp2_with fail
 have hk5:=(HK4.out.drewN (m1+m2)).set_ 2 (.int .i64 1)
 have hx5:=(HX4.out.drewN (m1+m2)).far (p:=⟨tb,2,none⟩) (by show w.heap.size≠tb; omega) (.int .i64 1)
 have hu5:Upd (only tb) w ((w4.drewN (m1+m2)).setCell ⟨tb,2,none⟩ (.int .i64 1)):=(Upd.ofBelow (drewN_below HB5.out (m1+m2)) (only tb)).setCell (p:=⟨tb,2,none⟩) (.inl rfl) _
 generalize (w4.drewN (m1+m2)).setCell ⟨tb,2,none⟩ (.int .i64 1)=w5 at hk5 hx5 hu5 ⊢
 have x0:w5.cell? ⟨w.heap.size,0,none⟩=some (.int .u32 (a:Int)):=hx5.cell 0
 have x1:w5.cell? ⟨w.heap.size,1,none⟩=some (.int .i64 n):=hx5.cell 1
 have HK5:=Lib.hid hk5
 have HU5:=Lib.hid hu5
 clear hk5 hx5 hu5 t0 t1 t2 t3
 go_quiet (fail)
 generalize nq=m3
 clear nq
 have hcA:∀ o,((w5.drewN m3).alloc o).cell? ⟨tb,0,none⟩=some (.pointer none):=fun o=>((HK5.out.drewN m3).alloc o).cell 0
 have hfA:∀ o,((w5.drewN m3).alloc o).frozen? ⟨tb,0,none⟩=false:=fun o=>((HK5.out.drewN m3).alloc o).frozen 0
 go_wp2_with fail
 go_ret
 exact ⟨rfl,((HU5.out.drewN m3).alloc _).setCell (p:=⟨tb,0,none⟩) (.inl rfl) _⟩
end Go.Proofs.YthlommalbkhcjaaGreat
namespace Go.Proofs.YthlommalbkhcjaaGreat
open Go.RowKit Go.Sort
structure Rt where
 a:Nat
 m:Int
 own:Bool
 tk:Bool
 d:Int
 A:Option Addr
 n:Nat
 c:Nat
 nx:List Nx
def rtC (r:Rt):List Value:=[.int .u32 (r.a:Int),.int .i64 r.m,.bool r.own,.bool r.tk,.int .i64 r.d,.slice r.A r.n r.c]
def rtV (r:Rt):Value:=.agg #[.int .u32 (r.a:Int),.int .i64 r.m,.bool r.own,.bool r.tk,.int .i64 r.d,.slice r.A r.n r.c]
structure RtOk (w:World) (I:Nat→Prop) (r:Rt):Prop where
 a:r.a < 2 ^ 32
 l:r.nx.length=r.n
 sm:r.n≤9000000000000
 rd:Reads w I 2 r.A r.n (r.nx.flatMap nxC)
theorem RtOk.keep {w w':World} {I:Nat→Prop} {r:Rt} (h:RtOk w I r) (hs:Same I w w'):RtOk w' I r:=⟨h.a,h.l,h.sm,h.rd.keep hs⟩
theorem RtOk.mono {w:World} {I J:Nat→Prop} {r:Rt} (h:RtOk w I r) (hs:∀ k,I k→J k):RtOk w J r:=⟨h.a,h.l,h.sm,h.rd.mono hs⟩
def mayR (r:Rt):Bool:=mayB r.a r.m && (decide (r.n=0) || mayF r.nx)
set_option maxRecDepth 20000 in
set_option maxHeartbeats 4000000 in
theorem fmay_any (r:Rt) (w:World) (h:RtOk w (fun k=>k < w.heap.size) r):Calls Tryz.prog 101 #[rtV r] w fun e w'=>e=.returned (.bool (mayR r))∧Below w.heap.size w w':=by
 obtain ⟨a,m,own,tk,d,A,n,c,nx⟩:=r
 obtain ⟨ha,hl,hsm,hrd⟩:=h
 dsimp only at ha hl hsm hrd
 unfold rtV mayR
 dsimp only
 obtain ⟨W1,hW1⟩:∃ Z,Z=w.alloc (.cells #[.int .u32 (a:Int),.int .i64 m,.bool own,.bool tk,.int .i64 d,.slice A n c] 54):=⟨_,rfl⟩
 have hk1:Blk W1 w.heap.size 54 #[.int .u32 (a:Int),.int .i64 m,.bool own,.bool tk,.int .i64 d,.slice A n c]:=by rw [hW1]; exact Blk.new _ _ _
 have hb1:Below w.heap.size w W1:=by rw [hW1]; exact (Below.refl _ _).alloc (Nat.le_refl _) _
 obtain ⟨W2,hW2⟩:∃ Z,Z=W1.alloc (.cells #[.pointer none,.int .i64 1,.int .i64 0,.bool true] 272):=⟨_,rfl⟩
 obtain ⟨tb,htb⟩:∃ b,b=W1.heap.size:=⟨_,rfl⟩
 have hkt:Blk W2 tb 272 #[.pointer none,.int .i64 1,.int .i64 0,.bool true]:=by rw [hW2,htb]; exact Blk.new _ _ _
 have hb2:Below W1.heap.size W1 W2:=by rw [hW2]; exact (Below.refl _ _).alloc (Nat.le_refl _) _
 have HNB:=Lib.hid (show Calls Tryz.prog 149 #[.int .i64 1] W1 fun e w'=>e=.returned (.pointer (some ⟨tb,0,none⟩))∧w'=W2 from (newb_any 1 W1).mono fun e w' ⟨h1,h2⟩=>⟨by rw [h1,htb],by rw [h2,hW2]; rfl⟩)
 have hk2:=hk1.below hb2 hk1.lt
 have hne:w.heap.size≠tb:=by rw [htb]; exact Nat.ne_of_lt hk1.lt
 have HB2:=Lib.hid (hb1.trans (hb2.mono hb1.size))
 have hge:w.heap.size≤tb:=by rw [htb]; exact hb1.size
 have x0:W2.cell? ⟨w.heap.size,0,none⟩=some (.int .u32 (a:Int)):=hk2.cell 0
 have x1:W2.cell? ⟨w.heap.size,1,none⟩=some (.int .i64 m):=hk2.cell 1
 have HK2:=Lib.hid hk2
 have HW1:=Lib.hid hW1
 have HRD:=Lib.hid hrd
 have HL:=Lib.hid hl
 cases hm:mayB a m with
 | false =>
   have HI:=Lib.hid (insb_no a m tb _ _ _ W2 hkt ha hm)
   clear hkt hk1 hb1 hW1 hW2 htb hb2 hk2 hrd hl hm
   go_enter Tryz.func101,Tryz.ntmps101
   go_upto_region 1 with (fail)
   rw [← HW1.out]
   go_wp2_with (first
    | (go_at_call 149; refine HNB.out.mono ?_; rintro e w' ⟨rfl,rfl⟩)
    | (go_at_call 150; refine HI.out.mono ?_; rintro e w3 ⟨rfl,hb3⟩; have HB3:=Lib.hid (HB2.out.trans (hb3.mono HB2.out.size)); clear hb3))
   go_ret
   exact ⟨rfl,HB3.out⟩
 | true =>
   have HI:=Lib.hid (insb_yes a m tb W2 hkt ha hm)
   clear hkt hk1 hb1 hW1 hW2 htb hb2 hk2 hrd hl hm
   go_enter Tryz.func101,Tryz.ntmps101
   go_upto_region 1 with (fail)
   rw [← HW1.out]
   by_cases hn0:n=0
   ·subst hn0
    go_wp2_with (first
     | (go_at_call 149; refine HNB.out.mono ?_; rintro e w' ⟨rfl,rfl⟩)
     | (go_at_call 150; refine HI.out.mono ?_; rintro e w3 ⟨rfl,hu3⟩; have HU3:=Lib.hid hu3; have x5:w3.cell? ⟨w.heap.size,5,none⟩=some (.slice A 0 c):=(HK2.out.upd hu3 (fun e=>hne e)).cell 5; clear hu3))
    go_ret
    exact ⟨rfl,HB2.out.trans (HU3.out.below (fun k (e:k=tb)=>by omega) HB2.out.size)⟩
   ·have hn1:((n:Int) == 0)=false:=beq_eq_false_iff_ne.2 (by omega)
    have hn2:decide (n=0)=false:=decide_eq_false hn0
    have HSM:=Lib.hid (fun (wx:World) (hs:Same (fun k=>k < w.heap.size) w wx)=>smay_any A n c nx (fun k=>k < w.heap.size) wx (HRD.out.keep hs) HL.out hsm)
    go_wp2_with (first
     | (go_at_call 149; refine HNB.out.mono ?_; rintro e w' ⟨rfl,rfl⟩)
     | (go_at_call 150; refine HI.out.mono ?_; rintro e w3 ⟨rfl,hu3⟩; have HB3:=Lib.hid (HB2.out.trans (hu3.below (fun k (e:k=tb)=>by omega) HB2.out.size)); have x5:w3.cell? ⟨w.heap.size,5,none⟩=some (.slice A n c):=(HK2.out.upd hu3 (fun e=>hne e)).cell 5; clear hu3)
     | (go_at_call 151; refine (HSM.out w3 (Same.ofBelow HB3.out fun k hk=>hk)).mono ?_; rintro e w4 ⟨rfl,hb4⟩; have HB4:=Lib.hid (HB3.out.trans (hb4.mono HB3.out.size)); clear hb4))
    go_ret
    exact ⟨by rw [hn2]; simp,HB4.out⟩
end Go.Proofs.YthlommalbkhcjaaGreat
