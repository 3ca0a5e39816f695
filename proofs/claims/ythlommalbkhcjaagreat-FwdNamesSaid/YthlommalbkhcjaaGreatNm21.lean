/- Routes; fib.May. -/
import Derived.Test.YthlommalbkhcjaaGreatNm19
import Derived.Test.YthlommalbkhcjaaGreatNm20
namespace Go.Proofs.YthlommalbkhcjaaGreat
open Go.RowKit Go.Sort
structure Rt where
 a:Nat
 m:Int
 own:Bool
 tk:Bool
 d:Int
 A:Option Addr
 n:Nat
 c:Nat
 nx:List Nx
def rtC (r:Rt):List Value:=[.int .u32 (r.a:Int),.int .i64 r.m,.bool r.own,.bool r.tk,.int .i64 r.d,.slice r.A r.n r.c]
def rtV (r:Rt):Value:=.agg #[.int .u32 (r.a:Int),.int .i64 r.m,.bool r.own,.bool r.tk,.int .i64 r.d,.slice r.A r.n r.c]
structure RtOk (w:World) (I:Nat→Prop) (r:Rt):Prop where
 a:r.a < 2 ^ 32
 l:r.nx.length=r.n
 sm:r.n≤1000000
 rd:Reads w I 2 r.A r.n (r.nx.flatMap nxC)
theorem RtOk.keep {w w':World} {I:Nat→Prop} {r:Rt} (h:RtOk w I r) (hs:Same I w w'):RtOk w' I r:=⟨h.a,h.l,h.sm,h.rd.keep hs⟩
theorem RtOk.mono {w:World} {I J:Nat→Prop} {r:Rt} (h:RtOk w I r) (hs:∀ k,I k→J k):RtOk w J r:=⟨h.a,h.l,h.sm,h.rd.mono hs⟩
def mayR (r:Rt):Bool:=mayB r.a r.m && (decide (r.n=0) || mayF r.nx)
set_option maxRecDepth 20000 in
set_option maxHeartbeats 4000000 in
theorem fmay_any (r:Rt) (w:World) (h:RtOk w (fun k=>k < w.heap.size) r):Calls Tryz.prog 101 #[rtV r] w fun e w'=>e=.returned (.bool (mayR r))∧Below w.heap.size w w':=by
 obtain ⟨a,m,own,tk,d,A,n,c,nx⟩:=r
 obtain ⟨ha,hl,hsm,hrd⟩:=h
 dsimp only at ha hl hsm hrd
 unfold rtV mayR
 dsimp only
 obtain ⟨W1,hW1⟩:∃ Z,Z=w.alloc (.cells #[.int .u32 (a:Int),.int .i64 m,.bool own,.bool tk,.int .i64 d,.slice A n c] 54):=⟨_,rfl⟩
 have hk1:Blk W1 w.heap.size 54 #[.int .u32 (a:Int),.int .i64 m,.bool own,.bool tk,.int .i64 d,.slice A n c]:=by rw [hW1]; exact Blk.new _ _ _
 have hb1:Below w.heap.size w W1:=by rw [hW1]; exact (Below.refl _ _).alloc (Nat.le_refl _) _
 obtain ⟨W2,hW2⟩:∃ Z,Z=W1.alloc (.cells #[.pointer none,.int .i64 1,.int .i64 0,.bool true] 272):=⟨_,rfl⟩
 obtain ⟨tb,htb⟩:∃ b,b=W1.heap.size:=⟨_,rfl⟩
 have hkt:Blk W2 tb 272 #[.pointer none,.int .i64 1,.int .i64 0,.bool true]:=by rw [hW2,htb]; exact Blk.new _ _ _
 have hb2:Below W1.heap.size W1 W2:=by rw [hW2]; exact (Below.refl _ _).alloc (Nat.le_refl _) _
 have HNB:=Lib.hid (show Calls Tryz.prog 149 #[.int .i64 1] W1 fun e w'=>e=.returned (.pointer (some ⟨tb,0,none⟩))∧w'=W2 from (newb_any 1 W1).mono fun e w' ⟨h1,h2⟩=>⟨by rw [h1,htb],by rw [h2,hW2]; rfl⟩)
 have hk2:=hk1.below hb2 hk1.lt
 have hne:w.heap.size≠tb:=by rw [htb]; exact Nat.ne_of_lt hk1.lt
 have HB2:=Lib.hid (hb1.trans (hb2.mono hb1.size))
 have hge:w.heap.size≤tb:=by rw [htb]; exact hb1.size
 have x0:W2.cell? ⟨w.heap.size,0,none⟩=some (.int .u32 (a:Int)):=hk2.cell 0
 have x1:W2.cell? ⟨w.heap.size,1,none⟩=some (.int .i64 m):=hk2.cell 1
 have HK2:=Lib.hid hk2
 have HW1:=Lib.hid hW1
 have HRD:=Lib.hid hrd
 have HL:=Lib.hid hl
 cases hm:mayB a m with
 | false =>
   have HI:=Lib.hid (insb_no a m tb _ _ _ W2 hkt ha hm)
   clear hkt hk1 hb1 hW1 hW2 htb hb2 hk2 hrd hl hm
   go_enter Tryz.func101,Tryz.ntmps101
   go_upto_region 1 with (fail)
   rw [← HW1.out]
   go_wp2_with (first
    | (go_at_call 149; refine HNB.out.mono ?_; rintro e w' ⟨rfl,rfl⟩)
    | (go_at_call 150; refine HI.out.mono ?_; rintro e w3 ⟨rfl,hb3⟩; have HB3:=Lib.hid (HB2.out.trans (hb3.mono HB2.out.size)); clear hb3))
   go_ret
   exact ⟨rfl,HB3.out⟩
 | true =>
   have HI:=Lib.hid (insb_yes a m tb W2 hkt ha hm)
   clear hkt hk1 hb1 hW1 hW2 htb hb2 hk2 hrd hl hm
   go_enter Tryz.func101,Tryz.ntmps101
   go_upto_region 1 with (fail)
   rw [← HW1.out]
   by_cases hn0:n=0
   ·subst hn0
    go_wp2_with (first
     | (go_at_call 149; refine HNB.out.mono ?_; rintro e w' ⟨rfl,rfl⟩)
     | (go_at_call 150; refine HI.out.mono ?_; rintro e w3 ⟨rfl,hu3⟩; have HU3:=Lib.hid hu3; have x5:w3.cell? ⟨w.heap.size,5,none⟩=some (.slice A 0 c):=(HK2.out.upd hu3 (fun e=>hne e)).cell 5; clear hu3))
    go_ret
    exact ⟨rfl,HB2.out.trans (HU3.out.below (fun k (e:k=tb)=>by omega) HB2.out.size)⟩
   ·have hn1:((n:Int) == 0)=false:=beq_eq_false_iff_ne.2 (by omega)
    have hn2:decide (n=0)=false:=decide_eq_false hn0
    have HSM:=Lib.hid (fun (wx:World) (hs:Same (fun k=>k < w.heap.size) w wx)=>smay_any A n c nx (fun k=>k < w.heap.size) wx (HRD.out.keep hs) HL.out hsm)
    go_wp2_with (first
     | (go_at_call 149; refine HNB.out.mono ?_; rintro e w' ⟨rfl,rfl⟩)
     | (go_at_call 150; refine HI.out.mono ?_; rintro e w3 ⟨rfl,hu3⟩; have HB3:=Lib.hid (HB2.out.trans (hu3.below (fun k (e:k=tb)=>by omega) HB2.out.size)); have x5:w3.cell? ⟨w.heap.size,5,none⟩=some (.slice A n c):=(HK2.out.upd hu3 (fun e=>hne e)).cell 5; clear hu3)
     | (go_at_call 151; refine (HSM.out w3 (Same.ofBelow HB3.out fun k hk=>hk)).mono ?_; rintro e w4 ⟨rfl,hb4⟩; have HB4:=Lib.hid (HB3.out.trans (hb4.mono HB3.out.size)); clear hb4))
    go_ret
    exact ⟨by rw [hn2]; simp,HB4.out⟩
end Go.Proofs.YthlommalbkhcjaaGreat
