/- Readings of ways. -/
import Derived.Test.YthlommalbkhcjaaGreatNq03
import Derived.Test.YthlommalbkhcjaaGreatNq04
import Derived.Test.YthlommalbkhcjaaGreatNq02
import Derived.Deep.DeepCutAuto
import Derived.Deep.Cut
import Derived.Laws.EntriesVeiled
import Derived.RegionTactic
import Derived.ChangeAlike
import Derived.BigRegion
import Derived.Laws.OwnMore
import Derived.LoopN
import Derived.Deep.Strs
namespace Go.Proofs.YthlommalbkhcjaaGreat
open Go.RowKit Go.Sort
def nxC (n:Nx):List Value:=[.int .i64 n.1,.int .i64 n.2]
def nxV (n:Nx):Value:=.agg #[.int .i64 n.1,.int .i64 n.2]
theorem nxC_get:∀ {l:List Nx} {k:Nat},k < l.length→(l.flatMap nxC)[k * 2]?=some (.int .i64 (nxAt l k).1)∧(l.flatMap nxC)[k * 2+1]?=some (.int .i64 (nxAt l k).2)
 | [],_,h=>absurd h (by simp)
 | n :: r,0,_=>⟨rfl,rfl⟩
 | n :: r,k+1,h=>by
   have h1:=nxC_get (l:=r) (k:=k) (by simpa using h)
   have e:(n :: r).flatMap nxC=.int .i64 n.1 :: .int .i64 n.2 :: r.flatMap nxC:=rfl
   have e2:nxAt (n :: r) (k+1)=nxAt r k:=rfl
   rw [e,e2]
   have e3:(k+1) * 2=k * 2+1+1:=by omega
   rw [e3]
   simpa using h1
theorem nx_cells {D:Nat} {w:World} {J:Nat→Prop} {A:Option Addr} {N:Nat} {l:List Nx} (hr:Reads w J 2 A N (l.flatMap nxC)) (hN:l.length=N) (hJ:∀ k,J k→k < D) {k:Nat} (hk:k < N) :
  ∃ ad,A=some ad∧∀ wx,Below D w wx→wx.cell? (ad.add (k * 2))=some (.int .i64 (nxAt l k).1)∧wx.cell? ⟨(ad.add (k * 2)).block,(ad.add (k * 2)).off+1,none⟩=some (.int .i64 (nxAt l k).2):=by
 obtain ⟨g0,g1⟩:=nxC_get (l:=l) (k:=k) (by omega)
 obtain ⟨ad,e,hj,hadl,hc⟩:=hr.2 (by omega)
 refine ⟨ad,e,fun wx hx=>⟨(hx.cell (by rw [block_of_add]; exact hJ _ hj)).trans (hc _ _ g0),?_⟩⟩
 have e:ad.add (k * 2+1)=⟨(ad.add (k * 2)).block,(ad.add (k * 2)).off+1,none⟩:=by rw [← add_of_add]; rfl
 rw [← e]
 exact (hx.cell (by rw [block_of_add]; exact hJ _ hj)).trans (hc _ _ g1)
theorem weight_any (n:Nx) (w:World):Calls Tryz.prog 185 #[nxV n] w fun e w'=>e=.returned (.int .i64 (wtF n:Int))∧Below w.heap.size w w':=by
 obtain ⟨p,d⟩:=n
 unfold nxV
 have hb:Below w.heap.size w (w.alloc (.cells #[.int .i64 p,.int .i64 d] 110)):=(Below.refl _ _).alloc (Nat.le_refl _) _
 have HB:=Lib.hid hb
 clear hb
 by_cases h0:d < 0
 ·have e:wtF (p,d)=0:=wtF_no (.inl h0)
  rw [e]
  have hd:decide (d < 0)=true:=decide_eq_true h0
  clear e
  go_enter Tryz.func185,Tryz.ntmps185
  go_wp2_with fail
  go_ret
  exact ⟨rfl,HB.out⟩
 have hd:decide (d < 0)=false:=decide_eq_false h0
 by_cases h1:255≤d
 ·have e:wtF (p,d)=0:=wtF_no (.inr h1)
  rw [e]
  have hd2:decide ((255:Int)≤d)=true:=decide_eq_true h1
  clear e h0
  go_enter Tryz.func185,Tryz.ntmps185
  go_wp2_with fail
  go_ret
  exact ⟨rfl,HB.out⟩
 have hd2:decide ((255:Int)≤d)=false:=decide_eq_false h1
 have b0:0≤d:=by omega
 have b1:d≤254:=by omega
 have e:=(wtF_pos (n:=(p,d)) b0 (by omega)).2.2
 rw [e]
 clear e h0 h1
 go_enter Tryz.func185,Tryz.ntmps185
 go_wp2_with fail
 go_ret
 exact ⟨rfl,HB.out⟩
set_option maxRecDepth 20000 in
set_option maxHeartbeats 1600000 in
theorem smay_any (A:Option Addr) (n c:Nat) (l:List Nx) (I:Nat→Prop) (w:World) (h:Reads w I 2 A n (l.flatMap nxC)) (hn:l.length=n) (hsm:n≤9000000000000) :
  Calls Tryz.prog 151 #[.slice A n c] w fun e w'=>e=.returned (.bool (mayF l))∧Below w.heap.size w w':=by
 have HR:=Lib.hid h.lt
 have HN:=Lib.hid hn
 have HM:=Lib.hid (mayF_iff l)
 clear h hn
 go_enter Tryz.func151,Tryz.ntmps151
 go_wp2_with fail
 go_loopw [3,8] (fun v i wr=>∃ k:Nat,k≤n∧i=.int .i64 (k:Int)∧v=.int .i64 (lastP l k)∧(∀ j,j < k→okN l j=true)∧Below w.heap.size w wr) (fun _ i _=>n - (intOf i).toNat)
 case atStart=>exact ⟨0,Nat.zero_le _,rfl,rfl,fun j hj=>absurd hj (by omega),Below.refl _ _⟩
 case round =>
  obtain ⟨k,hk,rfl,rfl,hok,hb⟩:=hrel
  have HB:=Lib.hid hb
  have HOK:=Lib.hid hok
  clear hok
  by_cases hlt:k < n
  ·obtain ⟨ad,rfl,hcs⟩:=nx_cells HR.out HN.out (D:=w.heap.size) (fun _ hj=>hj.2) hlt
   obtain ⟨p,hp⟩:∃ p,p=(nxAt l k).1:=⟨_,rfl⟩
   obtain ⟨d,hd⟩:∃ p,p=(nxAt l k).2:=⟨_,rfl⟩
   obtain ⟨la,hla⟩:∃ p,p=lastP l k:=⟨_,rfl⟩
   have hiff:=okN_iff l k
   rw [← hp,← hd,← hla] at hiff
   rw [← hp,← hd] at hcs
   rw [← hla]
   obtain ⟨g0,g1⟩:=hcs wr hb
   have HLN:=Lib.hid (show lastP l (k+1)=p by unfold lastP; rw [if_neg (by omega),hp]; rfl)
   have HI:=Lib.hid hiff
   have hl0:decide ((k:Int) < (n:Int))=true:=decide_eq_true (by omega)
   have hl1:decide (k < n)=true:=decide_eq_true hlt
   have hi0:(0:Int)≤k:=by omega
   have hi1:(k:Int) < n:=by omega
   have hi2:(k:Int) < 9000000000000:=by omega
   clear hp hd hla hiff hcs hb
   obtain ⟨W1,hW1⟩:∃ W,W=wr.alloc (.cells #[.int .i64 p,.int .i64 d] 110):=⟨_,rfl⟩
   have hk1:Blk W1 wr.heap.size 110 #[.int .i64 p,.int .i64 d]:=by rw [hW1]; exact Blk.new wr _ _
   have hb1:Below w.heap.size w W1:=by rw [hW1]; exact HB.out.alloc HB.out.size _
   have HK1:=Lib.hid hk1
   have HB1:=Lib.hid hb1
   have HW1:=Lib.hid hW1
   clear hk1 hb1 hW1
   go_upto_region 5 with (fail)
   rw [← HW1.out]
   have f0:=HK1.out.cell 0
   have f1:=HK1.out.cell 1
   by_cases c1:p≤la
   ·have d1:decide (p≤la)=true:=decide_eq_true c1
    have hres:mayF l=false:=by
     rw [Bool.eq_false_iff]; intro hm
     have:=HI.out.1 ((HM.out.1 hm).2 k (by rw [HN.out]; exact hlt)); omega
    have HRES:=Lib.hid hres
    clear hres c1
    go_wp2_with fail
    go_ret
    exact ⟨by rw [HRES.out]; rfl,HB1.out⟩
   have d1:decide (p≤la)=false:=decide_eq_false c1
   by_cases c2:8≤p
   ·have d2:decide (8≤p)=true:=decide_eq_true c2
    have hres:mayF l=false:=by
     rw [Bool.eq_false_iff]; intro hm
     have:=HI.out.1 ((HM.out.1 hm).2 k (by rw [HN.out]; exact hlt)); omega
    have HRES:=Lib.hid hres
    clear hres c1 c2
    go_wp2_with fail
    go_ret
    exact ⟨by rw [HRES.out]; rfl,HB1.out⟩
   have d2:decide (8≤p)=false:=decide_eq_false c2
   have hwt:=weight_any (p,d) W1
   unfold nxV at hwt
   have HWT:=Lib.hid hwt
   clear hwt
   by_cases c3:d < 0∨255≤d
   ·have hw0:wtF (p,d)=0:=wtF_no c3
    have hres:mayF l=false:=by
     rw [Bool.eq_false_iff]; intro hm
     have:=HI.out.1 ((HM.out.1 hm).2 k (by rw [HN.out]; exact hlt)); omega
    have HRES:=Lib.hid hres
    rw [hw0] at HWT
    clear hres c1 c2 c3 hw0
    go_wp2_with fail
    refine HWT.out.mono ?_
    rintro e w2 ⟨rfl,hb2⟩
    have HB2:=Lib.hid (HB1.out.trans (hb2.mono HB1.out.size))
    clear hb2
    go_wp2_with fail
    go_ret
    exact ⟨by rw [HRES.out]; rfl,HB2.out⟩
   have hwp:=(wtF_pos (n:=(p,d)) (by omega) (by omega)).1
   obtain ⟨x,hx⟩:∃ x,x=wtF (p,d):=⟨_,rfl⟩
   rw [← hx] at HWT hwp
   have hne:((x:Int) == 0)=false:=by rw [beq_eq_false_iff_ne]; omega
   have HOK2:=Lib.hid (HI.out.2 (by omega))
   clear hx hwp c1 c2 c3
   go_wp2_with fail
   refine HWT.out.mono ?_
   rintro e w2 ⟨rfl,hb2⟩
   have HB2:=Lib.hid (HB1.out.trans (hb2.mono HB1.out.size))
   have f2:=(HK1.out.below hb2 HK1.out.lt).cell 0
   clear hb2 f0 f1
   go_wp2_with fail
   go_roundw
   case rel=>exact ⟨k+1,hlt,rfl,by rw [HLN.out],fun j hj=>by
    by_cases e:j=k
    ·subst e; exact HOK2.out
    ·exact HOK.out j (by omega),HB2.out⟩
   case measure=>simp [intOf]; omega
  ·obtain rfl:k=n:=by omega
   have hl0:decide ((k:Int) < (k:Int))=false:=decide_eq_false (by omega)
   have hl1:decide (k < k)=false:=decide_eq_false (by omega)
   clear hk hlt hb
   have HRES:=Lib.hid (show decide (0 < k)=mayF l by
    rcases hm:mayF l with _ | _
    ·rw [decide_eq_false_iff_not]
     intro h0
     have:=HM.out.2 ⟨by rw [HN.out]; exact h0,fun i hi=>HOK.out i (by rw [← HN.out]; exact hi)⟩
     rw [hm] at this; cases this
    ·rw [decide_eq_true_eq,← HN.out]
     exact (HM.out.1 hm).1)
   go_wp2_with fail
   go_ret
   exact ⟨by rw [← HRES.out]; rfl,HB.out⟩
end Go.Proofs.YthlommalbkhcjaaGreat
namespace Go.Proofs.YthlommalbkhcjaaGreat
open Go.RowKit Go.Sort
def cmpI (a b:Int):Int:=if a < b then -1 else if b < a then 1 else 0
set_option maxRecDepth 20000 in
theorem compare_any (a b:Int) (w:World):Calls Tryz.prog 189 #[.int .i64 a,.int .i64 b] w fun e w'=>e=.returned (.int .i64 (cmpI a b))∧w=w':=by
 have e1:(a != a)=false:=bne_self_eq_false a
 have e2:(b != b)=false:=bne_self_eq_false b
 by_cases h1:a < b
 ·have HE:=Lib.hid (show cmpI a b=-1 by unfold cmpI; rw [if_pos h1])
  have d1:decide (a < b)=true:=decide_eq_true h1
  clear h1
  go_enter Tryz.func189,Tryz.ntmps189
  go_wp2
  go_ret
  exact ⟨by rw [HE.out]; rfl,rfl⟩
 have d1:decide (a < b)=false:=decide_eq_false h1
 by_cases h2:b < a
 ·have HE:=Lib.hid (show cmpI a b=1 by unfold cmpI; rw [if_neg h1,if_pos h2])
  have d2:decide (b < a)=true:=decide_eq_true h2
  clear h1 h2
  go_enter Tryz.func189,Tryz.ntmps189
  go_wp2
  go_ret
  exact ⟨by rw [HE.out]; rfl,rfl⟩
 have HE:=Lib.hid (show cmpI a b=0 by unfold cmpI; rw [if_neg h1,if_neg h2])
 have d2:decide (b < a)=false:=decide_eq_false h2
 clear h1 h2
 go_enter Tryz.func189,Tryz.ntmps189
 go_wp2
 go_ret
 exact ⟨by rw [HE.out]; rfl,rfl⟩
structure RstW (D bl ba:Nat) (A:Option Addr) (n c:Nat) (l:List Nx) (w:World):Prop where
 kl:Blk w bl 52 #[.slice A n c]
 ka:Blk w ba 3 #[.int .i64 (allF l:Int)]
 rd:Reads w (fun k=>k < D) 2 A n (l.flatMap nxC)
 hl:bl < D
 ha:ba < D
 hD:D≤w.heap.size
theorem RstW.keep {D bl ba:Nat} {A:Option Addr} {n c:Nat} {l:List Nx} {w w2:World} (h:RstW D bl ba A n c l w) (hb:Below D w w2):RstW D bl ba A n c l w2 :=
 ⟨h.kl.below hb h.hl,h.ka.below hb h.ha,h.rd.keep (Same.ofBelow hb fun _ hk=>hk),h.hl,h.ha,Nat.le_trans h.hD hb.size⟩
theorem RstW.later {D bl ba:Nat} {A:Option Addr} {n c:Nat} {l:List Nx} {w w2:World} (h:RstW D bl ba A n c l w) (hb:Below w.heap.size w w2):RstW D bl ba A n c l w2:=h.keep (hb.mono h.hD)
theorem rem_eq (x a:Nat):(256 * (x:Int)).tmod (a:Int)=((256 * x % a:Nat):Int):=by
 have:(256 * (x:Int))=((256 * x:Nat):Int):=by rw [Int.natCast_mul]; rfl
 rw [this,← Int.ofNat_tmod]
set_option maxRecDepth 20000 in
set_option maxHeartbeats 1600000 in
theorem rest_any (D bl ba:Nat) (A:Option Addr) (n c:Nat) (l:List Nx) (w:World) (h:RstW D bl ba A n c l w) (hn:l.length=n) (hsm:n≤1000000) (hW:0 < allF l) (hW2:allF l≤524288) (i:Nat) (hi:i < n) :
  Calls Tryz.prog 186 #[.int .i64 (i:Int),.pointer (some ⟨bl,0,none⟩),.pointer (some ⟨ba,0,none⟩)] w fun e w'=>e=.returned (.int .i64 (rmF l i:Int))∧Below w.heap.size w w':=by
 obtain ⟨ad,rfl,hcs⟩:=nx_cells h.rd hn (D:=D) (fun _ hj=>hj) hi
 obtain ⟨p,hp⟩:∃ p,p=(nxAt l i).1:=⟨_,rfl⟩
 obtain ⟨d,hd⟩:∃ p,p=(nxAt l i).2:=⟨_,rfl⟩
 rw [← hp,← hd] at hcs
 obtain ⟨x,hx⟩:∃ x,x=wAt l i:=⟨_,rfl⟩
 have hwt:=fun wx=>weight_any (p,d) wx
 have hpd:(p,d)=nxAt l i:=by rw [hp,hd]
 have hxe:wtF (p,d)=x:=by rw [hx,hpd]; rfl
 rw [hxe] at hwt
 unfold nxV at hwt
 obtain ⟨al,hal⟩:∃ a,a=allF l:=⟨_,rfl⟩
 obtain ⟨r,hr⟩:∃ r,r=rmF l i:=⟨_,rfl⟩
 have hx3:x≤65536:=by rw [hx]; exact wAt_le l i
 have hre:(256 * (x:Int)).tmod (al:Int)=(r:Int):=by rw [rem_eq,hr,hx,hal]; rfl
 have hwr:IntKind.i64.wrap (256 * (x:Int))=256 * (x:Int):=IntWalk.i64_in _ (by omega)
 have hnz:¬ al=0:=by omega
 rw [← hr]
 have x1:=fun (dd:Nat) (os:Array Obj)=>cell_regrown (h.kl.cell 0) dd os
 have x2:=fun (dd:Nat) (os:Array Obj)=>cell_regrown (h.ka.cell 0) dd os
 rw [← hal] at x2
 have x3:=fun (dd:Nat) (os:Array Obj)=>(hcs _ ((below_regrown w dd os).mono h.hD)).1
 have x4:=fun (dd:Nat) (os:Array Obj)=>(hcs _ ((below_regrown w dd os).mono h.hD)).2
 have cA:=fun (dd:Nat) (os:Array Obj)=>Calls.regrown_of (hwt (grow (redrawn w dd) os))
 have i0:(0:Int)≤i:=by omega
 have i1:(i:Int) < n:=by omega
 have i2:(i:Int) < 1000000:=by omega
 clear h hn hW hW2 hi hcs hp hd hx hwt hpd hxe hal hr hx3
 go_enter Tryz.func186,Tryz.ntmps186
 go_wp2_with fail
 refine wp_region_quiet_below (by kernel_rfl) (by kernel_rfl) ?_
 repeat (go_big_quiet_step (first | with_reducible exact cA _ _))
 refine wpQuiet_nil ?_
 intro _ hw'
 obtain ⟨⟨dq,osq⟩,hw''⟩:=hw'
 subst hw''
 have HB:=Lib.hid (below_regrown w dq osq)
 go_wp2_with fail
 go_ret
 exact ⟨rfl,HB.out⟩
def bfV (bl ba:Nat):Value:=.func (.func 186) #[] #[.pointer (some ⟨bl,0,none⟩),.pointer (some ⟨ba,0,none⟩)]
set_option maxRecDepth 20000 in
set_option maxHeartbeats 1600000 in
theorem order_any (D bl ba bf:Nat) (A:Option Addr) (n c:Nat) (l:List Nx) (w:World) (h:RstW D bl ba A n c l w) (hf:Blk w bf 279 #[bfV bl ba]) (hn:l.length=n) (hsm:n≤1000000) (hW:0 < allF l) (hW2:allF l≤524288) (i j:Nat) (hi:i < n) (hj:j < n) :
  Calls Tryz.prog 188 #[.int .i64 (i:Int),.int .i64 (j:Int),.pointer (some ⟨bf,0,none⟩)] w fun e w'=>e=.returned (.int .i64 (cmpI (rmF l j) (rmF l i)))∧Below w.heap.size w w':=by
 have x1:=fun (dd:Nat) (os:Array Obj)=>cell_regrown (hf.cell 0) dd os
 have hh:=fun wx (hx:Below w.heap.size w wx)=>h.later hx
 have cA:=fun (dd:Nat) (os:Array Obj)=>Calls.regrown_of (rest_any D bl ba A n c l _ (hh _ (below_regrown w dd os)) hn hsm hW hW2 j hj)
 have cB:=fun (dd:Nat) (os:Array Obj)=>Calls.regrown_of (rest_any D bl ba A n c l _ (hh _ (below_regrown w dd os)) hn hsm hW hW2 i hi)
 obtain ⟨ri,hri⟩:∃ r,r=rmF l i:=⟨_,rfl⟩
 obtain ⟨rj,hrj⟩:∃ r,r=rmF l j:=⟨_,rfl⟩
 rw [← hri] at cB ⊢
 rw [← hrj] at cA ⊢
 have cC:=fun (dd:Nat) (os:Array Obj)=>Calls.regrown_of (w:=w) (d:=dd) (os:=os) ((compare_any (rj:Int) (ri:Int) (grow (redrawn w dd) os)).mono fun e w' he=>⟨he.1,he.2 ▸ Below.refl _ _⟩)
 unfold bfV at x1
 clear h hf hn hsm hW hW2 hi hj hri hrj hh
 go_enter Tryz.func188,Tryz.ntmps188
 go_wp2_with fail
 refine wp_region_quiet_below (by kernel_rfl) (by kernel_rfl) ?_
 repeat (go_big_quiet_step (first | with_reducible exact cA _ _ | with_reducible exact cB _ _ | with_reducible exact cC _ _))
 refine wpQuiet_nil ?_
 intro _ hw'
 obtain ⟨⟨dq,osq⟩,hw''⟩:=hw'
 subst hw''
 have HB:=Lib.hid (below_regrown w dq osq)
 go_wp2_with fail
 go_ret
 exact ⟨rfl,HB.out⟩
end Go.Proofs.YthlommalbkhcjaaGreat
namespace Go.Proofs.YthlommalbkhcjaaGreat
open Go.RowKit Go.Sort
def natsV (xs:List Nat):List Value:=xs.map fun (k:Nat)=>Value.int .i64 (k:Int)
theorem natsV_set (xs:List Nat) (i k:Nat):natsV (xs.set i k)=(natsV xs).set i (.int .i64 (k:Int)):=by simp [natsV,List.map_set]
theorem natsV_get {xs:List Nat} {i k:Nat} (h:xs[i]?=some k):(natsV xs)[i]?=some (.int .i64 (k:Int)):=by simp [natsV,h]
structure SrtW (D bl ba bf g:Nat) (A:Option Addr) (n c c0:Nat) (l:List Nx) (w0:World) (xs:List Nat) (wr:World):Prop where
 row:wr.ownsRow D 3 1 (.slice (some ⟨g,0,none⟩) n c0) n (natsV xs)
 rst:RstW D bl ba A n c l wr
 fn:Blk wr bf 279 #[bfV bl ba]
 upd:Upd (only g) w0 wr
section
variable {D bl ba bf g:Nat} {A:Option Addr} {n c c0:Nat} {l:List Nx} {w0:World} {xs:List Nat} {wr w2:World}
theorem SrtW.later (h:SrtW D bl ba bf g A n c c0 l w0 xs wr) (hb:Below wr.heap.size wr w2):SrtW D bl ba bf g A n c c0 l w0 xs w2 :=
 ⟨own_below h.row hb,h.rst.later hb,h.fn.below hb h.fn.lt,h.upd.trans_ (Upd.ofBelow hb _)⟩
theorem SrtW.set (h:SrtW D bl ba bf g A n c c0 l w0 xs wr) (i k:Nat):SrtW D bl ba bf g A n c c0 l w0 (xs.set i k) (wr.setCell ⟨g,i,none⟩ (.int .i64 (k:Int))):=by
 have hg:=own_lt h.row (g:=g) rfl
 have hne:=own_blk_ne h.row h.fn (by decide)
 refine ⟨?_,?_,?_,?_⟩
 ·rw [natsV_set]; exact (h.row.stored i _).1
 ·exact h.rst.keep ((Below.refl D wr).setCell (p:=⟨g,i,none⟩) hg.1 _)
 ·exact h.fn.far (p:=⟨g,i,none⟩) (fun e=>hne (by rw [e]; rfl)) _
 ·exact h.upd.setCell (p:=⟨g,i,none⟩) (.inl rfl) _
theorem SrtW.cell (h:SrtW D bl ba bf g A n c c0 l w0 xs wr) {i k:Nat} (hi:i < n) (hk:xs[i]?=some k):wr.cell? ⟨g,i,none⟩=some (.int .i64 (k:Int)):=by
 rw [h.row.cellAt i (by omega),natsV_get hk]
end
theorem cmpI_lt {a b:Int}:decide (cmpI a b < 0)=decide (a < b):=by
 unfold cmpI
 split
 ·rename_i h; simp [h]
 ·rename_i h; split <;> simp [h]
set_option maxRecDepth 20000 in
set_option maxHeartbeats 3200000 in
theorem insort_any (D bl ba bf g:Nat) (A:Option Addr) (n c c0:Nat) (l:List Nx) (w:World) (h:SrtW D bl ba bf g A n c c0 l w (List.range n) w) (hn:l.length=n) (h1:1≤n) (hc:n≤c0) (hsm:n≤1000000) (hW:0 < allF l) (hW2:allF l≤524288) :
  Calls Tryz.prog 229 #[.slice (some ⟨g,0,none⟩) n c0,.int .i64 0,.int .i64 (n:Int),.func (.func 188) #[] #[.pointer (some ⟨bf,0,none⟩)]] w fun e w'=>e=.returned (.tuple #[])∧∃ xs,SrtW D bl ba bf g A n c c0 l w xs w'∧xs.Perm (List.range n)∧xs.Pairwise fun a b=>bef (rmF l) a b=true:=by
 have HN:=Lib.hid hn
 have HS:=Lib.hid h
 have HW:=Lib.hid hW
 have HW2:=Lib.hid hW2
 clear h hn hW hW2
 go_enter Tryz.func229,Tryz.ntmps229
 go_wp2_with fail
 go_loopw [8] (fun v wr=>∃ i:Nat,1≤i∧i≤n∧v=.int .i64 (i:Int)∧∃ xs,SrtW D bl ba bf g A n c c0 l w xs wr∧Ins (rmF l) n i xs) (fun v _=>n - (intOf v).toNat)
 case atStart=>exact ⟨1,Nat.le_refl _,h1,rfl,_,HS.out,Ins.start _ h1⟩
 case round =>
  obtain ⟨i,hi1,hi,rfl,xs,hs,hin⟩:=hrel
  by_cases hlt:i < n
  ·have hd0:decide ((i:Int) < (n:Int))=true:=decide_eq_true (by omega)
   have hd1:decide (i < n)=true:=decide_eq_true hlt
   have HJ:=Lib.hid (hin.begin_ hlt)
   have HSS:=Lib.hid hs
   clear hs hin
   go_wp2_with fail
   go_loopw [9] (fun v wr=>∃ j:Nat,v=.int .i64 (j:Int)∧∃ xs,SrtW D bl ba bf g A n c c0 l w xs wr∧InsJ (rmF l) n i j xs) (fun v _=>(intOf v).toNat)
   case atStart=>exact ⟨i,rfl,xs,HSS.out,HJ.out⟩
   case round =>
    obtain ⟨j,rfl,ys,hs,hin⟩:=hrel
    obtain ⟨hyl,hji,hyj⟩:=hin.len hlt
    have HI:=Lib.hid hin
    have HSY:=Lib.hid hs
    have hrow:=hs.row
    clear hs hin
    by_cases hj:0 < j
    ·obtain ⟨a,hya,hai⟩:=HI.out.lt hj
     have c1:=HSY.out.cell (by omega) hyj
     have c2:=HSY.out.cell (by omega) hya
     have hor:=fun wx (hb:Below wr.heap.size wr wx)=>order_any D bl ba bf A n c l wx (HSY.out.rst.later hb) (HSY.out.fn.below hb HSY.out.fn.lt) HN.out hsm HW.out HW2.out i a hlt (by omega)
     obtain ⟨m,rfl⟩:∃ m,j=m+1:=⟨j - 1,by omega⟩
     rw [Nat.add_sub_cancel] at hya c2
     have HYA:=Lib.hid hya
     have HCV:=Lib.hid (cmpI_lt (a:=(rmF l a:Int)) (b:=(rmF l i:Int)))
     obtain ⟨cv,hcv⟩:∃ x,x=cmpI (rmF l a) (rmF l i):=⟨_,rfl⟩
     rw [← hcv] at HCV
     rw [← hcv] at hor
     have x1:=fun (dd:Nat) (os:Array Obj)=>cell_regrown c1 dd os
     have x2:=fun (dd:Nat) (os:Array Obj)=>cell_regrown c2 dd os
     have cA:=fun (dd:Nat) (os:Array Obj)=>Calls.regrown_of (hor _ (below_regrown wr dd os))
     obtain ⟨j,hje⟩:∃ j,j=m+1:=⟨_,rfl⟩
     rw [← hje] at x1 HI hji hyj hj ⊢
     have HJE:=Lib.hid hje
     have g0:decide ((0:Int) < (j:Int))=true:=decide_eq_true (by omega)
     have g1:decide (0 < j)=true:=decide_eq_true hj
     have i0:(0:Int)≤(j:Int):=by omega
     have i1:(j:Int) < (n:Int):=by omega
     have i2:(j:Int) < 1000000:=by omega
     have e1:IntKind.i64.wrap ((j:Int) - 1)=(m:Int):=by rw [IntWalk.i64_in _ (by omega)]; omega
     have i3:(0:Int)≤(m:Int):=by omega
     have i4:(m:Int) < (n:Int):=by omega
     have HYJ:=Lib.hid hyj
     have HYL:=Lib.hid hyl
     have HAI:=Lib.hid hai
     clear hyj hya hai hcv hor c1 c2 hje hyl hrow
     by_cases hcmp:cv < 0
     ·have d0:decide (cv < 0)=true:=decide_eq_true hcmp
      have HLT:=Lib.hid (show rmF l a < rmF l i by have:=HCV.out; rw [d0] at this; have:=of_decide_eq_true this.symm; omega)
      clear hcmp
      go_upto_region 4 with (fail)
      refine wp_region_quiet_below (by kernel_rfl) (by kernel_rfl) ?_
      repeat (go_big_quiet_step (first | with_reducible exact cA _ _))
      refine wpQuiet_nil ?_
      intro _ hw'
      obtain ⟨⟨dq,osq⟩,hw''⟩:=hw'
      subst hw''
      have hs2:=HSY.out.later (below_regrown wr dq osq)
      clear x1 x2 cA
      generalize grow (redrawn wr dq) osq=wq at hs2 ⊢
      have c1:=hs2.cell (by omega) HYJ.out
      have c2:=hs2.cell (i:=m) (by omega) HYA.out
      have f1:=hs2.row.frozenAt j
      have f2:=hs2.row.frozenAt m
      have HS2:=Lib.hid hs2
      have hs3:=hs2.set j a
      have c3:=hs3.cell (i:=m) (k:=a) (by omega) (by rw [List.getElem?_set_ne (by have:=HJE.out; omega)]; exact HYA.out)
      have f3:=hs3.row.frozenAt m
      have HS4:=Lib.hid (hs3.set m i)
      clear hs2 hs3
      go_wp2_with fail
      go_region
      clear c1 c2 c3 f1 f2 f3
      have HS5:=Lib.hid (HS4.out.later (Below.refl _ _).drew)
      have HSW:=Lib.hid (show InsJ (rmF l) n i m ((ys.set j a).set m i) from by
       have:=HI.out.swap (a:=a) hj (by rw [HJE.out]; exact HYA.out) HLT.out
       have e:j - 1=m:=by have:=HJE.out; omega
       rw [e] at this
       exact this)
      have hmj:m < j:=by have:=HJE.out; omega
      obtain ⟨w5,hw5⟩:∃ x,x=((wq.setCell { block:=g,off:=j } (Value.int IntKind.i64 ↑a)).setCell { block:=g,off:=m } (Value.int IntKind.i64 ↑i)).drew:=⟨_,rfl⟩
      rw [← hw5] at HS5 ⊢
      clear hw5 HS4
      go_wp2_with fail
      go_roundw
      case rel=>exact ⟨m,rfl,_,HS5.out,HSW.out⟩
      case measure=>simp [intOf]; omega
     ·have d0:decide (cv < 0)=false:=decide_eq_false hcmp
      have HLT:=Lib.hid (show ¬ rmF l a < rmF l i by have:=HCV.out; rw [d0] at this; have:=of_decide_eq_false this.symm; omega)
      clear hcmp
      go_upto_region 4 with (fail)
      refine wp_region_quiet_below (by kernel_rfl) (by kernel_rfl) ?_
      repeat (go_big_quiet_step (first | with_reducible exact cA _ _))
      refine wpQuiet_nil ?_
      intro _ hw'
      obtain ⟨⟨dq,osq⟩,hw''⟩:=hw'
      subst hw''
      have HS2:=Lib.hid (HSY.out.later (below_regrown wr dq osq))
      clear x1 x2 cA
      generalize grow (redrawn wr dq) osq=wq at HS2 ⊢
      have HD:=Lib.hid (HI.out.done hlt (.inr ⟨a,by rw [HJE.out]; exact HYA.out,HLT.out⟩))
      go_wp2_with fail
      go_roundw
      case rel=>exact ⟨i+1,by omega,hlt,rfl,ys,HS2.out,HD.out⟩
      case measure=>simp [intOf]; omega
    ·obtain rfl:j=0:=by omega
     have HD:=Lib.hid (HI.out.done hlt (.inl rfl))
     clear hj hji hyj hyl hrow
     go_upto_region 4 with (fail)
     refine wp_region_quiet_below (by kernel_rfl) (by kernel_rfl) ?_
     repeat (go_big_quiet_step (fail))
     refine wpQuiet_nil ?_
     intro _ hw'
     obtain ⟨⟨dq,osq⟩,hw''⟩:=hw'
     subst hw''
     have HS2:=Lib.hid (HSY.out.later (below_regrown wr dq osq))
     generalize grow (redrawn wr dq) osq=wq at HS2 ⊢
     go_wp2_with fail
     go_roundw
     case rel=>exact ⟨i+1,by omega,hlt,rfl,ys,HS2.out,HD.out⟩
     case measure=>simp [intOf]; omega
  ·obtain rfl:i=n:=by omega
   have hd0:decide ((i:Int) < (i:Int))=false:=decide_eq_false (by omega)
   have hd1:decide (i < i)=false:=decide_eq_false (by omega)
   have HR:=Lib.hid (show ∃ xs,SrtW D bl ba bf g A i c c0 l w xs wr∧xs.Perm (List.range i)∧xs.Pairwise fun a b=>bef (rmF l) a b=true from ⟨xs,hs,hin.end_⟩)
   clear hs hin hi hlt
   go_wp2_with fail
   go_end0
   exact ⟨rfl,HR.out⟩
end Go.Proofs.YthlommalbkhcjaaGreat
namespace Go.Proofs.YthlommalbkhcjaaGreat
open Go.RowKit Go.Sort
def SrtPost (D bl ba bf g:Nat) (A:Option Addr) (n c c0:Nat) (l:List Nx) (w:World) (e:Ending) (w':World):Prop:=e=.returned (.tuple #[])∧∃ xs,SrtW D bl ba bf g A n c c0 l w xs w'∧xs.Perm (List.range n)∧xs.Pairwise fun a b=>bef (rmF l) a b=true
set_option maxRecDepth 20000 in
set_option maxHeartbeats 3200000 in
theorem stable_any (D bl ba bf g:Nat) (A:Option Addr) (n c c0:Nat) (l:List Nx) (w:World) (h:SrtW D bl ba bf g A n c c0 l w (List.range n) w) (hn:l.length=n) (h1:1≤n) (hc:n≤c0) (hsm:n≤8) (hW:0 < allF l) (hW2:allF l≤524288) :
  Calls Tryz.prog 216 #[.slice (some ⟨g,0,none⟩) n c0,.int .i64 (n:Int),.func (.func 188) #[] #[.pointer (some ⟨bf,0,none⟩)]] w (SrtPost D bl ba bf g A n c c0 l w):=by
 have HI:=Lib.hid (insort_any D bl ba bf g A n c c0 l w h hn h1 hc (by omega) hW hW2)
 have d1:decide ((20:Int)≤(n:Int))=false:=decide_eq_false (by omega)
 have d2:decide ((20:Int) < (n:Int))=false:=decide_eq_false (by omega)
 clear h hn h1 hc hW hW2
 go_enter Tryz.func216,Tryz.ntmps216
 go_wp2_with fail
 refine wp_loop_rounds 1 ?_
 rw [rounds_succ]
 go_wp2_with fail
 refine HI.out.mono ?_
 rintro e w2 ⟨rfl,hx⟩
 have HX:=Lib.hid hx
 clear hx
 go_wp2_with fail
 refine wp_loop_rounds 1 ?_
 rw [rounds_succ]
 go_wp2_with fail
 go_end0
 exact ⟨rfl,HX.out⟩
set_option maxRecDepth 20000 in
theorem sortstable_any (D bl ba bf g:Nat) (A:Option Addr) (n c c0:Nat) (l:List Nx) (w:World) (h:SrtW D bl ba bf g A n c c0 l w (List.range n) w) (hn:l.length=n) (h1:1≤n) (hc:n≤c0) (hsm:n≤8) (hW:0 < allF l) (hW2:allF l≤524288) :
  Calls Tryz.prog 187 #[.slice (some ⟨g,0,none⟩) n c0,.func (.func 188) #[] #[.pointer (some ⟨bf,0,none⟩)]] w (SrtPost D bl ba bf g A n c c0 l w):=by
 have HI:=Lib.hid (stable_any D bl ba bf g A n c c0 l w h hn h1 hc hsm hW hW2)
 clear h hn h1 hc hW hW2 hsm
 go_enter Tryz.func187,Tryz.ntmps187
 go_wp2_with fail
 refine HI.out.mono ?_
 rintro e w2 ⟨rfl,hx⟩
 have HX:=Lib.hid hx
 clear hx
 go_wp2_with fail
 go_end0
 exact ⟨rfl,HX.out⟩
end Go.Proofs.YthlommalbkhcjaaGreat
namespace Go.Proofs.YthlommalbkhcjaaGreat
open Go.ChangeShapes Go.WideShapes Go.ChangeAt Go.RowKit
section
variable {H:Type} {enc:TypeId × Value→H} {w:World} {spare:Nat→Bool} {held:Bool}
set_option maxRecDepth 100000 in
theorem elem_nx (n:Nat) (cs:List Value) (x:DataW H × List MemPlace) (h:DataW.trod enc Tryz.prog w 0 spare held n 110 cs=some x):∃ g:Nx,cs=nxC g∧True:=by
 obtain ⟨y0,y1,m,rfl,hlen,t0,t1⟩:=trod_struct2 Tryz.underlying110 h
 have hC:Tryz.prog.cellsOf 110=2:=by kernel_rfl
 have hC1:Tryz.prog.cellsOf 3=1:=by kernel_rfl
 rw [hC] at hlen
 obtain ⟨a,b,rfl⟩:∃ a b,cs=[a,b]:=by
  match cs,hlen with
  | [a,b],_=>exact ⟨a,b,rfl⟩
 simp only [hC1] at t0 t1
 obtain ⟨z0,e0,_⟩:=elem_int Tryz.underlying3 _ _ _ t0
 obtain ⟨z1,e1,_⟩:=elem_int Tryz.underlying3 _ _ _ t1
 obtain rfl:a=_:=by simpa using e0
 obtain rfl:b=_:=by simpa using e1
 exact ⟨(z0,z1),rfl,trivial⟩
end
end Go.Proofs.YthlommalbkhcjaaGreat
