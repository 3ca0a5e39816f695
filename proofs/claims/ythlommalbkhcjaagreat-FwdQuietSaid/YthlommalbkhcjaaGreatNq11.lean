/- split.Shares. -/
import Derived.Test.YthlommalbkhcjaaGreatNq05
import Derived.Test.YthlommalbkhcjaaGreatNq04
namespace Go.Proofs.YthlommalbkhcjaaGreat
open Go.RowKit Go.Sort
theorem info_i64:(Tryz.prog.info? 3).map (fun i=>(i.zero,i.size,i.bytes))=some (some (.int .i64 0),1,8):=by kernel_rfl
theorem kept_ne {w w2:World} {base:Nat} {e:TypeId} {size n:Nat} {v v2:Value} {xs:List Value} (h:w.ownsRow base e size v n xs) (hg:w.grownBy w2 v2.ownBlock) (hne:∀ b,v.ownBlock=some b→v2.ownBlock≠some b):w2.ownsRow base e size v n xs:=by
 refine h.kept hg ?_
 rcases hv:v.ownBlock with _ | b
 ·exact .inl rfl
 ·exact .inr fun e=>hne b hv e.symm
def ShF (vO vR:Value) (b:Nat):Prop:=vO.ownBlock=some b∨vR.ownBlock=some b
def ShΦ (D:Nat) (vO vR:Value) (k x al q:Nat) (p d:Int) (Q R:List Nat):Nat→Value→Value→World→Prop
 | 0,u,_,_=>u=vO
 | 1,u,_,_=>u=.agg #[.int .i64 p,.int .i64 d]
 | 2,u,_,_=>u=.int .i64 (x:Int)
 | 3,u,_,_=>u=.int .i64 (256 * (x:Int))
 | 4,u,_,_=>u=.int .i64 (al:Int)
 | 5,u,_,_=>u=.int .i64 (q:Int)
 | 6,u,_,w=>∃ b,u=.slice (some ⟨b,0,none⟩) 1 1∧Blk w b 3 #[.int .i64 (q:Int)]∧¬ ShF vO vR b
 | 7,u,_,w=>w.ownsRow D 3 1 u (k+1) (natsV (Q++[q]))∧∀ b,u.ownBlock=some b→vR.ownBlock≠some b
 | 8,u,_,_=>u=vR
 | 9,u,_,_=>u=.int .i64 (k:Int)
 | 10,u,_,w=>∃ b,u=.slice (some ⟨b,0,none⟩) 1 1∧Blk w b 3 #[.int .i64 (k:Int)]∧¬ ShF vO vR b
 | 11,u,o,w=>w.ownsRow D 3 1 u (k+1) (natsV (R++[k]))∧∀ b,o.ownBlock=some b→u.ownBlock≠some b
 | 12,u,o,_=>u=o
 | 13,u,o,w=>w.ownsRow D 3 1 u (k+1) (natsV (R++[k]))∧∀ b,o.ownBlock=some b→u.ownBlock≠some b
 | _,_,_,_=>True
theorem ShΦ.keep {D:Nat} {vO vR:Value} {k x al q:Nat} {p d:Int} {Q R:List Nat} {wx wy:World} (hb:Below wx.heap.size wx wy):∀ j u o,ShΦ D vO vR k x al q p d Q R j u o wx→ShΦ D vO vR k x al q p d Q R j u o wy:=by
 intro j u o h
 unfold ShΦ at h ⊢
 split at h
 all_goals first
  | exact h
  | exact ⟨own_below h.1 hb,h.2⟩
  | (obtain ⟨g,h1,h2,h3⟩:=h; exact ⟨g,h1,h2.below hb h2.lt,h3⟩)
theorem ShΦ.app {D:Nat} {vO vR:Value} {k x al q:Nat} {p d:Int} {Q R:List Nat} {wx wy:World} (hg:wx.grownBy wy vO.ownBlock) {u o o2:Value}:∀ j,¬ (j=7∨j=11∨j=12∨j=13)→ShΦ D vO vR k x al q p d Q R j u o wx→ShΦ D vO vR k x al q p d Q R j u o2 wy:=by
 intro j hj h
 unfold ShΦ at h ⊢
 split at h
 all_goals first
  | exact h
  | (exfalso; omega)
  | (obtain ⟨g,h1,h2,h3⟩:=h; exact ⟨g,h1,h2.grown hg (fun e=>h3 (.inl e)),h3⟩)
theorem ShΦ.app2 {D:Nat} {vO vR:Value} {k x al q:Nat} {p d:Int} {Q R:List Nat} {wx wy:World} (hg:wx.grownBy wy vR.ownBlock) {u o:Value}:∀ j,¬ (j=11∨j=12∨j=13)→ShΦ D vO vR k x al q p d Q R j u o wx→ShΦ D vO vR k x al q p d Q R j u o wy:=by
 intro j hj h
 unfold ShΦ at h ⊢
 split at h
 all_goals first
  | exact h
  | (exfalso; omega)
  | (obtain ⟨g,h1,h2,h3⟩:=h; exact ⟨g,h1,h2.grown hg (fun e=>h3 (.inr e)),h3⟩)
  | exact ⟨kept_ne h.1 hg h.2,h.2⟩
def ShΨ (D:Nat) (vO vR:Value) (k:Nat) (Q R:List Nat) (j:Nat) (w:World):Prop:=if j=7 then w.ownsRow D 3 1 vO k (natsV Q) else if j=11 then w.ownsRow D 3 1 vR k (natsV R) else True
theorem ShΨ.at7 {D:Nat} {vO vR:Value} {k:Nat} {Q R:List Nat} {w:World} (h:ShΨ D vO vR k Q R 7 w):w.ownsRow D 3 1 vO k (natsV Q):=h
theorem ShΨ.at11 {D:Nat} {vO vR:Value} {k:Nat} {Q R:List Nat} {w:World} (h:ShΨ D vO vR k Q R 11 w):w.ownsRow D 3 1 vR k (natsV R):=h
theorem ShΨ.keep {D:Nat} {vO vR:Value} {k:Nat} {Q R:List Nat} {wx wy:World} (hb:Below wx.heap.size wx wy) (j:Nat) (h:ShΨ D vO vR k Q R j wx):ShΨ D vO vR k Q R j wy:=by
 unfold ShΨ at h ⊢
 split
 ·rename_i e; rw [if_pos e] at h; exact own_below h hb
 ·rename_i e
  rw [if_neg e] at h
  split
  ·rename_i e2; rw [if_pos e2] at h; exact own_below h hb
  ·trivial
theorem ShΨ.app {D:Nat} {vO vR:Value} {k:Nat} {Q R:List Nat} {wx wy:World} (hg:wx.grownBy wy vO.ownBlock) (hne:∀ b,vO.ownBlock=some b→vR.ownBlock≠some b) (j:Nat) (hj:j≠7) (h:ShΨ D vO vR k Q R j wx):ShΨ D vO vR k Q R j wy:=by
 unfold ShΨ at h ⊢
 rw [if_neg hj] at h ⊢
 split
 ·rename_i e2
  rw [if_pos e2] at h
  refine h.kept hg ?_
  rcases hv:vR.ownBlock with _ | b
  ·exact .inl rfl
  ·exact .inr fun e=>hne b e.symm hv
 ·trivial
theorem ShΨ.none {D:Nat} {vO vR:Value} {k:Nat} {Q R:List Nat} {wy:World} (j:Nat) (h1:j≠11) (h2:j≠7):ShΨ D vO vR k Q R j wy:=by
 unfold ShΨ
 rw [if_neg h2,if_neg h1]
 trivial
theorem natsV_snoc (Q:List Nat) (q:Nat):natsV (Q++[q])=natsV Q++[.int .i64 (q:Int)]:=by simp [natsV]
theorem reads_blkS {w:World} {b:Nat} {t:TypeId} {us:List Value} (h:Blk w b t us.toArray) {n:Nat} (hn:n=us.length):Reads w (fun _=>True) 1 (some ⟨b,0,none⟩) n us:=by
 refine ⟨by omega,fun _=>⟨⟨b,0,none⟩,rfl,trivial,h.lt,fun j u hu=>?_⟩⟩
 rw [add_off,Nat.zero_add,h.cell]
 simpa using hu
structure AllW (w:World) (bl ba:Nat) (A:Option Addr) (n c:Nat) (s:Nat) (wr:World):Prop where
 kl:Blk wr bl 52 #[.slice A n c]
 ka:Blk wr ba 3 #[.int .i64 (s:Int)]
 b:Below w.heap.size w wr
theorem AllW.later {w:World} {bl ba:Nat} {A:Option Addr} {n c s:Nat} {wr wx:World} (h:AllW w bl ba A n c s wr) (hb:Below wr.heap.size wr wx):AllW w bl ba A n c s wx:=⟨h.kl.below hb h.kl.lt,h.ka.below hb h.ka.lt,h.b.trans (hb.mono h.b.size)⟩
structure ShW (w:World) (D bl ba:Nat) (A:Option Addr) (n c:Nat) (l:List Nx) (k:Nat) (vO vR:Value) (wr:World):Prop where
 rst:RstW D bl ba A n c l wr
 rO:wr.ownsRow D 3 1 vO k (natsV ((List.range k).map (qtF l)))
 rR:wr.ownsRow D 3 1 vR k (natsV (List.range k))
 ne:∀ b,vO.ownBlock=some b→vR.ownBlock≠some b
 b:Below w.heap.size w wr
def incF (l:List Nx) (n m i:Nat):Nat:=qtF l i+if rank (rmF l) n i < m then 1 else 0
structure IncW (w:World) (D go g n co c0:Nat) (l:List Nx) (xs:List Nat) (m:Nat) (wr:World):Prop where
 rO:wr.ownsRow D 3 1 (.slice (some ⟨go,0,none⟩) n co) n (natsV ((List.range n).map (incF l n m)))
 rR:wr.ownsRow D 3 1 (.slice (some ⟨g,0,none⟩) n c0) n (natsV xs)
 b:Below w.heap.size w wr
theorem IncW.step {w:World} {D go g n co c0:Nat} {l:List Nx} {xs:List Nat} {m x:Nat} {wr:World} (h:IncW w D go g n co c0 l xs m wr) (hx:x < n) (hr:rank (rmF l) n x=m) (hne:go≠g) (hD:w.heap.size≤D) :
  IncW w D go g n co c0 l xs (m+1) (wr.setCell ⟨go,x,none⟩ (.int .i64 ((incF l n m x:Int)+1))):=by
 have hg:=own_lt h.rO (g:=go) rfl
 refine ⟨?_,ownsRow_setCell_other (a:=⟨go,x,none⟩) h.rR (fun e=>hne (by injection e with e; exact e.symm)) _,h.b.setCell (p:=⟨go,x,none⟩) (Nat.le_trans hD hg.1) _⟩
 have:=(h.rO.stored x (.int .i64 (((incF l n m x+1:Nat)):Int))).1
 rw [← natsV_set] at this
 have e:((List.range n).map (incF l n m)).set x (incF l n m x+1)=(List.range n).map (incF l n (m+1)):=by
  refine List.ext_getElem (by simp) fun i h1 h2=>?_
  simp only [List.length_set,List.length_map,List.length_range] at h1
  rw [List.getElem_set]
  simp only [List.getElem_map,List.getElem_range]
  unfold incF
  split
  ·rename_i e; subst e; rw [if_neg (by omega),if_pos (by omega)]
  ·rename_i e
   have hst:=rank_step (r:=rmF l) hx hr h1
   by_cases hc:rank (rmF l) n i < m
   ·rw [if_pos hc,if_pos (by omega)]
   ·rw [if_neg hc,if_neg fun h3=>by rcases hst.1 h3 with h4 | h4; exact hc h4; exact e h4.symm]
 rw [e] at this
 exact this
def ShPost (w:World) (l:List Nx) (e:Ending) (w':World):Prop:=∃ v,e=.returned (.tuple #[v,.int .i64 0])∧w'.ownsRow w.heap.size 3 1 v l.length (natsV (sharesF l))∧Below w.heap.size w w'
theorem div_eq (x a:Nat):(256 * (x:Int)) / (a:Int)=((256 * x / a:Nat):Int):=by
 have:(256 * (x:Int))=((256 * x:Nat):Int):=by rw [Int.natCast_mul]; rfl
 rw [this,← Int.natCast_ediv]
set_option maxRecDepth 100000 in
set_option maxHeartbeats 8000000 in
theorem shares_yes (A:Option Addr) (n c:Nat) (l:List Nx) (I:Nat→Prop) (w:World) (h:Reads w I 2 A n (l.flatMap nxC)) (hn:l.length=n) (hm:mayF l=true) :
  Calls Tryz.prog 152 #[.slice A n c] w (ShPost w l):=by
 have HR:=Lib.hid h.lt
 have HN:=Lib.hid hn
 have HM:=Lib.hid hm
 have HN8:=Lib.hid (show n≤8 by have:=may_len hm; omega)
 have HN1:=Lib.hid (show 1≤n by have:=((mayF_iff l).1 hm).1; omega)
 have HA0:=Lib.hid (all_pos hm)
 have HA1:=Lib.hid (all_le hm)
 obtain ⟨W0,hW0⟩:∃ W,W=w.alloc (.cells #[.slice A n c] 52):=⟨_,rfl⟩
 have hb0:Below w.heap.size w W0:=by rw [hW0]; exact (Below.refl _ _).alloc (Nat.le_refl _) _
 have HK0:=Lib.hid (show Blk W0 w.heap.size 52 #[.slice A n c] by rw [hW0]; exact Blk.new _ _ _)
 have hmy:=smay_any A n c l _ W0 (HR.out.keep (Same.ofBelow hb0 fun _ hk=>hk.2)) hn (by have:=HN8.out; omega)
 rw [hm] at hmy
 have HMY:=Lib.hid hmy
 have HB0:=Lib.hid hb0
 have HW0:=Lib.hid hW0
 clear h hn hm hb0 hW0 hmy
 go_enter Tryz.func152,Tryz.ntmps152
 go_wp2_with fail
 rw [← HW0.out]
 refine HMY.out.mono ?_
 rintro e w1 ⟨rfl,hb1⟩
 obtain ⟨W1,hW1⟩:∃ W,W=w1.alloc (.cells #[.int .i64 0] 3):=⟨_,rfl⟩
 have hk1:=HK0.out.below hb1 HK0.out.lt
 have hbl:=hk1.lt
 have HS1:=Lib.hid (show AllW w w.heap.size w1.heap.size A n c 0 W1 by
  rw [hW1]
  exact ⟨hk1.alloc _,Blk.new _ _ _,(HB0.out.trans (hb1.mono HB0.out.size)).alloc (HB0.out.trans (hb1.mono HB0.out.size)).size _⟩)
 have HW1:=Lib.hid hW1
 obtain ⟨bl,hbl0⟩:∃ b,b=w.heap.size:=⟨_,rfl⟩
 obtain ⟨ba,hba0⟩:∃ b,b=w1.heap.size:=⟨_,rfl⟩
 rw [← hbl0,← hba0] at HS1
 have HNE:=Lib.hid (show bl≠ba by omega)
 have HBA:=Lib.hid (show w.heap.size≤ba by rw [hba0]; exact (HB0.out.trans (hb1.mono HB0.out.size)).size)
 have hl1:=HS1.out.kl.cell 0
 clear hb1 hk1 hW1 hbl
 go_upto_region 4 with (fail)
 rw [← HW1.out,← hbl0,← hba0]
 have HBL:=Lib.hid hbl0
 clear hbl0 hba0
 go_wp2_with fail
 clear hl1
 go_loopw [20] (fun i wr=>∃ k:Nat,k≤n∧i=.int .i64 (k:Int)∧AllW w bl ba A n c (sumTo (wAt l) k) wr) (fun i _=>n - (intOf i).toNat)
 case atStart=>exact ⟨0,Nat.zero_le _,rfl,HS1.out⟩
 case round =>
  obtain ⟨k,hk,rfl,hs⟩:=hrel
  have HS:=Lib.hid hs
  clear hs HS1
  by_cases hlt:k < n
  ·have hd0:decide ((k:Int) < (n:Int))=true:=decide_eq_true (by omega)
   have hd1:decide (k < n)=true:=decide_eq_true hlt
   obtain ⟨ad,rfl,hcs⟩:=nx_cells HR.out HN.out (D:=w.heap.size) (fun _ hj=>hj.2) hlt
   obtain ⟨p,hp⟩:∃ p,p=(nxAt l k).1:=⟨_,rfl⟩
   obtain ⟨d,hd⟩:∃ p,p=(nxAt l k).2:=⟨_,rfl⟩
   rw [← hp,← hd] at hcs
   obtain ⟨g0,g1⟩:=hcs wr HS.out.b
   obtain ⟨x,hx⟩:∃ x,x=wAt l k:=⟨_,rfl⟩
   have hpd:(p,d)=nxAt l k:=by rw [hp,hd]
   have hwt:=fun wx=>weight_any (p,d) wx
   rw [show wtF (p,d)=x by rw [hx,hpd]; rfl] at hwt
   unfold nxV at hwt
   have HWT:=Lib.hid hwt
   have HX:=Lib.hid (show x≤65536 by rw [hx]; exact wAt_le l k)
   obtain ⟨s,hs⟩:∃ s,s=sumTo (wAt l) k:=⟨_,rfl⟩
   have HSS:=Lib.hid (show sumTo (wAt l) (k+1)=s+x by rw [hs,hx]; rfl)
   have HSB:=Lib.hid (show s≤524288 by
    have:=sumTo_bound (f:=wAt l) (c:=65536) k fun i _=>wAt_le l i
    have:=HN8.out
    have:k * 65536≤8 * 65536:=Nat.mul_le_mul_right _ (by omega)
    omega)
   rw [← hs] at HS
   have i0:(0:Int)≤k:=by omega
   have i1:(k:Int) < n:=by omega
   have i2:(k:Int) < 8:=by have:=HN8.out; omega
   obtain ⟨W2,hW2⟩:∃ W,W=wr.alloc (.cells #[.int .i64 p,.int .i64 d] 110):=⟨_,rfl⟩
   have hk2:Blk W2 wr.heap.size 110 #[.int .i64 p,.int .i64 d]:=by rw [hW2]; exact Blk.new wr _ _
   have hb2:Below wr.heap.size wr W2:=by rw [hW2]; exact (Below.refl _ _).alloc (Nat.le_refl _) _
   have HS2:=Lib.hid (HS.out.later hb2)
   have HK2:=Lib.hid hk2
   have HW2:=Lib.hid hW2
   obtain ⟨gb,hgb⟩:∃ g,g=wr.heap.size:=⟨_,rfl⟩
   rw [← hgb] at HK2
   have HGB:=Lib.hid hgb
   clear hp hd hcs hx hpd hwt hs hk2 hb2 hW2 hgb
   go_upto_region 7 with (fail)
   rw [← HW2.out,← HGB.out]
   have hC:=Lib.hid (fun (a b:World) (ha:AllW w bl ba (some ad) n c s a∧Blk a gb 110 #[.int .i64 p,.int .i64 d]) (hb:Below a.heap.size a b)=>(⟨ha.1.later hb,ha.2.below hb ha.2.lt⟩:AllW w bl ba (some ad) n c s b∧Blk b gb 110 #[.int .i64 p,.int .i64 d]))
   refine wp_region_mix [(true,4),(false,1)] 0 (by kernel_rfl) (fun wx=>AllW w bl ba (some ad) n c s wx∧Blk wx gb 110 #[.int .i64 p,.int .i64 d]) hC.out (by kernel_rfl) ⟨HS2.out,HK2.out⟩ (a':=?_) (fun wz hz=>?_) fun wz hz=>?_
   rotate_left
   ·have x1:=fun (dd:Nat) (os:Array Obj)=>cell_regrown (hz.1.ka.cell 0) dd os
    have x2:=fun (dd:Nat) (os:Array Obj)=>cell_regrown (hz.2.cell 0) dd os
    have x3:=fun (dd:Nat) (os:Array Obj)=>cell_regrown (hz.2.cell 1) dd os
    have cA:=fun (dd:Nat) (os:Array Obj)=>Calls.regrown_of (HWT.out (grow (redrawn wz dd) os))
    have e1:IntKind.i64.wrap ((s:Int)+(x:Int))=((s+x:Nat):Int):=by rw [IntWalk.i64_in _ (by have:=HX.out; have:=HSB.out; omega)]; omega
    clear hz
    simp only [pick_nil,pick_tt,pick_ft,List.take_succ_cons,List.take_zero,List.drop_succ_cons,List.drop_zero,List.append_nil]
    repeat (go_big_quiet_step (first | with_reducible exact cA _ _))
    refine wpQuiet_nil ?_
    rfl
   ·simp only [pick_nil,pick_ff,pick_tf,List.take_succ_cons,List.take_zero,List.drop_succ_cons,List.drop_zero,List.append_nil]
    have S0:=Lib.hid (hC.out _ _ ⟨HS2.out,HK2.out⟩ hz)
    clear hz
    refine wpMix_step S0.out fun wa ha=>?_
    have S1:=Lib.hid (hC.out _ _ S0.out ha)
    have c1:=S1.out.1.ka.cell 0
    have f1:=S1.out.1.ka.frozen 0
    clear ha
    go_wp2_with fail
    refine wpMix_plain ?_
    have S2:=Lib.hid (show AllW w bl ba (some ad) n c (s+x) (wa.setCell ⟨ba,0,none⟩ (.int .i64 ((s+x:Nat):Int))) from by
     refine ⟨S1.out.1.kl.far (p:=⟨ba,0,none⟩) HNE.out _,S1.out.1.ka.set_ 0 _,S1.out.1.b.setCell (p:=⟨ba,0,none⟩) HBA.out _⟩)
    clear c1 f1
    go_wp2_with fail
    go_roundw
    case rel=>exact ⟨k+1,hlt,rfl,by rw [HSS.out]; exact S2.out⟩
    case measure=>simp [intOf]; omega
  ·obtain rfl:n=k:=by omega
   have hd0:decide ((n:Int) < (n:Int))=false:=decide_eq_false (by omega)
   have hd1:decide (n < n)=false:=decide_eq_false (by omega)
   obtain ⟨al,hal⟩:∃ a,a=allF l:=⟨_,rfl⟩
   rw [← hal] at HA0 HA1
   have hse:sumTo (wAt l) n=al:=by rw [hal,← HN.out]; rfl
   rw [hse] at HS
   have HAL:=Lib.hid hal
   have hl1:=HS.out.kl.cell 0
   obtain ⟨D,hD⟩:∃ D,D=wr.heap.size:=⟨_,rfl⟩
   have HDE:=Lib.hid hD
   have HDB:=Lib.hid (show w.heap.size≤D by rw [hD]; exact HS.out.b.size)
   have HSH:=Lib.hid (show ShW w D bl ba A n c l 0 (.slice none 0 0) (.slice none 0 0) wr from
    ⟨⟨HS.out.kl,by rw [← hal]; exact HS.out.ka,(HR.out.keep (Same.ofBelow HS.out.b fun _ hk=>hk.2)).mono fun j hk=>by have:=HDB.out; omega,by rw [hD]; exact HS.out.kl.lt,by rw [hD]; exact HS.out.ka.lt,Nat.le_of_eq hD⟩,World.ownsRow_nil _ _ _ _,World.ownsRow_nil _ _ _ _,fun b hb=>(by cases hb),HS.out.b⟩)
   clear hk hlt hal hse hD
   go_wp2_with fail
   clear hl1 HS
   go_loopw [7,8,9,31] (fun vO vR vl i wr=>∃ k:Nat,k≤n∧i=.int .i64 (k:Int)∧vl=.int .i64 (256 - (sumTo (qtF l) k:Int))∧ShW w D bl ba A n c l k vO vR wr) (fun _ _ _ i _=>n - (intOf i).toNat)
   case atStart=>exact ⟨0,Nat.zero_le _,rfl,rfl,HSH.out⟩
   case round =>
    obtain ⟨k,hk,rfl,rfl,hs⟩:=hrel
    have HS:=Lib.hid hs
    clear hs HSH
    by_cases hlt:k < n
    ·have hd0:decide ((k:Int) < (n:Int))=true:=decide_eq_true (by omega)
     have hd1:decide (k < n)=true:=decide_eq_true hlt
     obtain ⟨ad,rfl,hcs⟩:=nx_cells HS.out.rst.rd HN.out (D:=D) (fun _ hj=>hj) hlt
     obtain ⟨p,hp⟩:∃ p,p=(nxAt l k).1:=⟨_,rfl⟩
     obtain ⟨d,hd⟩:∃ p,p=(nxAt l k).2:=⟨_,rfl⟩
     rw [← hp,← hd] at hcs
     obtain ⟨g0,g1⟩:=hcs wr (Below.refl _ _)
     obtain ⟨x,hx⟩:∃ x,x=wAt l k:=⟨_,rfl⟩
     have hpd:(p,d)=nxAt l k:=by rw [hp,hd]
     have hwt:=fun wx=>weight_any (p,d) wx
     rw [show wtF (p,d)=x by rw [hx,hpd]; rfl] at hwt
     unfold nxV at hwt
     have HWT:=Lib.hid hwt
     have HX:=Lib.hid (show x≤65536 by rw [hx]; exact wAt_le l k)
     obtain ⟨q,hq⟩:∃ q,q=qtF l k:=⟨_,rfl⟩
     have hqe:q=256 * x / al:=by rw [hq,hx,HAL.out]; rfl
     have HQ:=Lib.hid hq
     have HQS:=Lib.hid (show sumTo (qtF l) (k+1)=sumTo (qtF l) k+q by rw [hq]; rfl)
     have HQ256:=Lib.hid (show sumTo (qtF l) k+q≤256 by
      have h1:=(left_of HM.out).1
      have h2:=sumTo_le (qtF l) (m:=k+1) (n:=l.length) (by rw [HN.out]; exact hlt)
      have h3:sumTo (qtF l) (k+1)=sumTo (qtF l) k+qtF l k:=rfl
      rw [hq]; omega)
     have HW1:=Lib.hid (show IntKind.i64.wrap (256 * (x:Int))=256 * (x:Int) from IntWalk.i64_in _ (by have:=HX.out; omega))
     have HNZ:=Lib.hid (show ¬ al=0 by have:=HA0.out; omega)
     have HQQ:=Lib.hid (show (256 * (x:Int)).tdiv (al:Int)=(q:Int) by rw [Int.tdiv_eq_ediv_of_nonneg (by omega),div_eq,hqe])
     have HWQ:=Lib.hid (show IntKind.i64.wrap (q:Int)=(q:Int) from IntWalk.i64_in _ (by have:=HQ256.out; omega))
     have HK8:=Lib.hid (show k < 8 by have:=HN8.out; omega)
     obtain ⟨Q,hQ⟩:∃ Q,Q=(List.range k).map (qtF l):=⟨_,rfl⟩
     obtain ⟨R,hR⟩:∃ R,R=List.range k:=⟨_,rfl⟩
     have HQL:=Lib.hid (show (List.range (k+1)).map (qtF l)=Q++[q] by rw [hQ,hq,List.range_succ,List.map_append]; rfl)
     have HRL:=Lib.hid (show List.range (k+1)=R++[k] by rw [hR,List.range_succ])
     have HO:=Lib.hid (show wr.ownsRow D 3 1 u7 k (natsV Q) by rw [hQ]; exact HS.out.rO)
     have HRR:=Lib.hid (show wr.ownsRow D 3 1 u8 k (natsV R) by rw [hR]; exact HS.out.rR)
     have HNE2:=Lib.hid HS.out.ne
     obtain ⟨sq,hsq⟩:∃ s,s=sumTo (qtF l) k:=⟨_,rfl⟩
     rw [← hsq] at HQS HQ256 ⊢
     have i0:(0:Int)≤k:=by omega
     have i1:(k:Int) < n:=by omega
     have i2:(k:Int) < 8:=by have:=HN8.out; omega
     obtain ⟨W2,hW2⟩:∃ W,W=wr.alloc (.cells #[.int .i64 p,.int .i64 d] 110):=⟨_,rfl⟩
     have hk2:Blk W2 wr.heap.size 110 #[.int .i64 p,.int .i64 d]:=by rw [hW2]; exact Blk.new wr _ _
     have hb2:Below wr.heap.size wr W2:=by rw [hW2]; exact (Below.refl _ _).alloc (Nat.le_refl _) _
     have HFB:=Lib.hid (show ∀ b,ShF u7 u8 b→D≤b∧b < wr.heap.size from fun b hb=>by
      rcases hb with hb | hb
      ·exact own_lt HO.out hb
      ·exact own_lt HRR.out hb)
     have HK2:=Lib.hid hk2
     have HB2:=Lib.hid hb2
     have HW2:=Lib.hid hW2
     have HRST:=Lib.hid (HS.out.rst.later hb2)
     have HBW:=Lib.hid (HS.out.b.trans (hb2.mono HS.out.b.size))
     have HO2:=Lib.hid (own_below HO.out hb2)
     have HR2:=Lib.hid (own_below HRR.out hb2)
     obtain ⟨gb,hgb⟩:∃ g,g=wr.heap.size:=⟨_,rfl⟩
     rw [← hgb] at HK2
     have HGB:=Lib.hid hgb
     have HGF:=Lib.hid (show ¬ ShF u7 u8 gb from fun e=>by have:=HFB.out _ e; omega)
     clear hp hd hcs hx hpd hwt hq hqe hQ hR hsq hk2 hb2 hW2 hgb HS
     go_upto_region 14 with (fail)
     rw [← HW2.out,← HGB.out]
     have HG1:=Lib.hid (show ∀ wx,Upd (ShF u7 u8) { W2 with drawn:=W2.drawn+1 } wx→wx.cell? ⟨gb,0,none⟩=some (.int .i64 p)∧wx.cell? ⟨gb,1,none⟩=some (.int .i64 d) from fun wx hg=>by
      have hk:Blk { W2 with drawn:=W2.drawn+1 } gb 110 #[.int .i64 p,.int .i64 d]:=HK2.out
      have:=hk.upd hg HGF.out
      exact ⟨this.cell 0,this.cell 1⟩)
     have HG2:=Lib.hid (show ∀ wx,Upd (ShF u7 u8) { W2 with drawn:=W2.drawn+1 } wx→wx.cell? ⟨ba,0,none⟩=some (.int .i64 (al:Int)) from fun wx hg=>by
      have hk:Blk { W2 with drawn:=W2.drawn+1 } ba 3 #[.int .i64 (al:Int)]:=by rw [HAL.out]; exact HRST.out.ka
      exact (hk.upd hg fun e=>by have:=(HFB.out _ e).1; have:=HRST.out.ha; omega).cell 0)
     have HNE:=Lib.hid HNE2.out
     have HFB0:=Lib.hid (show ∀ b,ShF u7 u8 b→b < W2.heap.size from fun b e=>Nat.lt_of_lt_of_le (HFB.out b e).2 HB2.out.size)
     have HFB1:=Lib.hid HFB.out
     have HFB:=Lib.hid HFB0.out
     have HDW:=Lib.hid (show D≤W2.heap.size from HRST.out.hD)
     obtain ⟨z0,hi,hz0,hz1,hz2⟩:=info_parts info_i64
     refine J.wp_region_psj (by kernel_rfl) (fun a b=>Upd (ShF u7 u8) a b) 7 (ShΦ D u7 u8 k x al q p d Q R) 14 (fun _ _=>True) (fun _ _=>false) (ShΨ D u7 u8 k Q R) (by kernel_rfl) (fun p=>Upd.refl _ p) (fun h k=>h.trans_ k) (fun j=>?_) (J.oblp_of ?_) (fun o h=>by cases h) ?_
     ·unfold ShΨ
      split
      ·exact HO2.out
      ·split
       ·exact HR2.out
       ·trivial
     ·refine ⟨fun _=>?_,fun _=>?_,fun _=>?_,fun _=>?_,fun _=>?_,fun _=>?_,fun _=>?_,fun _=>?_,fun _=>?_,fun _=>?_,fun _=>?_,fun _=>?_,fun _=>?_,fun _=>?_,trivial⟩
      ·
       intro val wx hg hψ hd hb hs K hK
       generalize hρ:rhoV _ _ val=ρ
       have cc:∀ u,ρ (.const u)=u:=fun u=>by rw [← hρ]; rfl
       have ff:∀ u,ρ (.func u)=.func (.func u) #[] #[]:=fun u=>by rw [← hρ]; rfl
       have r7:ρ (.tmp 7)=u7:=by rw [← hρ]; exact hb 12 _ rfl rfl
       clear hρ hd hb hs hψ
       refine ifv rfl ?_
       go_simp
       exact hK _ _ (Upd.refl _ _) rfl (fun _ _ _ _ h=>h) fun _ _ _ h=>h
      ·
       intro val wx hg hψ hd hb hs K hK
       generalize hρ:rhoV _ _ val=ρ
       have cc:∀ u,ρ (.const u)=u:=fun u=>by rw [← hρ]; rfl
       have ff:∀ u,ρ (.func u)=.func (.func u) #[] #[]:=fun u=>by rw [← hρ]; rfl
       have r11:ρ (.tmp 11)=.pointer (some ⟨gb,0,none⟩):=by rw [← hρ]; rfl
       have hc1:=(HG1.out wx hg).1
       have hc2:=(HG1.out wx hg).2
       clear hρ hd hb hs hψ
       refine ifv rfl ?_
       go_simp
       exact hK _ _ (Upd.refl _ _) rfl (fun _ _ _ _ h=>h) fun _ _ _ h=>h
      ·
       intro val wx hg hψ hd hb hs K hK
       generalize hρ:rhoV _ _ val=ρ
       have cc:∀ u,ρ (.const u)=u:=fun u=>by rw [← hρ]; rfl
       have ff:∀ u,ρ (.func u)=.func (.func u) #[] #[]:=fun u=>by rw [← hρ]; rfl
       have r37:ρ (.tmp 37)=.agg #[.int .i64 p,.int .i64 d]:=by rw [← hρ]; exact hd 1 rfl rfl
       have hc:=HWT.out wx
       clear hρ hd hb hs hψ
       refine ifv rfl ?_
       go_simp
       refine hc.mono ?_
       rintro e w2 ⟨rfl,hb2⟩
       exact ⟨_,rfl,hK _ _ (Upd.ofBelow hb2 _) rfl (fun j _ _ _ h=>ShΦ.keep hb2 j _ _ h) fun j _ _ h=>ShΨ.keep hb2 j h⟩
      ·
       intro val wx hg hψ hd hb hs K hK
       generalize hρ:rhoV _ _ val=ρ
       have cc:∀ u,ρ (.const u)=u:=fun u=>by rw [← hρ]; rfl
       have ff:∀ u,ρ (.func u)=.func (.func u) #[] #[]:=fun u=>by rw [← hρ]; rfl
       have r38:ρ (.tmp 38)=.int .i64 (x:Int):=by rw [← hρ]; exact hd 2 rfl rfl
       have hw1:=HW1.out
       clear hρ hd hb hs hψ
       refine ifv rfl ?_
       go_simp
       exact hK _ _ (Upd.refl _ _) rfl (fun _ _ _ _ h=>h) fun _ _ _ h=>h
      ·
       intro val wx hg hψ hd hb hs K hK
       generalize hρ:rhoV _ _ val=ρ
       have cc:∀ u,ρ (.const u)=u:=fun u=>by rw [← hρ]; rfl
       have ff:∀ u,ρ (.func u)=.func (.func u) #[] #[]:=fun u=>by rw [← hρ]; rfl
       have r4:ρ (.tmp 4)=.pointer (some ⟨ba,0,none⟩):=by rw [← hρ]; rfl
       have hc1:=HG2.out wx hg
       clear hρ hd hb hs hψ
       refine ifv rfl ?_
       go_simp
       exact hK _ _ (Upd.refl _ _) rfl (fun _ _ _ _ h=>h) fun _ _ _ h=>h
      ·
       intro val wx hg hψ hd hb hs K hK
       generalize hρ:rhoV _ _ val=ρ
       have cc:∀ u,ρ (.const u)=u:=fun u=>by rw [← hρ]; rfl
       have ff:∀ u,ρ (.func u)=.func (.func u) #[] #[]:=fun u=>by rw [← hρ]; rfl
       have r39:ρ (.tmp 39)=.int .i64 (256 * (x:Int)):=by rw [← hρ]; exact hd 3 rfl rfl
       have r40:ρ (.tmp 40)=.int .i64 (al:Int):=by rw [← hρ]; exact hd 4 rfl rfl
       have hnz:=HNZ.out
       have hqq:=HQQ.out
       have hwq:=HWQ.out
       clear hρ hd hb hs hψ
       refine ifv rfl ?_
       go_simp
       exact hK _ _ (Upd.refl _ _) rfl (fun _ _ _ _ h=>h) fun _ _ _ h=>h
      ·
       intro val wx hg hψ hd hb hs K hK
       generalize hρ:rhoV _ _ val=ρ
       have cc:∀ u,ρ (.const u)=u:=fun u=>by rw [← hρ]; rfl
       have ff:∀ u,ρ (.func u)=.func (.func u) #[] #[]:=fun u=>by rw [← hρ]; rfl
       have r41:ρ (.tmp 41)=.int .i64 (q:Int):=by rw [← hρ]; exact hd 5 rfl rfl
       have hal:Below wx.heap.size wx (wx.alloc (.cells #[.int .i64 (q:Int)] 3)):=(Below.refl _ _).alloc (Nat.le_refl _) _
       have hnf:¬ ShF u7 u8 wx.heap.size:=fun h=>by have:=HFB.out _ h; have:=hg.size; simp only at this; omega
       clear hρ hd hb hs hψ
       refine ifv rfl ?_
       go_simp
       exact hK _ _ (Upd.ofBelow hal _) ⟨_,rfl,Blk.new _ _ _,hnf⟩ (fun j _ _ _ h=>ShΦ.keep hal j _ _ h) fun j _ _ h=>ShΨ.keep hal j h
      ·
       intro val wx hg hψ hd hb hs K hK
       generalize hρ:rhoV _ _ val=ρ
       have cc:∀ u,ρ (.const u)=u:=fun u=>by rw [← hρ]; rfl
       have ff:∀ u,ρ (.func u)=.func (.func u) #[] #[]:=fun u=>by rw [← hρ]; rfl
       have r36:ρ (.tmp 36)=u7:=by rw [← hρ]; exact hd 0 rfl rfl
       have r42:ρ (.tmp 42)=val 6:=by rw [← hρ]; rfl
       have p6:=hd 6 rfl rfl
       obtain ⟨b,hbe,hbk,hbf⟩:∃ b,val 6=.slice (some ⟨b,0,none⟩) 1 1∧Blk wx b 3 #[.int .i64 (q:Int)]∧¬ ShF u7 u8 b:=p6
       rw [hbe] at r42
       have hrx:Reads wx (fun _=>True) 1 (some ⟨b,0,none⟩) 1 [.int .i64 (q:Int)]:=reads_blkS hbk rfl
       have hsz:D≤wx.heap.size:=Nat.le_trans HDW.out hg.size
       refine ifv rfl ?_
       refine insRow wx (.tmp 36) (.tmp 42) 49 (by rfl) D 3 z0 _ 1 8 Tryz.underlying49 hi hz0 hz1 hz2 rfl (by decide) r36 (show wx.ownsRow D 3 1 u7 k (natsV Q) from (ShΨ.at7 hψ)) (A:=some ⟨b,0,none⟩) (m:=1) (c:=1) (news:=[.int .i64 (q:Int)]) r42 hrx (fun u hu=>by rw [List.mem_singleton.1 hu]; rfl) (by unfold maxLen; have:=HK8.out; omega) (by have:=HK8.out; omega) hsz ?_
       intro v2 w2 h2 hg2 hat2
       clear hρ hd hb hs
       refine hK _ _ ((Upd.refl _ wx).grown hg2 fun k hk=>.inl (.inl hk)) (⟨by rw [natsV_snoc]; exact h2,fun b hb e=>?_⟩) (fun j hj hdd hbk2 h=>ShΦ.app hg2 j (fun e=>by rcases e with e | e | e | e <;> first | exact hj e | (subst e; exact Bool.noConfusion ((hbk2 _ rfl).symm.trans rfl))) h) fun j hj hbk2 h=>ShΨ.app hg2 HNE.out j hj h
       change v2.ownBlock=some b at hb
       rcases hat2 with h | h
       ·rw [h] at hb; exact HNE.out b hb e
       ·rw [h] at hb; injection hb with hb; have:=HFB.out b (.inr e); have:=hg.size; simp only at this; omega
      ·
       intro val wx hg hψ hd hb hs K hK
       generalize hρ:rhoV _ _ val=ρ
       have cc:∀ u,ρ (.const u)=u:=fun u=>by rw [← hρ]; rfl
       have ff:∀ u,ρ (.func u)=.func (.func u) #[] #[]:=fun u=>by rw [← hρ]; rfl
       have r8:ρ (.tmp 8)=u8:=by rw [← hρ]; exact hb 13 _ rfl rfl
       clear hρ hd hb hs hψ
       refine ifv rfl ?_
       go_simp
       exact hK _ _ (Upd.refl _ _) rfl (fun _ _ _ _ h=>h) fun _ _ _ h=>h
      ·
       intro val wx hg hψ hd hb hs K hK
       generalize hρ:rhoV _ _ val=ρ
       have cc:∀ u,ρ (.const u)=u:=fun u=>by rw [← hρ]; rfl
       have ff:∀ u,ρ (.func u)=.func (.func u) #[] #[]:=fun u=>by rw [← hρ]; rfl
       have r10:ρ (.tmp 10)=.int .i64 (k:Int):=by rw [← hρ]; rfl
       clear hρ hd hb hs hψ
       refine ifv rfl ?_
       go_simp
       exact hK _ _ (Upd.refl _ _) rfl (fun _ _ _ _ h=>h) fun _ _ _ h=>h
      ·
       intro val wx hg hψ hd hb hs K hK
       generalize hρ:rhoV _ _ val=ρ
       have cc:∀ u,ρ (.const u)=u:=fun u=>by rw [← hρ]; rfl
       have ff:∀ u,ρ (.func u)=.func (.func u) #[] #[]:=fun u=>by rw [← hρ]; rfl
       have r45:ρ (.tmp 45)=.int .i64 (k:Int):=by rw [← hρ]; exact hd 9 rfl rfl
       have hal:Below wx.heap.size wx (wx.alloc (.cells #[.int .i64 (k:Int)] 3)):=(Below.refl _ _).alloc (Nat.le_refl _) _
       have hnf:¬ ShF u7 u8 wx.heap.size:=fun h=>by have:=HFB.out _ h; have:=hg.size; simp only at this; omega
       clear hρ hd hb hs hψ
       refine ifv rfl ?_
       go_simp
       exact hK _ _ (Upd.ofBelow hal _) ⟨_,rfl,Blk.new _ _ _,hnf⟩ (fun j _ _ _ h=>ShΦ.keep hal j _ _ h) fun j _ _ h=>ShΨ.keep hal j h
      ·
       intro val wx hg hψ hd hb hs K hK
       generalize hρ:rhoV _ _ val=ρ
       have cc:∀ u,ρ (.const u)=u:=fun u=>by rw [← hρ]; rfl
       have ff:∀ u,ρ (.func u)=.func (.func u) #[] #[]:=fun u=>by rw [← hρ]; rfl
       have r44:ρ (.tmp 44)=u8:=by rw [← hρ]; exact hd 8 rfl rfl
       have r46:ρ (.tmp 46)=val 10:=by rw [← hρ]; rfl
       have p10:=hd 10 rfl rfl
       have q7:wx.ownsRow D 3 1 (val 7) (k+1) (natsV (Q++[q]))∧∀ b,(val 7).ownBlock=some b→u8.ownBlock≠some b:=hd 7 rfl rfl
       obtain ⟨b,hbe,hbk,hbf⟩:∃ b,val 10=.slice (some ⟨b,0,none⟩) 1 1∧Blk wx b 3 #[.int .i64 (k:Int)]∧¬ ShF u7 u8 b:=p10
       rw [hbe] at r46
       have hrx:Reads wx (fun _=>True) 1 (some ⟨b,0,none⟩) 1 [.int .i64 (k:Int)]:=reads_blkS hbk rfl
       have hsz:D≤wx.heap.size:=Nat.le_trans HDW.out hg.size
       refine ifv rfl ?_
       refine insRow wx (.tmp 44) (.tmp 46) 49 (by rfl) D 3 z0 _ 1 8 Tryz.underlying49 hi hz0 hz1 hz2 rfl (by decide) r44 (show wx.ownsRow D 3 1 u8 k (natsV R) from (ShΨ.at11 hψ)) (A:=some ⟨b,0,none⟩) (m:=1) (c:=1) (news:=[.int .i64 (k:Int)]) r46 hrx (fun u hu=>by rw [List.mem_singleton.1 hu]; rfl) (by unfold maxLen; have:=HK8.out; omega) (by have:=HK8.out; omega) hsz ?_
       intro v2 w2 h2 hg2 hat2
       clear hρ hd hb hs
       refine hK _ _ ((Upd.refl _ wx).grown hg2 fun k hk=>.inl (.inr hk)) (⟨by rw [natsV_snoc]; exact h2,fun b hb e=>?_⟩) (fun j hj hdd hbk2 h=>ShΦ.app2 hg2 j (fun e=>by rcases e with e | e | e <;> first | exact hj e | (subst e; exact Bool.noConfusion ((hbk2 _ rfl).symm.trans rfl))) h) fun j hj hbk2 h=>ShΨ.none j (by rintro rfl; exact absurd rfl hj) (by rintro rfl; exact Bool.noConfusion (hbk2.symm.trans rfl))
       change v2.ownBlock=some b at e
       rcases hat2 with h | h
       ·rw [h] at e; exact q7.2 b hb e
       ·rw [h] at e; injection e with e; have:=(own_lt q7.1 hb).2; omega
      ·
       intro val wx hg hψ hd hb hs K hK
       generalize hρ:rhoV _ _ val=ρ
       have cc:∀ u,ρ (.const u)=u:=fun u=>by rw [← hρ]; rfl
       have ff:∀ u,ρ (.func u)=.func (.func u) #[] #[]:=fun u=>by rw [← hρ]; rfl
       have r43:ρ (.tmp 43)=val 7:=by rw [← hρ]; rfl
       have p7:=hd 7 rfl rfl
       clear hd hb hs hψ
       refine ifv rfl ?_
       go_simp
       exact hK _ _ (Upd.refl _ _) rfl (fun _ _ _ _ h=>h) fun _ _ _ h=>h
      ·
       intro val wx hg hψ hd hb hs K hK
       generalize hρ:rhoV _ _ val=ρ
       have cc:∀ u,ρ (.const u)=u:=fun u=>by rw [← hρ]; rfl
       have ff:∀ u,ρ (.func u)=.func (.func u) #[] #[]:=fun u=>by rw [← hρ]; rfl
       have r47:ρ (.tmp 47)=val 11:=by rw [← hρ]; rfl
       have p11:=hd 11 rfl rfl
       clear hd hb hs hψ
       refine ifv rfl ?_
       go_simp
       exact hK _ _ (Upd.refl _ _) p11 (fun _ _ _ _ h=>h) fun _ _ _ h=>h
     ·intro val w9 h9
      rw [if_neg (by decide)] at h9
      obtain ⟨hb9,h9⟩:=h9
      have p7:w9.ownsRow D 3 1 (val 7) (k+1) (natsV (Q++[q]))∧∀ b,(val 7).ownBlock=some b→u8.ownBlock≠some b:=h9 7 (by decide) fun _ _=>rfl
      have p12:val 12=val 7:=h9 12 (by decide) fun _ _=>rfl
      have p13:w9.ownsRow D 3 1 (val 13) (k+1) (natsV (R++[k]))∧∀ b,(val 7).ownBlock=some b→(val 13).ownBlock≠some b:=h9 13 (by decide) fun _ _=>rfl
      have hb9':Upd (ShF u7 u8) W2 w9:=⟨hb9.os,hb9.tape,hb9.output,hb9.size,hb9.block⟩
      have hbD:Below D W2 w9:=hb9'.below (fun b e=>(HFB1.out b e).1) HDW.out
      have HS9:=Lib.hid (show ShW w D bl ba (some ad) n c l (k+1) (val 7) (val 13) w9 from
       ⟨HRST.out.keep hbD,by rw [HQL.out]; exact p7.1,by rw [HRL.out]; exact p13.1,p13.2,HBW.out.trans (hbD.mono HDB.out)⟩)
      obtain ⟨go,co,eo,hco⟩:=own_form1 p7.1 (by omega)
      have hcell:w9.cell? ⟨go,k,none⟩=some (.int .i64 (q:Int)):=by
       have:=p7.1
       rw [eo] at this
       rw [this.cellAt k (by omega)]
       have hql:Q.length=k:=by
        have:=this.1
        simp only [natsV,List.length_map,List.length_append,List.length_cons,List.length_nil] at this
        omega
       simp [natsV,← hql]
      simp only [putAll,p12,eo]
      rw [eo] at HS9
      obtain ⟨vR,hvR⟩:∃ v,v=val 13:=⟨_,rfl⟩
      rw [← hvR] at HS9
      simp only [Act.put,List.setIfInBounds_toArray,List.set_cons_succ,List.set_cons_zero,← hvR]
      clear hb9 h9 p7 p12 p13 hb9' hbD eo hvR
      generalize val 0=y0,val 1=y1,val 2=y2,val 3=y3,val 4=y4,val 5=y5,val 6=y6,val 7=y7,val 8=y8,val 9=y9,val 10=y10,val 11=y11
      have q0:(0:Int)≤q:=by omega
      have q1:(sq:Int)+q≤256:=by have:=HQ256.out; omega
      have q2:(0:Int)≤sq:=by omega
      have i3:(k:Int) < ((k+1:Nat):Int):=by omega
      obtain ⟨k1,hk1⟩:∃ j,j=k+1:=⟨_,rfl⟩
      rw [← hk1] at HS9 i3 hco ⊢
      have HK1:=Lib.hid hk1
      clear hk1
      go_wp2_with fail
      go_roundw
      case rel=>exact ⟨k1,by have:=HK1.out; omega,by rw [HK1.out]; rfl,by rw [HK1.out,HQS.out]; congr 1; omega,HS9.out⟩
      case measure=>have:=HK1.out; simp [intOf]; omega
    ·obtain rfl:n=k:=by omega
     have hd0:decide ((n:Int) < (n:Int))=false:=decide_eq_false (by omega)
     have hd1:decide (n < n)=false:=decide_eq_false (by omega)
     obtain ⟨h256,hlf,_⟩:=left_of HM.out
     rw [HN.out] at h256 hlf
     obtain ⟨lf,hlf0⟩:∃ x,x=leftF l:=⟨_,rfl⟩
     have hle:(256:Int) - (sumTo (qtF l) n:Int)=(lf:Int):=by rw [hlf0]; unfold leftF; rw [HN.out]; omega
     rw [← hlf0] at hlf
     rw [hle]
     have HLF:=Lib.hid hlf0
     have HLN:=Lib.hid hlf
     obtain ⟨go,co,rfl,hco⟩:=own_form1 HS.out.rO (by have:=HN1.out; omega)
     obtain ⟨g,c0,rfl,hc0⟩:=own_form1 HS.out.rR (by have:=HN1.out; omega)
     have HGG:=Lib.hid (show go≠g from fun e=>HS.out.ne go rfl (by rw [e]; rfl))
     obtain ⟨W4,hW4⟩:∃ W,W=wr.alloc (.cells #[bfV bl ba] 279):=⟨_,rfl⟩
     have hb4:Below wr.heap.size wr W4:=by rw [hW4]; exact (Below.refl _ _).alloc (Nat.le_refl _) _
     have HO4:=Lib.hid (own_below HS.out.rO hb4)
     have HB4:=Lib.hid (HS.out.b.trans (hb4.mono HS.out.b.size))
     have hsr:SrtW D bl ba wr.heap.size g A n c c0 l W4 (List.range n) W4:=⟨own_below HS.out.rR hb4,HS.out.rst.later hb4,by rw [hW4]; exact Blk.new _ _ _,Upd.refl _ _⟩
     have hso:=sortstable_any D bl ba wr.heap.size g A n c c0 l W4 hsr HN.out HN1.out hc0 HN8.out (all_pos HM.out) (all_le HM.out)
     have HSO:=Lib.hid hso
     have HW4:=Lib.hid hW4
     have HDW:=Lib.hid (show D≤W4.heap.size from hsr.rst.hD)
     have HCO:=Lib.hid hco
     unfold bfV at HW4
     clear hk hlt h256 hlf hlf0 hle hco hW4 hb4 hsr hso HS
     go_upto_region 18 with (fail)
     rw [← HW4.out]
     go_wp2_with fail
     refine HSO.out.mono ?_
     rintro e w5 ⟨rfl,xs,hx,hperm,hsort⟩
     have hg:=own_lt hx.row (g:=g) rfl
     have hO5:w5.ownsRow D 3 1 (.slice (some ⟨go,0,none⟩) n co) n (natsV ((List.range n).map (qtF l))):=own_keep (I:=fun k=>k≠g) HO4.out (Upd.same hx.upd fun k hk hi=>hi hk) fun b hb=>by injection hb with hb; rw [← hb]; exact HGG.out
     have hB5:Below w.heap.size w w5:=below_only HB4.out hx.upd (Nat.le_trans HDB.out hg.1) HB4.out.size
     have HX:=Lib.hid hx.row
     have HRK:=Lib.hid (fun (m x:Nat) (h:xs[m]?=some x)=>rank_sorted hperm hsort h)
     have HXN:=Lib.hid (fun (m x:Nat) (h:xs[m]?=some x)=>(show x < n from by have:=hperm.mem_iff.1 (List.mem_of_getElem? h); simpa using this))
     have HXL:=Lib.hid (show xs.length=n by rw [hperm.length_eq,List.length_range])
     have HO5:=Lib.hid hO5
     have HB5:=Lib.hid hB5
     have HGD:=Lib.hid hg.1
     have l0:(0:Int)≤lf:=by omega
     have l1:(lf:Int) < n:=by have:=HLN.out; omega
     have l2:(n:Int)≤c0:=by omega
     have l3:(n:Int)≤8:=by have:=HN8.out; omega
     clear hx hperm hsort hg hO5 hB5
     go_wp2_with fail
     have HS6:=Lib.hid (show IncW w D go g n co c0 l xs 0 w5 from ⟨by rw [show incF l n 0=qtF l from funext fun i=>by simp [incF]]; exact HO5.out,HX.out,HB5.out⟩)
     clear HX HO5 HB5 HO4 HSO HB4
     go_loopw [63] (fun i wr=>∃ m:Nat,m≤lf∧i=.int .i64 (m:Int)∧IncW w D go g n co c0 l xs m wr) (fun i _=>lf - (intOf i).toNat)
     case atStart=>exact ⟨0,Nat.zero_le _,rfl,HS6.out⟩
     case round =>
      obtain ⟨m,hm,rfl,hs⟩:=hrel
      have HS:=Lib.hid hs
      by_cases hlt:m < lf
      ·have hd0:decide ((m:Int) < (lf:Int))=true:=decide_eq_true (by omega)
       have hd1:decide (m < lf)=true:=decide_eq_true hlt
       have hmn:m < n:=by omega
       obtain ⟨x,hx⟩:∃ x,xs[m]?=some x:=⟨xs[m]'(by rw [HXL.out]; exact hmn),List.getElem?_eq_getElem _⟩
       have hxn:=HXN.out m x hx
       have hrk:=HRK.out m x hx
       have c1:wr.cell? ⟨g,m,none⟩=some (.int .i64 (x:Int)):=by rw [hs.rR.cellAt m (by omega),natsV_get hx]
       have c2:wr.cell? ⟨go,x,none⟩=some (.int .i64 (incF l n m x:Int)):=by rw [hs.rO.cellAt x (by omega)]; exact natsV_get (by rw [List.getElem?_map,List.getElem?_range hxn]; rfl)
       have f2:=hs.rO.frozenAt x
       have hq:incF l n m x < 1000:=by
        have h1:=sumTo_le (qtF l) (m:=x+1) (n:=l.length) (by rw [HN.out]; exact hxn)
        have h2:=(left_of HM.out).1
        have h3:sumTo (qtF l) (x+1)=sumTo (qtF l) x+qtF l x:=rfl
        unfold incF
        split <;> omega
       have HS7:=Lib.hid (hs.step hxn hrk HGG.out HDB.out)
       obtain ⟨y,hy⟩:∃ y,y=incF l n m x:=⟨_,rfl⟩
       rw [← hy] at HS7 c2 hq
       have j0:(0:Int)≤m:=by omega
       have j1:(m:Int) < lf:=by omega
       have j2:(0:Int)≤x:=by omega
       have j3:(x:Int) < n:=by omega
       have j4:(0:Int)≤y:=by omega
       have j5:(y:Int) < 1000:=by omega
       clear hs hx hxn hrk hy hmn hq
       go_wp2_with fail
       go_roundw
       case rel=>exact ⟨m+1,hlt,rfl,HS7.out⟩
       case measure=>simp [intOf]; omega
      ·obtain rfl:m=lf:=by omega
       have hd0:decide ((m:Int) < (m:Int))=false:=decide_eq_false (by omega)
       have hd1:decide (m < m)=false:=decide_eq_false (by omega)
       have HR9:=Lib.hid (show wr.ownsRow w.heap.size 3 1 (.slice (some ⟨go,0,none⟩) n co) l.length (natsV (sharesF l)) from by
        have:=own_base hs.rO HDB.out
        rw [HN.out]
        have e:sharesF l=(List.range n).map (incF l n m):=by
         unfold sharesF
         rw [HN.out]
         exact List.map_congr_left fun i _=>by unfold shF incF; rw [HN.out,HLF.out]
        rw [e]
        exact this)
       have HB9:=Lib.hid hs.b
       clear hs hm hlt HS
       go_wp2_with fail
       go_ret2
       exact ⟨_,rfl,HR9.out,HB9.out⟩
end Go.Proofs.YthlommalbkhcjaaGreat
