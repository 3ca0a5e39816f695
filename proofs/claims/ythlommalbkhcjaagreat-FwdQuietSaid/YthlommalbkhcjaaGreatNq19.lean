/- ip.Options. -/
import Derived.Test.YthlommalbkhcjaaGreatNq18
import Derived.Test.YthlommalbkhcjaaGreatNq04
import Derived.Stop.RegionWithIn
import Derived.BigGuardIn
import Derived.BigRegionIn
import Derived.WalkMore
namespace Go.Proofs.YthlommalbkhcjaaGreat
open Go.RowKit Go.Sort Go.BigFrame
attribute [local go_sem] Oper.semAt_some
structure OpS (w W:World) (L:List (UInt8 × By)) (g:Bool):Prop where
 below:Below w.heap.size w W
 ex:∃ lv,Blk W w.heap.size 217 #[lv]∧OptR w.heap.size W lv L
 flag:Blk W (w.heap.size+1) 4 #[.bool g]
theorem OpS.own {w W W':World} {L:List (UInt8 × By)} {g:Bool} {row:Option Nat} (h:OpS w W L g) (hg:W.grownBy W' row) (hr:∀ r,row=some r→w.heap.size≤r∧∃ o:Obj,W.heap[r]?=some o∧o.isCells=false):OpS w W' L g:=by
 obtain ⟨lv,h1,h2⟩:=h.ex
 exact ⟨h.below.grown hg h.below.size fun r e=>(hr r e).1,⟨lv,blk_own h1 hg fun r e=>(hr r e).2,h2.own hg fun r e=>(hr r e).2⟩,blk_own h.flag hg fun r e=>(hr r e).2⟩
theorem OpS.setF {w W:World} {L:List (UInt8 × By)} {g:Bool} (h:OpS w W L g) (g':Bool):OpS w (W.setCell ⟨w.heap.size+1,0,none⟩ (.bool g')) L g':=by
 obtain ⟨lv,h1,h2⟩:=h.ex
 exact ⟨h.below.setCell (p:=⟨w.heap.size+1,0,none⟩) (by simp) _,⟨lv,h1.far (p:=⟨w.heap.size+1,0,none⟩) (by simp) _,h2.set_ (p:=⟨w.heap.size+1,0,none⟩) h.flag (by decide) (by decide) _⟩,h.flag.set_ 0 _⟩
theorem opts_snoc (L:List (UInt8 × By)) (s:UInt8 × By):optsOf (L++[s])=optsOf L++(if s.1=1 then [] else [(s.1,s.2.drop 2)]):=by
 unfold optsOf
 rw [List.filter_append,List.map_append]
 congr 1
 by_cases h:s.1=1
 ·simp [h]
 ·simp [h]
def OptΦ (B:Nat) (lv:Value) (k:UInt8) (xv cv:Value) (data:By) (L:List (UInt8 × By)):Nat→Value→World→Prop
 | 0,u,_=>u=lv
 | 1,u,_=>u=.int .u8 (k.toNat:Int)
 | 2,u,_=>u=xv
 | 3,u,_=>u=cv
 | 4,u,w=>Row8 B w u data
 | 5,u,w=>∃ dv,u=.agg #[.int .u8 (k.toNat:Int),dv]∧Row8 B w dv data
 | 6,u,w=>∃ g dv,u=.slice (some ⟨g,0,none⟩) 1 1∧Blk w g 252 #[.int .u8 (k.toNat:Int),dv]∧lv.ownBlock≠some g∧Row8 B w dv data
 | 7,u,w=>OptR B w u (L++[(k,data)])
 | _,_,_=>True
def optDead (i j:Nat):Bool:=i == 7 && (j == 4 || j == 5 || j == 6)
theorem OptΦ.keep {B:Nat} {lv:Value} {k:UInt8} {xv cv:Value} {data:By} {L:List (UInt8 × By)} {wx wy:World} (hb:Below wx.heap.size wx wy):∀ j u,OptΦ B lv k xv cv data L j u wx→OptΦ B lv k xv cv data L j u wy:=by
 intro j u h
 unfold OptΦ at h ⊢
 split at h
 all_goals first
  | exact h
  | exact Row8.below h hb
  | exact OptR.below h hb
  | (obtain ⟨dv,h1,h2⟩:=h; exact ⟨dv,h1,h2.below hb⟩)
  | (obtain ⟨g,dv,h1,h2,h3,h4⟩:=h; exact ⟨g,dv,h1,h2.below hb h2.lt,h3,h4.below hb⟩)
theorem OptΦ.bare {B:Nat} {lv:Value} {k:UInt8} {xv cv:Value} {data:By} {L:List (UInt8 × By)} {wx wy:World} {u:Value}:∀ j,¬ (j=4∨j=5∨j=6∨j=7)→OptΦ B lv k xv cv data L j u wx→OptΦ B lv k xv cv data L j u wy:=by
 intro j hj h
 unfold OptΦ at h ⊢
 split at h
 all_goals first
  | exact h
  | (exfalso; omega)
def OptΨ (B:Nat) (lv:Value) (L:List (UInt8 × By)) (j:Nat) (w:World):Prop:=if j=7 then OptR B w lv L else True
theorem OptΨ.keep {B:Nat} {lv:Value} {L:List (UInt8 × By)} {wx wy:World} (hb:Below wx.heap.size wx wy) (j:Nat) (h:OptΨ B lv L j wx):OptΨ B lv L j wy:=by
 unfold OptΨ at h ⊢
 split
 ·rename_i hj; rw [if_pos hj] at h; exact h.below hb
 ·trivial
theorem optR_snoc {B:Nat} {W W':World} {v v':Value} {L:List (UInt8 × By)} {k:UInt8} {data:By} {dv:Value} {us:List (UInt8 × Value)} (h1:W.ownsRow B 252 2 v us.length (us.flatMap optC)) (h2:OptD B W us L) (hr:Row8 B W dv data)
  (ho:W'.ownsRow B 252 2 v' (us.length+1) (us.flatMap optC++[.int .u8 (k.toNat:Int),dv])) (hg:W.grownBy W' v.ownBlock):OptR B W' v' (L++[(k,data)]):=by
 have hkeep:∀ u x,Row8 B W u x→Row8 B W' u x:=fun u x hu=>own_type hu hg.size fun j cs hj hb=>hg.block j hj fun e=>by
  obtain ⟨cs',hb'⟩:=own_blk h1 e.symm
  exact absurd rfl ((hb.ne_ hb' (by decide)))
 refine ⟨us++[(k,dv)],?_,(h2.map hkeep).snoc rfl (hkeep _ _ hr)⟩
 rw [List.length_append,List.flatMap_append]
 exact ho
theorem reads_blk {W:World} {g:Nat} {t:TypeId} {cs:Array Value} {n size:Nat} (h:Blk W g t cs) (hn:cs.size=n * size):Reads W (fun _=>True) size (some ⟨g,0,none⟩) n cs.toList :=
 ⟨by simpa using hn,fun _=>⟨_,rfl,trivial,h.lt,fun j u hu=>by rw [add_off,Nat.zero_add,h.cell]; simpa using hu⟩⟩
def OptPost (w:World) (b:By) (e:Ending) (w':World):Prop:=∃ v,e=.returned (.tuple #[v,.bool (goodF b)])∧OptR w.heap.size w' v (optsF b)∧Below w.heap.size w w'
set_option maxRecDepth 100000 in
set_option maxHeartbeats 8000000 in
theorem options_any (v0:Value) (b:By) (I:Nat→Prop) (w:World) (h:Sl8 w I v0 b) (hsm:b.length≤1000000) :
  Calls Tryz.prog 136 #[v0] w (OptPost w b):=by
 obtain ⟨W0,hW0⟩:∃ W0,W0=(w.alloc (.cells #[.slice none 0 0] 217)).alloc (.cells #[.bool true] 4):=⟨_,rfl⟩
 have hB0:Below w.heap.size w W0:=by rw [hW0]; exact ((Below.refl _ _).alloc (Nat.le_refl _) _).alloc (by simp) _
 have hS0:OpS w W0 [] true:=by
  refine ⟨hB0,⟨.slice none 0 0,?_,OptR.nil _ _⟩,?_⟩
  ·rw [hW0]; exact (Blk.new _ _ _).alloc _
  ·rw [hW0]
   have:=Blk.new (w.alloc (.cells #[.slice none 0 0] 217)) 4 #[.bool true]
   simpa using this
 have hst:=steps_any v0 b (fun k=>I k∧k < w.heap.size) W0 (h.lt.keep (Same.ofBelow hB0 fun k hk=>hk.2))
 have HST:=Lib.hid hst
 have HW0:=Lib.hid hW0
 have HS0:=Lib.hid hS0
 have HZ0:=Lib.hid (show W0.heap.size=w.heap.size+1+1 by rw [hW0]; simp)
 clear hst hW0 hS0 hB0 h
 refine (callsIn_wide (n:=5)).1 ?_
 refine callsIn_of_wp_marks Tryz.func136 rfl trivial ?_ rfl
 simp only [Tryz.ntmps136,List.size_toArray,List.length_cons,List.length_nil,Nat.reduceAdd,Nat.reduceSub,Array.replicate_succ,Array.replicate_zero,List.push_toArray,List.append_toArray,List.nil_append,List.cons_append]
 refine wpIn_wide.2 ?_
 go_wp2_with fail
 go_step3
 go_wp2_with fail
 rw [← HW0.out]
 go_step3
 go_wp2_with fail
 refine HST.out.mono ?_
 rintro e w1 ⟨f,rfl,hsq,hb1⟩
 obtain ⟨Bx,rfl,hfit⟩:=hsq.fits hsm Fence.wide 4 (fun _=>trivial) rfl (by omega)
 have HFIT:=Lib.hid hfit
 have hs1:OpS w w1 [] true:=by
  obtain ⟨lv,h1,h2⟩:=HS0.out.ex
  exact ⟨HS0.out.below.trans (hb1.mono HS0.out.below.size),⟨lv,h1.below hb1 h1.lt,h2.below hb1⟩,HS0.out.flag.below hb1 HS0.out.flag.lt⟩
 have HS1:=Lib.hid hs1
 have HZ1:=Lib.hid hb1.size
 clear hfit hs1 hsq hb1 HST HS0 HW0
 go_wp2_with fail
 refine (wpIn_wide (n:=5)).1 ?_
 refine wpIn_range_fit rfl (by omega) (gf:=212) (lb:=#[.pointer (some ⟨Bx,0,none⟩)]) rfl trivial (enters_of Tryz.func212 (by kernel_rfl) rfl) HFIT.out (fun h k=>same_t h k) (fun W l o o' hl h h1 h2=>same_b (w:=w1) (fun k hk=>by have:=hk.2; have:=HZ1.out; omega) W l o o' (by omega) h h1 h2) (Below.refl _ _) (fun _=>rfl)
  (fun pre W=>OpS w W (optsOf (pre.map stP)) true∧∀ x ∈ pre,x.2.1≠[]) (fun cd pre W=>cd=.exit 0∧(∃ L,OpS w W L false)∧∃ x ∈ pre,x.2.1=[]) (fun pre W W' row hs hg hr=>⟨hs.1.own hg fun r e=>⟨Nat.le_trans (by have:=HZ0.out; have:=HZ1.out; omega) (hr r e).1,(hr r e).2⟩,hs.2⟩) (fun cd pre W W' row hs hg hr=>⟨hs.1,hs.2.1.elim fun L hk=>⟨L,hk.own hg fun r e=>⟨Nat.le_trans (by have:=HZ0.out; have:=HZ1.out; omega) (hr r e).1,(hr r e).2⟩⟩,hs.2.2⟩) ⟨HS1.out,fun x hx=>by cases hx⟩
  (fun t pre x a' W=>FitS (fun k=>(I k∧k < w.heap.size)∧k < W0.heap.size) b pre x W∧a'={ tmps:=(((t.setIfInBounds 10 (.int .u8 (x.1.toNat:Int))).setIfInBounds 11 x.2.2).setIfInBounds 6 (.int .u8 (x.1.toNat:Int))).setIfInBounds 7 x.2.2,defers:=[] })
  (fun pre x a' _ W W' row hs hg hr=>⟨⟨hs.1.1,hs.1.2.keep ⟨hg.size,fun k hk hl=>hg.block k hl fun e=>by have:=(hr k e.symm).1; have:=hk.2; have:=HZ1.out; omega⟩⟩,hs.2⟩) ?assign ?body ?done ?stop
 case assign =>
  intro l pre x W K hi hfit hsz hK
  simp only [stV]
  gi_wp2
  exact hK _ _ ⟨Nat.le_refl _,fun k o _ hk _=>hk⟩ (Same.refl _ _) hi ⟨hfit,rfl⟩
 case body =>
  rintro l pre x a' W hl ⟨rr,hr⟩ ⟨hs,hpre⟩ ⟨⟨hfit,hsl⟩,rfl⟩
  obtain ⟨k,y,v⟩:=x
  obtain ⟨A,c,e0,hc,hrd⟩:=hsl
  simp only at e0 hc hrd
  subst e0
  obtain ⟨lv,hkl,hopt⟩:=hs.ex
  obtain ⟨Lp,hLp⟩:∃ Lp,Lp=optsOf (pre.map stP):=⟨_,rfl⟩
  rw [← hLp] at hopt hs
  obtain ⟨Al,cl,rfl,hcl⟩:=hopt.form
  obtain ⟨nL,hnL⟩:∃ nL,nL=Lp.length:=⟨_,rfl⟩
  rw [← hnL] at hkl hopt
  have b0:W.cell? ⟨w.heap.size,0,none⟩=some (.slice Al nL cl):=hkl.cell 0
  have b1:W.cell? ⟨w.heap.size+1,0,none⟩=some (.bool true):=hs.flag.cell 0
  have f0:W.frozen? ⟨w.heap.size,0,none⟩=false:=hkl.frozen 0
  have f1:W.frozen? ⟨w.heap.size+1,0,none⟩=false:=hs.flag.frozen 0
  have hkl8:=k.toNat_lt
  obtain ⟨n,hn⟩:∃ n,n=y.length:=⟨_,rfl⟩
  rw [← hn] at hc hrd hfit ⊢
  have HS:=Lib.hid hs
  have HOPT:=Lib.hid hopt
  have HKL:=Lib.hid hkl
  have HRD:=Lib.hid hrd
  have HFIT:=Lib.hid hfit
  have HPRE:=Lib.hid hpre
  have HLP:=Lib.hid hLp
  have HNL:=Lib.hid hnL
  have HNN:=Lib.hid hn
  clear hs hopt hkl hrd hfit hpre hLp hnL hn
  by_cases hz:n=0
  ·subst hz
   gi_wp2_with fail
   have hu9:=upd_set W (w.heap.size+1) 0 (.bool false)
   exact ⟨keeps_of_cells _ hu9 fun j hj _=>by obtain rfl:j=w.heap.size+1:=hj; exact ⟨_,_,HS.out.flag⟩,rfl,⟨_,HS.out.setF false⟩,_,List.mem_append.2 (.inr (List.mem_singleton.2 rfl)),List.eq_nil_of_length_eq_zero HNN.out.symm⟩
  ·have hz1:((n:Int) == 0)=false:=by rw [beq_eq_false_iff_ne]; omega
   have hz2:decide ((n:Int)=0)=false:=decide_eq_false (by omega)
   have hz3:decide (n=0)=false:=decide_eq_false hz
   have hyne:y≠[]:=by intro e; rw [e] at HNN; exact hz HNN.out
   by_cases hk1:k=1
   ·have hkn:k.toNat=1:=by rw [hk1]; rfl
    have HK1:=Lib.hid hk1
    clear hk1
    gi_wp2_with fail
    refine ⟨⟨Nat.le_refl _,fun k o _ hk _=>hk⟩,Same.refl _ _,?_,fun x hx=>?_⟩
    ·rw [List.map_append]
     show OpS w W (optsOf (pre.map stP++[(k,y)])) true
     rw [opts_snoc,HK1.out,if_pos rfl,List.append_nil,← HLP.out]
     exact HS.out
    ·rcases List.mem_append.1 hx with hx | hx
     ·exact HPRE.out x hx
     ·rw [List.mem_singleton.1 hx]; exact hyne
   ·have hkn:k.toNat≠1:=fun e=>hk1 (UInt8.toNat_inj.1 e)
    have hb2:((k.toNat:Int) == 1)=false:=by rw [beq_eq_false_iff_ne]; omega
    have hb3:((k.toNat:Int) != 1)=true:=by rw [bne_iff_ne]; omega
    have HK1:=Lib.hid hk1
    have HKN:=Lib.hid hkn
    clear hk1 hkn
    gi_wp2_with fail
    obtain ⟨i0,hin,hz0,hz1,hz2⟩:=info_parts info_opt
    have hmem:(k,y) ∈ steps b:=HFIT.out.subset (by simp [stP])
    have hnn2:2≤n∧n≤255:=by
     rcases steps_ok b.length b (Nat.le_refl _) (k,y) hmem hyne with ⟨h,_⟩ | ⟨_,_,m,d,h2,h3⟩
     ·exact absurd h HK1.out
     ·have hm:=m.toNat_lt
      have h2':y=k :: m :: d:=h2
      rw [HNN.out,h2']
      simp only [List.length_cons]
      omega
    obtain ⟨hn2,hn255⟩:=hnn2
    have hnLb:nL≤1000000:=by
     have h1:=HFIT.out.length_le
     have h2:=steps_len b.length b (Nat.le_refl _)
     have h3:(optsOf (pre.map stP)).length≤pre.length:=by unfold optsOf; rw [List.length_map]; exact Nat.le_trans (List.length_filter_le _ _) (by simp)
     rw [HNL.out,HLP.out]
     simp only [List.length_map,List.length_append] at h1
     omega
    obtain ⟨D,hD⟩:∃ D,D=y.drop 2:=⟨_,rfl⟩
    have HD:=Lib.hid hD
    obtain ⟨CV,hCV⟩:∃ CV,CV=Value.slice (if c=2 then A else A.map (·.add 2)) (n - 2) (c - 2):=⟨_,rfl⟩
    have HCV:=Lib.hid (fun wx:World=>(by rw [hCV]; exact sl_lo A n c wx 2 hn2:(Instr.slice 61 (.slice A n c) (some (.int .i64 2)) none none).run Tryz.prog wx=.ok CV wx))
    have hbxx:∀ (wx:World),Upd (fun j=>(Value.slice Al nL cl).ownBlock=some j) W wx→Blk wx w.heap.size 217 #[.slice Al nL cl]:=fun (wx:World) (hu:Upd (fun j=>(Value.slice Al nL cl).ownBlock=some j) W wx)=>((hu.block w.heap.size HKL.out.lt fun e=>by obtain ⟨us,ho,_⟩:=HOPT.out; obtain ⟨cs,hb⟩:=own_blk ho e; exact absurd rfl (hb.ne_ HKL.out (by decide))).trans HKL.out:Blk wx w.heap.size 217 #[.slice Al nL cl])
    have HBX:=Lib.hid hbxx
    clear hbxx
    have hge:∀ g,(Value.slice Al nL cl).ownBlock=some g→w.heap.size≤g∧g < W.heap.size:=fun g e=>by obtain ⟨us,ho,_⟩:=HOPT.out; exact own_lt ho e
    have HGE:=Lib.hid hge
    clear hge
    have HCS:=Lib.hid (fun (wx:World) (hu:Upd (fun j=>(Value.slice Al nL cl).ownBlock=some j) W wx)=>(by
     have h1:Reads wx (fun k=>(I k∧k < w.heap.size)∧k < W0.heap.size) 1 A n (bytesV y):=HRD.out.keep (hu.same fun j hj hi=>by have:=(HGE.out j hj).1; have:=hi.1.2; omega)
     rw [HNN.out] at h1 hc hn2
     have:=cut_lo (k:=2) (cap:=c) h1 hn2 hc
     rw [← HNN.out,← HD.out,← hCV] at this
     exact this:Sl8 wx (fun k=>(I k∧k < w.heap.size)∧k < W0.heap.size) CV D))
    have HLT:=Lib.hid (fun (wx:World) (hu:Upd (fun j=>(Value.slice Al nL cl).ownBlock=some j) W wx)=>(fun g e=>Nat.lt_of_lt_of_le (HGE.out g e).2 hu.size:∀ g,(Value.slice Al nL cl).ownBlock=some g→g < wx.heap.size))
    have HOPT2:=Lib.hid (show OptR w.heap.size W (.slice Al nL cl) Lp from HOPT.out)
    clear hCV b0 b1 f0 f1 hD
    refine wpIn_region_psi (by kernel_rfl) (by kernel_rfl) (fun p q=>Upd (fun j=>(Value.slice Al nL cl).ownBlock=some j) p q) (OptΦ w.heap.size (.slice Al nL cl) k (.slice A n c) CV D Lp) 8 (fun val w9=>OpS w w9 (Lp++[(k,D)]) true∧Same (fun k=>(I k∧k < w.heap.size)∧k < W0.heap.size) W w9∧KeepsFrom w1.heap.size W w9) optDead (OptΨ w.heap.size (.slice Al nL cl) Lp) (by kernel_rfl) (fun p=>Upd.refl _ p) (fun h k=>h.trans_ k) (fun j=>?_) (oblp_of ?_) ?_ ?_
    ·unfold OptΨ
     split
     ·exact HOPT2.out.below ⟨rfl,rfl,rfl,Nat.le_refl _,fun _ _=>rfl⟩
     ·trivial
    ·refine ⟨fun _=>?_,fun _=>?_,fun _=>?_,fun _=>?_,fun _=>?_,fun _=>?_,fun _=>?_,fun _=>?_,fun h=>absurd rfl h,trivial⟩
     ·
      intro val wx hg hψ hd hb hs K hK
      generalize hρ:rhoV _ _ val=ρ
      have cc:∀ u,ρ (.const u)=u:=fun u=>by rw [← hρ]; rfl
      have ff:∀ u,ρ (.func u)=.func (.func u) #[] #[]:=fun u=>by rw [← hρ]; rfl
      have r4:ρ (.tmp 4)=.pointer (some ⟨w.heap.size,0,none⟩):=by rw [← hρ]; rfl
      have g0:wx.cell? ⟨w.heap.size,0,none⟩=some (.slice Al nL cl):=(HBX.out wx ⟨hg.os,hg.tape,hg.output,hg.size,hg.block⟩).cell 0
      clear hρ hd hb hs
      refine ifv rfl ?_
      go_simp
      exact hK _ _ (Upd.refl _ _) rfl (fun _ _ _ _ h=>h) fun _ _ _ h=>h
     ·
      intro val wx hg hψ hd hb hs K hK
      generalize hρ:rhoV _ _ val=ρ
      have cc:∀ u,ρ (.const u)=u:=fun u=>by rw [← hρ]; rfl
      have ff:∀ u,ρ (.func u)=.func (.func u) #[] #[]:=fun u=>by rw [← hρ]; rfl
      have r6:ρ (.tmp 6)=.int .u8 (k.toNat:Int):=by rw [← hρ]; rfl
      clear hρ hd hb hs
      refine ifv rfl ?_
      go_simp
      exact hK _ _ (Upd.refl _ _) rfl (fun _ _ _ _ h=>h) fun _ _ _ h=>h
     ·
      intro val wx hg hψ hd hb hs K hK
      generalize hρ:rhoV _ _ val=ρ
      have cc:∀ u,ρ (.const u)=u:=fun u=>by rw [← hρ]; rfl
      have ff:∀ u,ρ (.func u)=.func (.func u) #[] #[]:=fun u=>by rw [← hρ]; rfl
      have r7:ρ (.tmp 7)=.slice A n c:=by rw [← hρ]; rfl
      clear hρ hd hb hs
      refine ifv rfl ?_
      go_simp
      exact hK _ _ (Upd.refl _ _) rfl (fun _ _ _ _ h=>h) fun _ _ _ h=>h
     ·
      intro val wx hg hψ hd hb hs K hK
      generalize hρ:rhoV _ _ val=ρ
      have cc:∀ u,ρ (.const u)=u:=fun u=>by rw [← hρ]; rfl
      have ff:∀ u,ρ (.func u)=.func (.func u) #[] #[]:=fun u=>by rw [← hρ]; rfl
      have r21:ρ (.tmp 21)=.slice A n c:=by rw [← hρ]; exact hd 2 rfl rfl
      have hsl:(Instr.slice 61 (.slice A n c) (some (.int .i64 2)) none none).run Tryz.prog wx=.ok CV wx:=HCV.out wx
      clear hρ hd hb hs
      refine ifv rfl ?_
      go_simp
      exact hK _ _ (Upd.refl _ _) rfl (fun _ _ _ _ h=>h) fun _ _ _ h=>h
     ·
      intro val wx hg hψ hd hb hs K hK
      generalize hρ:rhoV _ _ val=ρ
      have cc:∀ u,ρ (.const u)=u:=fun u=>by rw [← hρ]; rfl
      have ff:∀ u,ρ (.func u)=.func (.func u) #[] #[]:=fun u=>by rw [← hρ]; rfl
      have r22:ρ (.tmp 22)=CV:=by rw [← hρ]; exact hd 3 rfl rfl
      have hcv:=HCS.out wx ⟨hg.os,hg.tape,hg.output,hg.size,hg.block⟩
      obtain ⟨Ac,cc2,hce,hcc,hcr⟩:=hcv
      have HCR:=Lib.hid (clone8_any Ac _ cc2 (bytesV D) _ wx hcr (bytesV_one _) (by rw [HD.out,List.length_drop,← HNN.out]; omega))
      rw [hce] at r22
      have hwb:w.heap.size≤wx.heap.size:=Nat.le_trans HS.out.below.size hg.size
      clear hρ hd hb hs hcr
      refine ifv rfl ?_
      go_simp
      refine HCR.out.mono ?_
      rintro e w2 ⟨v2,rfl,h2,hb2⟩
      exact ⟨_,rfl,hK _ _ (Upd.ofBelow hb2 _) (own_base h2 hwb) (fun j _ _ _ h=>OptΦ.keep hb2 j _ h) fun j _ _ h=>OptΨ.keep hb2 j h⟩
     ·
      intro val wx hg hψ hd hb hs K hK
      generalize hρ:rhoV _ _ val=ρ
      have cc:∀ u,ρ (.const u)=u:=fun u=>by rw [← hρ]; rfl
      have ff:∀ u,ρ (.func u)=.func (.func u) #[] #[]:=fun u=>by rw [← hρ]; rfl
      have r20:ρ (.tmp 20)=.int .u8 (k.toNat:Int):=by rw [← hρ]; exact hd 1 rfl rfl
      have p4:Row8 w.heap.size wx (val 4) D:=hd 4 rfl rfl
      have r23:ρ (.tmp 23)=val 4:=by rw [← hρ]; rfl
      obtain ⟨Ad,cd,hde,_⟩:=p4.form
      rw [hde] at r23 p4
      clear hρ hd hb hs hde
      refine ifv rfl ?_
      go_simp
      exact hK _ _ (Upd.refl _ _) ⟨_,rfl,p4⟩ (fun _ _ _ _ h=>h) fun _ _ _ h=>h
     ·
      intro val wx hg hψ hd hb hs K hK
      generalize hρ:rhoV _ _ val=ρ
      have cc:∀ u,ρ (.const u)=u:=fun u=>by rw [← hρ]; rfl
      have ff:∀ u,ρ (.func u)=.func (.func u) #[] #[]:=fun u=>by rw [← hρ]; rfl
      have p5:∃ dv,val 5=.agg #[.int .u8 (k.toNat:Int),dv]∧Row8 w.heap.size wx dv D:=hd 5 rfl rfl
      have r24:ρ (.tmp 24)=val 5:=by rw [← hρ]; rfl
      obtain ⟨dv,h5,p4⟩:=p5
      obtain ⟨Ad,cd,hde,_⟩:=p4.form
      rw [hde] at h5 p4
      rw [h5] at r24
      have hlt:=HLT.out wx ⟨hg.os,hg.tape,hg.output,hg.size,hg.block⟩
      clear hρ hd hb hs hde h5
      refine ifv rfl ?_
      go_simp
      have hal:Below wx.heap.size wx (wx.alloc (.cells #[.int .u8 (k.toNat:Int),.slice Ad D.length cd] 252)):=(Below.refl _ _).alloc (Nat.le_refl _) _
      exact hK _ _ (Upd.ofBelow hal _) ⟨_,_,rfl,Blk.new _ _ _,fun e=>by have:=hlt _ e; omega,p4.below hal⟩ (fun j _ _ _ h=>OptΦ.keep hal j _ h) fun j _ _ h=>OptΨ.keep hal j h
     ·
      intro val wx hg hψ hd hb hs K hK
      generalize hρ:rhoV _ _ val=ρ
      have cc:∀ u,ρ (.const u)=u:=fun u=>by rw [← hρ]; rfl
      have ff:∀ u,ρ (.func u)=.func (.func u) #[] #[]:=fun u=>by rw [← hρ]; rfl
      have r19:ρ (.tmp 19)=.slice Al nL cl:=by rw [← hρ]; exact hd 0 rfl rfl
      have p6:∃ g dv,val 6=.slice (some ⟨g,0,none⟩) 1 1∧Blk wx g 252 #[.int .u8 (k.toNat:Int),dv]∧(Value.slice Al nL cl).ownBlock≠some g∧Row8 w.heap.size wx dv D:=hd 6 rfl rfl
      have r25:ρ (.tmp 25)=val 6:=by rw [← hρ]; rfl
      obtain ⟨g,dv,h6,hbg,hng,p4⟩:=p6
      rw [h6] at r25
      have hop:OptR w.heap.size wx (.slice Al nL cl) Lp:=by unfold OptΨ at hψ; rw [if_pos rfl] at hψ; exact hψ
      obtain ⟨us,ho1,ho2⟩:=id hop
      have hul:us.length=nL:=by rw [ho2.len,← HNL.out]
      have hrd2:Reads wx (fun _=>True) 2 (some ⟨g,0,none⟩) 1 [.int .u8 (k.toNat:Int),dv]:=reads_blk hbg rfl
      have hdv:dv.oneCell'=true:=by obtain ⟨_,_,e,_⟩:=p4.form; rw [e]; rfl
      rw [hul] at ho1
      clear hρ hd hb hs h6
      refine ifv rfl ?_
      refine insRow wx (.tmp 19) (.tmp 25) 217 (by rfl) w.heap.size 252 i0 _ 2 32 Tryz.underlying217 hin hz0 hz1 hz2 rfl (by decide) r19 ho1 r25 hrd2 (by intro u hu; simp only [List.mem_cons,List.not_mem_nil,or_false] at hu; rcases hu with rfl | rfl; rfl; exact hdv) (by unfold maxLen; omega) (by omega) (Nat.le_trans HS.out.below.size hg.size) ?_
      intro v2 w2 h2 h3 h4
      refine hK _ _ ⟨h3.os,h3.tape,h3.output,h3.size,fun j hj hF=>h3.block j hj fun e=>hF e.symm⟩ (optR_snoc (us:=us) (by rw [hul]; exact ho1) ho2 p4 (by rw [hul]; exact h2) h3) (fun j hne hdj hbj hj=>OptΦ.bare (wx:=wx) _ ?_ hj) fun j hne _ _=>by unfold OptΨ; rw [if_neg hne]; trivial
      ·rintro (rfl | rfl | rfl | rfl)
       ·cases hdj
       ·cases hdj
       ·cases hdj
       ·exact hne rfl
    ·intro o ho
     injection ho with ho
     subst ho
     intro val wx hg hd hs K hK
     have p7:OptR w.heap.size wx (val 7) (Lp++[(k,D)]):=hd 7 (by decide) (by decide) fun i _ _=>by simp [optDead]
     generalize hρ:rhoV _ _ val=ρ
     have r4:ρ (.tmp 4)=.pointer (some ⟨w.heap.size,0,none⟩):=by rw [← hρ]; rfl
     have r26:ρ (.tmp 26)=val 7:=by rw [← hρ]; rfl
     have hbx:=HBX.out wx ⟨hg.os,hg.tape,hg.output,hg.size,hg.block⟩
     obtain ⟨A2,c2,e2,hc2⟩:=p7.form
     obtain ⟨nz,hnz⟩:∃ nz,nz=(Lp++[(k,D)]).length:=⟨_,rfl⟩
     rw [← hnz] at e2
     rw [e2] at r26 p7
     clear hnz e2
     have g0:wx.cell? ⟨w.heap.size,0,none⟩=some (.slice Al nL cl):=hbx.cell 0
     have g1:wx.frozen? ⟨w.heap.size,0,none⟩=false:=hbx.frozen 0
     clear hρ hd hs
     refine ifv rfl ?_
     go_simp
     refine hK _ _ ?_
     have hu:Upd (fun j=>(Value.slice Al nL cl).ownBlock=some j) W wx:=⟨hg.os,hg.tape,hg.output,hg.size,hg.block⟩
     have hfl:Blk wx (w.heap.size+1) 4 #[.bool true]:=(hu.block (w.heap.size+1) HS.out.flag.lt fun e=>by
      obtain ⟨us,ho,_⟩:=HOPT2.out
      obtain ⟨cs,hb⟩:=own_blk ho e
      exact absurd rfl (hb.ne_ HS.out.flag (by decide))).trans HS.out.flag
     have hu9:Upd (fun j=>(Value.slice Al nL cl).ownBlock=some j∨j=w.heap.size) W (wx.setCell ⟨w.heap.size,0,none⟩ (.slice A2 nz c2)):=(hu.mono fun i h=>.inl (.inl h)).setCell (p:=⟨w.heap.size,0,none⟩) (.inl (.inr rfl)) _
     refine ⟨⟨?_,⟨_,hbx.set_ 0 _,p7.set_ (p:=⟨w.heap.size,0,none⟩) hbx (by decide) (by decide) _⟩,hfl.far (p:=⟨w.heap.size,0,none⟩) (by simp) _⟩,hu9.same fun j hj hi=>?_,keeps_of_cells _ hu9 fun j hj _=>?_⟩
     ·exact HS.out.below.trans (hu9.below (B:=w.heap.size) (fun j hj=>by rcases hj with hj | hj; exact (HGE.out j hj).1; omega) HS.out.below.size)
     ·have:=hi.1.2
      rcases hj with hj | hj
      ·have:=(HGE.out j hj).1; omega
      ·omega
     ·rcases hj with hj | rfl
      ·obtain ⟨us,ho,_⟩:=HOPT2.out
       obtain ⟨cs,hb⟩:=own_blk ho hj
       exact ⟨cs,_,hb⟩
      ·exact ⟨_,_,HKL.out⟩
    ·intro val w9 h9
     rw [if_pos (by decide)] at h9
     obtain ⟨h91,h92,h93⟩:=h9
     simp only [putAll]
     gi_wp2_with fail
     refine ⟨h93,h92,?_,fun x hx=>?_⟩
     ·rw [List.map_append]
      show OpS w w9 (optsOf (pre.map stP++[(k,y)])) true
      rw [opts_snoc,if_neg HK1.out,← HLP.out,← HD.out]
      exact h91
     ·rcases List.mem_append.1 hx with hx | hx
      ·exact HPRE.out x hx
      ·rw [List.mem_singleton.1 hx]; exact hyne
 case stop =>
  rintro D cd pre W hD hsp ⟨rfl,⟨L,hs⟩,hbad⟩ hK
  have b1:W.cell? ⟨w.heap.size+1,0,none⟩=some (.bool false):=hs.flag.cell 0
  have hng:goodF b=false:=by
   obtain ⟨x,hx,he⟩:=hbad
   cases hg:goodF b with
   | false=>rfl
   | true =>
     have:=List.all_eq_true.1 hg (stP x) (hsp.subset (List.mem_map_of_mem hx))
     rw [show (stP x).2=[] from he] at this
     cases this
  have hDl:D < W.heap.size:=(Array.getElem?_eq_some_iff.1 hK).1
  have hBz:=hs.below.trans (belowK_b (w:=w) (Nat.le_refl _) W D _ (.deferred none) (by have:=HZ0.out; have:=HZ1.out; omega) hK rfl rfl)
  have HNG:=Lib.hid hng
  have HBZ:=Lib.hid hBz
  clear hs hbad hsp hng hBz
  refine wpIn_wide.2 ?_
  go_wp2_with fail
  refine ⟨by simp,.inl ⟨_,_,rfl,run_takeDeferred hK,?_⟩⟩
  refine ⟨.tuple #[.slice none 0 0,.bool false],?_,.slice none 0 0,by rw [HNG.out],?_,HBZ.out⟩
  ·simp [results,Tryz.f136,go_sem]
  ·unfold optsF
   rw [if_neg (by rw [HNG.out]; decide)]
   exact OptR.nil _ _
 case done =>
  rintro D ys W hD hys ⟨hs,hall⟩ hK
  have b1:W.cell? ⟨w.heap.size+1,0,none⟩=some (.bool true):=hs.flag.cell 0
  have hng:goodF b=true:=List.all_eq_true.2 fun s hs=>by
   rw [← hys] at hs
   obtain ⟨x,hx,rfl⟩:=List.mem_map.1 hs
   have:=hall x hx
   show (!x.2.1.isEmpty)=true
   cases h2:x.2.1 with
   | nil=>exact absurd h2 this
   | cons _ _=>rfl
  obtain ⟨lv,hkl,hopt⟩:=hs.ex
  rw [hys] at hopt
  have ho:optsOf (steps b)=optsF b:=by unfold optsF; rw [if_pos hng]
  rw [ho] at hopt
  obtain ⟨Al,cl,rfl,hcl⟩:=hopt.form
  have b0:W.cell? ⟨w.heap.size,0,none⟩=some (.slice Al (optsF b).length cl):=hkl.cell 0
  have hDl:D < W.heap.size:=(Array.getElem?_eq_some_iff.1 hK).1
  have hBz:=hs.below.trans (belowK_b (w:=w) (Nat.le_refl _) W D _ (.deferred none) (by have:=HZ0.out; have:=HZ1.out; omega) hK rfl rfl)
  have hno:∀ r,some D=some r→∃ o:Obj,W.heap[r]?=some o∧o.isCells=false:=fun r e=>by cases e; exact ⟨_,hK,rfl⟩
  have hopt2:=hopt.own (grownBy_putObj' W D (.deferred none)) hno
  obtain ⟨nL,hnL⟩:∃ nL,nL=(optsF b).length:=⟨_,rfl⟩
  rw [← hnL] at b0 hopt2
  have HNG:=Lib.hid hng
  have HBZ:=Lib.hid hBz
  have HO:=Lib.hid hopt2
  clear hs hall hng hBz hkl hopt ho hcl hopt2 hnL hys
  go_wp2_with fail
  refine ⟨by simp,.inl ⟨_,_,rfl,run_takeDeferred hK,?_⟩⟩
  refine ⟨.tuple #[.slice Al nL cl,.bool true],?_,.slice Al nL cl,by rw [HNG.out],HO.out,HBZ.out⟩
  simp [results,Tryz.f136,go_sem]
end Go.Proofs.YthlommalbkhcjaaGreat
