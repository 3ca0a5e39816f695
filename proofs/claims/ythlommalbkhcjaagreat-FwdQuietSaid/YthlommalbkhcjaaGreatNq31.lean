/- Tries of ways: Insert: what it leaves. -/
import Derived.Test.YthlommalbkhcjaaGreatNq30
import Derived.Test.YthlommalbkhcjaaGreatNq13
import Derived.RegionTactic
import Derived.ChangeAlike
import Derived.BigRegion
namespace Go.Proofs.YthlommalbkhcjaaGreat
open Go.RowKit Go.Sort
attribute [local go_sem] Oper.semAt_some
variable {dc:Int→Array Value}
theorem keeps_of_below {B:Nat} {W W':World} (h:Below W.heap.size W W'):KeepsFrom B W W':=⟨h.size,fun k _o _ hk _=>(h.block k (Array.getElem?_eq_some_iff.1 hk).1).trans hk⟩
theorem bt_alloc (w:World):(Instr.alloc 4 true (.tuple #[])).run Tryz.prog w=.ok (.pointer (some ⟨w.heap.size,0,none⟩)) (w.alloc (.cells #[.bool false] 4)):=by
 unfold Instr.alloc
 rw [Sem.run_bind,show (zeroValue 4).run Tryz.prog w=.ok (.bool false) w by kernel_rfl]
 rfl
theorem px_copy (W1:World) (a n:Int):∃ W2,(Instr.storeAt 37 (.pointer (some ⟨W1.heap.size,0,none⟩)) (.agg #[.int .u32 a,.int .i64 n])).run Tryz.prog (W1.alloc (.cells #[.int .u32 0,.int .i64 0] 37))=.ok () W2∧Blk W2 W1.heap.size 37 #[.int .u32 a,.int .i64 n]∧Below W1.heap.size W1 W2:=by
 have hk:Blk (W1.alloc (.cells #[.int .u32 0,.int .i64 0] 37)) W1.heap.size 37 #[.int .u32 0,.int .i64 0]:=Blk.new _ _ _
 have st:=stc_store px_info hk rfl (vs:=#[.int .u32 a,.int .i64 n]) rfl (by simp [Value.oneCell'])
 exact ⟨_,st,blk_setCells hk rfl,below_setCells (Nat.le_refl _) _ _ _ ((Below.refl _ _).alloc (Nat.le_refl _) _)⟩
theorem wy_copy (W1:World) (cs:Array Value) (hc:cs.size=257) (h1:cs.all (·.oneCell')=true):∃ W2,(Instr.storeAt 41 (.pointer (some ⟨W1.heap.size,0,none⟩)) (.agg cs)).run Tryz.prog (W1.alloc (.cells wy0 41))=.ok () W2∧Blk W2 W1.heap.size 41 cs∧Below W1.heap.size W1 W2:=by
 have hk:Blk (W1.alloc (.cells wy0 41)) W1.heap.size 41 wy0:=Blk.new _ _ _
 have st:=stc_store wy_info hk wy0_size (vs:=cs) hc h1
 exact ⟨_,st,blk_setCells hk (by rw [wy0_size,hc]),below_setCells (Nat.le_refl _) _ _ _ ((Below.refl _ _).alloc (Nat.le_refl _) _)⟩
theorem res_match {w:World} {gp gv gi:Nat} {a n:Int} {cs:Array Value} {z:Bool} {fn:Func} {p u k:Tmp} (hf:fn.results=#[.cell p 37,.cell u 41,.cell k 4]) (tmps:Array Value) (e1:tmps.getD p undef=.pointer (some ⟨gp,0,none⟩)) (e2:tmps.getD u undef=.pointer (some ⟨gv,0,none⟩)) (e3:tmps.getD k undef=.pointer (some ⟨gi,0,none⟩))
  (b1:Blk w gp 37 #[.int .u32 a,.int .i64 n]) (b2:Blk w gv 41 cs) (hc:cs.size=257) (b3:Blk w gi 4 #[.bool z]):(results fn tmps).run Tryz.prog w=.ok (.tuple #[.agg #[.int .u32 a,.int .i64 n],.agg cs,.bool z]) w:=by
 have h1:=stc_loadVar Tryz.underlying37 rfl px_info b1 rfl
 have h2:=stc_loadVar Tryz.underlying41 rfl wy_info b2 hc
 have c3:w.cell? ⟨gi,0,none⟩=some (.bool z):=b3.cell 0
 have h3:(loadVar 4 ⟨gi,0,none⟩).run Tryz.prog w=.ok (.bool z) w:=by simp [go_sem,c3]
 have e1':tmps[p]?.getD undef=.pointer (some ⟨gp,0,none⟩):=by simpa using e1
 have e2':tmps[u]?.getD undef=.pointer (some ⟨gv,0,none⟩):=by simpa using e2
 have e3':tmps[k]?.getD undef=.pointer (some ⟨gi,0,none⟩):=by simpa using e3
 simp only [results,hf]
 simp [Result.andThen,e1',e2',e3',asAddr,h1,h2,h3]
def lastE (L:List (Bs × Int)):Bs × Int:=L.getLast?.getD ([],0)
structure MR (w:World) (a n:Int) (cs:Array Value) (z:Bool) (W:World):Prop where
 p:Blk W w.heap.size 37 #[.int .u32 a,.int .i64 n]
 v:Blk W (w.heap.size+1) 41 cs
 i:Blk W (w.heap.size+1+1) 4 #[.bool z]
def MU (w:World) (k:Nat):Prop:=k=w.heap.size∨k=w.heap.size+1∨k=w.heap.size+1+1
section
variable {w W W':World} {a n a2 n2:Int} {cs vs:Array Value} {z z2:Bool}
theorem MR.later (h:MR w a n cs z W) (hb:Below W.heap.size W W'):MR w a n cs z W':=⟨h.p.below hb h.p.lt,h.v.below hb h.v.lt,h.i.below hb h.i.lt⟩
theorem MR.setP (h:MR w a n cs z W):MR w a2 n2 cs z (W.setCells w.heap.size 0 [.int .u32 a2,.int .i64 n2])∧Upd (MU w) W (W.setCells w.heap.size 0 [.int .u32 a2,.int .i64 n2]) :=
 ⟨⟨blk_setCells (vs:=#[.int .u32 a2,.int .i64 n2]) h.p rfl,blk_far_setCells (by omega) _ _ _ h.v,blk_far_setCells (by omega) _ _ _ h.i⟩,Upd.setCells _ _ _ (Upd.refl _ _) (.inl (.inl rfl))⟩
theorem MR.setV (h:MR w a n cs z W) (he:cs.size=vs.size):MR w a n vs z (W.setCells (w.heap.size+1) 0 vs.toList)∧Upd (MU w) W (W.setCells (w.heap.size+1) 0 vs.toList) :=
 ⟨⟨blk_far_setCells (by omega) _ _ _ h.p,blk_setCells h.v he,blk_far_setCells (by omega) _ _ _ h.i⟩,Upd.setCells _ _ _ (Upd.refl _ _) (.inl (.inr (.inl rfl)))⟩
theorem MR.setI (h:MR w a n cs z W):MR w a n cs z2 (W.setCell ⟨w.heap.size+1+1,0,none⟩ (.bool z2))∧Upd (MU w) W (W.setCell ⟨w.heap.size+1+1,0,none⟩ (.bool z2)) :=
 ⟨⟨h.p.far (p:=⟨w.heap.size+1+1,0,none⟩) (by show w.heap.size≠w.heap.size+1+1; omega) _,h.v.far (p:=⟨w.heap.size+1+1,0,none⟩) (by show w.heap.size+1≠w.heap.size+1+1; omega) _,h.i.set_ 0 (.bool z2)⟩,(Upd.refl _ _).setCell (p:=⟨w.heap.size+1+1,0,none⟩) (.inl (.inr (.inr rfl))) _⟩
theorem MR.own {row:Option Nat} (h:MR w a n cs z W) (hg:W.grownBy W' row) (hr:∀ r,row=some r→∃ o:Obj,W.heap[r]?=some o∧o.isCells=false):MR w a n cs z W':=⟨blk_own h.p hg hr,blk_own h.v hg hr,blk_own h.i hg hr⟩
theorem MR.stp (h:MR w a n cs z W) (a2 n2:Int):(Instr.storeAt 37 (.pointer (some ⟨w.heap.size,0,none⟩)) (.agg #[.int .u32 a2,.int .i64 n2])).run Tryz.prog W=.ok () (W.setCells w.heap.size 0 [.int .u32 a2,.int .i64 n2]):=stc_store px_info h.p rfl (vs:=#[.int .u32 a2,.int .i64 n2]) rfl (by simp [Value.oneCell'])
theorem MR.stv (h:MR w a n cs z W) (hc:cs.size=257) (hv:vs.size=257) (h1:vs.all (·.oneCell')=true):(Instr.storeAt 41 (.pointer (some ⟨w.heap.size+1,0,none⟩)) (.agg vs)).run Tryz.prog W=.ok () (W.setCells (w.heap.size+1) 0 vs.toList):=st_wyB h.v hc hv h1
theorem MR.sti (h:MR w a n cs z W) (z2:Bool):(Instr.storeAt 4 (.pointer (some ⟨w.heap.size+1+1,0,none⟩)) (.bool z2)).run Tryz.prog W=.ok () (W.setCell ⟨w.heap.size+1+1,0,none⟩ (.bool z2)):=st_btN (h.i.cell 0) (h.i.frozen 0) z2
end
structure MI (dc:Int→Array Value) (w:World) (pre:List (Bs × Int)) (W:World):Prop where
 below:Below w.heap.size w W
 r:MR w (padB (lastE pre).1:Int) ((lastE pre).1.length:Int) (dc (lastE pre).2) (!pre.isEmpty) W
theorem MI.own {w W W':World} {pre:List (Bs × Int)} {row:Option Nat} (h:MI dc w pre W) (hg:W.grownBy W' row) (hr:∀ r,row=some r→w.heap.size≤r∧∃ o:Obj,W.heap[r]?=some o∧o.isCells=false):MI dc w pre W' :=
 ⟨h.below.grown hg h.below.size (fun k e=>(hr k e).1),h.r.own hg fun r e=>(hr r e).2⟩
def MatchPost (dc:Int→Array Value) (w:World) (L:List (Bs × Int)) (e:Ending) (w':World):Prop:=e=.returned (.tuple #[pxV (padB (lastE L).1) ((lastE L).1.length:Int),.agg (dc (lastE L).2),.bool (!L.isEmpty)])∧Below w.heap.size w w'
set_option maxRecDepth 100000 in
set_option maxHeartbeats 8000000 in
attribute [-go_sem] Instr.storeAt Instr.loadAt Instr.alloc in
theorem match_of (hd:Dc dc) (tv:Value) (a:Nat) (L:List (Bs × Int)) (w:World) (hlen:L.length≤1000000)
  (hC:∀ W0,Below w.heap.size w W0→Calls Tryz.prog 111 #[tv,.int .u32 (a:Int)] W0 fun e w1=>∃ f,e=.returned f∧SeqOf dc w1 (fun k=>W0.heap.size≤k) f L∧Below W0.heap.size W0 w1) :
  Calls Tryz.prog 55 #[tv,.int .u32 (a:Int)] w (MatchPost dc w L):=by
 obtain ⟨W0,hW0⟩:∃ W0,W0=((w.alloc (.cells #[.int .u32 0,.int .i64 0] 37)).alloc (.cells wy0 41)).alloc (.cells #[.bool false] 4):=⟨_,rfl⟩
 have hB0:Below w.heap.size w W0:=by rw [hW0]; exact (((Below.refl _ _).alloc (Nat.le_refl _) _).alloc (by simp) _).alloc (by simp; omega) _
 have hz0:W0.heap.size=w.heap.size+1+1+1:=by rw [hW0]; simp
 have hz1:(w.alloc (.cells #[.int .u32 0,.int .i64 0] 37)).heap.size=w.heap.size+1:=by simp
 have hz2:((w.alloc (.cells #[.int .u32 0,.int .i64 0] 37)).alloc (.cells wy0 41)).heap.size=w.heap.size+1+1:=by simp
 have hmi:MI dc w [] W0:=by
  refine ⟨hB0,?_,?_,?_⟩
  ·rw [hW0]; exact ((Blk.new _ _ _).alloc _).alloc _
  ·rw [hW0,show (lastE []).2=0 from rfl,hd.z]
   have:=(Blk.new (w.alloc (.cells #[.int .u32 0,.int .i64 0] 37)) 41 wy0).alloc (.cells #[.bool false] 4)
   rwa [hz1] at this
  ·rw [hW0]
   have:=Blk.new ((w.alloc (.cells #[.int .u32 0,.int .i64 0] 37)).alloc (.cells wy0 41)) 4 #[.bool false]
   rwa [hz2] at this
 have HC:=Lib.hid (hC W0 hB0)
 have HMI:=Lib.hid hmi
 have HZ0:=Lib.hid hz0
 have HCL:=Lib.hid hlen
 have HW0:=Lib.hid hW0
 have HD:=Lib.hid hd
 have a1:=px_alloc
 have a2:=way_alloc
 have a3:=bt_alloc
 clear hB0 hz0 hmi hlen hW0 hC hd
 refine (callsIn_wide (n:=5)).1 ?_
 refine callsIn_of_wp_marks Tryz.func55 rfl trivial ?_ rfl
 simp only [Tryz.ntmps55,List.size_toArray,List.length_cons,List.length_nil,Nat.reduceAdd,Nat.reduceSub,Array.replicate_succ,Array.replicate_zero,List.push_toArray,List.append_toArray,List.nil_append,List.cons_append]
 refine wpIn_wide.2 ?_
 go_upto_region 1 with (fail)
 rw [← HW0.out]
 clear a1 a2 a3 hz1 hz2
 go_wp2_with (go_at_call 111; refine HC.out.mono ?_; rintro e w1 ⟨f,rfl,hsq,hb1⟩; obtain ⟨Bx,rfl,hst⟩:=hsq.fits HD.out HCL.out Fence.wide 4 trivial rfl (by omega); have HST:=Lib.hid hst; have HB1:=Lib.hid hb1; clear hsq hst hb1)
 have hm1:MI dc w [] w1:=⟨HMI.out.below.trans (HB1.out.mono HMI.out.below.size),HMI.out.r.later HB1.out⟩
 have HM1:=Lib.hid hm1
 have hsz1:w.heap.size+1+1+1≤w1.heap.size:=by have:=HB1.out.size; have:=HZ0.out; omega
 clear hm1
 refine (wpIn_wide (n:=5)).1 ?_
 refine wpIn_range_fit rfl (by omega) (gf:=192) (lb:=#[.pointer (some ⟨Bx,0,none⟩)]) rfl trivial (enters_of Tryz.func192 (by kernel_rfl) rfl) HST.out (fun h k=>same_t h k) (fun W l o o' hl h h1 h2=>same_b (w:=w1) (fun j hj=>hj.2) W l o o' hl h h1 h2) (Below.refl _ _) (fun _=>rfl)
  (fun pre W=>MI dc w pre W∧w1.heap.size≤W.heap.size) (fun _ _ _=>False) (fun s W W' row hs hg hr=>⟨hs.1.own hg (fun r e=>⟨Nat.le_trans (by omega) (hr r e).1,(hr r e).2⟩),Nat.le_trans hs.2 hg.size⟩) (fun _ _ _ _ _ hs _ _=>hs) ⟨HM1.out,Nat.le_refl _⟩
  (fun t pre x a' W=>∃ Bq Bw,w1.heap.size≤Bq∧w1.heap.size≤Bw∧Blk W Bq 37 #[.int .u32 (padB x.1:Int),.int .i64 (x.1.length:Int)]∧Blk W Bw 41 (dc x.2)∧a'={ tmps:=(((t.setIfInBounds 12 (pxV (padB x.1) x.1.length)).setIfInBounds 13 (.agg (dc x.2))).setIfInBounds 7 (.pointer (some ⟨Bq,0,none⟩))).setIfInBounds 8 (.pointer (some ⟨Bw,0,none⟩)),defers:=[] })
  (fun pre x a' _ W W' row hs hg hr=>by obtain ⟨Bq,Bw,g1,g2,h1,h2,h3⟩:=hs; exact ⟨Bq,Bw,g1,g2,blk_own h1 hg fun r e=>(hr r e).2,blk_own h2 hg fun r e=>(hr r e).2,h3⟩) ?assign ?body ?done ?stop
 case assign =>
  intro l pre x W K hi hfit hsz hK
  obtain ⟨V1,st1,hk1,hb1⟩:=px_copy W (padB x.1:Int) (x.1.length:Int)
  obtain ⟨V3,st2,hk3,hb3⟩:=wy_copy V1 (dc x.2) (HD.out.sz _) (HD.out.one _)
  have hball:Below W.heap.size W V3:=hb1.trans (hb3.mono hb1.size)
  have hk1':=hk1.below hb3 hk1.lt
  have HBA:=Lib.hid hball
  have HK1:=Lib.hid hk1'
  have HK3:=Lib.hid hk3
  have HS1:=Lib.hid hb1.size
  have HI:=Lib.hid hi
  have a1:=px_alloc
  have a2:=way_alloc
  clear hb1 hk1 hball hk1' hk3 hb3 hi
  simp only [entV]
  gi_wp2
  refine hK _ _ (keeps_of_below HBA.out) (Same.ofBelow HBA.out fun j hj=>Nat.lt_of_lt_of_le hj.2 hsz) ⟨HI.out.1.own (row:=none) ⟨HBA.out.os,HBA.out.tape,HBA.out.output,HBA.out.size,fun j hj _=>HBA.out.block j hj⟩ (fun r e=>by cases e),Nat.le_trans HI.out.2 HBA.out.size⟩ ⟨W.heap.size,V1.heap.size,hsz,Nat.le_trans hsz HS1.out,HK1.out,HK3.out,rfl⟩
 case body =>
  rintro l pre x a' W hl ⟨rr,hr⟩ ⟨hmi,hws⟩ ⟨Bq,Bw,g1,g2,hq,hy,rfl⟩
  obtain ⟨pa,hpa⟩:∃ z:Int,z=(padB x.1:Int):=⟨_,rfl⟩
  obtain ⟨pn,hpn⟩:∃ z:Int,z=(x.1.length:Int):=⟨_,rfl⟩
  rw [← hpa,← hpn] at hq
  have HQ:=Lib.hid (And.intro hq hy)
  have HMW:=Lib.hid hmi
  have HPA:=Lib.hid hpa
  have HPN:=Lib.hid hpn
  have hz0:=HZ0.out
  have hb1:=HB1.out.size
  have n1:Bq≠w.heap.size:=by omega
  have n2:Bw≠w.heap.size:=by omega
  have n3:Bq≠w.heap.size+1:=by omega
  have n4:Bw≠w.heap.size+1:=by omega
  have hst1:=HD.out.sz x.2
  have hst2:=HD.out.one x.2
  have hst3:=HD.out.sz (lastE pre).2
  clear hq hy hmi
  simp only [List.setIfInBounds_toArray,List.set_cons_zero,List.set_cons_succ]
  clear hpa hpn
  gi_wp2_with fail
  refine wpIn_region_mix [(true,2),(false,3)] 1 (by kernel_rfl) (by kernel_rfl) (fun V=>Blk V Bq 37 #[.int .u32 pa,.int .i64 pn]∧Blk V Bw 41 (dc x.2)) (fun _ _ h k=>⟨h.1.below k h.1.lt,h.2.below k h.2.lt⟩) (by kernel_rfl) HQ.out (a':=?_) (fun wz hz=>?_) fun wz hz=>?_
  rotate_left
  ·have q0:=fun (dd:Nat) (os:Array Obj)=>ld_pxB (hz.1.below (below_regrown wz dd os) hz.1.lt)
   have q1:=fun (dd:Nat) (os:Array Obj)=>ld_wyB (hz.2.below (below_regrown wz dd os) hz.2.lt) hst1
   clear hz
   simp only [pick_nil,pick_tt,pick_ft,List.take_succ_cons,List.take_zero,List.drop_succ_cons,List.drop_zero,List.append_nil]
   repeat (go_big_quiet_step (fail))
   refine wpQuiet_nil ?_
   rfl
  simp only [pick_nil,pick_ff,pick_tf,List.take_succ_cons,List.take_zero,List.drop_succ_cons,List.drop_zero,List.append_nil]
  have QZ:=Lib.hid (show Blk wz Bq 37 #[.int .u32 pa,.int .i64 pn]∧Blk wz Bw 41 (dc x.2) from ⟨HQ.out.1.below hz HQ.out.1.lt,HQ.out.2.below hz HQ.out.2.lt⟩)
  have RZ:=Lib.hid (HMW.out.r.later hz)
  have UZ:=Lib.hid (Upd.ofBelow hz (MU w))
  clear hz
  refine wpMix_step QZ.out fun wa ha=>?_
  have RA:=Lib.hid (RZ.out.later ha)
  have UA:=Lib.hid (UZ.out.trans_ (Upd.ofBelow ha (MU w)))
  have QA:=Lib.hid (show Blk wa Bq 37 #[.int .u32 pa,.int .i64 pn]∧Blk wa Bw 41 (dc x.2) from ⟨QZ.out.1.below ha QZ.out.1.lt,QZ.out.2.below ha QZ.out.2.lt⟩)
  clear ha
  have st:=RA.out.stp pa pn
  obtain ⟨wb,hwb⟩:∃ Z,Z=wa.setCells w.heap.size 0 [.int .u32 pa,.int .i64 pn]:=⟨_,rfl⟩
  rw [← hwb] at st
  have RB:=Lib.hid (show MR w pa pn (dc (lastE pre).2) (!pre.isEmpty) wb by rw [hwb]; exact RA.out.setP.1)
  have UB:=Lib.hid (UA.out.trans_ (show Upd (MU w) wa wb by rw [hwb]; exact RA.out.setP.2))
  have QB:=Lib.hid (show Blk wb Bq 37 #[.int .u32 pa,.int .i64 pn]∧Blk wb Bw 41 (dc x.2) by rw [hwb]; exact ⟨blk_far_setCells n1 _ _ _ QA.out.1,blk_far_setCells n2 _ _ _ QA.out.2⟩)
  clear hwb
  go_wp2_with fail
  clear st
  refine wpMix_step QB.out fun wc hc=>?_
  have RC:=Lib.hid (RB.out.later hc)
  have UC:=Lib.hid (UB.out.trans_ (Upd.ofBelow hc (MU w)))
  clear hc
  have st:=RC.out.stv hst3 hst1 hst2
  obtain ⟨wd,hwd⟩:∃ Z,Z=wc.setCells (w.heap.size+1) 0 (dc x.2).toList:=⟨_,rfl⟩
  rw [← hwd] at st
  have RD:=Lib.hid (show MR w pa pn (dc x.2) (!pre.isEmpty) wd by rw [hwd]; exact (RC.out.setV (by rw [hst3,hst1])).1)
  have UD:=Lib.hid (UC.out.trans_ (show Upd (MU w) wc wd by rw [hwd]; exact (RC.out.setV (by rw [hst3,hst1])).2))
  clear hwd
  go_wp2_with fail
  clear st
  refine wpMix_plain ?_
  have st:=RD.out.sti true
  go_wp2_with fail
  refine And.intro trivial ?_
  have hu:=UD.out.trans_ (RD.out.setI (z2:=true)).2
  have hr9:=(RD.out.setI (z2:=true)).1
  have hle:lastE (pre++[x])=x:=by simp [lastE]
  refine ⟨keeps_of_cells _ hu fun j hj _=>?_,hu.same fun j hj hi=>?_,⟨HMW.out.below.trans (hu.below (fun j hj=>by rcases hj with rfl | rfl | rfl <;> omega) HMW.out.below.size),?_⟩,Nat.le_trans hws hu.size⟩
  ·rcases hj with rfl | rfl | rfl
   ·exact ⟨_,_,HMW.out.r.p⟩
   ·exact ⟨_,_,HMW.out.r.v⟩
   ·exact ⟨_,_,HMW.out.r.i⟩
  ·have:=hi.1
   rcases hj with rfl | rfl | rfl <;> omega
  ·rw [hle,← HPA.out,← HPN.out,show (!(pre++[x]).isEmpty)=true by simp]
   exact hr9
 case done =>
  rintro D ys W hD rfl ⟨hmi,hws⟩ hdef
  obtain ⟨pa,hpa⟩:∃ z:Int,z=(padB (lastE ys).1:Int):=⟨_,rfl⟩
  obtain ⟨pn,hpn⟩:∃ z:Int,z=((lastE ys).1.length:Int):=⟨_,rfl⟩
  obtain ⟨cs,hcs⟩:∃ z,z=dc (lastE ys).2:=⟨_,rfl⟩
  obtain ⟨bb,hbb⟩:∃ z,z=!ys.isEmpty:=⟨_,rfl⟩
  have HR:=Lib.hid (show MR w pa pn cs bb W by rw [hpa,hpn,hcs,hbb]; exact hmi.r)
  have hc1:cs.size=257:=by rw [hcs]; exact HD.out.sz _
  have hc2:cs.all (·.oneCell')=true:=by rw [hcs]; exact HD.out.one _
  have HBW:=Lib.hid hmi.below
  have HRES:=Lib.hid (And.intro hpa (And.intro hpn (And.intro hcs hbb)))
  have HDF:=Lib.hid hdef
  clear hmi hdef hpa hpn hcs hbb
  go_wp2_with fail
  refine wp_region_mix [(true,3),(false,3)] 2 (by kernel_rfl) (fun V=>MR w pa pn cs bb V) (fun _ _ h k=>h.later k) (by kernel_rfl) HR.out (a':=?_) (fun wz hz=>?_) fun wz hz=>?_
  rotate_left
  ·have q0:=fun (dd:Nat) (os:Array Obj)=>ld_pxB (hz.later (below_regrown wz dd os)).p
   have q1:=fun (dd:Nat) (os:Array Obj)=>ld_wyB (hz.later (below_regrown wz dd os)).v hc1
   have q2:=fun (dd:Nat) (os:Array Obj)=>ld_btN ((hz.later (below_regrown wz dd os)).i.cell 0)
   clear hz
   simp only [pick_nil,pick_tt,pick_ft,List.take_succ_cons,List.take_zero,List.drop_succ_cons,List.drop_zero,List.append_nil]
   repeat (go_big_quiet_step (fail))
   refine wpQuiet_nil ?_
   rfl
  simp only [pick_nil,pick_ff,pick_tf,List.take_succ_cons,List.take_zero,List.drop_succ_cons,List.drop_zero,List.append_nil]
  have RZ:=Lib.hid (HR.out.later hz)
  have UZ:=Lib.hid (Upd.ofBelow hz (MU w))
  clear hz
  refine wpMix_step RZ.out fun wa ha=>?_
  have RA:=Lib.hid (RZ.out.later ha)
  have UA:=Lib.hid (UZ.out.trans_ (Upd.ofBelow ha (MU w)))
  clear ha
  have st:=RA.out.stp pa pn
  obtain ⟨wb,hwb⟩:∃ Z,Z=wa.setCells w.heap.size 0 [.int .u32 pa,.int .i64 pn]:=⟨_,rfl⟩
  rw [← hwb] at st
  have RB:=Lib.hid (show MR w pa pn cs bb wb by rw [hwb]; exact RA.out.setP.1)
  have UB:=Lib.hid (UA.out.trans_ (show Upd (MU w) wa wb by rw [hwb]; exact RA.out.setP.2))
  clear hwb
  go_wp2_with fail
  clear st
  refine wpMix_step RB.out fun wc hc=>?_
  have RC:=Lib.hid (RB.out.later hc)
  have UC:=Lib.hid (UB.out.trans_ (Upd.ofBelow hc (MU w)))
  clear hc
  have st:=RC.out.stv hc1 hc1 hc2
  obtain ⟨wd,hwd⟩:∃ Z,Z=wc.setCells (w.heap.size+1) 0 cs.toList:=⟨_,rfl⟩
  rw [← hwd] at st
  have RD:=Lib.hid (show MR w pa pn cs bb wd by rw [hwd]; exact (RC.out.setV rfl).1)
  have UD:=Lib.hid (UC.out.trans_ (show Upd (MU w) wc wd by rw [hwd]; exact (RC.out.setV rfl).2))
  clear hwd
  go_wp2_with fail
  clear st
  refine wpMix_step RD.out fun we he=>?_
  have RE:=Lib.hid (RD.out.later he)
  have UE:=Lib.hid (UD.out.trans_ (Upd.ofBelow he (MU w)))
  clear he
  have st:=RE.out.sti bb
  go_wp2_with fail
  refine wpMix_plain ?_
  go_wp2_with fail
  have hu:=UE.out.trans_ (RE.out.setI (z2:=bb)).2
  have hr9:=(RE.out.setI (z2:=bb)).1
  generalize we.setCell ⟨w.heap.size+1+1,0,none⟩ (.bool bb)=w9 at hu hr9 ⊢
  have hz0:=HZ0.out
  have hb1:=HB1.out.size
  have hDl:D < W.heap.size:=(Array.getElem?_eq_some_iff.1 HDF.out).1
  have hk9:w9.heap[D]?=some (.deferred (some [])):=(hu.block D hDl (fun h=>by rcases h with h | h | h <;> omega)).trans HDF.out
  have hno:∀ r,some D=some r→∃ o:Obj,w9.heap[r]?=some o∧o.isCells=false:=fun r e=>by cases e; exact ⟨_,hk9,rfl⟩
  have jr:=hr9.own (grownBy_putObj' w9 D (.deferred none)) hno
  have hB9:=HBW.out.trans (hu.below (fun k hk=>by rcases hk with rfl | rfl | rfl <;> omega) HBW.out.size)
  have hBz:=hB9.trans (belowK_b (w:=w) (Nat.le_refl _) w9 D _ (.deferred none) (by omega) hk9 rfl rfl)
  refine ⟨by simp,.inl ⟨_,_,rfl,run_takeDeferred hk9,?_⟩⟩
  refine ⟨_,res_match rfl _ rfl rfl rfl jr.p jr.v hc1 jr.i,?_,hBz⟩
  obtain ⟨e1,e2,e3,e4⟩:=HRES.out
  rw [e1,e2,e3,e4]
 case stop =>
  rintro D c pre W hD _ h
  exact h.elim
theorem match_any (hd:Dc dc) (a tb:Nat) (M:Nat→Prop) (limit:Int) (T:TT) (w:World) (h:IsTr dc w M tb limit T) (ha:a < 2 ^ 32) (hsm:T.list.length≤1000000) :
  Calls Tryz.prog 55 #[.pointer (some ⟨tb,0,none⟩),.int .u32 (a:Int)] w (MatchPost dc w (T.cov (bitsB a 32))) :=
 match_of hd _ a _ w (Nat.le_trans (cov_len T (bitsB a 32)) hsm) fun W0 hB0=>covers_any hd a tb M limit T W0 (h.keep ⟨hB0.size,fun k hm _=>hB0.block k (h.lt k hm)⟩) ha hsm
end Go.Proofs.YthlommalbkhcjaaGreat
namespace Go.Proofs.YthlommalbkhcjaaGreat
open Go.RowKit Go.Sort Go.BigFrame
variable {dc:Int→Array Value}
theorem new_any (limit:Int) (w:World):Calls Tryz.prog 47 #[.int .i64 limit] w fun e w'=>e=.returned (.pointer (some ⟨w.heap.size,0,none⟩))∧w'=w.alloc (.cells #[.pointer none,.int .i64 (max 0 limit),.int .i64 0,.bool true] 184):=by
 go_enter Tryz.func47,Tryz.ntmps47
 go_wp2
 go_ret
 exact ⟨rfl,rfl⟩
end Go.Proofs.YthlommalbkhcjaaGreat
namespace Go.Proofs.YthlommalbkhcjaaGreat
open Go.RowKit Go.Sort Go.BigFrame
variable {dc:Int→Array Value}
def InsYes (dc:Int→Array Value) (w:World) (M:Nat→Prop) (tb:Nat) (limit:Int) (T2:TT) (w':World):Prop:=∃ M3,IsTr dc w' M3 tb limit T2∧Upd M w w'∧∀ k,M3 k→M k∨w.heap.size≤k
structure InS (dc:Int→Array Value) (w wx:World) (M:Nat→Prop) (tb:Nat) (limit nn:Int) (pv0:Value) (T:TT) (p:Bs) (v:Int) (hb ho:Nat) (pv:Value) (S:TT) (Mo Ms:Nat→Prop) (f:TT→TT):Prop where
 upd:Upd (only tb) w wx
 tbk:Blk wx tb 184 #[pv0,.int .i64 limit,.int .i64 nn,.bool true]
 box:Blk wx w.heap.size 37 #[.int .u32 (padB p:Int),.int .i64 (p.length:Int)]
 way:Blk wx (w.heap.size+1) 41 (dc v)
 pat:PAt dc w M tb pv0 T p hb ho pv S Mo Ms f
section
variable {w wx wy:World} {M:Nat→Prop} {tb:Nat} {limit nn:Int} {pv0:Value} {T:TT} {p:Bs} {v:Int} {hb ho:Nat} {pv:Value} {S:TT} {Mo Ms:Nat→Prop} {f:TT→TT}
theorem InS.below (h:InS dc w wx M tb limit nn pv0 T p v hb ho pv S Mo Ms f) (hb':Below wx.heap.size wx wy):InS dc w wy M tb limit nn pv0 T p v hb ho pv S Mo Ms f :=
 ⟨h.upd.trans_ (Upd.ofBelow hb' _),h.tbk.below hb' h.tbk.lt,h.box.below hb' h.box.lt,h.way.below hb' h.way.lt,h.pat⟩
theorem InS.blk (h:InS dc w wx M tb limit nn pv0 T p v hb ho pv S Mo Ms f) {k:Nat} {t:TypeId} {cs:Array Value} (hk:Blk w k t cs) (hn:k≠tb):Blk wx k t cs:=hk.upd h.upd hn
theorem InS.hole (h:InS dc w wx M tb limit nn pv0 T p v hb ho pv S Mo Ms f):wx.cell? ⟨hb,ho,none⟩=some pv∧wx.frozen? ⟨hb,ho,none⟩=false:=by
 by_cases e:hb=tb
 ·obtain ⟨e1,e2⟩:=h.pat.root e
  subst e; subst e1; subst e2
  exact ⟨h.tbk.cell 0,h.tbk.frozen 0⟩
 ·obtain ⟨_,cs,c1,c2⟩:=h.pat.hole e
  exact ⟨((h.blk c1 e).cell ho).trans c2,(h.blk c1 e).frozen ho⟩
theorem InS.count (h:InS dc w wx M tb limit nn pv0 T p v hb ho pv S Mo Ms f) (hne:tb < w.heap.size) (m:Int):InS dc w (wx.setCell ⟨tb,2,none⟩ (.int .i64 m)) M tb limit m pv0 T p v hb ho pv S Mo Ms f:=by
 refine ⟨h.upd.setCell (p:=⟨tb,2,none⟩) (.inl rfl) _,?_,h.box.far (p:=⟨tb,2,none⟩) (by show w.heap.size≠tb; omega) _,h.way.far (p:=⟨tb,2,none⟩) (by show w.heap.size+1≠tb; omega) _,h.pat⟩
 have:=h.tbk.set_ 2 (.int .i64 m)
 simpa using this
theorem InS.fin0 (h:InS dc w wx M tb limit nn pv0 T p v hb ho pv S Mo Ms f) (ht:IsTr dc w M tb limit T) (hp:p.length≤32) {w2:World} {M2:Nat→Prop} {pv2:Value}
  (hu:Upd M wx w2) (h1:∀ k,Mo k→∀ cs,Blk wx k 192 cs→Blk w2 k 192 (if k=hb then cs.setIfInBounds ho pv2 else cs)) (h2:IsT dc w2 M2 pv2 (S.ins p v)) (hM2:∀ k,M2 k→Ms k∨w.heap.size≤k)
  (htb:Blk w2 tb 184 #[if hb=tb then pv2 else pv0,.int .i64 limit,.int .i64 ((T.ins p v).list.length:Int),.bool true]):InsYes dc w M tb limit (T.ins p v) w2:=by
 have pat:=h.pat
 have hsz:=h.upd.size
 have hz2:=hu.size
 refine ⟨fun k=>(M k∨w.heap.size≤k)∧k < w2.heap.size,⟨⟨_,htb,?_⟩,⟨.inl ht.mb,htb.lt⟩,?_,fun k hk=>hk.2⟩,?_,fun k hk=>hk.1⟩
 ·rw [pat.ins v]
  refine (pat.wand w2 M2 pv2 _ (fun k hm cs hc=>h1 k hm cs (h.blk hc (pat.mo k hm).2)) h2 (fun k hk hm=>?_)).lt.mono fun k hk=>⟨⟨?_,hk.2⟩,?_⟩
  ·rcases hM2 k hk with hs | hs
   ·exact pat.dis k hs hm
   ·have:=ht.lt k (pat.mo k hm).1; omega
  ·rcases hk.1 with hk | hk
   ·exact .inl (pat.mo k hk).1
   ·rcases hM2 k hk with hs | hs
    ·exact .inl (pat.ms k hs).1
    ·exact .inr hs
  ·rcases hk.1 with hk | hk
   ·exact (pat.mo k hk).2
   ·rcases hM2 k hk with hs | hs
    ·exact (pat.ms k hs).2
    ·have:=ht.lt tb ht.mb; show k≠tb; omega
 ·exact TT.ins_wf ht.wf List.nil_prefix hp
 ·exact (h.upd.mono (G:=M) fun k (e:k=tb)=>.inl (e ▸ ht.mb)).trans_ hu
theorem InS.fin (ht:IsTr dc w M tb limit T) (hp:p.length≤32) (h:InS dc w wx M tb limit ((T.ins p v).list.length:Int) pv0 T p v hb ho pv S Mo Ms f) {M2:Nat→Prop} {pv2:Value}
  (h2:IsT dc wx M2 pv2 (S.ins p v)) (hM2:∀ k,M2 k→Ms k∨w.heap.size≤k):InsYes dc w M tb limit (T.ins p v) (wx.setCell ⟨hb,ho,none⟩ pv2):=by
 have hmh:M hb:=by
  by_cases e:hb=tb
  ·rw [e]; exact ht.mb
  ·exact (h.pat.mo hb (h.pat.hole e).1).1
 refine h.fin0 ht hp (w2:=wx.setCell ⟨hb,ho,none⟩ pv2) (M2:=M2) (pv2:=pv2) ((Upd.refl M wx).setCell (p:=⟨hb,ho,none⟩) (.inl hmh) _) (fun k hm cs hc=>?_) (h2.blk fun k hk cs hc=>hc.far (p:=⟨hb,ho,none⟩) (fun e:k=hb=>?_) _) hM2 ?_
 ·split
  ·rename_i e; subst e; exact hc.set_ ho pv2
  ·rename_i e; exact hc.far (p:=⟨hb,ho,none⟩) e _
 ·subst e
  by_cases e2:k=tb
  ·subst e2
   rcases hM2 k hk with hs | hs
   ·exact (h.pat.ms k hs).2 rfl
   ·have:=ht.lt k ht.mb; omega
  ·rcases hM2 k hk with hs | hs
   ·exact h.pat.dis k hs (h.pat.hole e2).1
   ·have:=ht.lt k (h.pat.mo k (h.pat.hole e2).1).1; omega
 ·split
  ·rename_i e
   subst e
   rw [(h.pat.root rfl).1]
   have:=h.tbk.set_ 0 pv2
   simpa using this
  ·rename_i e
   exact h.tbk.far (p:=⟨hb,ho,none⟩) (fun e2:tb=hb=>e e2.symm) _
theorem InS.fin2 (ht:IsTr dc w M tb limit T) (hp:p.length≤32) (h:InS dc w wx M tb limit ((T.ins p v).list.length:Int) pv0 T p v hb ho pv S Mo Ms f) {b:Nat} (hms:Ms b) {w2:World} (hu:Upd (only b) wx w2) (h2:IsT dc w2 Ms pv (S.ins p v)):InsYes dc w M tb limit (T.ins p v) w2:=by
 have hbt:=(h.pat.ms b hms).2
 refine h.fin0 ht hp (w2:=w2) (M2:=Ms) (pv2:=pv) (hu.mono fun k (e:k=b)=>.inl (e ▸ (h.pat.ms b hms).1)) (fun k hm cs hc=>?_) h2 (fun k hk=>.inl hk) ?_
 ·have hk:Blk w2 k 192 cs:=hc.upd hu fun e:k=b=>h.pat.dis b hms (e ▸ hm)
  split
  ·rename_i e
   subst e
   obtain ⟨_,cs2,c1,c2⟩:=h.pat.hole (h.pat.mo k hm).2
   have c3:=h.blk c1 (h.pat.mo k hm).2
   unfold Blk at hc c3
   rw [hc] at c3
   injection c3 with c3
   injection c3 with c3
   subst c3
   rw [set_same c2]
   exact hk
  ·exact hk
 ·have e:(if hb=tb then pv else pv0)=pv0:=by
   split
   ·rename_i e; exact (h.pat.root e).2
   ·rfl
  rw [e]
  exact h.tbk.upd hu fun e:tb=b=>hbt e.symm
end
theorem blk_back {w w2:World} {k:Nat} {t:TypeId} {cs:Array Value} (hb:Below w.heap.size w w2) (hk:k < w.heap.size) (h:Blk w2 k t cs):Blk w k t cs:=(hb.block k hk).symm.trans h
theorem PAt.back {w w2:World} {M:Nat→Prop} {tb:Nat} {pv0:Value} {T:TT} {p:Bs} {hb ho:Nat} {pv:Value} {S:TT} {Mo Ms:Nat→Prop} {f:TT→TT} (h:PAt dc w2 M tb pv0 T p hb ho pv S Mo Ms f) (hbl:Below w.heap.size w w2) (lt:∀ k,M k→k < w.heap.size):PAt dc w M tb pv0 T p hb ho pv S Mo Ms f :=
 ⟨fun w3 M3 pv3 S3 h1 h2 h3=>h.wand w3 M3 pv3 S3 (fun k hm cs hc=>h1 k hm cs (blk_back hbl (lt k (h.mo k hm).1) hc)) h2 h3,
  fun hn=>by obtain ⟨hm,cs,c1,c2⟩:=h.hole hn; exact ⟨hm,cs,blk_back hbl (lt _ (h.mo _ hm).1) c1,c2⟩,h.root,
  h.tree.blk fun k hm cs hc=>blk_back hbl (lt k (h.ms k hm).1) hc,h.mo,h.ms,h.dis,h.fS,h.ins,h.get,h.ctx⟩
theorem insS_len {p:Bs} {v:Int}:∀ {L:List (Bs × Int)},SortedB L→(insS p v L).length=if (getS p L).isSome then L.length else L.length+1
 | [],_=>rfl
 | e :: r,hs=>by
   have ih:=insS_len (p:=p) (v:=v) (sorted_tail hs)
   unfold insS
   split
   ·rename_i h
    have hne:e.1≠p:=fun e3=>by rw [e3,ltB_irrefl] at h; cases h
    have:getS p (e :: r)=getS p r:=by unfold getS; rw [List.find?_cons_of_neg (by simpa using hne)]
    rw [this,List.length_cons,ih,List.length_cons]
    split <;> rfl
   ·rename_i h
    split
    ·rename_i he
     have:(getS p (e :: r)).isSome=true:=by unfold getS; rw [List.find?_cons_of_pos (by simpa using he)]; rfl
     rw [this]; rfl
    ·rename_i hne
     have hlt:ltB p e.1=true:=by
      rcases ltB_tri e.1 p with h3 | h3 | h3
      ·exact absurd h3 h
      ·exact absurd h3 hne
      ·exact h3
     have:getS p (e :: r)=none:=getS_none fun f hf e2=>by
      rcases List.mem_cons.1 hf with rfl | hf
      ·exact hne e2
      ·have:=ltB_trans hlt ((List.pairwise_cons.1 hs).1 f hf)
       rw [e2,ltB_irrefl] at this; cases this
     rw [this]; rfl
theorem TT.ins_len {T:TT} (wf:T.wf []) {p:Bs} (hp:p.length≤32) (v:Int):(T.ins p v).list.length=if (T.get p).isSome then T.list.length else T.list.length+1:=by
 rw [TT.ins_list wf List.nil_prefix hp,insS_len (TT.sorted wf),TT.get_list wf]
end Go.Proofs.YthlommalbkhcjaaGreat
