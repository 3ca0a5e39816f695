/- Layer 18: FwdNames. -/
import Derived.Test.YthlommalbkhcjaaGreatNm46
import Derived.Test.YthlommalbkhcjaaGreatNm48
namespace Go.Proofs.YthlommalbkhcjaaGreat
open Go.RowKit Go.Sort Go.BigFrame
theorem sameA_self (F:FtA):sameA F F=true:=by unfold sameA; simp
theorem nameV_str (d:Int):∃ s,nameV d=.string s:=by
 unfold nameV
 split
 ·rename_i h
  obtain ⟨k,rfl⟩:∃ k:Nat,d=(k:Int):=⟨d.toNat,by omega⟩
  have hk:k < 15:=by omega
  rw [Int.toNat_natCast]
  match k,hk with
  | 0,_=>exact ⟨_,rfl⟩
  | 1,_=>exact ⟨_,rfl⟩
  | 2,_=>exact ⟨_,rfl⟩
  | 3,_=>exact ⟨_,rfl⟩
  | 4,_=>exact ⟨_,rfl⟩
  | 5,_=>exact ⟨_,rfl⟩
  | 6,_=>exact ⟨_,rfl⟩
  | 7,_=>exact ⟨_,rfl⟩
  | 8,_=>exact ⟨_,rfl⟩
  | 9,_=>exact ⟨_,rfl⟩
  | 10,_=>exact ⟨_,rfl⟩
  | 11,_=>exact ⟨_,rfl⟩
  | 12,_=>exact ⟨_,rfl⟩
  | 13,_=>exact ⟨_,rfl⟩
  | 14,_=>exact ⟨_,rfl⟩
  | n+15,h=>omega
 ·exact ⟨_,rfl⟩
theorem ld_str {w:World} {a:Addr} {s:ByteArray} (hu:w.cell? a=some (.string s)):(Instr.loadAt 9 (.pointer (some a))).run Tryz.prog w=.ok (.string s) w:=by
 simp [go_sem,hu]
def fewFt (F G:FtA):Bool:=decide (F.nl≤20) && (decide (F.no≤20) && (decide (G.nl≤20) && decide (G.no≤20)))
set_option maxRecDepth 100000 in
set_option maxHeartbeats 8000000 in
attribute [-go_sem] Instr.storeAt Instr.loadAt Instr.buildSlice in
theorem fwdnames_any (d:Int) (F G:FtA) (w:World) (hF:FtM w (fun k=>k < w.heap.size) F) (hG:FtM w (fun k=>k < w.heap.size) G) :
  Calls Tryz.prog 7 #[.int .i64 d,.agg (ftV F),.agg (ftV G)] w fun e w'=>e=.returned (.bool true)∧Below w.heap.size w w':=by
 obtain ⟨W,hW⟩:∃ Z,Z=(w.alloc (.cells (ftV F) 71)).alloc (.cells (ftV G) 71):=⟨_,rfl⟩
 have hbW:Below w.heap.size w W:=by rw [hW]; exact ((Below.refl _ _).alloc (Nat.le_refl _) _).alloc (by simp) _
 have k1:Blk W w.heap.size 71 (ftV F):=by rw [hW]; exact (Blk.new w _ _).alloc _
 have k2:Blk W (w.heap.size+1) 71 (ftV G):=by
  rw [hW]
  have:=Blk.new (w.alloc (.cells (ftV F) 71)) 71 (ftV G)
  simpa using this
 obtain ⟨gF,hgF⟩:∃ g,g=w.heap.size:=⟨_,rfl⟩
 rw [← hgF] at k1 k2
 have HF:=Lib.hid (hF.keep (Same.ofBelow hbW fun k hk=>hk))
 have HG:=Lib.hid (hG.keep (Same.ofBelow hbW fun k hk=>hk))
 have K1:=Lib.hid k1
 have K2:=Lib.hid k2
 have HW:=Lib.hid hW
 have HBW:=Lib.hid hbW
 have HGF:=Lib.hid hgF
 have l2:=ld_rows (show W.cell? ⟨gF,2,none⟩=some (.slice F.Al F.nl F.cl) from k1.cell 2)
 have l3:=ld_snts (show W.cell? ⟨gF,3,none⟩=some (.slice F.Ao F.no F.co) from k1.cell 3)
 have m2:=ld_rows (show W.cell? ⟨gF+1,2,none⟩=some (.slice G.Al G.nl G.cl) from k2.cell 2)
 have m3:=ld_snts (show W.cell? ⟨gF+1,3,none⟩=some (.slice G.Ao G.no G.co) from k2.cell 3)
 have HKN:=Lib.hid (fun wx=>known18_any wx)
 have key:∀ b:Bool,fewFt F G=b→Calls Tryz.prog 7 #[.int .i64 d,.agg (ftV F),.agg (ftV G)] w fun e w'=>e=.returned (.bool true)∧Below w.heap.size w w':=by
  intro b hb
  unfold fewFt at hb
  obtain ⟨p1,n1,q1⟩:∃ b n,n=F.nl∧b=decide (n≤20):=⟨_,_,rfl,rfl⟩
  obtain ⟨p2,n2,q2⟩:∃ b n,n=F.no∧b=decide (n≤20):=⟨_,_,rfl,rfl⟩
  obtain ⟨p3,n3,q3⟩:∃ b n,n=G.nl∧b=decide (n≤20):=⟨_,_,rfl,rfl⟩
  obtain ⟨p4,n4,q4⟩:∃ b n,n=G.no∧b=decide (n≤20):=⟨_,_,rfl,rfl⟩
  obtain ⟨c1,e1⟩:=q1
  obtain ⟨c2,e2⟩:=q2
  obtain ⟨c3,e3⟩:=q3
  obtain ⟨c4,e4⟩:=q4
  rw [← c1,← e1,← c2,← e2,← c3,← e3,← c4,← e4] at hb
  have f1:decide ((n1:Int) > 20)=!p1:=by rw [e1,← decide_not]; exact decide_eq_decide.2 (by omega)
  have f2:decide ((n2:Int) > 20)=!p2:=by rw [e2,← decide_not]; exact decide_eq_decide.2 (by omega)
  have f3:decide ((n3:Int) > 20)=!p3:=by rw [e3,← decide_not]; exact decide_eq_decide.2 (by omega)
  have f4:decide ((n4:Int) > 20)=!p4:=by rw [e4,← decide_not]; exact decide_eq_decide.2 (by omega)
  rw [← c1] at l2
  rw [← c2] at l3
  rw [← c3] at m2
  rw [← c4] at m3
  cases b with
  | false =>
    clear c1 c2 c3 c4 e1 e2 e3 e4 hF hG hW hbW k1 k2 hgF
    have no:∀ (p1 p2 p3 p4:Bool),(p1 && (p2 && (p3 && p4)))=false→decide ((n1:Int) > 20)=!p1→decide ((n2:Int) > 20)=!p2→decide ((n3:Int) > 20)=!p3→decide ((n4:Int) > 20)=!p4→Calls Tryz.prog 7 #[.int .i64 d,.agg (ftV F),.agg (ftV G)] w fun e w'=>e=.returned (.bool true)∧Below w.heap.size w w':=by
     clear f1 f2 f3 f4 hb
     intro p1 p2 p3 p4 hb f1 f2 f3 f4
     rcases p1 with _ | _ <;> rcases p2 with _ | _ <;> rcases p3 with _ | _ <;> rcases p4 with _ | _ <;> simp only [Bool.not_true,Bool.not_false] at f1 f2 f3 f4 <;>
     first
     | (exfalso; revert hb; decide)
     | (clear hb
        go_enter Tryz.func7,Tryz.ntmps7
        go_upto_region 1 with (fail)
        rw [← HW.out,← HGF.out]
        go_wp2_with fail
        refine (HKN.out W).mono ?_
        rintro e w2 ⟨rfl,hb2⟩
        have HB2:=Lib.hid (HBW.out.trans (hb2.mono HBW.out.size))
        clear hb2
        go_wp2_with fail
        go_ret
        exact ⟨rfl,HB2.out⟩)
    exact no p1 p2 p3 p4 hb f1 f2 f3 f4
  | true =>
    obtain ⟨t1,t2,t3,t4⟩:p1=true∧p2=true∧p3=true∧p4=true:=by
     revert hb
     cases p1 <;> cases p2 <;> cases p3 <;> cases p4 <;> simp
    have b1:F.nl≤20:=by rw [t1] at e1; have:=of_decide_eq_true e1.symm; omega
    have b2:F.no≤20:=by rw [t2] at e2; have:=of_decide_eq_true e2.symm; omega
    have b3:G.nl≤20:=by rw [t3] at e3; have:=of_decide_eq_true e3.symm; omega
    have b4:G.no≤20:=by rw [t4] at e4; have:=of_decide_eq_true e4.symm; omega
    rw [t1] at f1
    rw [t2] at f2
    rw [t3] at f3
    rw [t4] at f4
    simp only [Bool.not_true] at f1 f2 f3 f4
    have HS1:=Lib.hid (fun wx (hb:Below W.heap.size W wx)=>fwsame_any F G (fun k=>k < w.heap.size) (fun k=>k < w.heap.size) wx (HF.out.keep (Same.ofBelow hb fun k hk=>Nat.lt_of_lt_of_le hk HBW.out.size)) (HG.out.keep (Same.ofBelow hb fun k hk=>Nat.lt_of_lt_of_le hk HBW.out.size)) (by omega) (by omega))
    have HS2:=Lib.hid (fun wx (hb:Below W.heap.size W wx)=>rsame18_any F G (fun k=>k < w.heap.size) (fun k=>k < w.heap.size) wx (HF.out.keep (Same.ofBelow hb fun k hk=>Nat.lt_of_lt_of_le hk HBW.out.size)) (HG.out.keep (Same.ofBelow hb fun k hk=>Nat.lt_of_lt_of_le hk HBW.out.size)) (by omega) (by omega))
    have HS3:=Lib.hid (fun wx (hb:Below W.heap.size W wx)=>fwsame_any F F (fun k=>k < w.heap.size) (fun k=>k < w.heap.size) wx (HF.out.keep (Same.ofBelow hb fun k hk=>Nat.lt_of_lt_of_le hk HBW.out.size)) (HF.out.keep (Same.ofBelow hb fun k hk=>Nat.lt_of_lt_of_le hk HBW.out.size)) (by omega) (by omega))
    rw [sameA_self] at HS3
    obtain ⟨sb,hsb⟩:∃ b,b=sameA F G:=⟨_,rfl⟩
    rw [← hsb] at HS1 HS2
    obtain ⟨W3,hW3⟩:∃ Z,Z=W.alloc (.cells nmL.toArray 9):=⟨_,rfl⟩
    have hb3:Below W.heap.size W W3:=by rw [hW3]; exact (Below.refl _ _).alloc (Nat.le_refl _) _
    have hk3:Blk W3 W.heap.size 9 nmL.toArray:=by rw [hW3]; exact Blk.new _ _ _
    have bs:=nm_build W
    rw [← hW3] at bs
    have HB3:=Lib.hid hb3
    have HK3:=Lib.hid hk3
    have HNM:=Lib.hid (fun wx=>name_any d wx)
    obtain ⟨s,hs⟩:=nameV_str d
    rw [hs] at HNM
    have HNS:=Lib.hid hs
    clear c1 c2 c3 c4 e1 e2 e3 e4 hF hG hW hbW k1 k2 hgF hb t1 t2 t3 t4 b1 b2 b3 b4 hsb hW3 hb3 hk3 hs
    by_cases h1:0 < d∧d < 15
    ·obtain ⟨h1a,h1b⟩:=h1
     have g1:decide (d > 0)=true:=decide_eq_true h1a
     have g2:decide (d < 15)=true:=decide_eq_true h1b
     obtain ⟨k,rfl⟩:∃ k:Nat,d=(k:Int):=⟨d.toNat,by omega⟩
     have hk15:k < 15:=by omega
     have hi0:(0:Int)≤(k:Int):=by omega
     have hc:W3.cell? ⟨W.heap.size,k,none⟩=some (.string s):=by
      rw [← HNS.out]
      unfold nameV
      rw [if_pos ⟨by omega,h1b⟩,HK3.out.cell,List.getElem?_toArray,List.getElem?_eq_getElem (show k < nmL.length from hk15),Int.toNat_natCast]
      simp [List.getD_eq_getElem?_getD,List.getElem?_eq_getElem (show k < nmL.length from hk15)]
     have ls:=ld_str hc
     clear hc
     go_enter Tryz.func7,Tryz.ntmps7
     go_upto_region 1 with (fail)
     rw [← HW.out,← HGF.out]
     go_upto_region 7 with (fail)
     refine wp_region_stages [(true,22)] (by kernel_rfl) (by kernel_rfl) fun wz hz hz2=>?_
     have hz3:=HB3.out.trans (hz.mono HB3.out.size)
     have hzk1:=K1.out.below hz3 K1.out.lt
     have hzk2:=K2.out.below hz3 K2.out.lt
     have ZB:=Lib.hid (HBW.out.trans (hz3.mono HBW.out.size))
     have z1:=fun (dd:Nat) (os:Array Obj)=>(stc_load Tryz.underlying71 rfl ft_info (hzk1.below (below_regrown wz dd os) hzk1.lt) rfl:(Instr.loadAt 71 (.pointer (some ⟨gF,0,none⟩))).run Tryz.prog (grow (redrawn wz dd) os)=.ok (.agg (ftV F)) (grow (redrawn wz dd) os))
     have z2:=fun (dd:Nat) (os:Array Obj)=>(stc_load Tryz.underlying71 rfl ft_info (hzk2.below (below_regrown wz dd os) hzk2.lt) rfl:(Instr.loadAt 71 (.pointer (some ⟨gF+1,0,none⟩))).run Tryz.prog (grow (redrawn wz dd) os)=.ok (.agg (ftV G)) (grow (redrawn wz dd) os))
     have r1:=fun (dd:Nat) (os:Array Obj)=>Calls.regrown_of (HNM.out (grow (redrawn wz dd) os))
     have r2:=fun (dd:Nat) (os:Array Obj)=>Calls.regrown_of (HS1.out (grow (redrawn wz dd) os) (hz3.trans ((below_regrown wz dd os).mono hz3.size)))
     have r3:=fun (dd:Nat) (os:Array Obj)=>Calls.regrown_of (HS2.out (grow (redrawn wz dd) os) (hz3.trans ((below_regrown wz dd os).mono hz3.size)))
     have r4:=fun (dd:Nat) (os:Array Obj)=>Calls.regrown_of (HS3.out (grow (redrawn wz dd) os) (hz3.trans ((below_regrown wz dd os).mono hz3.size)))
     have r5:=fun (dd:Nat) (os:Array Obj)=>Calls.regrown_of (HKN.out (grow (redrawn wz dd) os))
     clear hz hz2 hz3 hzk1 hzk2 ls
     refine wpSt_q ?_
     simp only [List.take_succ_cons,List.take_zero,List.drop_succ_cons,List.drop_zero]
     repeat (go_big_quiet_step (first | with_reducible exact r1 _ _ | with_reducible exact r2 _ _ | with_reducible exact r3 _ _ | with_reducible exact r4 _ _ | with_reducible exact r5 _ _))
     refine wpQuiet_nil ?_
     intro _ hw'
     obtain ⟨⟨dq,osq⟩,hw''⟩:=hw'
     subst hw''
     have HBQ:=Lib.hid (ZB.out.trans ((below_regrown wz dq osq).mono ZB.out.size))
     clear z1 z2 r1 r2 r3 r4 r5
     generalize grow (redrawn wz dq) osq=wq at HBQ ⊢
     refine wpSt_end ?_
     go_wp2_with fail
     go_ret
     exact ⟨rfl,HBQ.out⟩
    ·have hs0:s=⟨#[]⟩:=by
      have:=HNS.out
      unfold nameV at this
      split at this
      ·rename_i h2
       obtain rfl:d=0:=by omega
       injection this with this
       exact this.symm
      ·injection this with this
       exact this.symm
     subst hs0
     have ls:=trivial
     by_cases h2:0 < d
     ·have g1:decide (d > 0)=true:=decide_eq_true h2
      have g2:decide (d < 15)=false:=decide_eq_false (by omega)
      clear h1 h2
      go_enter Tryz.func7,Tryz.ntmps7
      go_upto_region 1 with (fail)
      rw [← HW.out,← HGF.out]
      go_upto_region 7 with (fail)
      refine wp_region_stages [(true,22)] (by kernel_rfl) (by kernel_rfl) fun wz hz hz2=>?_
      have hz3:=HB3.out.trans (hz.mono HB3.out.size)
      have hzk1:=K1.out.below hz3 K1.out.lt
      have hzk2:=K2.out.below hz3 K2.out.lt
      have ZB:=Lib.hid (HBW.out.trans (hz3.mono HBW.out.size))
      have z1:=fun (dd:Nat) (os:Array Obj)=>(stc_load Tryz.underlying71 rfl ft_info (hzk1.below (below_regrown wz dd os) hzk1.lt) rfl:(Instr.loadAt 71 (.pointer (some ⟨gF,0,none⟩))).run Tryz.prog (grow (redrawn wz dd) os)=.ok (.agg (ftV F)) (grow (redrawn wz dd) os))
      have z2:=fun (dd:Nat) (os:Array Obj)=>(stc_load Tryz.underlying71 rfl ft_info (hzk2.below (below_regrown wz dd os) hzk2.lt) rfl:(Instr.loadAt 71 (.pointer (some ⟨gF+1,0,none⟩))).run Tryz.prog (grow (redrawn wz dd) os)=.ok (.agg (ftV G)) (grow (redrawn wz dd) os))
      have r1:=fun (dd:Nat) (os:Array Obj)=>Calls.regrown_of (HNM.out (grow (redrawn wz dd) os))
      have r2:=fun (dd:Nat) (os:Array Obj)=>Calls.regrown_of (HS1.out (grow (redrawn wz dd) os) (hz3.trans ((below_regrown wz dd os).mono hz3.size)))
      have r3:=fun (dd:Nat) (os:Array Obj)=>Calls.regrown_of (HS2.out (grow (redrawn wz dd) os) (hz3.trans ((below_regrown wz dd os).mono hz3.size)))
      have r4:=fun (dd:Nat) (os:Array Obj)=>Calls.regrown_of (HS3.out (grow (redrawn wz dd) os) (hz3.trans ((below_regrown wz dd os).mono hz3.size)))
      have r5:=fun (dd:Nat) (os:Array Obj)=>Calls.regrown_of (HKN.out (grow (redrawn wz dd) os))
      clear hz hz2 hz3 hzk1 hzk2 ls
      refine wpSt_q ?_
      simp only [List.take_succ_cons,List.take_zero,List.drop_succ_cons,List.drop_zero]
      repeat (go_big_quiet_step (first | with_reducible exact r1 _ _ | with_reducible exact r2 _ _ | with_reducible exact r3 _ _ | with_reducible exact r4 _ _ | with_reducible exact r5 _ _))
      refine wpQuiet_nil ?_
      intro _ hw'
      obtain ⟨⟨dq,osq⟩,hw''⟩:=hw'
      subst hw''
      have HBQ:=Lib.hid (ZB.out.trans ((below_regrown wz dq osq).mono ZB.out.size))
      clear z1 z2 r1 r2 r3 r4 r5
      generalize grow (redrawn wz dq) osq=wq at HBQ ⊢
      refine wpSt_end ?_
      go_wp2_with fail
      go_ret
      exact ⟨rfl,HBQ.out⟩
     ·have g1:decide (d > 0)=false:=decide_eq_false h2
      clear h1 h2
      go_enter Tryz.func7,Tryz.ntmps7
      go_upto_region 1 with (fail)
      rw [← HW.out,← HGF.out]
      go_upto_region 7 with (fail)
      refine wp_region_stages [(true,22)] (by kernel_rfl) (by kernel_rfl) fun wz hz hz2=>?_
      have hz3:=HB3.out.trans (hz.mono HB3.out.size)
      have hzk1:=K1.out.below hz3 K1.out.lt
      have hzk2:=K2.out.below hz3 K2.out.lt
      have ZB:=Lib.hid (HBW.out.trans (hz3.mono HBW.out.size))
      have z1:=fun (dd:Nat) (os:Array Obj)=>(stc_load Tryz.underlying71 rfl ft_info (hzk1.below (below_regrown wz dd os) hzk1.lt) rfl:(Instr.loadAt 71 (.pointer (some ⟨gF,0,none⟩))).run Tryz.prog (grow (redrawn wz dd) os)=.ok (.agg (ftV F)) (grow (redrawn wz dd) os))
      have z2:=fun (dd:Nat) (os:Array Obj)=>(stc_load Tryz.underlying71 rfl ft_info (hzk2.below (below_regrown wz dd os) hzk2.lt) rfl:(Instr.loadAt 71 (.pointer (some ⟨gF+1,0,none⟩))).run Tryz.prog (grow (redrawn wz dd) os)=.ok (.agg (ftV G)) (grow (redrawn wz dd) os))
      have r1:=fun (dd:Nat) (os:Array Obj)=>Calls.regrown_of (HNM.out (grow (redrawn wz dd) os))
      have r2:=fun (dd:Nat) (os:Array Obj)=>Calls.regrown_of (HS1.out (grow (redrawn wz dd) os) (hz3.trans ((below_regrown wz dd os).mono hz3.size)))
      have r3:=fun (dd:Nat) (os:Array Obj)=>Calls.regrown_of (HS2.out (grow (redrawn wz dd) os) (hz3.trans ((below_regrown wz dd os).mono hz3.size)))
      have r4:=fun (dd:Nat) (os:Array Obj)=>Calls.regrown_of (HS3.out (grow (redrawn wz dd) os) (hz3.trans ((below_regrown wz dd os).mono hz3.size)))
      have r5:=fun (dd:Nat) (os:Array Obj)=>Calls.regrown_of (HKN.out (grow (redrawn wz dd) os))
      clear hz hz2 hz3 hzk1 hzk2 ls
      refine wpSt_q ?_
      simp only [List.take_succ_cons,List.take_zero,List.drop_succ_cons,List.drop_zero]
      repeat (go_big_quiet_step (first | with_reducible exact r1 _ _ | with_reducible exact r2 _ _ | with_reducible exact r3 _ _ | with_reducible exact r4 _ _ | with_reducible exact r5 _ _))
      refine wpQuiet_nil ?_
      intro _ hw'
      obtain ⟨⟨dq,osq⟩,hw''⟩:=hw'
      subst hw''
      have HBQ:=Lib.hid (ZB.out.trans ((below_regrown wz dq osq).mono ZB.out.size))
      clear z1 z2 r1 r2 r3 r4 r5
      generalize grow (redrawn wz dq) osq=wq at HBQ ⊢
      refine wpSt_end ?_
      go_wp2_with fail
      go_ret
      exact ⟨rfl,HBQ.out⟩
 exact key _ rfl
end Go.Proofs.YthlommalbkhcjaaGreat
