/- Tries of ways: Insert: the walk. -/
import Derived.Test.YthlommalbkhcjaaGreatNq32
import Derived.Deep.DeepCutAuto
import Derived.Deep.RegionWith
import Derived.StillTailTactics
namespace Go.Proofs.YthlommalbkhcjaaGreat
open Go.RowKit Go.Sort Go.BigFrame
variable {dc:Int→Array Value}
def InsPost (dc:Int→Array Value) (w:World) (M:Nat→Prop) (tb:Nat) (limit:Int) (T:TT) (p:Bs) (v:Int) (e:Ending) (w':World):Prop:=e=.returned (.int .i64 0)∧InsYes dc w M tb limit (T.ins p v) w'
section
variable {w wx:World} {M:Nat→Prop} {tb:Nat} {limit nn:Int} {pv0:Value} {T:TT} {p:Bs} {v:Int} {hb ho:Nat} {pv:Value} {S:TT} {Mo Ms:Nat→Prop} {f:TT→TT}
theorem InS.ldx (h:InS dc w wx M tb limit nn pv0 T p v hb ho pv S Mo Ms f) {a n:Nat} (ha:a=padB p) (hn:n=p.length):(Instr.loadAt 37 (.pointer (some ⟨w.heap.size,0,none⟩))).run Tryz.prog wx=.ok (.agg #[.int .u32 (a:Int),.int .i64 (n:Int)]) wx:=by
 subst ha
 subst hn
 exact ld_pxB h.box
theorem InS.ldn (h:InS dc w wx M tb limit nn pv0 T p v hb ho pv S Mo Ms f) {n:Nat} (hn:n=p.length):(Instr.loadAt 3 (.pointer (some ⟨w.heap.size,1,none⟩))).run Tryz.prog wx=.ok (.int .i64 (n:Int)) wx:=by
 subst hn
 exact ld_itN (h.box.cell 1)
end
theorem ins_boxes (w:World) (dv:Array Value) (a n:Nat) (_h:dv.size=257):∃ W0,W0=(w.alloc (.cells #[.int .u32 (a:Int),.int .i64 (n:Int)] 37)).alloc (.cells dv 41)∧Blk W0 w.heap.size 37 #[.int .u32 (a:Int),.int .i64 (n:Int)]∧Blk W0 (w.heap.size+1) 41 dv∧Below w.heap.size w W0:=by
 refine ⟨_,rfl,(Blk.new w _ _).alloc _,?_,((Below.refl _ _).alloc (Nat.le_refl _) _).alloc (by simp) _⟩
 have:=Blk.new (w.alloc (.cells #[.int .u32 (a:Int),.int .i64 (n:Int)] 37)) 41 dv
 rwa [show (w.alloc (.cells #[.int .u32 (a:Int),.int .i64 (n:Int)] 37)).heap.size=w.heap.size+1 by simp] at this
set_option maxRecDepth 20000 in
set_option maxHeartbeats 16000000 in
attribute [-go_sem] Instr.storeAt Instr.loadAt Instr.alloc Instr.build in
theorem insert_yes (hd:Dc dc) (p:Bs) (v:Int) (tb:Nat) (M:Nat→Prop) (limit:Int) (T:TT) (w:World) (h:IsTr dc w M tb limit T) (hp:p.length≤32) (hsm:T.list.length≤1000000) (hgt:T.get p=none) (hroom:(T.list.length:Int) < limit) :
  Calls Tryz.prog 50 #[.pointer (some ⟨tb,0,none⟩),pxV (padB p) p.length,.agg (dc v)] w (InsPost dc w M tb limit T p v):=by
 obtain ⟨pv0,hk,ht⟩:=h.ex
 have hlen:=fun v=>TT.ins_len h.wf hp v
 obtain ⟨a,ha⟩:∃ a,a=padB p:=⟨_,rfl⟩
 obtain ⟨n,hn⟩:∃ n,n=p.length:=⟨_,rfl⟩
 obtain ⟨N,hN⟩:∃ N,N=T.list.length:=⟨_,rfl⟩
 obtain ⟨W0,hW0,hx0,hv0,hb0⟩:=ins_boxes w (dc v) a n (hd.sz v)
 have HT:=Lib.hid (there_any tb _ _ _ W0 (hk.below hb0 hk.lt))
 have HM:=Lib.hid (may_yes p W0 hp)
 have HPL:=Lib.hid (fun (wx:World) (hb:Below w.heap.size w wx)=>place_any hd p tb pv0 _ _ _ T (fun k=>M k) wx (hk.below hb hk.lt) (ht.keep ⟨hb.size,fun k hm _=>hb.block k (h.lt k hm.1)⟩) h.wf hp)
 have HK:=Lib.hid hk
 have HTR:=Lib.hid h
 have HLEN:=Lib.hid hlen
 have HD:=Lib.hid hd
 rw [← hN] at HLEN HK hsm hroom
 have HGET:=Lib.hid hgt
 have hl:((T.ins p v).list.length:Int)=(N:Int)+1:=by
  have:=HLEN.out v
  rw [hgt] at this
  simp at this
  omega
 have HL:=Lib.hid hl
 have hn1:IntKind.i64.wrap ((N:Int)+1)=(N:Int)+1:=IntWalk.i64_in _ (by omega)
 have hlim:decide (limit≤(N:Int))=false:=decide_eq_false (by omega)
 rw [← ha,← hn] at HM HPL ⊢
 have HA:=Lib.hid ha
 have HN:=Lib.hid hn
 have HNN:=Lib.hid hN
 have HX0:=Lib.hid hx0
 have HV0:=Lib.hid hv0
 have HB0:=Lib.hid hb0
 have HW0:=Lib.hid hW0
 have htl:=h.lt tb h.mb
 clear h hk ht hlen ha hn hN hW0 hb0 hd hgt hl
 have lx:=ld_pxB hx0
 clear hx0 hv0
 go_enter Tryz.func50,Tryz.ntmps50
 go_upto_region 1 with (fail)
 rw [← HW0.out]
 go_wp2_with (first
  | (go_at_call 103; refine HT.out.mono ?_; rintro e w' ⟨rfl,rfl⟩)
  | (go_at_call 104; refine HM.out.mono ?_; rintro e w2 ⟨rfl,hb2⟩; have HX2:=Lib.hid (HX0.out.below hb2 HX0.out.lt); have HV2:=Lib.hid (HV0.out.below hb2 HV0.out.lt); have HB2:=Lib.hid (HB0.out.trans (hb2.mono HB0.out.size)); clear hb2 lx; have lx:=ld_pxB HX2.out))
 refine (HPL.out w2 HB2.out).mono ?_
 rintro e w4 ⟨hb,ho,pv,S,Mo,Ms,f,rfl,hb4,pat4,stop⟩
 have hb5:=HB2.out.trans (hb4.mono HB2.out.size)
 have I4:=Lib.hid (show InS dc w w4 M tb limit (N:Int) pv0 T p v hb ho pv S Mo Ms f from ⟨Upd.ofBelow hb5 _,HK.out.below hb5 HK.out.lt,by rw [← HA.out,← HN.out]; exact HX2.out.below hb4 HX2.out.lt,HV2.out.below hb4 HV2.out.lt,pat4.back HB2.out HTR.out.lt⟩)
 have STOP:=Lib.hid stop
 clear hb4 pat4 stop lx hb5
 cases S with
 | nil =>
   obtain rfl:pv=.pointer none:=I4.out.pat.tree
   have lh:=ld_ptN I4.out.hole.1
   go_upto_region 7 with (fail)
   clear lh
   refine wp_region_stages [(true,16)] (by kernel_rfl) (by kernel_rfl) fun wz hz hz2=>?_
   have ZI:=Lib.hid (I4.out.below hz)
   clear hz hz2
   refine wpSt_q ?_
   simp only [List.take_succ_cons,List.take_zero,List.drop_succ_cons,List.drop_zero]
   repeat (go_big_quiet_step (fail))
   refine wpQuiet_nil ?_
   intro _ hw'
   obtain ⟨⟨dq,osq⟩,hw''⟩:=hw'
   subst hw''
   have hiq:=ZI.out.below (below_regrown wz dq osq)
   generalize grow (redrawn wz dq) osq=wq at hiq ⊢
   have I5:=Lib.hid hiq
   clear hiq ZI dq osq wz
   refine wpSt_end ?_
   go_wp2_with fail
   refine wp_region_stages [(true,9)] (by kernel_rfl) (by kernel_rfl) fun wz hz hz2=>?_
   have ZI:=Lib.hid (I5.out.below hz)
   clear hz hz2
   have q0:=fun (dd:Nat) (os:Array Obj)=>ld_itN ((ZI.out.below (below_regrown wz dd os)).tbk.cell 2)
   have q1:=fun (dd:Nat) (os:Array Obj)=>ld_itN ((ZI.out.below (below_regrown wz dd os)).tbk.cell 1)
   refine wpSt_q ?_
   simp only [List.take_succ_cons,List.take_zero,List.drop_succ_cons,List.drop_zero]
   repeat (go_big_quiet_step (fail))
   refine wpQuiet_nil ?_
   intro _ hw'
   obtain ⟨⟨dq,osq⟩,hw''⟩:=hw'
   subst hw''
   have hiq:=ZI.out.below (below_regrown wz dq osq)
   clear q0 q1
   generalize grow (redrawn wz dq) osq=wq at hiq ⊢
   have I6:=Lib.hid hiq
   clear hiq ZI dq osq wz
   refine wpSt_end ?_
   have l2:=ld_itN (I6.out.tbk.cell 2)
   have s2:=st_itN (I6.out.tbk.cell 2) (I6.out.tbk.frozen 2) ((N:Int)+1)
   go_upto_region 13 with (fail)
   clear l2 s2
   have hi5:=I6.out.count htl ((N:Int)+1)
   obtain ⟨w5,hw5⟩:∃ Z,Z=wq.setCell ⟨tb,2,none⟩ (.int .i64 ((N:Int)+1)):=⟨_,rfl⟩
   rw [← hw5] at hi5 ⊢
   clear hw5
   have I7:=Lib.hid hi5
   clear hi5
   refine wp_region_stages [(true,10)] (by kernel_rfl) (by kernel_rfl) fun wz hz hz2=>?_
   have ZI:=Lib.hid (I7.out.below hz)
   clear hz hz2
   refine wpSt_q ?_
   simp only [List.take_succ_cons,List.take_zero,List.drop_succ_cons,List.drop_zero]
   repeat (go_big_quiet_step (fail))
   refine wpQuiet_nil ?_
   intro _ hw'
   obtain ⟨⟨dq,osq⟩,hw''⟩:=hw'
   subst hw''
   have hiq:=ZI.out.below (below_regrown wz dq osq)
   generalize grow (redrawn wz dq) osq=wq at hiq ⊢
   have I8:=Lib.hid hiq
   clear hiq ZI dq osq wz
   refine wpSt_end ?_
   have lx:=I8.out.ldx HA.out HN.out
   have lw:=ld_wyB I8.out.way (HD.out.sz v)
   have bd:=fun (wx:World)=>bd_node wx (a:Int) (n:Int) (dc v) (HD.out.sz v) true
   go_upto_region 17 with (fail)
   clear lx lw bd
   have hi6:=I8.out.below ((Below.refl _ _).alloc (Nat.le_refl _) (.cells (ndX (a:Int) (n:Int) (dc v) true (.pointer none) (.pointer none)) 192))
   have hf6:=Blk.new wq 192 (ndX (a:Int) (n:Int) (dc v) true (.pointer none) (.pointer none))
   obtain ⟨fb,hfb⟩:∃ fb,fb=wq.heap.size:=⟨_,rfl⟩
   have hbl5:w.heap.size+1 < fb:=by rw [hfb]; exact I8.out.way.lt
   obtain ⟨w6,hw6⟩:∃ Z,Z=wq.alloc (.cells (ndX (a:Int) (n:Int) (dc v) true (.pointer none) (.pointer none)) 192):=⟨_,rfl⟩
   rw [← hw6] at hi6 hf6 ⊢
   rw [← hfb] at hf6 ⊢
   clear hw6 hfb
   have I9:=Lib.hid hi6
   have HF6:=Lib.hid hf6
   clear hi6 hf6
   have sh:=st_ptN I9.out.hole.1 I9.out.hole.2 (some ⟨fb,0,none⟩)
   go_wp2_with fail
   go_ret
   have i7:=I9.out
   rw [← HL.out] at i7
   refine ⟨rfl,InS.fin HTR.out hp i7 (M2:=fun k=>k=fb) ?_ (fun k hk=>.inr (by rw [hk]; omega))⟩
   refine ⟨fb,.pointer none,.pointer none,fun _=>False,fun _=>False,rfl,?_,rfl,fun _ h=>h.elim,fun _ h=>h.elim,fun _ h=>h.elim,rfl,rfl⟩
   have:=HF6.out
   rw [HA.out,HN.out] at this
   exact this
 | node q x g l r =>
   obtain ⟨b,pl,pr,Ml,Mr,h1,h2,hmb,h4,h5,h6,h7,h8⟩:=I4.out.pat.tree
   obtain ⟨c,hc,w1,qw,_⟩:=I4.out.pat.ctx
   subst h1
   have hbt:b≠tb:=(I4.out.pat.ms b hmb).2
   have hkb:=I4.out.blk h2 hbt
   unfold ndC at hkb
   have hblt:=h2.lt
   obtain ⟨qa,hqa⟩:∃ qa,qa=padB q:=⟨_,rfl⟩
   obtain ⟨qn,hqn⟩:∃ qn,qn=q.length:=⟨_,rfl⟩
   rw [← hqa,← hqn] at hkb
   have HQA:=Lib.hid hqa
   have HQN:=Lib.hid hqn
   have K4:=Lib.hid hkb
   have H4:=Lib.hid h4
   have H5:=Lib.hid h5
   have H6:=Lib.hid h6
   have H7:=Lib.hid h7
   have H8:=Lib.hid h8
   clear h2 hkb hqa hqn hc w1 h4 h5 h6 h7 h8
   have lh:=ld_ptN I4.out.hole.1
   by_cases he:q=p
   ·have e1:qa=a:=by rw [HQA.out,HA.out,he]
    have e2:qn=n:=by rw [HQN.out,HN.out,he]
    subst e1; subst e2
    have hq2:∀ w,(binOp .eql 37 (.agg #[.int .u32 (qa:Int),.int .i64 (qn:Int)]) (.agg #[.int .u32 (qa:Int),.int .i64 (qn:Int)])).run Tryz.prog w=.ok (.bool true) w:=fun w=>by
     rw [eql_px,decide_eq_true]
     exact ⟨rfl,rfl⟩
    have hgf:g=false:=by
     have:=HGET.out
     rw [I4.out.pat.get,TT.get,if_pos he] at this
     cases g
     ·rfl
     ·cases this
    subst hgf
    have HINS:=Lib.hid (show (TT.node q x false l r).ins p v=.node q v true l r by rw [TT.ins,if_pos he])
    clear he
    go_upto_region 7 with (fail)
    clear lh
    refine wp_region_stages [(true,16)] (by kernel_rfl) (by kernel_rfl) fun wz hz hz2=>?_
    have ZI:=Lib.hid (I4.out.below hz)
    have ZK:=Lib.hid (K4.out.below hz K4.out.lt)
    clear hz hz2
    have q0:=fun (dd:Nat) (os:Array Obj)=>(ZI.out.below (below_regrown wz dd os)).ldx HA.out HN.out
    have q1:=fun (dd:Nat) (os:Array Obj)=>ld_ndP (ZK.out.below (below_regrown wz dd os) ZK.out.lt)
    have q2:=fun (dd:Nat) (os:Array Obj)=>ld_ndH (ZK.out.below (below_regrown wz dd os) ZK.out.lt) (HD.out.sz x)
    refine wpSt_q ?_
    simp only [List.take_succ_cons,List.take_zero,List.drop_succ_cons,List.drop_zero]
    repeat (go_big_quiet_step (fail))
    refine wpQuiet_nil ?_
    intro _ hw'
    obtain ⟨⟨dq,osq⟩,hw''⟩:=hw'
    subst hw''
    have hiq:=ZI.out.below (below_regrown wz dq osq)
    have hkq:=ZK.out.below (below_regrown wz dq osq) ZK.out.lt
    clear q0 q1 q2
    generalize grow (redrawn wz dq) osq=wq at hiq hkq ⊢
    have I5:=Lib.hid hiq
    have K5:=Lib.hid hkq
    clear hiq hkq ZI ZK dq osq wz
    refine wpSt_end ?_
    go_wp2_with fail
    refine wp_region_stages [(true,9)] (by kernel_rfl) (by kernel_rfl) fun wz hz hz2=>?_
    have ZI:=Lib.hid (I5.out.below hz)
    have ZK:=Lib.hid (K5.out.below hz K5.out.lt)
    clear hz hz2
    have q0:=fun (dd:Nat) (os:Array Obj)=>ld_itN ((ZI.out.below (below_regrown wz dd os)).tbk.cell 2)
    have q1:=fun (dd:Nat) (os:Array Obj)=>ld_itN ((ZI.out.below (below_regrown wz dd os)).tbk.cell 1)
    refine wpSt_q ?_
    simp only [List.take_succ_cons,List.take_zero,List.drop_succ_cons,List.drop_zero]
    repeat (go_big_quiet_step (fail))
    refine wpQuiet_nil ?_
    intro _ hw'
    obtain ⟨⟨dq,osq⟩,hw''⟩:=hw'
    subst hw''
    have hiq:=ZI.out.below (below_regrown wz dq osq)
    have hkq:=ZK.out.below (below_regrown wz dq osq) ZK.out.lt
    clear q0 q1
    generalize grow (redrawn wz dq) osq=wq at hiq hkq ⊢
    have I6:=Lib.hid hiq
    have K6:=Lib.hid hkq
    clear hiq hkq ZI ZK dq osq wz
    refine wpSt_end ?_
    have l2:=ld_itN (I6.out.tbk.cell 2)
    have s2:=st_itN (I6.out.tbk.cell 2) (I6.out.tbk.frozen 2) ((N:Int)+1)
    go_upto_region 13 with (fail)
    clear l2 s2
    have hi5:=I6.out.count htl ((N:Int)+1)
    have hk5:=K6.out.far (p:=⟨tb,2,none⟩) hbt (.int .i64 ((N:Int)+1))
    obtain ⟨w5,hw5⟩:∃ Z,Z=wq.setCell ⟨tb,2,none⟩ (.int .i64 ((N:Int)+1)):=⟨_,rfl⟩
    rw [← hw5] at hi5 hk5 ⊢
    clear hw5
    have I7:=Lib.hid hi5
    have K7:=Lib.hid hk5
    clear hi5 hk5
    refine wp_region_stages [(true,10)] (by kernel_rfl) (by kernel_rfl) fun wz hz hz2=>?_
    have ZI:=Lib.hid (I7.out.below hz)
    have ZK:=Lib.hid (K7.out.below hz K7.out.lt)
    clear hz hz2
    have q0:=fun (dd:Nat) (os:Array Obj)=>(ZI.out.below (below_regrown wz dd os)).ldx HA.out HN.out
    have q1:=fun (dd:Nat) (os:Array Obj)=>ld_ndP (ZK.out.below (below_regrown wz dd os) ZK.out.lt)
    refine wpSt_q ?_
    simp only [List.take_succ_cons,List.take_zero,List.drop_succ_cons,List.drop_zero]
    repeat (go_big_quiet_step (fail))
    refine wpQuiet_nil ?_
    intro _ hw'
    obtain ⟨⟨dq,osq⟩,hw''⟩:=hw'
    subst hw''
    have hiq:=ZI.out.below (below_regrown wz dq osq)
    have hkq:=ZK.out.below (below_regrown wz dq osq) ZK.out.lt
    clear q0 q1
    generalize grow (redrawn wz dq) osq=wq at hiq hkq ⊢
    have I8:=Lib.hid hiq
    have K8:=Lib.hid hkq
    clear hiq hkq ZI ZK dq osq wz
    refine wpSt_end ?_
    have lw:=ld_wyB I8.out.way (HD.out.sz v)
    have st:=st_way K8.out (HD.out.sz x) (HD.out.sz v) (HD.out.one v)
    have hk9:=blk_setWay K8.out (HD.out.sz x) (HD.out.sz v)
    have st2:=st_btN (hk9.cell 259 |>.trans (ndX_h (HD.out.sz v))) (hk9.frozen 259) true
    have HK9:=Lib.hid hk9
    clear hk9
    go_wp2_with fail
    go_ret
    have hu:Upd (only b) wq ((wq.setCells b 2 (dc v).toList).setCell ⟨b,259,none⟩ (.bool true)):=Upd.setCell (F:=only b) (Upd.setCells (dc v).toList 2 wq (Upd.refl (only b) wq) (.inl rfl)) (p:=⟨b,259,none⟩) (.inl rfl) _
    have i7:=I8.out
    rw [← HL.out] at i7
    refine ⟨rfl,InS.fin2 HTR.out hp i7 hmb hu ?_⟩
    rw [HINS.out]
    refine ⟨b,pl,pr,Ml,Mr,rfl,?_,hmb,H4.out,H5.out,H6.out,?_,?_⟩
    ·have:=HK9.out.set_ 259 (.bool true)
     rw [ndX_setH (HD.out.sz v),HQA.out,HQN.out] at this
     exact this
    ·exact (H7.out.blk fun k hk cs hcs=>(I8.out.blk hcs (I4.out.pat.ms k (H4.out k hk).1).2).upd hu (fun e=>(H4.out k hk).2 e))
    ·exact (H8.out.blk fun k hk cs hcs=>(I8.out.blk hcs (I4.out.pat.ms k (H5.out k hk).1).2).upd hu (fun e=>(H5.out k hk).2 e))
   ·have hpre:¬ q <+: p:=by
     rcases STOP.out with h | h
     ·exact absurd h he
     ·exact h
    have hne:¬ (qa=a∧qn=n):=fun ⟨e1,e2⟩=>he (by
     rw [HQA.out,HA.out] at e1
     rw [HQN.out,HN.out] at e2
     exact pad_inj qw e2 e1)
    have hq1:∀ w,(binOp .eql 37 (.agg #[.int .u32 (qa:Int),.int .i64 (qn:Int)]) (.agg #[.int .u32 (a:Int),.int .i64 (n:Int)])).run Tryz.prog w=.ok (.bool false) w:=fun w=>by
     rw [eql_px,decide_eq_false]
     exact fun h=>hne ⟨h.1,by have:=h.2; omega⟩
    have hins:(TT.node q x g l r).ins p v=if lcpB q p=p then (if nth q p.length then .node p v true .nil (.node q x g l r) else .node p v true (.node q x g l r) .nil)
      else fork (lcpB q p) (nth p (lcpB q p).length) (.node p v true .nil .nil) (.node q x g l r):=by
     rw [TT.ins,if_neg he,if_neg hpre]
    have HINS:=Lib.hid hins
    have HE:=Lib.hid he
    have HPRE:=Lib.hid hpre
    clear he hins hpre hne
    go_upto_region 7 with (fail)
    clear lh
    refine wp_region_stages [(true,16)] (by kernel_rfl) (by kernel_rfl) fun wz hz hz2=>?_
    have ZI:=Lib.hid (I4.out.below hz)
    have ZK:=Lib.hid (K4.out.below hz K4.out.lt)
    clear hz hz2
    have q0:=fun (dd:Nat) (os:Array Obj)=>(ZI.out.below (below_regrown wz dd os)).ldx HA.out HN.out
    have q1:=fun (dd:Nat) (os:Array Obj)=>ld_ndP (ZK.out.below (below_regrown wz dd os) ZK.out.lt)
    refine wpSt_q ?_
    simp only [List.take_succ_cons,List.take_zero,List.drop_succ_cons,List.drop_zero]
    repeat (go_big_quiet_step (fail))
    refine wpQuiet_nil ?_
    intro _ hw'
    obtain ⟨⟨dq,osq⟩,hw''⟩:=hw'
    subst hw''
    have hiq:=ZI.out.below (below_regrown wz dq osq)
    have hkq:=ZK.out.below (below_regrown wz dq osq) ZK.out.lt
    clear q0 q1
    generalize grow (redrawn wz dq) osq=wq at hiq hkq ⊢
    have I5:=Lib.hid hiq
    have K5:=Lib.hid hkq
    clear hiq hkq ZI ZK dq osq wz
    refine wpSt_end ?_
    go_wp2_with fail
    refine wp_region_stages [(true,9)] (by kernel_rfl) (by kernel_rfl) fun wz hz hz2=>?_
    have ZI:=Lib.hid (I5.out.below hz)
    have ZK:=Lib.hid (K5.out.below hz K5.out.lt)
    clear hz hz2
    have q0:=fun (dd:Nat) (os:Array Obj)=>ld_itN ((ZI.out.below (below_regrown wz dd os)).tbk.cell 2)
    have q1:=fun (dd:Nat) (os:Array Obj)=>ld_itN ((ZI.out.below (below_regrown wz dd os)).tbk.cell 1)
    refine wpSt_q ?_
    simp only [List.take_succ_cons,List.take_zero,List.drop_succ_cons,List.drop_zero]
    repeat (go_big_quiet_step (fail))
    refine wpQuiet_nil ?_
    intro _ hw'
    obtain ⟨⟨dq,osq⟩,hw''⟩:=hw'
    subst hw''
    have hiq:=ZI.out.below (below_regrown wz dq osq)
    have hkq:=ZK.out.below (below_regrown wz dq osq) ZK.out.lt
    clear q0 q1
    generalize grow (redrawn wz dq) osq=wq at hiq hkq ⊢
    have I6:=Lib.hid hiq
    have K6:=Lib.hid hkq
    clear hiq hkq ZI ZK dq osq wz
    refine wpSt_end ?_
    have l2:=ld_itN (I6.out.tbk.cell 2)
    have s2:=st_itN (I6.out.tbk.cell 2) (I6.out.tbk.frozen 2) ((N:Int)+1)
    go_upto_region 13 with (fail)
    clear l2 s2
    have hi5:=I6.out.count htl ((N:Int)+1)
    have hk5:=K6.out.far (p:=⟨tb,2,none⟩) hbt (.int .i64 ((N:Int)+1))
    obtain ⟨w5,hw5⟩:∃ Z,Z=wq.setCell ⟨tb,2,none⟩ (.int .i64 ((N:Int)+1)):=⟨_,rfl⟩
    rw [← hw5] at hi5 hk5 ⊢
    clear hw5
    have I7:=Lib.hid hi5
    have K7:=Lib.hid hk5
    clear hi5 hk5
    refine wp_region_stages [(true,10)] (by kernel_rfl) (by kernel_rfl) fun wz hz hz2=>?_
    have ZI:=Lib.hid (I7.out.below hz)
    have ZK:=Lib.hid (K7.out.below hz K7.out.lt)
    clear hz hz2
    have q0:=fun (dd:Nat) (os:Array Obj)=>(ZI.out.below (below_regrown wz dd os)).ldx HA.out HN.out
    have q1:=fun (dd:Nat) (os:Array Obj)=>ld_ndP (ZK.out.below (below_regrown wz dd os) ZK.out.lt)
    refine wpSt_q ?_
    simp only [List.take_succ_cons,List.take_zero,List.drop_succ_cons,List.drop_zero]
    repeat (go_big_quiet_step (fail))
    refine wpQuiet_nil ?_
    intro _ hw'
    obtain ⟨⟨dq,osq⟩,hw''⟩:=hw'
    subst hw''
    have hiq:=ZI.out.below (below_regrown wz dq osq)
    have hkq:=ZK.out.below (below_regrown wz dq osq) ZK.out.lt
    clear q0 q1
    generalize grow (redrawn wz dq) osq=wq at hiq hkq ⊢
    have I8:=Lib.hid hiq
    have K8:=Lib.hid hkq
    clear hiq hkq ZI ZK dq osq wz
    refine wpSt_end ?_
    have lx:=I8.out.ldx HA.out HN.out
    have lw:=ld_wyB I8.out.way (HD.out.sz v)
    have bd:=fun (wx:World)=>bd_node wx (a:Int) (n:Int) (dc v) (HD.out.sz v) true
    go_upto_region 17 with (fail)
    clear lx lw bd
    have hi6:=I8.out.below ((Below.refl _ _).alloc (Nat.le_refl _) (.cells (ndX (a:Int) (n:Int) (dc v) true (.pointer none) (.pointer none)) 192))
    have hf6:=Blk.new wq 192 (ndX (a:Int) (n:Int) (dc v) true (.pointer none) (.pointer none))
    have hk6:=K8.out.alloc (.cells (ndX (a:Int) (n:Int) (dc v) true (.pointer none) (.pointer none)) 192)
    obtain ⟨fb,hfb⟩:∃ fb,fb=wq.heap.size:=⟨_,rfl⟩
    have hbl5:w.heap.size+1 < fb:=by rw [hfb]; exact I8.out.way.lt
    obtain ⟨w6,hw6⟩:∃ Z,Z=wq.alloc (.cells (ndX (a:Int) (n:Int) (dc v) true (.pointer none) (.pointer none)) 192):=⟨_,rfl⟩
    rw [← hw6] at hi6 hf6 hk6 ⊢
    rw [← hfb] at hf6 ⊢
    clear hw6 hfb
    have I9:=Lib.hid hi6
    have HF6:=Lib.hid hf6
    have K9:=Lib.hid hk6
    clear hi6 hf6 hk6
    obtain ⟨ca,hca⟩:∃ ca,ca=padB (lcpB q p):=⟨_,rfl⟩
    obtain ⟨cn,hcn⟩:∃ cn,cn=(lcpB q p).length:=⟨_,rfl⟩
    have hcm:=fun (wx:World)=>common_any q p wx qw hp
    rw [← HQA.out,← HQN.out,← HA.out,← HN.out,← hca,← hcn] at hcm
    have HC:=Lib.hid hcm
    have HCA:=Lib.hid hca
    have HCN:=Lib.hid hcn
    clear hcm hca hcn
    go_upto_region 20 with (fail)
    have HBN:=Lib.hid (Below.refl w6.heap.size w6)
    refine wp_region_mix [(true,6),(false,2)] 1 (by kernel_rfl) (fun wx=>Below w6.heap.size w6 wx) (fun _ _ h k=>h.trans (k.mono h.size)) (by kernel_rfl) HBN.out (a':=?_) (fun wz hz=>?_) fun wz hz=>?_
    rotate_left
    ·have hb':=fun (dd:Nat) (os:Array Obj)=>hz.trans ((below_regrown wz dd os).mono hz.size)
     have q0:=fun (dd:Nat) (os:Array Obj)=>ld_ndP (K9.out.below (hb' dd os) K9.out.lt)
     have q1:=fun (dd:Nat) (os:Array Obj)=>(I9.out.below (hb' dd os)).ldx HA.out HN.out
     have q2:=fun (dd:Nat) (os:Array Obj)=>Calls.regrown_of (HC.out (grow (redrawn wz dd) os))
     clear hz hb'
     simp only [pick_nil,pick_tt,pick_ft,List.take_succ_cons,List.take_zero,List.drop_succ_cons,List.drop_zero,List.append_nil]
     repeat (go_big_quiet_step (with_reducible exact q2 _ _))
     refine wpQuiet_nil ?_
     rfl
    simp only [pick_nil,pick_ff,pick_tf,List.take_succ_cons,List.take_zero,List.drop_succ_cons,List.drop_zero,List.append_nil]
    have HZ:=Lib.hid (HBN.out.trans (hz.mono HBN.out.size))
    clear hz
    have hal:=px_alloc
    refine wpMix_step HZ.out fun wa ha=>?_
    have HAA:=Lib.hid (HZ.out.trans (ha.mono HZ.out.size))
    clear ha
    go_wp2_with fail
    clear hal
    obtain ⟨cb,hcb⟩:∃ b,b=wa.heap.size:=⟨_,rfl⟩
    obtain ⟨W3,hW3⟩:∃ Z,Z=wa.alloc (.cells #[.int .u32 0,.int .i64 0] 37):=⟨_,rfl⟩
    rw [← hW3,← hcb]
    have hb3:Below wa.heap.size wa W3:=by rw [hW3]; exact (Below.refl _ _).alloc (Nat.le_refl _) _
    have HC3:=Lib.hid (show Blk W3 cb 37 #[.int .u32 0,.int .i64 0] by rw [hW3,hcb]; exact Blk.new _ _ _)
    have HB23:=Lib.hid (HAA.out.trans (hb3.mono HAA.out.size))
    have hcb6:w6.heap.size≤cb:=by rw [hcb]; exact HAA.out.size
    clear hb3 hW3 hcb
    refine wpMix_step HB23.out fun wb hbb=>?_
    have HBB:=Lib.hid (HB23.out.trans (hbb.mono HB23.out.size))
    have hkc:=HC3.out.below hbb HC3.out.lt
    have st:(Instr.storeAt 37 (.pointer (some ⟨cb,0,none⟩)) (.agg #[.int .u32 (ca:Int),.int .i64 (cn:Int)])).run Tryz.prog wb=.ok () (wb.setCells cb 0 (#[Value.int .u32 (ca:Int),.int .i64 (cn:Int)]:Array Value).toList):=stc_store px_info hkc rfl rfl (by simp [Value.oneCell'])
    obtain ⟨wc,hwc⟩:∃ Z,Z=wb.setCells cb 0 (#[Value.int .u32 (ca:Int),.int .i64 (cn:Int)]:Array Value).toList:=⟨_,rfl⟩
    rw [← hwc] at st
    have HKC:=Lib.hid (show Blk wc cb 37 #[.int .u32 (ca:Int),.int .i64 (cn:Int)] by rw [hwc]; exact blk_setCells hkc rfl)
    have hbl:Below w6.heap.size w6 wc:=by rw [hwc]; exact below_setCells hcb6 _ _ _ HBB.out
    have I7c:=Lib.hid (I9.out.below hbl)
    have HF7:=Lib.hid (HF6.out.below hbl HF6.out.lt)
    have K7c:=Lib.hid (K9.out.below hbl K9.out.lt)
    have hbl7:=hbl.size
    have hfb6:=HF6.out.lt
    clear hkc hbb hwc hbl
    go_wp2_with fail
    refine wpMix_plain ?_
    clear st
    have lc:=ld_pxB HKC.out
    have lx:=I7c.out.ldx HA.out HN.out
    have hfh:fb≠hb:=fun e=>by
     have:hb < w.heap.size:=by
      by_cases e2:hb=tb
      ·rw [e2]; exact htl
      ·exact HTR.out.lt hb (I7c.out.pat.mo hb (I7c.out.pat.hole e2).1).1
     omega
    by_cases hcp:lcpB q p=p
    ·have e1:ca=a:=by rw [HCA.out,HA.out,hcp]
     have e2:cn=n:=by rw [HCN.out,HN.out,hcp]
     subst e1; subst e2
     have hq2:∀ w,(binOp .eql 37 (.agg #[.int .u32 (ca:Int),.int .i64 (cn:Int)]) (.agg #[.int .u32 (ca:Int),.int .i64 (cn:Int)])).run Tryz.prog w=.ok (.bool true) w:=fun w=>by
      rw [eql_px,decide_eq_true]
      exact ⟨rfl,rfl⟩
     have hpq:p <+: q:=by rw [← hcp]; exact lcp_left q p
     have hplt:p.length < q.length:=Nat.lt_of_le_of_ne hpq.length_le fun e=>HE.out (hpq.eq_of_length e).symm
     have hbi:bitI qa cn=if nth q p.length then 1 else 0:=by
      unfold bitI bitB nth
      rw [HQA.out,HN.out,padB_bit q qw p.length (by omega)]
     have hqa32:qa < 2 ^ 32:=by rw [HQA.out]; exact padB_lt q qw
     have hbc:=fun (wx:World)=>tbit_any qa cn wx (by rw [HN.out]; omega) hqa32
     have HCP:=Lib.hid hcp
     clear hcp hpq hplt hqa32
     cases hdir:nth q p.length with
     | false =>
       rw [hdir,if_neg (by decide)] at hbi
       rw [hbi] at hbc
       have HDIR:=Lib.hid hdir
       have HBC:=Lib.hid hbc
       clear hbi hdir hbc
       go_upto_region 22 with (fail)
       clear lc lx
       refine wp_region_stages [(true,13),(false,1)] (by kernel_rfl) (by kernel_rfl) fun wz hz hz2=>?_
       have ZI:=Lib.hid (I7c.out.below hz)
       have ZK:=Lib.hid (K7c.out.below hz K7c.out.lt)
       have ZF:=Lib.hid (HF7.out.below hz HF7.out.lt)
       clear hz hz2
       have q0:=fun (dd:Nat) (os:Array Obj)=>ld_ndA (ZK.out.below (below_regrown wz dd os) ZK.out.lt)
       have q1:=fun (dd:Nat) (os:Array Obj)=>(ZI.out.below (below_regrown wz dd os)).ldn HN.out
       have q2:=fun (dd:Nat) (os:Array Obj)=>Calls.regrown_of ((HBC.out (grow (redrawn wz dd) os)).mono fun _ _ ⟨h,hw⟩=>⟨h,hw ▸ Below.refl _ _⟩)
       refine wpSt_q ?_
       simp only [List.take_succ_cons,List.take_zero,List.drop_succ_cons,List.drop_zero]
       repeat (go_big_quiet_step (with_reducible exact q2 _ _))
       refine wpQuiet_nil ?_
       intro _ hw'
       obtain ⟨⟨dq,osq⟩,hw''⟩:=hw'
       subst hw''
       have hiq:=ZI.out.below (below_regrown wz dq osq)
       have hfq:=ZF.out.below (below_regrown wz dq osq) ZF.out.lt
       clear q0 q1 q2
       generalize grow (redrawn wz dq) osq=wq2 at hiq hfq ⊢
       have st:=st_ptN (hfq.cell 260 |>.trans (ndX_l (HD.out.sz v))) (hfq.frozen 260) (some ⟨b,0,none⟩)
       have hn8:Blk (wq2.setCell ⟨fb,260,none⟩ (.pointer (some ⟨b,0,none⟩))) fb 192 (ndC dc p v true (.pointer (some ⟨b,0,none⟩)) (.pointer none)):=by
        have:=hfq.set_ 260 (.pointer (some ⟨b,0,none⟩))
        rw [ndX_setL (HD.out.sz v),HA.out,HN.out] at this
        exact this
       have i8:InS dc w (wq2.setCell ⟨fb,260,none⟩ (.pointer (some ⟨b,0,none⟩))) M tb limit ((N:Int)+1) pv0 T p v hb ho (.pointer (some ⟨b,0,none⟩)) (.node q x g l r) Mo Ms f :=
        ⟨hiq.upd.setCell (p:=⟨fb,260,none⟩) (.inr (by show w.heap.size≤fb; omega)) _,hiq.tbk.far (p:=⟨fb,260,none⟩) (by show tb≠fb; omega) _,hiq.box.far (p:=⟨fb,260,none⟩) (by show w.heap.size≠fb; omega) _,hiq.way.far (p:=⟨fb,260,none⟩) (by show w.heap.size+1≠fb; omega) _,hiq.pat⟩
       obtain ⟨w8,hw8⟩:∃ Z,Z=wq2.setCell ⟨fb,260,none⟩ (.pointer (some ⟨b,0,none⟩)):=⟨_,rfl⟩
       rw [← hw8] at st hn8 i8
       have HN8:=Lib.hid hn8
       have I8c:=Lib.hid i8
       have sh:=st_ptN i8.hole.1 i8.hole.2 (some ⟨fb,0,none⟩)
       clear hiq hfq hw8 hn8 i8
       refine wpSt_l ?_
       simp only [List.take_succ_cons,List.take_zero,List.drop_succ_cons,List.drop_zero]
       go_wp2_with fail
       refine wpSt_end ?_
       go_wp2_with fail
       go_ret
       have i8:=I8c.out
       rw [← HL.out] at i8
       have hn8:=HN8.out
       have ht8:IsT dc w8 Ms (.pointer (some ⟨b,0,none⟩)) (.node q x g l r):=I7c.out.pat.tree.blk fun k hk cs hcs=>i8.blk hcs (I7c.out.pat.ms k hk).2
       refine ⟨rfl,InS.fin HTR.out hp i8 (M2:=fun k=>k=fb∨Ms k) ?_ (fun k hk=>hk.elim (fun e=>.inr (by omega)) .inl)⟩
       rw [HINS.out,if_pos HCP.out,HDIR.out]
       exact ⟨fb,_,_,Ms,fun _=>False,rfl,hn8,.inl rfl,fun k hk=>⟨.inr hk,fun e=>by have:=HTR.out.lt k (I7c.out.pat.ms k hk).1; omega⟩,fun _ h=>h.elim,fun _ _ h=>h,ht8,rfl⟩
     | true =>
       rw [hdir,if_pos rfl] at hbi
       rw [hbi] at hbc
       have HDIR:=Lib.hid hdir
       have HBC:=Lib.hid hbc
       clear hbi hdir hbc
       go_upto_region 22 with (fail)
       clear lc lx
       refine wp_region_stages [(true,13),(false,1)] (by kernel_rfl) (by kernel_rfl) fun wz hz hz2=>?_
       have ZI:=Lib.hid (I7c.out.below hz)
       have ZK:=Lib.hid (K7c.out.below hz K7c.out.lt)
       have ZF:=Lib.hid (HF7.out.below hz HF7.out.lt)
       clear hz hz2
       have q0:=fun (dd:Nat) (os:Array Obj)=>ld_ndA (ZK.out.below (below_regrown wz dd os) ZK.out.lt)
       have q1:=fun (dd:Nat) (os:Array Obj)=>(ZI.out.below (below_regrown wz dd os)).ldn HN.out
       have q2:=fun (dd:Nat) (os:Array Obj)=>Calls.regrown_of ((HBC.out (grow (redrawn wz dd) os)).mono fun _ _ ⟨h,hw⟩=>⟨h,hw ▸ Below.refl _ _⟩)
       refine wpSt_q ?_
       simp only [List.take_succ_cons,List.take_zero,List.drop_succ_cons,List.drop_zero]
       repeat (go_big_quiet_step (with_reducible exact q2 _ _))
       refine wpQuiet_nil ?_
       intro _ hw'
       obtain ⟨⟨dq,osq⟩,hw''⟩:=hw'
       subst hw''
       have hiq:=ZI.out.below (below_regrown wz dq osq)
       have hfq:=ZF.out.below (below_regrown wz dq osq) ZF.out.lt
       clear q0 q1 q2
       generalize grow (redrawn wz dq) osq=wq2 at hiq hfq ⊢
       have st:=st_ptN (hfq.cell 261 |>.trans (ndX_r (HD.out.sz v))) (hfq.frozen 261) (some ⟨b,0,none⟩)
       have hn8:Blk (wq2.setCell ⟨fb,261,none⟩ (.pointer (some ⟨b,0,none⟩))) fb 192 (ndC dc p v true (.pointer none) (.pointer (some ⟨b,0,none⟩))):=by
        have:=hfq.set_ 261 (.pointer (some ⟨b,0,none⟩))
        rw [ndX_setR (HD.out.sz v),HA.out,HN.out] at this
        exact this
       have i8:InS dc w (wq2.setCell ⟨fb,261,none⟩ (.pointer (some ⟨b,0,none⟩))) M tb limit ((N:Int)+1) pv0 T p v hb ho (.pointer (some ⟨b,0,none⟩)) (.node q x g l r) Mo Ms f :=
        ⟨hiq.upd.setCell (p:=⟨fb,261,none⟩) (.inr (by show w.heap.size≤fb; omega)) _,hiq.tbk.far (p:=⟨fb,261,none⟩) (by show tb≠fb; omega) _,hiq.box.far (p:=⟨fb,261,none⟩) (by show w.heap.size≠fb; omega) _,hiq.way.far (p:=⟨fb,261,none⟩) (by show w.heap.size+1≠fb; omega) _,hiq.pat⟩
       obtain ⟨w8,hw8⟩:∃ Z,Z=wq2.setCell ⟨fb,261,none⟩ (.pointer (some ⟨b,0,none⟩)):=⟨_,rfl⟩
       rw [← hw8] at st hn8 i8
       have HN8:=Lib.hid hn8
       have I8c:=Lib.hid i8
       have sh:=st_ptN i8.hole.1 i8.hole.2 (some ⟨fb,0,none⟩)
       clear hiq hfq hw8 hn8 i8
       refine wpSt_l ?_
       simp only [List.take_succ_cons,List.take_zero,List.drop_succ_cons,List.drop_zero]
       go_wp2_with fail
       refine wpSt_end ?_
       go_wp2_with fail
       go_ret
       have i8:=I8c.out
       rw [← HL.out] at i8
       have hn8:=HN8.out
       have ht8:IsT dc w8 Ms (.pointer (some ⟨b,0,none⟩)) (.node q x g l r):=I7c.out.pat.tree.blk fun k hk cs hcs=>i8.blk hcs (I7c.out.pat.ms k hk).2
       refine ⟨rfl,InS.fin HTR.out hp i8 (M2:=fun k=>k=fb∨Ms k) ?_ (fun k hk=>hk.elim (fun e=>.inr (by omega)) .inl)⟩
       rw [HINS.out,if_pos HCP.out,HDIR.out]
       exact ⟨fb,_,_,fun _=>False,Ms,rfl,hn8,.inl rfl,fun _ h=>h.elim,fun k hk=>⟨.inr hk,fun e=>by have:=HTR.out.lt k (I7c.out.pat.ms k hk).1; omega⟩,fun _ h=>h.elim,rfl,ht8⟩
    ·have hnc:¬ (ca=a∧cn=n):=fun ⟨e1,e2⟩=>hcp (by
      rw [HCA.out,HA.out] at e1
      rw [HCN.out,HN.out] at e2
      exact pad_inj (Nat.le_trans (lcp_left q p).length_le qw) e2 e1)
     have hq2:∀ w,(binOp .eql 37 (.agg #[.int .u32 (ca:Int),.int .i64 (cn:Int)]) (.agg #[.int .u32 (a:Int),.int .i64 (n:Int)])).run Tryz.prog w=.ok (.bool false) w:=fun w=>by
      rw [eql_px,decide_eq_false]
      exact fun h=>hnc ⟨h.1,by have:=h.2; omega⟩
     obtain ⟨bb,g1,g2⟩:=part_of HPRE.out hcp
     obtain ⟨p3,p4⟩:=getD_of_snoc g1
     obtain ⟨p1,p2⟩:=getD_of_snoc g2
     have ha32:a < 2 ^ 32:=by rw [HA.out]; exact padB_lt p hp
     have hqa32:qa < 2 ^ 32:=by rw [HQA.out]; exact padB_lt q qw
     have HCP:=Lib.hid hcp
     have hhbl:hb < w.heap.size:=by
      by_cases e2:hb=tb
      ·rw [e2]; exact htl
      ·exact HTR.out.lt hb (I7c.out.pat.mo hb (I7c.out.pat.hole e2).1).1
     clear hcp hnc
     cases bb with
     | true =>
       have he1:bitI a cn=0:=by
        unfold bitI bitB
        rw [HA.out,HCN.out,padB_bit p hp _ (by omega),p1]; rfl
       have he2:bitI qa cn=1:=by
        unfold bitI bitB
        rw [HQA.out,HCN.out,padB_bit q qw _ (by omega),p3]; rfl
       have hcn31:cn≤31:=by rw [HCN.out]; omega
       have P1:=Lib.hid p1
       clear p1 p3 g1 g2
       have bd:=fun (wx:World)=>bd_fork wx (ca:Int) (cn:Int)
       go_upto_region 26 with (fail)
       clear lc lx bd
       obtain ⟨NX,hNX⟩:∃ z:Array Value,z=ndX (ca:Int) (cn:Int) wy0 false (.pointer none) (.pointer none):=⟨_,rfl⟩
       have i8:=I7c.out.below ((Below.refl _ _).alloc (Nat.le_refl _) (.cells (ndX (ca:Int) (cn:Int) wy0 false (.pointer none) (.pointer none)) 192))
       have hf8:=HF7.out.alloc (.cells (ndX (ca:Int) (cn:Int) wy0 false (.pointer none) (.pointer none)) 192)
       have hkq8:=K7c.out.alloc (.cells (ndX (ca:Int) (cn:Int) wy0 false (.pointer none) (.pointer none)) 192)
       have hc8:=HKC.out.alloc (.cells (ndX (ca:Int) (cn:Int) wy0 false (.pointer none) (.pointer none)) 192)
       have hn8:=Blk.new wc 192 (ndX (ca:Int) (cn:Int) wy0 false (.pointer none) (.pointer none))
       obtain ⟨kb,hkb⟩:∃ kb,kb=wc.heap.size:=⟨_,rfl⟩
       have hkbl:w6.heap.size≤kb:=by rw [hkb]; exact hbl7
       have hcbk:cb < kb:=by rw [hkb]; exact HKC.out.lt
       obtain ⟨w8,hw8⟩:∃ Z,Z=wc.alloc (.cells (ndX (ca:Int) (cn:Int) wy0 false (.pointer none) (.pointer none)) 192):=⟨_,rfl⟩
       rw [← hw8] at i8 hf8 hkq8 hc8 hn8 ⊢
       rw [← hkb] at hn8 ⊢
       clear hw8 hkb
       have x0:w8.cell? ⟨w.heap.size,0,none⟩=some (.int .u32 (a:Int)):=by rw [HA.out]; exact i8.box.cell 0
       have y0:w8.cell? ⟨b,0,none⟩=some (.int .u32 (qa:Int)):=(hkq8.cell 0).trans ndX_a
       have c1:w8.cell? ⟨cb,1,none⟩=some (.int .i64 (cn:Int)):=hc8.cell 1
       have I8c:=Lib.hid i8
       have HF8:=Lib.hid hf8
       have HN8:=Lib.hid hn8
       clear i8 hf8 hkq8 hc8 hn8
       refine reg26_f (w8:=w8) x0 y0 c1 HN8.out hcn31 ha32 hqa32 he1 he2 (by omega) (by omega) (by omega) ?_
       intro x116 x117 x118 x119 x120 x121 x122 x123 x124 x125 x126 x127 x128 x129 x130 x131 x132 x133 x134 x135 x136 x137 x138 w9 ⟨hn9,hu9⟩
       have hf9:Blk w9 fb 192 (ndC dc p v true (.pointer none) (.pointer none)):=by
        have:=HF8.out.upd hu9 (fun e:fb=kb=>by omega)
        rw [HA.out,HN.out] at this
        exact this
       have i9:InS dc w w9 M tb limit ((N:Int)+1) pv0 T p v hb ho (.pointer (some ⟨b,0,none⟩)) (.node q x g l r) Mo Ms f :=
        ⟨I8c.out.upd.trans hu9 (fun k (e:k=kb)=>.inr (by omega)),I8c.out.tbk.upd hu9 (fun e:tb=kb=>by omega),I8c.out.box.upd hu9 (fun e:w.heap.size=kb=>by omega),I8c.out.way.upd hu9 (fun e:w.heap.size+1=kb=>by omega),I8c.out.pat⟩
       have sh:=st_ptN i9.hole.1 i9.hole.2 (some ⟨kb,0,none⟩)
       have I9c:=Lib.hid i9
       have HN9:=Lib.hid hn9
       have HF9:=Lib.hid hf9
       clear hu9 i9 hn9 hf9
       go_wp2_with fail
       go_ret
       have i9:=I9c.out
       have hf9:=HF9.out
       have hn9:=HN9.out
       rw [← HL.out] at i9
       rw [HCA.out,HCN.out,← HD.out.z] at hn9
       have ht9:IsT dc w9 Ms (.pointer (some ⟨b,0,none⟩)) (.node q x g l r):=I7c.out.pat.tree.blk fun k hk cs hcs=>i9.blk hcs (I7c.out.pat.ms k hk).2
       refine ⟨rfl,InS.fin HTR.out hp i9 (M2:=fun k=>k=kb∨k=fb∨Ms k) ?_ (fun k hk=>hk.elim (fun e=>.inr (by omega)) fun hk=>hk.elim (fun e=>.inr (by omega)) .inl)⟩
       rw [HINS.out,if_neg HCP.out,show nth p (lcpB q p).length=_ from P1.out]
       exact ⟨kb,_,_,fun k=>k=fb,Ms,rfl,hn9,.inl rfl,fun k hk=>⟨.inr (.inl hk),fun e=>by omega⟩,fun k hk=>⟨.inr (.inr hk),fun e=>by have:=HTR.out.lt k (I7c.out.pat.ms k hk).1; omega⟩,fun k e hk=>by have:=HTR.out.lt k (I7c.out.pat.ms k hk).1; omega,⟨fb,_,_,fun _=>False,fun _=>False,rfl,hf9,rfl,fun _ h=>h.elim,fun _ h=>h.elim,fun _ h=>h.elim,rfl,rfl⟩,ht9⟩
     | false =>
       have he1:bitI a cn=1:=by
        unfold bitI bitB
        rw [HA.out,HCN.out,padB_bit p hp _ (by omega),p1]; rfl
       have he2:bitI qa cn=0:=by
        unfold bitI bitB
        rw [HQA.out,HCN.out,padB_bit q qw _ (by omega),p3]; rfl
       have hcn31:cn≤31:=by rw [HCN.out]; omega
       have P1:=Lib.hid p1
       clear p1 p3 g1 g2
       have bd:=fun (wx:World)=>bd_fork wx (ca:Int) (cn:Int)
       go_upto_region 26 with (fail)
       clear lc lx bd
       obtain ⟨NX,hNX⟩:∃ z:Array Value,z=ndX (ca:Int) (cn:Int) wy0 false (.pointer none) (.pointer none):=⟨_,rfl⟩
       have i8:=I7c.out.below ((Below.refl _ _).alloc (Nat.le_refl _) (.cells (ndX (ca:Int) (cn:Int) wy0 false (.pointer none) (.pointer none)) 192))
       have hf8:=HF7.out.alloc (.cells (ndX (ca:Int) (cn:Int) wy0 false (.pointer none) (.pointer none)) 192)
       have hkq8:=K7c.out.alloc (.cells (ndX (ca:Int) (cn:Int) wy0 false (.pointer none) (.pointer none)) 192)
       have hc8:=HKC.out.alloc (.cells (ndX (ca:Int) (cn:Int) wy0 false (.pointer none) (.pointer none)) 192)
       have hn8:=Blk.new wc 192 (ndX (ca:Int) (cn:Int) wy0 false (.pointer none) (.pointer none))
       obtain ⟨kb,hkb⟩:∃ kb,kb=wc.heap.size:=⟨_,rfl⟩
       have hkbl:w6.heap.size≤kb:=by rw [hkb]; exact hbl7
       have hcbk:cb < kb:=by rw [hkb]; exact HKC.out.lt
       obtain ⟨w8,hw8⟩:∃ Z,Z=wc.alloc (.cells (ndX (ca:Int) (cn:Int) wy0 false (.pointer none) (.pointer none)) 192):=⟨_,rfl⟩
       rw [← hw8] at i8 hf8 hkq8 hc8 hn8 ⊢
       rw [← hkb] at hn8 ⊢
       clear hw8 hkb
       have x0:w8.cell? ⟨w.heap.size,0,none⟩=some (.int .u32 (a:Int)):=by rw [HA.out]; exact i8.box.cell 0
       have y0:w8.cell? ⟨b,0,none⟩=some (.int .u32 (qa:Int)):=(hkq8.cell 0).trans ndX_a
       have c1:w8.cell? ⟨cb,1,none⟩=some (.int .i64 (cn:Int)):=hc8.cell 1
       have I8c:=Lib.hid i8
       have HF8:=Lib.hid hf8
       have HN8:=Lib.hid hn8
       clear i8 hf8 hkq8 hc8 hn8
       refine reg26_t (w8:=w8) x0 y0 c1 HN8.out hcn31 ha32 hqa32 he1 he2 (by omega) (by omega) (by omega) ?_
       intro x116 x117 x118 x119 x120 x121 x122 x123 x124 x125 x126 x127 x128 x129 x130 x131 x132 x133 x134 x135 x136 x137 x138 w9 ⟨hn9,hu9⟩
       have hf9:Blk w9 fb 192 (ndC dc p v true (.pointer none) (.pointer none)):=by
        have:=HF8.out.upd hu9 (fun e:fb=kb=>by omega)
        rw [HA.out,HN.out] at this
        exact this
       have i9:InS dc w w9 M tb limit ((N:Int)+1) pv0 T p v hb ho (.pointer (some ⟨b,0,none⟩)) (.node q x g l r) Mo Ms f :=
        ⟨I8c.out.upd.trans hu9 (fun k (e:k=kb)=>.inr (by omega)),I8c.out.tbk.upd hu9 (fun e:tb=kb=>by omega),I8c.out.box.upd hu9 (fun e:w.heap.size=kb=>by omega),I8c.out.way.upd hu9 (fun e:w.heap.size+1=kb=>by omega),I8c.out.pat⟩
       have sh:=st_ptN i9.hole.1 i9.hole.2 (some ⟨kb,0,none⟩)
       have I9c:=Lib.hid i9
       have HN9:=Lib.hid hn9
       have HF9:=Lib.hid hf9
       clear hu9 i9 hn9 hf9
       go_wp2_with fail
       go_ret
       have i9:=I9c.out
       have hf9:=HF9.out
       have hn9:=HN9.out
       rw [← HL.out] at i9
       rw [HCA.out,HCN.out,← HD.out.z] at hn9
       have ht9:IsT dc w9 Ms (.pointer (some ⟨b,0,none⟩)) (.node q x g l r):=I7c.out.pat.tree.blk fun k hk cs hcs=>i9.blk hcs (I7c.out.pat.ms k hk).2
       refine ⟨rfl,InS.fin HTR.out hp i9 (M2:=fun k=>k=kb∨k=fb∨Ms k) ?_ (fun k hk=>hk.elim (fun e=>.inr (by omega)) fun hk=>hk.elim (fun e=>.inr (by omega)) .inl)⟩
       rw [HINS.out,if_neg HCP.out,show nth p (lcpB q p).length=_ from P1.out]
       exact ⟨kb,_,_,Ms,fun k=>k=fb,rfl,hn9,.inl rfl,fun k hk=>⟨.inr (.inr hk),fun e=>by have:=HTR.out.lt k (I7c.out.pat.ms k hk).1; omega⟩,fun k hk=>⟨.inr (.inl hk),fun e=>by omega⟩,fun k hk e=>by have:=HTR.out.lt k (I7c.out.pat.ms k hk).1; omega,ht9,⟨fb,_,_,fun _=>False,fun _=>False,rfl,hf9,rfl,fun _ h=>h.elim,fun _ h=>h.elim,fun _ h=>h.elim,rfl,rfl⟩⟩
end Go.Proofs.YthlommalbkhcjaaGreat
