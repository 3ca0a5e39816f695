/- A table in memory: Lookup, Pick; the plain law of tables; fib.Make. -/
import Derived.Test.YthlommalbkhcjaaGreatNq13
import Derived.Test.YthlommalbkhcjaaGreatNq31
import Derived.Test.YthlommalbkhcjaaGreatNq33
namespace Go.Proofs.YthlommalbkhcjaaGreat
open Go.RowKit Go.Sort
variable {dc:Int→Array Value}
structure FbM (dc:Int→Array Value) (w:World) (M:Nat→Prop) (fb tb:Nat) (limit:Int) (T:TT):Prop where
 f:Blk w fb 114 #[.pointer (some ⟨tb,0,none⟩)]
 t:IsTr dc w M tb limit T
 ne:¬ M fb
theorem FbM.below {w w':World} {M:Nat→Prop} {fb tb:Nat} {limit:Int} {T:TT} (h:FbM dc w M fb tb limit T) (hb:Below w.heap.size w w'):FbM dc w' M fb tb limit T:=⟨h.f.below hb h.f.lt,h.t.keep ⟨hb.size,fun k hm _=>hb.block k (h.t.lt k hm)⟩,h.ne⟩
theorem ld_trp {w:World} {b:Nat} {u:Option Addr} (h:w.cell? ⟨b,0,none⟩=some (.pointer u)):(Instr.loadAt 111 (.pointer (some ⟨b,0,none⟩))).run Tryz.prog w=.ok (.pointer u) w:=by simp [go_sem,h]
theorem fthere_any {w:World} {fb tb:Nat} (h:Blk w fb 114 #[.pointer (some ⟨tb,0,none⟩)]):Calls Tryz.prog 54 #[.pointer (some ⟨fb,0,none⟩)] w fun e w'=>e=.returned (.bool true)∧w=w':=by
 have hc:w.cell? ⟨fb,0,none⟩=some (.pointer (some ⟨tb,0,none⟩)):=h.cell 0
 clear h
 go_enter Tryz.func54,Tryz.ntmps54
 go_wp2
 go_ret
 exact ⟨rfl,rfl⟩
theorem res_px_wy {w:World} {gp gv:Nat} {a n:Int} {cs:Array Value} {fn:Func} {p u k:Tmp} (hf:fn.results=#[.cell p 37,.cell u 41,.tmp k]) (tmps:Array Value) (e1:tmps.getD p undef=.pointer (some ⟨gp,0,none⟩)) (e2:tmps.getD u undef=.pointer (some ⟨gv,0,none⟩))
  (b1:Blk w gp 37 #[.int .u32 a,.int .i64 n]) (b2:Blk w gv 41 cs) (hc:cs.size=257):(results fn tmps).run Tryz.prog w=.ok (.tuple #[.agg #[.int .u32 a,.int .i64 n],.agg cs,tmps.getD k undef]) w:=by
 have h1:=stc_loadVar Tryz.underlying37 rfl px_info b1 rfl
 have h2:=stc_loadVar Tryz.underlying41 rfl wy_info b2 hc
 have e1':tmps[p]?.getD undef=.pointer (some ⟨gp,0,none⟩):=by simpa using e1
 have e2':tmps[u]?.getD undef=.pointer (some ⟨gv,0,none⟩):=by simpa using e2
 simp only [results,hf]
 simp [Result.andThen,e1',e2',asAddr,h1,h2]
set_option maxRecDepth 20000 in
set_option maxHeartbeats 8000000 in
attribute [-go_sem] Instr.storeAt Instr.loadAt Instr.alloc Instr.build in
theorem look_any (hd:Dc dc) (a fb tb:Nat) (M:Nat→Prop) (limit:Int) (T:TT) (w:World) (h:FbM dc w M fb tb limit T) (ha:a < 2 ^ 32) (hsm:T.list.length≤1000000) :
  Calls Tryz.prog 14 #[.pointer (some ⟨fb,0,none⟩),.int .u32 (a:Int)] w (MatchPost dc w (T.cov (bitsB a 32))):=by
 obtain ⟨W0,hW0⟩:∃ Z,Z=(w.alloc (.cells #[.int .u32 0,.int .i64 0] 37)).alloc (.cells wy0 41):=⟨_,rfl⟩
 have hz1:(w.alloc (.cells #[.int .u32 0,.int .i64 0] 37)).heap.size=w.heap.size+1:=by simp
 have hb0:Below w.heap.size w W0:=by rw [hW0]; exact ((Below.refl _ _).alloc (Nat.le_refl _) _).alloc (by simp) _
 have hp0:Blk W0 w.heap.size 37 #[.int .u32 0,.int .i64 0]:=by rw [hW0]; exact (Blk.new w _ _).alloc _
 have hv0:Blk W0 (w.heap.size+1) 41 wy0:=by
  rw [hW0]
  have:=Blk.new (w.alloc (.cells #[.int .u32 0,.int .i64 0] 37)) 41 wy0
  rwa [hz1] at this
 have h0:=h.below hb0
 have HT:=Lib.hid (fthere_any h0.f)
 have HM:=Lib.hid (match_any hd a tb M limit T W0 h0.t ha hsm)
 have lf:=ld_trp (h0.f.cell 0)
 have a1:=px_alloc
 have a2:=way_alloc
 obtain ⟨E,hE⟩:∃ E,E=T.cov (bitsB a 32):=⟨_,rfl⟩
 rw [← hE] at HM ⊢
 have HP0:=Lib.hid hp0
 have HV0:=Lib.hid hv0
 have HB0:=Lib.hid hb0
 have HW0:=Lib.hid hW0
 have hc1:=hd.sz (lastE E).2
 have hc2:=hd.one (lastE E).2
 clear h h0 hp0 hv0 hb0 hW0 hE hsm hd
 go_enter Tryz.func14,Tryz.ntmps14
 go_upto_region 1 with (fail)
 rw [← HW0.out]
 clear a1 a2 hz1
 go_wp2_with (go_at_call 54; refine HT.out.mono ?_; rintro e w' ⟨rfl,rfl⟩)
 refine HM.out.mono ?_
 rintro e w1 ⟨rfl,hb1⟩
 have hp1:=HP0.out.below hb1 HP0.out.lt
 have hv1:=HV0.out.below hb1 HV0.out.lt
 obtain ⟨pa,hpa⟩:∃ z:Int,z=(padB (lastE E).1:Int):=⟨_,rfl⟩
 obtain ⟨pn,hpn⟩:∃ z:Int,z=((lastE E).1.length:Int):=⟨_,rfl⟩
 have st1:(Instr.storeAt 37 (.pointer (some ⟨w.heap.size,0,none⟩)) (.agg #[.int .u32 (padB (lastE E).1:Int),.int .i64 ((lastE E).1.length:Int)])).run Tryz.prog w1=.ok () (w1.setCells w.heap.size 0 (#[Value.int .u32 (padB (lastE E).1:Int),.int .i64 ((lastE E).1.length:Int)]:Array Value).toList):=stc_store px_info hp1 rfl rfl (by simp [Value.oneCell'])
 obtain ⟨w2,hw2⟩:∃ Z,Z=w1.setCells w.heap.size 0 (#[Value.int .u32 (padB (lastE E).1:Int),.int .i64 ((lastE E).1.length:Int)]:Array Value).toList:=⟨_,rfl⟩
 rw [← hw2] at st1
 have hp2:Blk w2 w.heap.size 37 #[.int .u32 (padB (lastE E).1:Int),.int .i64 ((lastE E).1.length:Int)]:=by rw [hw2]; exact blk_setCells hp1 rfl
 have hv2:Blk w2 (w.heap.size+1) 41 wy0:=by rw [hw2]; exact blk_far_setCells (by omega) _ _ _ hv1
 have hb2:Below w.heap.size w w2:=by rw [hw2]; exact below_setCells (Nat.le_refl _) _ _ _ (HB0.out.trans (hb1.mono HB0.out.size))
 have st2:=st_wyB (vs:=dc (lastE E).2) hv2 wy0_size hc1 hc2
 have HP2:=Lib.hid hp2
 have HV2:=Lib.hid hv2
 have HB2:=Lib.hid hb2
 clear hb1 hp1 hv1 hw2 hp2 hv2 hb2 hpa hpn
 go_wp2_with fail
 have hp9:Blk (w2.setCells (w.heap.size+1) 0 (dc (lastE E).2).toList) w.heap.size 37 #[.int .u32 (padB (lastE E).1:Int),.int .i64 ((lastE E).1.length:Int)]:=blk_far_setCells (by omega) _ _ _ HP2.out
 have hv9:=blk_setCells HV2.out (show wy0.size=(dc (lastE E).2).size by rw [hc1,wy0_size])
 refine bodyPost_ret_by (res_px_wy rfl _ rfl rfl hp9 hv9 hc1) rfl ?_
 exact ⟨rfl,below_setCells (Nat.le_succ _) _ _ _ HB2.out⟩
end Go.Proofs.YthlommalbkhcjaaGreat
namespace Go.Proofs.YthlommalbkhcjaaGreat
open Go.RowKit Go.Sort
variable {dc:Int→Array Value}
theorem ld_kd {w:World} {b:Nat} {k:Int} {zs:List Int} (h:Blk w b 41 (wyC k zs)):(Instr.loadAt 38 (.pointer (some ⟨b,0,none⟩))).run Tryz.prog w=.ok (.int .i64 k) w:=by
 have h0:w.cell? ⟨b,0,none⟩=some (.int .i64 k):=(h.cell 0).trans (by simp [wyC])
 simp [go_sem,h0]
theorem ld_bk {w:World} {b:Nat} {k:Int} {zs:List Int} (h:Blk w b 41 (wyC k zs)) (hz:zs.length=256):(Instr.loadAt 39 (.pointer (some ⟨b,1,none⟩))).run Tryz.prog w=.ok (.agg (arrV zs)) w:=by
 have:=run_loadAt_mid (P:=Tryz.prog) w b 1 39 (arrV zs).toList _ (fun j v hj=>by
  rw [h.cell]
  unfold wyC
  rw [List.getElem?_toArray,List.getElem?_append_right (by simp),← hj]
  congr 1
  simp) Tryz.underlying39 rfl (by simpa [arrV_size,hz] using arr_info)
 simpa using this
def pickV (wk:Int→Int × List Int) (E:List (Bs × Int)) (hash:Nat):Value:=if E.isEmpty=true then .tuple #[.int .i64 0,.int .i64 0] else .tuple #[.int .i64 (wk (lastE E).2).1,.int .i64 ((wk (lastE E).2).2.getD (hash % 256) 0)]
set_option maxRecDepth 20000 in
set_option maxHeartbeats 8000000 in
attribute [-go_sem] Instr.storeAt Instr.loadAt Instr.alloc in
theorem fpick_any (hd:Dc dc) {wk:Int→Int × List Int} (hwk:∀ v,dc v=wayC (wk v)∧(wk v).2.length=256) (a hash fb tb:Nat) (M:Nat→Prop) (limit:Int) (T:TT) (w:World) (h:FbM dc w M fb tb limit T) (ha:a < 2 ^ 32) (hsm:T.list.length≤1000000) :
  Calls Tryz.prog 16 #[.pointer (some ⟨fb,0,none⟩),.int .u32 (a:Int),.int .u32 (hash:Int)] w fun e w'=>e=.returned (pickV wk (T.cov (bitsB a 32)) hash)∧Below w.heap.size w w':=by
 have HL:=Lib.hid (look_any hd a fb tb M limit T w h ha hsm)
 obtain ⟨E,hE⟩:∃ E,E=T.cov (bitsB a 32):=⟨_,rfl⟩
 rw [← hE] at HL ⊢
 have a1:=px_alloc
 have a2:=way_alloc
 obtain ⟨hw1,hw2⟩:=hwk (lastE E).2
 have hc1:=hd.sz (lastE E).2
 have hc2:=hd.one (lastE E).2
 clear h hE hsm hd hwk
 go_enter Tryz.func16,Tryz.ntmps16
 go_wp2_with fail
 refine HL.out.mono ?_
 rintro e w1 ⟨rfl,hb1⟩
 obtain ⟨W2,hW2⟩:∃ Z,Z=(w1.alloc (.cells #[.int .u32 0,.int .i64 0] 37)).alloc (.cells wy0 41):=⟨_,rfl⟩
 have hz1:(w1.alloc (.cells #[.int .u32 0,.int .i64 0] 37)).heap.size=w1.heap.size+1:=by simp
 have hb2:Below w1.heap.size w1 W2:=by rw [hW2]; exact ((Below.refl _ _).alloc (Nat.le_refl _) _).alloc (by simp) _
 have hp2:Blk W2 w1.heap.size 37 #[.int .u32 0,.int .i64 0]:=by rw [hW2]; exact (Blk.new w1 _ _).alloc _
 have hv2:Blk W2 (w1.heap.size+1) 41 wy0:=by
  rw [hW2]
  have:=Blk.new (w1.alloc (.cells #[.int .u32 0,.int .i64 0] 37)) 41 wy0
  rwa [hz1] at this
 have st1:(Instr.storeAt 37 (.pointer (some ⟨w1.heap.size,0,none⟩)) (.agg #[.int .u32 (padB (lastE E).1:Int),.int .i64 ((lastE E).1.length:Int)])).run Tryz.prog W2=.ok () (W2.setCells w1.heap.size 0 (#[Value.int .u32 (padB (lastE E).1:Int),.int .i64 ((lastE E).1.length:Int)]:Array Value).toList):=stc_store px_info hp2 rfl rfl (by simp [Value.oneCell'])
 obtain ⟨w3,hw3⟩:∃ Z,Z=W2.setCells w1.heap.size 0 (#[Value.int .u32 (padB (lastE E).1:Int),.int .i64 ((lastE E).1.length:Int)]:Array Value).toList:=⟨_,rfl⟩
 rw [← hw3] at st1
 have hv3:Blk w3 (w1.heap.size+1) 41 wy0:=by rw [hw3]; exact blk_far_setCells (by omega) _ _ _ hv2
 have hb3:Below w1.heap.size w1 w3:=by rw [hw3]; exact below_setCells (Nat.le_refl _) _ _ _ hb2
 have st2:=st_wyB (vs:=dc (lastE E).2) hv3 wy0_size hc1 hc2
 obtain ⟨w4,hw4⟩:∃ Z,Z=w3.setCells (w1.heap.size+1) 0 (dc (lastE E).2).toList:=⟨_,rfl⟩
 rw [← hw4] at st2
 have hv4:Blk w4 (w1.heap.size+1) 41 (wyC (wk (lastE E).2).1 (wk (lastE E).2).2):=by
  rw [hw4]
  have:=blk_setCells hv3 (show wy0.size=(dc (lastE E).2).size by rw [hc1,wy0_size])
  rw [hw1] at this ⊢
  exact this
 have hb4:Below w1.heap.size w1 w4:=by rw [hw4]; exact below_setCells (Nat.le_succ _) _ _ _ hb3
 have HV4:=Lib.hid hv4
 have HB4:=Lib.hid (hb1.trans (hb4.mono hb1.size))
 rw [hW2] at st1
 clear hb1 hW2 hb2 hp2 hv2 hw3 hv3 hb3 hw4 hv4 hb4 hw1
 cases hem:E.isEmpty with
 | true =>
   go_wp2_with fail
   go_ret2
   exact ⟨by unfold pickV; simp [hem],HB4.out⟩
 | false =>
   have hpk:=fun (wx:World)=>pick_any (wk (lastE E).2).2 hw2 hash wx
   have HPK:=Lib.hid hpk
   clear hpk
   go_wp2_with fail
   refine wp_region_stages [(true,8)] (by kernel_rfl) (by kernel_rfl) fun wz hz hz2=>?_
   have ZV:=Lib.hid (HV4.out.below hz HV4.out.lt)
   have ZB:=Lib.hid (HB4.out.trans (hz.mono HB4.out.size))
   clear hz hz2
   have q0:=fun (dd:Nat) (os:Array Obj)=>ld_kd (ZV.out.below (below_regrown wz dd os) ZV.out.lt)
   have q1:=fun (dd:Nat) (os:Array Obj)=>ld_bk (ZV.out.below (below_regrown wz dd os) ZV.out.lt) hw2
   have q2:=fun (dd:Nat) (os:Array Obj)=>Calls.regrown_of (HPK.out (grow (redrawn wz dd) os))
   refine wpSt_q ?_
   simp only [List.take_succ_cons,List.take_zero,List.drop_succ_cons,List.drop_zero]
   repeat (go_big_quiet_step (with_reducible exact q2 _ _))
   refine wpQuiet_nil ?_
   intro _ hw'
   obtain ⟨⟨dq,osq⟩,hw''⟩:=hw'
   subst hw''
   have HBQ:=Lib.hid (ZB.out.trans ((below_regrown wz dq osq).mono ZB.out.size))
   clear q0 q1 q2
   refine wpSt_end ?_
   go_wp2_with fail
   go_ret2
   exact ⟨by unfold pickV; simp [hem],HBQ.out⟩
end Go.Proofs.YthlommalbkhcjaaGreat
namespace Go.Proofs.YthlommalbkhcjaaGreat
open Go.RowKit Go.Sort
def rB (r:Rt):Bs:=bitsB r.a r.m.toNat
theorem rB_may {r:Rt} (ha:r.a < 2 ^ 32) (h:mayR r=true):(rB r).length≤32∧padB (rB r)=r.a∧((rB r).length:Int)=r.m:=by
 have hm:mayB r.a r.m=true:=by unfold mayR at h; exact (Bool.and_eq_true_iff.1 h).1
 exact pB_may (x:=⟨r.a,r.m⟩) ha hm
def mkT (vf:Nat→Int):Nat→List Rt→TT→Option TT
 | _,[],T=>some T
 | k,r :: l,T=>if mayR r=true∧T.get (rB r)=none then mkT vf (k+1) l (T.ins (rB r) (vf k)) else none
def mkL (vf:Nat→Int):Nat→List Rt→List (Bs × Int)→Option (List (Bs × Int))
 | _,[],L=>some L
 | k,r :: l,L=>if mayR r=true∧getS (rB r) L=none then mkL vf (k+1) l (insS (rB r) (vf k) L) else none
theorem mkT_list {vf:Nat→Int}:∀ {l:List Rt} {k:Nat} {T:TT},T.wf []→(∀ r ∈ l,r.a < 2 ^ 32)→(mkT vf k l T).map TT.list=mkL vf k l T.list∧∀ T',mkT vf k l T=some T'→T'.wf []
 | [],k,T,wf,_=>⟨rfl,fun T' h=>by injection h with h; rw [← h]; exact wf⟩
 | r :: l,k,T,wf,ha=>by
   unfold mkT mkL
   rw [TT.get_list wf]
   by_cases hc:mayR r=true∧getS (rB r) T.list=none
   ·rw [if_pos hc,if_pos hc]
    have hp:=(rB_may (ha r (by simp)) hc.1).1
    have:=mkT_list (vf:=vf) (l:=l) (k:=k+1) (T:=T.ins (rB r) (vf k)) (TT.ins_wf wf List.nil_prefix hp) fun x hx=>ha x (by simp [hx])
    rw [TT.ins_list wf List.nil_prefix hp] at this
    exact this
   ·rw [if_neg hc,if_neg hc]
    exact ⟨rfl,fun T' h=>by cases h⟩
theorem insS_in {p:Bs} {v:Int} {e:Bs × Int}:∀ {L:List (Bs × Int)},getS p L=none→(e ∈ insS p v L↔e=(p,v)∨e ∈ L)
 | [],_=>by simp [insS]
 | f :: r,h=>by
   have hne:f.1≠p:=fun e=>by
    have:(getS p (f :: r)).isSome=true:=getS_mem.2 (by rw [← e]; simp)
    rw [h] at this; cases this
   have hr:getS p r=none:=by
    unfold getS at h ⊢
    rwa [List.find?_cons_of_neg (by simpa using hne)] at h
   have ih:=insS_in (p:=p) (v:=v) (e:=e) hr
   unfold insS
   split
   ·rw [List.mem_cons,ih,List.mem_cons]
    exact ⟨fun h=>h.elim (fun x=>.inr (.inl x)) fun h=>h.elim .inl fun x=>.inr (.inr x),fun h=>h.elim (fun x=>.inr (.inl x)) fun h=>h.elim .inl fun x=>.inr (.inr x)⟩
   ·rw [List.mem_cons]
theorem insS_len1 {p:Bs} {v:Int} {L:List (Bs × Int)} (hs:SortedB L) (h:getS p L=none):(insS p v L).length=L.length+1:=by
 rw [insS_len hs,h]; rfl
theorem mkL_in {vf:Nat→Int}:∀ {l:List Rt} {k:Nat} {L L':List (Bs × Int)},SortedB L→mkL vf k l L=some L' →
  SortedB L'∧L'.length=L.length+l.length∧(∀ r ∈ l,mayR r=true)∧(∀ e,e ∈ L'↔e ∈ L∨∃ i r,l[i]?=some r∧e=(rB r,vf (k+i)))
 | [],k,L,L',hs,h=>by
   injection h with h
   rw [← h]
   exact ⟨hs,rfl,by simp,by simp⟩
 | r :: l,k,L,L',hs,h=>by
   unfold mkL at h
   by_cases hc:mayR r=true∧getS (rB r) L=none
   ·rw [if_pos hc] at h
    obtain ⟨h1,h2,h3,h4⟩:=mkL_in (insS_sorted hs) h
    refine ⟨h1,by rw [h2,insS_len1 hs hc.2,List.length_cons]; omega,fun x hx=>?_,fun e=>?_⟩
    ·rcases List.mem_cons.1 hx with rfl | hx
     ·exact hc.1
     ·exact h3 x hx
    ·rw [h4,insS_in hc.2]
     constructor
     ·rintro ((h | h) | ⟨i,x,hi,h⟩)
      ·exact .inr ⟨0,r,rfl,h⟩
      ·exact .inl h
      ·exact .inr ⟨i+1,x,by simpa using hi,by rw [h,show k+1+i=k+(i+1) by omega]⟩
     ·rintro (h | ⟨i,x,hi,h⟩)
      ·exact .inl (.inr h)
      ·cases i with
       | zero =>
         simp at hi
         subst hi
         exact .inl (.inl h)
       | succ i=>exact .inr ⟨i,x,by simpa using hi,by rw [h,show k+1+i=k+(i+1) by omega]⟩
   ·rw [if_neg hc] at h
    cases h
end Go.Proofs.YthlommalbkhcjaaGreat
namespace Go.Proofs.YthlommalbkhcjaaGreat
open Go.RowKit Go.Sort
variable {dc:Int→Array Value}
def KF (dc:Int→Array Value) (w wx:World) (fb:Nat) (T:TT) (lim:Int):Prop:=∃ (M:Nat→Prop) (tb:Nat),FbM dc wx M fb tb lim T∧(∀ k,M k→w.heap.size≤k)∧w.heap.size≤fb∧Below w.heap.size w wx
theorem KF.below {w wx:World} {fb:Nat} {T:TT} {lim:Int} (h:KF dc w wx fb T lim):Below w.heap.size w wx:=by
 obtain ⟨M,tb,h1,h2,h3,h4⟩:=h
 exact h4
def MkPost (dc:Int→Array Value) (w:World) (n:Nat) (R:Option TT) (e:Ending) (w':World):Prop:=match R with
 | none=>e=.returned (.tuple #[.pointer none,.int .i64 2])∧Below w.heap.size w w'
 | some T=>∃ fb,e=.returned (.tuple #[.pointer (some ⟨fb,0,none⟩),.int .i64 0])∧KF dc w w' fb T n
def getV (r:Rt) (T:TT):Int:=if mayB r.a r.m=true then (T.get (rB r)).getD 0 else 0
def getG (r:Rt) (T:TT):Bool:=mayB r.a r.m && (T.get (rB r)).isSome
theorem getr_any (hd:Dc dc) (r:Rt) (ha:r.a < 2 ^ 32) (tb:Nat) (M:Nat→Prop) (limit:Int) (T:TT) (w:World) (h:IsTr dc w M tb limit T) :
  Calls Tryz.prog 49 #[.pointer (some ⟨tb,0,none⟩),pxV r.a r.m] w fun e w'=>e=.returned (.tuple #[.agg (dc (getV r T)),.bool (getG r T)])∧Below w.heap.size w w':=by
 by_cases hm:mayB r.a r.m=true
 ·obtain ⟨h1,h2,h3⟩:=pB_may (x:=⟨r.a,r.m⟩) ha hm
  have:=get_yes hd (rB r) tb M limit T w h h1
  unfold rB at this
  unfold pB at h2 h3
  dsimp only at h2 h3
  rw [h2,h3] at this
  refine this.mono fun e w' ⟨he,hb⟩=>⟨?_,hb⟩
  rw [he]
  unfold getV getG rB
  rw [if_pos hm,hm]
  rfl
 ·have:=get_no hd r.a r.m tb M limit T w h ha (by simpa using hm)
  refine this.mono fun e w' ⟨he,hb⟩=>⟨?_,hb⟩
  rw [he]
  unfold getV getG
  rw [if_neg hm,Bool.not_eq_true _ |>.mp hm]
  rfl
theorem rt_cells {D:Nat} {w:World} {J:Nat→Prop} {A:Option Addr} {n:Nat} {l:List Rt} (hr:Reads w J 6 A n (l.flatMap rtC)) (hJ:∀ k,J k→k < D) {k:Nat} (hk:k < n) {r:Rt} (hrk:l[k]?=some r) :
  ∃ ad,A=some ad∧∀ wx,Below D w wx→(Instr.loadAt 54 (.pointer (some (ad.add (k * 6))))).run Tryz.prog wx=.ok (rtV r) wx:=by
 obtain ⟨ad,e,hj,hadl,hc⟩:=hr.2 (by omega)
 refine ⟨ad,e,fun wx hx=>?_⟩
 have key:∀ j v,(rtC r)[j]?=some v→j < 6→wx.cell? ((ad.add (k * 6)).add j)=some v:=fun j v hv hj6=>by
  rw [add_of_add]
  exact (hx.cell (by rw [block_of_add]; exact hJ _ hj)).trans (hc _ _ (by rw [rtC_get hrk hj6]; exact hv))
 have c0:=key 0 _ rfl (by decide)
 have c1:=key 1 _ rfl (by decide)
 have c2:=key 2 _ rfl (by decide)
 have c3:=key 3 _ rfl (by decide)
 have c4:=key 4 _ rfl (by decide)
 have c5:=key 5 _ rfl (by decide)
 unfold rtV
 simp only [Addr.add,if_true] at c0
 simp [Addr.add] at c1 c2 c3 c4 c5
 simp [go_sem,Addr.add,c0,c1,c2,c3,c4,c5]
theorem rt_alloc (w:World):(Instr.alloc 54 true (.tuple #[])).run Tryz.prog w=.ok (.pointer (some ⟨w.heap.size,0,none⟩)) (w.alloc (.cells #[.int .u32 0,.int .i64 0,.bool false,.bool false,.int .i64 0,.slice none 0 0] 54)):=by kernel_rfl
def RtB (w:World) (b:Nat) (r:Rt):Prop:=Blk w b 54 #[.int .u32 (r.a:Int),.int .i64 r.m,.bool r.own,.bool r.tk,.int .i64 r.d,.slice r.A r.n r.c]
theorem rt_box (w:World) (r:Rt):∃ W2,(Instr.storeAt 54 (.pointer (some ⟨w.heap.size,0,none⟩)) (rtV r)).run Tryz.prog (w.alloc (.cells #[.int .u32 0,.int .i64 0,.bool false,.bool false,.int .i64 0,.slice none 0 0] 54))=.ok () W2∧RtB W2 w.heap.size r∧Below w.heap.size w W2:=by
 have h1:=Blk.new w 54 #[.int .u32 0,.int .i64 0,.bool false,.bool false,.int .i64 0,.slice none 0 0]
 refine ⟨_,stc_store rt_info h1 rfl rfl (by simp [Value.oneCell']),blk_setCells h1 rfl,below_setCells (Nat.le_refl _) _ _ _ ((Below.refl _ _).alloc (Nat.le_refl _) _)⟩
theorem ld_rtP {w:World} {b:Nat} {r:Rt} (h:RtB w b r):(Instr.loadAt 37 (.pointer (some ⟨b,0,none⟩))).run Tryz.prog w=.ok (pxV r.a r.m) w:=by
 have c0:=h.cell 0
 have c1:=h.cell 1
 simp at c0 c1
 unfold pxV
 simp [go_sem,c0,c1]
theorem FbM.ins {wx w':World} {M:Nat→Prop} {fb tb:Nat} {lim:Int} {T T2:TT} (h:FbM dc wx M fb tb lim T) (hy:InsYes dc wx M tb lim T2 w'):∃ M3,FbM dc w' M3 fb tb lim T2∧(∀ k,M3 k→M k∨wx.heap.size≤k)∧Upd M wx w':=by
 obtain ⟨M3,h1,h2,h3⟩:=hy
 exact ⟨M3,⟨h.f.upd h2 h.ne,h1,fun hf=>(h3 fb hf).elim h.ne fun e=>by have:=h.f.lt; omega⟩,h3,h2⟩
def MkR (dc:Int→Array Value) (vf:Nat→Int) (w:World) (l:List Rt) (n fb k:Nat) (wr:World):Prop:=∃ T,mkT vf 0 l .nil=mkT vf k (l.drop k) T∧T.list.length=k∧KF dc w wr fb T n
theorem mk_end {vf:Nat→Int} {w:World} {l:List Rt} {n fb:Nat} {wr:World} (h:MkR dc vf w l n fb n wr) (hn:l.length=n) {R:Option TT} (hR:R=mkT vf 0 l .nil):MkPost dc w n R (.returned (.tuple #[.pointer (some ⟨fb,0,none⟩),.int .i64 0])) wr:=by
 obtain ⟨T,h1,h2,h3⟩:=h
 rw [hR,h1,List.drop_of_length_le (by omega)]
 exact ⟨fb,rfl,h3⟩
set_option maxRecDepth 20000 in
set_option maxHeartbeats 8000000 in
attribute [-go_sem] Instr.storeAt Instr.loadAt Instr.alloc in
theorem fmake_any (hd:Dc dc) (vf:Nat→Int) (A:Option Addr) (n c:Nat) (l:List Rt) (w:World) (h:RtsM w (fun k=>k < w.heap.size) A n l) (hn:n≤1024) (hv:∀ i r,l[i]?=some r→mayR r=true→dc (vf i)=wayC (wayR r)) :
  Calls Tryz.prog 11 #[.slice A n c] w (MkPost dc w n (mkT vf 0 l .nil)):=by
 have h1:decide ((1024:Int) < (n:Int))=false:=decide_eq_false (by omega)
 have h2:(n:Int)≤1024:=by omega
 have HRT:=Lib.hid h
 have HV:=Lib.hid hv
 have HD:=Lib.hid hd
 obtain ⟨R,hR⟩:∃ R,R=mkT vf 0 l .nil:=⟨_,rfl⟩
 rw [← hR]
 have HR:=Lib.hid hR
 obtain ⟨W1,hW1⟩:∃ Z,Z=w.alloc (.cells #[.pointer none,.int .i64 (n:Int),.int .i64 0,.bool true] 184):=⟨_,rfl⟩
 obtain ⟨tb,htb⟩:∃ b,b=w.heap.size:=⟨_,rfl⟩
 obtain ⟨fb,hfb⟩:∃ b,b=W1.heap.size:=⟨_,rfl⟩
 obtain ⟨W2,hW2⟩:∃ Z,Z=W1.alloc (.cells #[.pointer (some ⟨tb,0,none⟩)] 114):=⟨_,rfl⟩
 have HNW:=Lib.hid (show Calls Tryz.prog 47 #[.int .i64 (n:Int)] w fun e w'=>e=.returned (.pointer (some ⟨tb,0,none⟩))∧w'=W1 from (new_any (n:Int) w).mono fun e w' ⟨h1,h2⟩=>⟨by rw [h1,htb],by rw [h2,hW1,show max (0:Int) n=n by omega]⟩)
 have hlt:tb < fb:=by rw [hfb,hW1,htb]; simp
 have hb2:Below w.heap.size w W2:=by
  rw [hW2]
  exact Below.alloc (by rw [hW1]; exact (Below.refl _ _).alloc (Nat.le_refl _) _) (by rw [hW1]; simp) _
 have hf2:Blk W2 fb 114 #[.pointer (some ⟨tb,0,none⟩)]:=by rw [hW2,hfb]; exact Blk.new _ _ _
 have ht2:Blk W2 tb 184 #[.pointer none,.int .i64 (n:Int),.int .i64 0,.bool true]:=by
  rw [hW2]
  refine Blk.alloc ?_ _
  rw [hW1,htb]
  exact Blk.new _ _ _
 have HS0:=Lib.hid (show MkR dc vf w l n fb 0 W2 from ⟨.nil,rfl,rfl,fun k=>k=tb,tb,⟨hf2,⟨⟨.pointer none,ht2,rfl⟩,rfl,trivial,fun k hk=>by rw [hk]; exact ht2.lt⟩,fun e=>by have e:fb=tb:=e; omega⟩,fun k hk=>by rw [hk,htb]; exact Nat.le_refl _,by omega,hb2⟩)
 have HW2:=Lib.hid hW2
 have HFB:=Lib.hid hfb
 clear h hv hd hR hW1 htb hfb hW2 hlt hb2 hf2 ht2 hn
 go_enter Tryz.func11,Tryz.ntmps11
 go_upto_region 4 with (go_at_call 47; refine HNW.out.mono ?_; rintro e w' ⟨rfl,rfl⟩)
 rw [← HW2.out,← HFB.out]
 go_wp2_with fail
 have hra:=rt_alloc
 have hwa:=way_alloc
 go_loopw [21] (fun i wr=>∃ k:Nat,k≤n∧i=.int .i64 (k:Int)∧MkR dc vf w l n fb k wr) (fun i _=>n - (intOf i).toNat)
 case atStart=>exact ⟨0,Nat.zero_le _,rfl,HS0.out⟩
 case round =>
  obtain ⟨k,hk,rfl,hs⟩:=hrel
  have HS:=Lib.hid hs
  clear hs HS0
  by_cases hlt:k < n
  ·have hd0:decide ((k:Int) < (n:Int))=true:=decide_eq_true (by omega)
   have hd1:decide (k < n)=true:=decide_eq_true hlt
   have i0:(0:Int)≤k:=by omega
   have i1:(k:Int) < n:=by omega
   obtain ⟨T,hmk,hln,hkf⟩:=HS.out
   obtain ⟨M,tb,hfm,hM,hfl,hbl⟩:=hkf
   obtain ⟨r,hr⟩:∃ r,l[k]?=some r:=⟨_,List.getElem?_eq_getElem (by rw [HRT.out.len]; exact hlt)⟩
   have hrm:r ∈ l:=List.mem_of_getElem? hr
   obtain ⟨ad,rfl,hcs⟩:=rt_cells HRT.out.row (fun _ hj=>hj) hlt hr
   have hld:=hcs wr hbl
   have ha32:=(HRT.out.each r hrm).a
   have hdrop:l.drop k=r :: l.drop (k+1):=by
    obtain ⟨e1,e2⟩:=List.getElem?_eq_some_iff.1 hr
    rw [List.drop_eq_getElem_cons e1,e2]
   have HDR:=Lib.hid hdrop
   have HMK:=Lib.hid hmk
   have HLN:=Lib.hid hln
   have HM:=Lib.hid hM
   have HFL:=Lib.hid hfl
   have HA:=Lib.hid ha32
   have HRK:=Lib.hid hr
   obtain ⟨W3,st3,hx3,hb3⟩:=rt_box wr r
   have lr:=ld_rt hx3
   have HEN:=Lib.hid (entry_any r W3 ((((HRT.out.each r hrm).keep (Same.ofBelow hbl fun _ hk=>hk)).keep (Same.ofBelow hb3 fun _ hk=>Nat.lt_of_lt_of_le hk hbl.size)).mono fun _ hk=>Nat.lt_of_lt_of_le hk (Nat.le_trans hbl.size hb3.size)))
   have HX3:=Lib.hid hx3
   have HB3:=Lib.hid (hbl.trans (hb3.mono hbl.size))
   have HF3:=Lib.hid (hfm.below hb3)
   have hEv:∃ (ec:Array Value) (cd:Int),(if mayR r=true then Value.tuple #[.agg (wayC (wayR r)),.int .i64 0] else .tuple #[.agg wy0,.int .i64 2])=.tuple #[.agg ec,.int .i64 cd]∧ec.size=257∧ec.all (·.oneCell')=true∧((mayR r=true∧cd=0∧ec=dc (vf k))∨(mayR r=false∧cd=2)):=by
    by_cases hmr:mayR r=true
    ·rw [if_pos hmr]
     have e:=HV.out k r hr hmr
     refine ⟨_,0,rfl,?_,?_,.inl ⟨hmr,rfl,e.symm⟩⟩
     ·rw [← e]; exact HD.out.sz _
     ·rw [← e]; exact HD.out.one _
    ·rw [if_neg hmr]
     exact ⟨_,2,rfl,wy0_size,wy0_one,.inr ⟨by simpa using hmr,rfl⟩⟩
   obtain ⟨ec,cd,hev,hec1,hec2,hcase⟩:=hEv
   have HEV:=Lib.hid hev
   have HCASE:=Lib.hid hcase
   have HE1:=Lib.hid hec1
   have HE2:=Lib.hid hec2
   clear hmk hln hfm hM hfl hbl hcs hx3 hb3 hev hcase hdrop hr hrm ha32 hec1 hec2
   go_upto_region 7 with (fail)
   go_wp2_with fail
   refine HEN.out.mono ?_
   rintro e W4 ⟨he,hb4⟩
   rw [HEV.out] at he
   subst he
   have hx4:=HX3.out.below hb4 HX3.out.lt
   obtain ⟨W6,hW6⟩:∃ Z,Z=(W4.alloc (.cells wy0 41)).setCells W4.heap.size 0 ec.toList:=⟨_,rfl⟩
   have hv5:=Blk.new W4 41 wy0
   have st5:=st_wyB (vs:=ec) hv5 wy0_size HE1.out HE2.out
   rw [← hW6] at st5
   have hv6:Blk W6 W4.heap.size 41 ec:=by rw [hW6]; exact blk_setCells hv5 (by rw [HE1.out,wy0_size])
   have hb6:Below W4.heap.size W4 W6:=by rw [hW6]; exact below_setCells (Nat.le_refl _) _ _ _ ((Below.refl _ _).alloc (Nat.le_refl _) _)
   have hf4:=HF3.out.below hb4
   have hx6:RtB W6 wr.heap.size r:=Blk.below hx4 hb6 hx4.lt
   have HF6:=Lib.hid (hf4.below hb6)
   have HB6:=Lib.hid ((HB3.out.trans (hb4.mono HB3.out.size)).trans (hb6.mono (HB3.out.trans (hb4.mono HB3.out.size)).size))
   have HX6:=Lib.hid hx6
   have HV6:=Lib.hid hv6
   have HNE:=Lib.hid (show wr.heap.size≠W4.heap.size from Nat.ne_of_lt hx4.lt)
   have hwl:W4.heap.size < W6.heap.size:=hv6.lt
   clear hb4 hx4 hW6 hv5 hv6 hb6 hf4 hx6 lr hld st3
   go_upto_region 8 with (fail)
   clear st5 hra
   obtain ⟨gv,hgv⟩:∃ z,z=dc (getV r T):=⟨_,rfl⟩
   obtain ⟨gg,hgg⟩:∃ z,z=getG r T:=⟨_,rfl⟩
   have hg1:gv.size=257:=by rw [hgv]; exact HD.out.sz _
   have hg2:gv.all (·.oneCell')=true:=by rw [hgv]; exact HD.out.one _
   have HGG:=Lib.hid hgg
   have HGC:=Lib.hid (fun (wx:World) (h:FbM dc wx M fb tb n T)=>(show Calls Tryz.prog 49 #[.pointer (some ⟨tb,0,none⟩),pxV r.a r.m] wx fun e w'=>e=.returned (.tuple #[.agg gv,.bool gg])∧Below wx.heap.size wx w' by rw [hgv,hgg]; exact getr_any HD.out r HA.out tb M n T wx h.t))
   clear hgv hgg
   refine wp_region_mix [(true,10),(false,3)] 2 (by kernel_rfl) (fun wx=>Below W6.heap.size W6 wx) (fun _ _ h k=>h.trans (k.mono h.size)) (by kernel_rfl) (Below.refl _ _) (a':=?_) (fun wz hz=>?_) fun wz hz=>?_
   rotate_left
   ·have ZF:=Lib.hid (HF6.out.below hz)
    have ZX:RtB wz wr.heap.size r:=Blk.below HX6.out hz HX6.out.lt
    have ZXX:=Lib.hid ZX
    clear hz ZX
    have q0:=fun (dd:Nat) (os:Array Obj)=>ld_trp ((ZF.out.f.below (below_regrown wz dd os) ZF.out.f.lt).cell 0)
    have q1:=fun (dd:Nat) (os:Array Obj)=>ld_rtP (r:=r) (Blk.below ZXX.out (below_regrown wz dd os) ZXX.out.lt)
    have q2:=fun (dd:Nat) (os:Array Obj)=>Calls.regrown_of (HGC.out (grow (redrawn wz dd) os) (ZF.out.below (below_regrown wz dd os)))
    simp only [pick_nil,pick_tt,pick_ft,List.take_succ_cons,List.take_zero,List.drop_succ_cons,List.drop_zero,List.append_nil]
    repeat (go_big_quiet_step (with_reducible exact q2 _ _))
    refine wpQuiet_nil ?_
    rfl
   simp only [pick_nil,pick_ff,pick_tf,List.take_succ_cons,List.take_zero,List.drop_succ_cons,List.drop_zero,List.append_nil]
   have HZ:=Lib.hid hz
   clear hz
   refine wpMix_step HZ.out fun wa ha=>?_
   have HWA:=Lib.hid (HZ.out.trans (ha.mono HZ.out.size))
   clear ha
   go_wp2_with fail
   have HWB:=Lib.hid (HWA.out.trans (((Below.refl wa.heap.size wa).alloc (Nat.le_refl _) (.cells wy0 41)).mono HWA.out.size))
   have HKB:=Lib.hid (Blk.new wa 41 wy0)
   generalize wa.alloc (.cells wy0 41)=wb at HWB HKB ⊢
   obtain ⟨pb,hpb⟩:∃ b,b=wa.heap.size:=⟨_,rfl⟩
   have hpl:W6.heap.size≤pb:=by rw [hpb]; exact HWA.out.size
   rw [← hpb] at HKB ⊢
   clear hpb
   refine wpMix_step HWB.out fun wc hc=>?_
   have hkc:=HKB.out.below hc HKB.out.lt
   have st:=st_wyB (vs:=gv) hkc wy0_size hg1 hg2
   have HWC:=Lib.hid (below_setCells hpl gv.toList 0 _ (HWB.out.trans (hc.mono HWB.out.size)))
   clear hc hkc
   go_wp2_with fail
   generalize wc.setCells pb 0 gv.toList=wd at HWC st ⊢
   clear st
   refine wpMix_step HWC.out fun we he=>?_
   have HWE:=Lib.hid (HWC.out.trans (he.mono HWC.out.size))
   clear he
   go_wp2_with fail
   refine wpMix_plain ?_
   have HF7:=Lib.hid (HF6.out.below HWE.out)
   have HX7:=Lib.hid (show RtB we wr.heap.size r from Blk.below HX6.out HWE.out HX6.out.lt)
   have HV7:=Lib.hid (HV6.out.below HWE.out HV6.out.lt)
   have HB7:=Lib.hid (HB6.out.trans (HWE.out.mono HB6.out.size))
   rcases HCASE.out with ⟨hmr,hcd,hec⟩ | ⟨hmr,hcd⟩
   ·subst hcd
    cases gg with
    | true =>
      have HNO:=Lib.hid (show R=none by
       have hm:(T.get (rB r)).isSome=true:=by have:=HGG.out; unfold getG at this; exact (Bool.and_eq_true_iff.1 this.symm).2
       rw [HR.out,HMK.out,HDR.out]
       unfold mkT
       rw [if_neg (fun h=>by rw [h.2] at hm; cases hm)])
      clear hmr hec HEV
      go_wp2_with fail
      go_ret2
      rw [HNO.out]
      exact ⟨rfl,HB7.out⟩
    | false =>
      have hgn:T.get (rB r)=none:=by
       have:=HGG.out
       unfold getG at this
       unfold mayR at hmr
       rw [(Bool.and_eq_true_iff.1 hmr).1] at this
       simpa using this
      obtain ⟨p1,p2,p3⟩:=rB_may HA.out hmr
      have HIN:=Lib.hid (fun (wx:World) (h:FbM dc wx M fb tb n T)=>(show Calls Tryz.prog 50 #[.pointer (some ⟨tb,0,none⟩),pxV r.a r.m,.agg ec] wx (InsPost dc wx M tb n T (rB r) (vf k)) by
       have:=insert_yes HD.out (rB r) (vf k) tb M n T wx h.t p1 (by rw [HLN.out]; omega) hgn (by rw [HLN.out]; omega)
       rw [p2,p3] at this
       rw [hec]
       exact this))
      have HMK2:=Lib.hid (show mkT vf 0 l .nil=mkT vf (k+1) (l.drop (k+1)) (T.ins (rB r) (vf k)) by
       rw [HMK.out,HDR.out,mkT,if_pos ⟨hmr,hgn⟩])
      have HLN2:=Lib.hid (show (T.ins (rB r) (vf k)).list.length=k+1 by
       rw [TT.ins_len HF7.out.t.wf p1,hgn,HLN.out]; rfl)
      clear hmr hec HEV hgn p1 p2 p3
      go_wp2_with fail
      refine wp_region_stages [(true,7),(false,1)] (by kernel_rfl) (by kernel_rfl) fun wz hz hz2=>?_
      have ZF:=Lib.hid (HF7.out.below hz)
      have ZX:=Lib.hid (show RtB wz wr.heap.size r from Blk.below HX7.out hz HX7.out.lt)
      have ZV:=Lib.hid (HV7.out.below hz HV7.out.lt)
      have ZB:=Lib.hid (HB7.out.trans (hz.mono HB7.out.size))
      clear hz hz2
      have q0:=fun (dd:Nat) (os:Array Obj)=>ld_trp ((ZF.out.f.below (below_regrown wz dd os) ZF.out.f.lt).cell 0)
      have q1:=fun (dd:Nat) (os:Array Obj)=>ld_rtP (r:=r) (Blk.below ZX.out (below_regrown wz dd os) ZX.out.lt)
      have q2:=fun (dd:Nat) (os:Array Obj)=>ld_wyB (ZV.out.below (below_regrown wz dd os) ZV.out.lt) HE1.out
      refine wpSt_q ?_
      simp only [List.take_succ_cons,List.take_zero,List.drop_succ_cons,List.drop_zero]
      repeat (go_big_quiet_step (fail))
      refine wpQuiet_nil ?_
      intro _ hw'
      obtain ⟨⟨dq,osq⟩,hw''⟩:=hw'
      subst hw''
      have HFQ:=Lib.hid (ZF.out.below (below_regrown wz dq osq))
      have HBQ:=Lib.hid (ZB.out.trans ((below_regrown wz dq osq).mono ZB.out.size))
      clear q0 q1 q2
      generalize grow (redrawn wz dq) osq=wq at HFQ HBQ ⊢
      refine wpSt_l ?_
      simp only [List.take_succ_cons,List.take_zero,List.drop_succ_cons,List.drop_zero]
      go_wp2_with fail
      refine (HIN.out wq HFQ.out).mono ?_
      rintro e w9 ⟨rfl,hyes⟩
      obtain ⟨M9,f9,m9,u9⟩:=FbM.ins HFQ.out hyes
      have HN9:=Lib.hid (show MkR dc vf w l n fb (k+1) w9 from ⟨_,HMK2.out,HLN2.out,M9,tb,f9,fun k hk=>(m9 k hk).elim (HM.out k) fun e=>Nat.le_trans HBQ.out.size e,HFL.out,HBQ.out.trans (u9.below HM.out HBQ.out.size)⟩)
      clear hyes f9 m9 u9
      go_wp2_with fail
      refine wpSt_end ?_
      go_wp2_with fail
      go_roundw
      case rel=>exact ⟨k+1,by omega,by go_num,HN9.out⟩
      case measure=>simp [intOf]; omega
   ·subst hcd
    have HNO:=Lib.hid (show R=none by
     rw [HR.out,HMK.out,HDR.out]
     unfold mkT
     rw [if_neg (fun h=>by rw [h.1] at hmr; cases hmr)])
    clear hmr HEV
    go_wp2_with fail
    go_ret2
    rw [HNO.out]
    exact ⟨rfl,HB7.out⟩
  ·have hkn:k=n:=by omega
   subst hkn
   have hd0:decide ((k:Int) < (k:Int))=false:=decide_eq_false (by omega)
   have hd1:decide (k < k)=false:=decide_eq_false (by omega)
   clear hlt
   go_wp2_with fail
   go_ret2
   exact mk_end HS.out HRT.out.len HR.out
end Go.Proofs.YthlommalbkhcjaaGreat
