/- Icmp: Of, of both. -/
import Derived.Test.YthlommalbkhcjaaGreatNq24
import Derived.Test.YthlommalbkhcjaaGreatNq42
import Derived.Test.YthlommalbkhcjaaGreatNq20
namespace Go.Proofs.YthlommalbkhcjaaGreat
open Go.RowKit Go.Sort Go.BigFrame
def icC (m:Ic) (v:Value):Array Value:=#[.int .u8 (m.ty.toNat:Int),.int .u8 (m.co.toNat:Int),.int .u8 (m.r0.toNat:Int),.int .u8 (m.r1.toNat:Int),.int .u8 (m.r2.toNat:Int),.int .u8 (m.r3.toNat:Int),v]
def icV (m:Ic) (v:Value):Value:=.agg (icC m v)
theorem ic_info:(Tryz.prog.info? 86).map (·.size)=some 7:=by kernel_rfl
section
variable {w:World} {g:Nat} {cs vs:Array Value}
theorem ic_store (h:Blk w g 86 cs) (hc:cs.size=7) (hv:vs.size=7) (h1:vs.all (·.oneCell')=true):(Instr.storeAt 86 (.pointer (some ⟨g,0,none⟩)) (.agg vs)).run Tryz.prog w=.ok () (w.setCells g 0 vs.toList) :=
 run_storeAt_mid w g 0 _ vs (by have:=blk_there h; rwa [hc,← hv] at this) (by rw [hv]; exact ic_info) h1
theorem ic_load (h:Blk w g 86 cs) (hc:cs.size=7):(Instr.loadAt 86 (.pointer (some ⟨g,0,none⟩))).run Tryz.prog w=.ok (.agg cs) w:=by
 have:=run_loadAt_mid (P:=Tryz.prog) w g 0 86 cs.toList _ (blk_range h) Tryz.underlying86 rfl (by simpa [hc] using ic_info)
 simpa using this
theorem res_ic {fn:Func} {p u:Tmp} (hf:fn.results=#[.cell p 86,.tmp u]) (tmps:Array Value) (hp:tmps.getD p undef=.pointer (some ⟨g,0,none⟩)) (h:Blk w g 86 cs) (hc:cs.size=7) :
  (results fn tmps).run Tryz.prog w=.ok (.tuple #[.agg cs,tmps.getD u undef]) w:=by
 have hl:=run_loadVar_mid (P:=Tryz.prog) w g 0 86 cs.toList _ (blk_range h) Tryz.underlying86 rfl (by simpa [hc] using ic_info)
 have e1:tmps[p]?.getD undef=.pointer (some ⟨g,0,none⟩):=by simpa using hp
 simp only [results,hf]
 simp [Result.andThen,e1,asAddr,hl]
theorem sl_arr4 (w:World) (a:Addr):(Instr.sliceAt 84 (.pointer (some a)) none none none).run Tryz.prog w=.ok (.slice (some a) 4 4) w:=by
 have h4:Tryz.prog.arrayLen 84=4:=by kernel_rfl
 have hz:(sizeOf (Tryz.prog.elem 84)).run Tryz.prog w=.ok 1 w:=by kernel_rfl
 rw [run_sliceAt_array_all w 84 a (by kernel_rfl),hz,h4]
 simp [Result.andThen,slicedAt,Addr.add]
theorem rest_sl {m:Ic} {v:Value} (h:Blk w g 86 (icC m v)):Sl8 w (fun _=>True) (.slice (some ⟨g,2,none⟩) 4 4) [m.r0,m.r1,m.r2,m.r3]:=by
 refine ⟨some ⟨g,2,none⟩,4,rfl,Nat.le_refl _,by simp [bytesV],fun _=>⟨⟨g,2,none⟩,rfl,trivial,h.lt,fun j u hu=>?_⟩⟩
 rw [add_off,h.cell]
 match j,hu with
 | 0,hu=>simpa [bytesV,icC] using hu
 | 1,hu=>simpa [bytesV,icC] using hu
 | 2,hu=>simpa [bytesV,icC] using hu
 | 3,hu=>simpa [bytesV,icC] using hu
 | j+4,hu=>simp [bytesV] at hu
theorem lit4_sl {x0 x1 x2 x3:UInt8} {b:Nat} (h:Blk w b 5 #[.int .u8 (x0.toNat:Int),.int .u8 (x1.toNat:Int),.int .u8 (x2.toNat:Int),.int .u8 (x3.toNat:Int)]):Sl8 w (fun _=>True) (.slice (some ⟨b,0,none⟩) 4 4) [x0,x1,x2,x3]:=by
 refine ⟨some ⟨b,0,none⟩,4,rfl,Nat.le_refl _,by simp [bytesV],fun _=>⟨⟨b,0,none⟩,rfl,trivial,h.lt,fun j u hu=>?_⟩⟩
 rw [add_off,Nat.zero_add,h.cell]
 match j,hu with
 | 0,hu=>simpa [bytesV] using hu
 | 1,hu=>simpa [bytesV] using hu
 | 2,hu=>simpa [bytesV] using hu
 | 3,hu=>simpa [bytesV] using hu
 | j+4,hu=>simp [bytesV] at hu
end
theorem copy2 {w:World} {B C g n cap off k d c3 ck:Nat} {x:By} {a3:Option Addr} (h:Row8 B w (.slice (some ⟨g,0,none⟩) n cap) x) (hl:x.length=n) (ho:off+2≤n) (hk:2≤k) (hv:Row8 C w (.slice a3 2 c3) (putF ck 2)) :
  ∃ w2,(Builtin.copy_ #[61,61] 3 #[.slice (some ⟨g,off,none⟩) k d,.slice a3 2 c3]).run Tryz.prog w=.ok (.int .i64 2) w2 ∧
    Row8 B w2 (.slice (some ⟨g,0,none⟩) n cap) ((x.set off (u8 (ck / 256))).set (off+1) (u8 ck))∧Upd (only g) w w2:=by
 obtain ⟨ad,rfl,_,_,hs3⟩:=(hv.reads).2.2 (by decide)
 obtain ⟨g2',cap',ev,_,_,cur,hbk,hcur⟩:=h.blk (by omega)
 injection ev with ev ev2 ev3
 clear ev2 ev3
 injection ev with ev
 injection ev with ev ev2 ev3
 clear ev2 ev3
 subst ev
 have hex:∀ i,i < n→(w.cell? ⟨g,i,none⟩).isSome=true:=fun i hi=>by
  rw [hbk.cell,hcur i _ (List.getElem?_eq_getElem (by rw [bytesV_len,hl]; exact hi))]
  rfl
 have hcp:=run_copy_cells (P:=Tryz.prog) w 61 61 3 5 g off k d ad 2 c3 (bytesV (putF ck 2)) Tryz.underlying61 (by kernel_rfl) (by rw [bytesV_len,putF_len]; exact (Nat.min_eq_left (by omega)).symm) hs3 (fun j hj=>hex _ (by rw [bytesV_len,putF_len] at hj; omega)) (fun j hj=>hbk.frozen _) (bytesV_one _)
 have e9:bytesV (putF ck 2)=[.int .u8 ((u8 (ck / 256)).toNat:Int),.int .u8 ((u8 ck).toNat:Int)]:=by rw [put2]; rfl
 rw [e9] at hcp
 have f1:=Row8.set (i:=off) (b:=u8 (ck / 256)) h
 have f2:=Row8.set (i:=off+1) (b:=u8 ck) f1
 exact ⟨_,hcp,f2,((Upd.refl (only g) w).set_ off _).set_ (off+1) _⟩
def IcBPost (w:World) (y:By) (e:Ending) (w':World):Prop:=∃ v,e=.returned v∧Row8 w.heap.size w' v y∧Below w.heap.size w w'
attribute [-go_sem] Instr.storeAt Instr.loadAt in
set_option maxRecDepth 100000 in
set_option maxHeartbeats 4000000 in
theorem icbytes_any (m:Ic) (v:Value) (I:Nat→Prop) (w:World) (hv:Sl8 w I v m.body) (hsm:m.body.length≤900000) :
  Calls Tryz.prog 206 #[icV m v] w (IcBPost w (icB m)):=by
 obtain ⟨A,c,rfl,hc,hr⟩:=hv
 obtain ⟨n,hn⟩:∃ n,n=m.body.length:=⟨_,rfl⟩
 rw [← hn] at hc hr hsm ⊢
 obtain ⟨W,hW⟩:∃ W,W=w.alloc (.cells (icC m (.slice A n c)) 86):=⟨_,rfl⟩
 have hb0:Below w.heap.size w W:=by rw [hW]; exact (Below.refl _ _).alloc (Nat.le_refl _) _
 have hk0:Blk W w.heap.size 86 (icC m (.slice A n c)):=by rw [hW]; exact Blk.new _ _ _
 have hs0:Sl8 W (fun _=>True) (.slice A n c) m.body:=⟨A,c,by rw [hn],by omega,by rw [← hn]; exact ((hr.lt).keep (Same.ofBelow hb0 fun k hk=>hk.2)).mono fun _ _=>trivial⟩
 have HW:=Lib.hid hW
 have HB0:=Lib.hid hb0
 have HK0:=Lib.hid hk0
 have HS0:=Lib.hid hs0
 have HN:=Lib.hid hn
 obtain ⟨ty,hty⟩:∃ z:Int,z=(m.ty.toNat:Int):=⟨_,rfl⟩
 obtain ⟨co,hco⟩:∃ z:Int,z=(m.co.toNat:Int):=⟨_,rfl⟩
 have HTY:=Lib.hid hty
 have HCO:=Lib.hid hco
 clear hW hb0 hk0 hs0 hc hr hn hty hco
 unfold icV
 go_enter Tryz.func206,Tryz.ntmps206
 go_upto_region 1 with (fail)
 rw [← HW.out]
 have HCC:=Lib.hid (fun (a b:World) (ha:Blk a w.heap.size 86 (icC m (.slice A n c))∧Sl8 a (fun _=>True) (.slice A n c) m.body∧Below w.heap.size w a) (hb:Below a.heap.size a b)=>(⟨ha.1.below hb ha.1.lt,ha.2.1.below hb,ha.2.2.trans (hb.mono ha.2.2.size)⟩:Blk b w.heap.size 86 (icC m (.slice A n c))∧Sl8 b (fun _=>True) (.slice A n c) m.body∧Below w.heap.size w b))
 refine wp_region_mix [(true,4),(false,1),(true,4),(false,3)] 1 (by kernel_rfl) (fun a=>Blk a w.heap.size 86 (icC m (.slice A n c))∧Sl8 a (fun _=>True) (.slice A n c) m.body∧Below w.heap.size w a) HCC.out (by kernel_rfl) ⟨HK0.out,HS0.out,HB0.out⟩ (a':=?_) (fun wz hz=>?_) fun wz hz=>?_
 rotate_left
 ·obtain ⟨hk,_,_⟩:=hz
  have x0:=fun (dd:Nat) (os:Array Obj)=>ld_u8s (z:=ty) (by rw [HTY.out]; exact (hk.below (below_regrown wz dd os) hk.lt).cell 0)
  have x1:=fun (dd:Nat) (os:Array Obj)=>ld_u8s (z:=co) (by rw [HCO.out]; exact (hk.below (below_regrown wz dd os) hk.lt).cell 1)
  have x2:=fun (wx:World)=>sl_arr4 wx ⟨w.heap.size,2,none⟩
  have x3:=fun (dd:Nat) (os:Array Obj)=>ld8s ((hk.below (below_regrown wz dd os) hk.lt).cell 6)
  clear hk
  simp only [pick_nil,pick_tt,pick_ft,List.take_succ_cons,List.take_zero,List.drop_succ_cons,List.drop_zero,List.append_nil,List.cons_append,List.nil_append]
  repeat (go_big_quiet_step (fail))
  refine wpQuiet_nil ?_
  rfl
 ·simp only [pick_nil,pick_ff,pick_tf,List.take_succ_cons,List.take_zero,List.drop_succ_cons,List.drop_zero,List.append_nil,List.cons_append,List.nil_append]
  have S1:=Lib.hid (HCC.out _ _ ⟨HK0.out,HS0.out,HB0.out⟩ hz)
  clear hz
  refine wpMix_step S1.out fun wa ha=>?_
  obtain ⟨W1,hW1⟩:∃ W,W=wa.alloc (.cells #[.int .u8 ty,.int .u8 co,.int .u8 0,.int .u8 0] 5):=⟨_,rfl⟩
  have hb1:Below wa.heap.size wa W1:=by rw [hW1]; exact (Below.refl _ _).alloc (Nat.le_refl _) _
  have S2:=Lib.hid (HCC.out _ _ (HCC.out _ _ S1.out ha) hb1)
  have K2:=Lib.hid (show Blk W1 wa.heap.size 5 #[.int .u8 (m.ty.toNat:Int),.int .u8 (m.co.toNat:Int),.int .u8 ((0:UInt8).toNat:Int),.int .u8 ((0:UInt8).toNat:Int)] by rw [hW1,HTY.out,HCO.out]; exact Blk.new _ _ _)
  have HW1:=Lib.hid hW1
  clear ha hb1 hW1
  go_wp2_with fail
  rw [← HW1.out]
  obtain ⟨gb,hgb⟩:∃ g,g=wa.heap.size:=⟨_,rfl⟩
  rw [← hgb] at K2 ⊢
  clear hgb HW1
  refine wpMix_step S2.out fun wb hb=>?_
  obtain ⟨W2,hW2⟩:∃ W,W=wb.alloc (.cells #[.slice (some ⟨gb,0,none⟩) 4 4,.slice (some ⟨w.heap.size,2,none⟩) 4 4,.slice A n c] 61):=⟨_,rfl⟩
  have hb2:Below wb.heap.size wb W2:=by rw [hW2]; exact (Below.refl _ _).alloc (Nat.le_refl _) _
  have s3:=HCC.out _ _ (HCC.out _ _ S2.out hb) hb2
  have k3:=(K2.out.below hb K2.out.lt).below hb2 (K2.out.below hb K2.out.lt).lt
  have hj:=wjoin_any (some ⟨wb.heap.size,0,none⟩) 3 3 [.slice (some ⟨gb,0,none⟩) 4 4,.slice (some ⟨w.heap.size,2,none⟩) 4 4,.slice A n c] [[m.ty,m.co,0,0],[m.r0,m.r1,m.r2,m.r3],m.body] _ W2 (by rw [hW2]; exact reads_lit wb 61 _ 3 1 (0,0) rfl) ⟨lit4_sl k3,rest_sl s3.1,s3.2.1,trivial⟩ (by have:=HN.out; simp only [List.flatten_cons,List.flatten_nil,List.length_append,List.length_cons,List.length_nil]; omega) (by omega)
  have hfl:[[m.ty,m.co,0,0],[m.r0,m.r1,m.r2,m.r3],m.body].flatten=icW m 0 0:=by simp [icW]
  rw [hfl] at hj
  have HJ:=Lib.hid hj
  have HBB:=Lib.hid s3.2.2
  have HW2:=Lib.hid hW2
  clear hb hb2 s3 k3 hj hfl hW2
  go_wp2_with fail
  rw [← HW2.out]
  refine wpMix_plain ?_
  go_wp2_with fail
  refine HJ.out.mono ?_
  rintro e w3 ⟨v3,rfl,h3,hb3⟩
  obtain ⟨x,hx⟩:∃ x,x=icW m 0 0:=⟨_,rfl⟩
  rw [← hx] at h3
  have hxl:x.length=8+n:=by rw [hx]; unfold icW; have:=HN.out; simp only [List.length_cons]; omega
  obtain ⟨g,cap,rfl,hcap,hgB,_⟩:=h3.blk (by omega)
  obtain ⟨q,hq⟩:∃ q,q=x.length:=⟨_,rfl⟩
  rw [← hq] at hcap hxl h3 ⊢
  have HX:=Lib.hid hx
  have HQ:=Lib.hid hq
  have H3:=Lib.hid h3
  have HB3:=Lib.hid (HBB.out.trans (hb3.mono HBB.out.size))
  have HG:=Lib.hid (Nat.le_trans HBB.out.size hgB)
  have hq8:8≤q:=by omega
  have hqn:q≤900008:=by omega
  clear h3 hb3 hx hq hgB hxl
  obtain ⟨W4,hW4⟩:∃ W,W=w3.alloc (.cells #[.slice (some ⟨g,0,none⟩) q cap] 61):=⟨_,rfl⟩
  have hb4:Below w3.heap.size w3 W4:=by rw [hW4]; exact (Below.refl _ _).alloc (Nat.le_refl _) _
  have k4:Blk W4 w3.heap.size 61 #[.slice (some ⟨g,0,none⟩) q cap]:=by rw [hW4]; exact Blk.new _ _ _
  have h4:=H3.out.below hb4
  have hck:=check_any ⟨w3.heap.size,0,none⟩ 1 (some ⟨g,0,none⟩) q cap x _ W4 (k4.cell 0) ((h4.reads).2) HQ.out.symm (by omega)
  obtain ⟨ck,hckk⟩:∃ k,k=checkF x:=⟨_,rfl⟩
  rw [← hckk] at hck
  have hc16:ck < 65536:=by rw [hckk]; unfold checkF; omega
  have HCK:=Lib.hid hck
  have HCKK:=Lib.hid hckk
  have H4:=Lib.hid h4
  have HB4:=Lib.hid (HB3.out.trans (hb4.mono HB3.out.size))
  have HW4:=Lib.hid hW4
  clear hb4 k4 h4 hck hckk hW4
  go_wp2_with fail
  rw [← HW4.out]
  refine HCK.out.mono ?_
  rintro e w5 ⟨rfl,hb5⟩
  have H5:=Lib.hid (H4.out.below hb5)
  have HB5:=Lib.hid (HB4.out.trans (hb5.mono HB4.out.size))
  have HPU:=Lib.hid (fun (wx:World)=>wput2_any ck wx hc16)
  have hwr:IntKind.u64.wrap (ck:Int)=(ck:Int):=wraps_u64 _ (by omega) (by omega)
  clear hb5
  go_wp2_with fail
  refine (HPU.out _).mono ?_
  rintro e w6 ⟨v6,rfl,h6,hb6⟩
  obtain ⟨A6,c6,rfl,_⟩:=h6.form
  rw [putF_len] at h6 ⊢
  obtain ⟨w7,hcp,h7,hu7⟩:=copy2 (off:=2) (k:=q - 2) (d:=cap - 2) (H5.out.below hb6) HQ.out.symm (by omega) (by omega) h6
  have HB6:=Lib.hid (HB5.out.trans (hb6.mono HB5.out.size))
  have hb7:=HB6.out.trans (hu7.below (B:=w.heap.size) (fun k (hk:k=g)=>by have:=HG.out; omega) HB6.out.size)
  have hs2:=sl_lo (some ⟨g,0,none⟩) q cap w6 2 (by omega)
  have H7:=Lib.hid h7
  have HB7:=Lib.hid hb7
  have hcp2:cap≠2:=by omega
  rw [if_neg hcp2,Option.map_some,add_off] at hs2
  clear h6 hb6 h7 hu7 hb7
  go_wp2_with fail
  go_ret
  refine ⟨_,rfl,?_,HB7.out⟩
  have hres:icB m=(x.set 2 (u8 (ck / 256))).set 3 (u8 ck):=by
   rw [HCKK.out,HX.out]
   rfl
  have hl:(icB m).length=q:=by rw [hres,List.length_set,List.length_set,HQ.out]
  unfold Row8
  rw [hl,hres]
  have h7:=H7.out
  unfold Row8 at h7
  rw [List.length_set,List.length_set,← HQ.out] at h7
  exact own_base h7 HBB.out.size
end Go.Proofs.YthlommalbkhcjaaGreat
namespace Go.Proofs.YthlommalbkhcjaaGreat
open Go.RowKit Go.Sort Go.BigFrame
theorem ld_arr4 {w:World} {p:Addr} {a0 a1 a2 a3:Int} (h0:w.cell? p=some (.int .u8 a0)) (h1:w.cell? ⟨p.block,p.off+1,none⟩=some (.int .u8 a1)) (h2:w.cell? ⟨p.block,p.off+2,none⟩=some (.int .u8 a2)) (h3:w.cell? ⟨p.block,p.off+3,none⟩=some (.int .u8 a3)) :
  (Instr.loadAt 84 (.pointer (some p))).run Tryz.prog w=.ok (.agg #[.int .u8 a0,.int .u8 a1,.int .u8 a2,.int .u8 a3]) w:=by
 simp [go_sem,h0,h1,h2,h3]
theorem ic_build0 (w:World):(Instr.build 86 #[]).run Tryz.prog w=.ok (.agg #[.int .u8 0,.int .u8 0,.int .u8 0,.int .u8 0,.int .u8 0,.int .u8 0,.slice none 0 0]) w:=by kernel_rfl
theorem ic_build (w:World) (a b c0 c1 c2 c3:Int) (A:Option Addr) (n c:Nat):(Instr.build 86 #[(0,.int .u8 a),(1,.int .u8 b),(2,.agg #[.int .u8 c0,.int .u8 c1,.int .u8 c2,.int .u8 c3]),(3,.slice A n c)]).run Tryz.prog w=.ok (.agg #[.int .u8 a,.int .u8 b,.int .u8 c0,.int .u8 c1,.int .u8 c2,.int .u8 c3,.slice A n c]) w:=by kernel_rfl
def OfPost (w:World) (r:Ic × Nat) (e:Ending) (w':World):Prop:=∃ v,e=.returned (.tuple #[icV r.1 v,.int .i64 (r.2:Int)])∧Row8 w.heap.size w' v r.1.body∧Below w.heap.size w w'
theorem add_next (ad:Addr) (a b:Nat) (ha:0 < a):(⟨(ad.add a).block,(ad.add a).off+b,none⟩:Addr)=ad.add (a+b):=by
 rw [add_pos ad a ha,add_pos ad (a+b) (by omega)]
 simp
 omega
theorem head8 {w:World} {I:Nat→Prop} {A:Option Addr} {n:Nat} {x:By} (h:Reads w I 1 A n (bytesV x)) (hn:x.length=n) (h8:8≤n):∃ ad,A=some ad∧∀ k,k < 8→w.cell? (ad.add k)=some (.int .u8 ((x.getD k 0).toNat:Int)):=by
 obtain ⟨ad,rfl,_,_,hc⟩:=h.2 (by omega)
 refine ⟨ad,rfl,fun k hk=>?_⟩
 have:=hc k (.int .u8 ((x.getD k 0).toNat:Int)) (by
  rw [bytes_get (show k < x.length by omega)]
  congr 4
  rw [List.getD_eq_getElem?_getD,List.getElem?_eq_getElem (show k < x.length by omega)]
  rfl)
 simpa using this
theorem ld_u8a {w:World} {a:Addr} {z:Int} (hu:w.cell? a=some (.int .u8 z)):(Instr.loadAt 5 (.pointer (some a))).run Tryz.prog w=.ok (.int .u8 z) w:=by
 simp [go_sem,hu]
theorem arr_at (w:World) (A:Option Addr) (c:Nat):(Instr.arrayAt 84 (.slice A 4 c)).run Tryz.prog w=.ok (.pointer A) w:=run_arrayAt w 84 5 4 A 4 c (by kernel_rfl) (Nat.le_refl _)
attribute [-go_sem] Instr.storeAt Instr.loadAt in
set_option maxRecDepth 100000 in
set_option maxHeartbeats 4000000 in
theorem icof_any (A:Option Addr) (n c:Nat) (x:By) (I:Nat→Prop) (w:World) (h:Reads w I 1 A n (bytesV x)) (hn:x.length=n) (hc:n≤c) (hsm:n≤1000000) :
  Calls Tryz.prog 34 #[.slice A n c] w (OfPost w (icOf x)):=by
 obtain ⟨W,hW⟩:∃ W,W=w.alloc (.cells #[.int .u8 0,.int .u8 0,.int .u8 0,.int .u8 0,.int .u8 0,.int .u8 0,.slice none 0 0] 86):=⟨_,rfl⟩
 have hb0:Below w.heap.size w W:=by rw [hW]; exact (Below.refl _ _).alloc (Nat.le_refl _) _
 have hk0:Blk W w.heap.size 86 #[.int .u8 0,.int .u8 0,.int .u8 0,.int .u8 0,.int .u8 0,.int .u8 0,.slice none 0 0]:=by rw [hW]; exact Blk.new _ _ _
 have hr0:=(h.lt).keep (Same.ofBelow hb0 fun k hk=>hk.2)
 have hz0:W.heap.size=w.heap.size+1:=by rw [hW]; simp
 have HW:=Lib.hid hW
 have HB0:=Lib.hid hb0
 have HK0:=Lib.hid hk0
 have HR0:=Lib.hid hr0
 have HN:=Lib.hid hn
 have HC:=Lib.hid hc
 have HZ0:=Lib.hid hz0
 have hb00:=ic_build0
 clear hW hb0 hk0 hr0 h hn hc hz0
 go_enter Tryz.func34,Tryz.ntmps34
 by_cases h8:n < 8
 ·have d1:decide ((n:Int) < 8)=true:=decide_eq_true (by omega)
  have d2:decide (n < 8)=true:=decide_eq_true h8
  have hst:=ic_store (vs:=#[.int .u8 0,.int .u8 0,.int .u8 0,.int .u8 0,.int .u8 0,.int .u8 0,.slice none 0 0]) HK0.out rfl rfl (by simp [Value.oneCell'])
  have he:icOf x=(ic0,4):=by unfold icOf; rw [if_pos (.inl (by have:=HN.out; omega))]
  have HE:=Lib.hid he
  clear he
  go_upto_region 1 with (fail)
  rw [← HW.out]
  go_wp2_with fail
  refine bodyPost_ret_by (res_ic (cs:=#[.int .u8 0,.int .u8 0,.int .u8 0,.int .u8 0,.int .u8 0,.int .u8 0,.slice none 0 0]) rfl _ rfl (blk_setCells (vs:=#[.int .u8 0,.int .u8 0,.int .u8 0,.int .u8 0,.int .u8 0,.int .u8 0,.slice none 0 0]) HK0.out rfl) rfl) rfl ?_
  rw [HE.out]
  exact ⟨.slice none 0 0,rfl,Row8.nil _ _,below_setCells (Nat.le_refl _) _ 0 _ HB0.out⟩
 ·have d1:decide ((n:Int) < 8)=false:=decide_eq_false (by omega)
  have d2:decide (n < 8)=false:=decide_eq_false h8
  have hgd:=good_any A n c x _ W HR0.out HN.out hsm
  obtain ⟨gd,hgg⟩:∃ b,b=decide (totalF x=65535):=⟨_,rfl⟩
  rw [← hgg] at hgd
  have HGD:=Lib.hid hgd
  have HGG:=Lib.hid hgg
  clear hgd hgg
  cases gd with
  | false =>
    have he:icOf x=(ic0,4):=by
     unfold icOf
     rw [if_pos (.inr (of_decide_eq_false HGG.out.symm))]
    have HE:=Lib.hid he
    clear he
    go_upto_region 1 with (fail)
    rw [← HW.out]
    go_wp2_with fail
    refine HGD.out.mono ?_
    rintro e w1 ⟨rfl,hb1⟩
    have hk1:=HK0.out.below hb1 HK0.out.lt
    have hst:=ic_store (vs:=#[.int .u8 0,.int .u8 0,.int .u8 0,.int .u8 0,.int .u8 0,.int .u8 0,.slice none 0 0]) hk1 rfl rfl (by simp [Value.oneCell'])
    have HK1:=Lib.hid hk1
    have HB1:=Lib.hid (HB0.out.trans (hb1.mono HB0.out.size))
    clear hb1 hk1
    go_wp2_with fail
    refine bodyPost_ret_by (res_ic (cs:=#[.int .u8 0,.int .u8 0,.int .u8 0,.int .u8 0,.int .u8 0,.int .u8 0,.slice none 0 0]) rfl _ rfl (blk_setCells (vs:=#[.int .u8 0,.int .u8 0,.int .u8 0,.int .u8 0,.int .u8 0,.int .u8 0,.slice none 0 0]) HK1.out rfl) rfl) rfl ?_
    rw [HE.out]
    exact ⟨.slice none 0 0,rfl,Row8.nil _ _,below_setCells (Nat.le_refl _) _ 0 _ HB1.out⟩
  | true =>
    have ht:totalF x=65535:=of_decide_eq_true HGG.out.symm
    have he:icOf x=(⟨x.getD 0 0,x.getD 1 0,x.getD 4 0,x.getD 5 0,x.getD 6 0,x.getD 7 0,x.drop 8⟩,0):=by
     unfold icOf
     rw [if_neg (by have:=HN.out; rw [ht]; omega)]
    have HE:=Lib.hid he
    clear he ht
    obtain ⟨ad,rfl,hcell⟩:=head8 HR0.out HN.out (by omega)
    go_upto_region 1 with (fail)
    rw [← HW.out]
    go_upto_region 3 with (refine HGD.out.mono ?_; rintro e w1 ⟨rfl,hb1⟩; have HB1:=Lib.hid hb1; clear hb1)
    have hcl:∀ k,k < 8→∀ wx,Below W.heap.size W wx→wx.cell? (ad.add k)=some (.int .u8 ((x.getD k 0).toNat:Int)):=fun k hk wx hb=>(hb.cell (block_lt_of_cell (hcell k hk))).trans (hcell k hk)
    have HCL:=Lib.hid hcl
    clear hcell hcl
    have hs4:=fun wx=>sl_lohi (some ad) n c wx 4 8 (by omega) (by have:=HC.out; omega)
    have hs8:=fun wx=>sl_lo (some ad) n c wx 8 (by omega)
    have e40:(if c=4 then some ad else Option.map (fun x=>x.add 4) (some ad))=some ⟨ad.block,ad.off+4,none⟩:=by rw [if_neg (by have:=HC.out; omega),← add_pos ad 4 (by omega)]; rfl
    simp only [e40] at hs4
    have hs4l:∀ wx,(Instr.slice 61 (.slice (some ad) n c) (some (.int .i64 4)) (some (.int .i64 8)) none).run Tryz.prog wx=.ok (.slice (some ⟨ad.block,ad.off+4,none⟩) 4 (c - 4)) wx:=hs4
    obtain ⟨A8,hA8⟩:∃ A8,A8=(if c=8 then some ad else Option.map (fun x=>x.add 8) (some ad)):=⟨_,rfl⟩
    simp only [← hA8] at hs8
    have hs8l:∀ wx,(Instr.slice 61 (.slice (some ad) n c) (some (.int .i64 8)) none none).run Tryz.prog wx=.ok (.slice A8 (n - 8) (c - 8)) wx:=hs8
    clear hs4 hs8
    have h8r:Sl8 W (fun k=>(I k∧k < w.heap.size)∧k < W.heap.size) (.slice A8 (n - 8) (c - 8)) (x.drop 8):=by
     have:=(cut_lo (w:=W) (k:=8) (cap:=c) (x:=x) (by rw [HN.out]; exact HR0.out) (by have:=HN.out; omega) (by have:=HN.out; have:=HC.out; omega)).lt
     rw [hA8]
     rwa [HN.out] at this
    have HR8:=Lib.hid h8r
    obtain ⟨b0,hb0⟩:∃ z:Int,z=((x.getD 0 0).toNat:Int):=⟨_,rfl⟩
    obtain ⟨b1,hb1⟩:∃ z:Int,z=((x.getD 1 0).toNat:Int):=⟨_,rfl⟩
    obtain ⟨b4,hb4⟩:∃ z:Int,z=((x.getD 4 0).toNat:Int):=⟨_,rfl⟩
    obtain ⟨b5,hb5⟩:∃ z:Int,z=((x.getD 5 0).toNat:Int):=⟨_,rfl⟩
    obtain ⟨b6,hb6⟩:∃ z:Int,z=((x.getD 6 0).toNat:Int):=⟨_,rfl⟩
    obtain ⟨b7,hb7⟩:∃ z:Int,z=((x.getD 7 0).toNat:Int):=⟨_,rfl⟩
    have hl0:∀ wx,Below W.heap.size W wx→(Instr.loadAt 5 (.pointer (some ad))).run Tryz.prog wx=.ok (.int .u8 b0) wx:=fun wx hb=>ld_u8a (by have:=HCL.out 0 (by omega) wx hb; rw [hb0]; rwa [show ad.add 0=ad by simp [Addr.add]] at this)
    have hl1:∀ wx,Below W.heap.size W wx→(Instr.loadAt 5 (.pointer (some ⟨ad.block,ad.off+1,none⟩))).run Tryz.prog wx=.ok (.int .u8 b1) wx:=fun wx hb=>ld_u8a (by rw [hb1,← add_pos ad 1 (by omega)]; exact HCL.out 1 (by omega) wx hb)
    have hl4:∀ wx,Below W.heap.size W wx→(Instr.loadAt 84 (.pointer (some ⟨ad.block,ad.off+4,none⟩))).run Tryz.prog wx=.ok (.agg #[.int .u8 b4,.int .u8 b5,.int .u8 b6,.int .u8 b7]) wx:=fun wx hb=>by
     rw [← add_pos ad 4 (by omega)]
     refine ld_arr4 (by rw [hb4]; exact HCL.out 4 (by omega) wx hb) ?_ ?_ ?_
     ·rw [hb5,add_next ad 4 1 (by omega)]; exact HCL.out 5 (by omega) wx hb
     ·rw [hb6,add_next ad 4 2 (by omega)]; exact HCL.out 6 (by omega) wx hb
     ·rw [hb7,add_next ad 4 3 (by omega)]; exact HCL.out 7 (by omega) wx hb
    have har:=fun wx=>arr_at wx (some ⟨ad.block,ad.off+4,none⟩) (c - 4)
    have HL0:=Lib.hid hl0
    have HL1:=Lib.hid hl1
    have HL4:=Lib.hid hl4
    have HB0':=Lib.hid hb0
    have HB1':=Lib.hid hb1
    have HB4':=Lib.hid hb4
    have HB5':=Lib.hid hb5
    have HB6':=Lib.hid hb6
    have HB7':=Lib.hid hb7
    clear hl0 hl1 hl4 hb0 hb1 hb4 hb5 hb6 hb7 hA8 h8r e40
    have HCC:=Lib.hid (fun (a b:World) (ha:Below W.heap.size W a) (hb:Below a.heap.size a b)=>(ha.trans (hb.mono ha.size):Below W.heap.size W b))
    refine wp_region_mix [(true,12),(false,4)] 1 (by kernel_rfl) (fun a=>Below W.heap.size W a) HCC.out (by kernel_rfl) HB1.out (a':=?_) (fun wz hz=>?_) fun wz hz=>?_
    rotate_left
    ·have x0:=fun (dd:Nat) (os:Array Obj)=>HL0.out _ (hz.trans ((below_regrown wz dd os).mono hz.size))
     have x1:=fun (dd:Nat) (os:Array Obj)=>HL1.out _ (hz.trans ((below_regrown wz dd os).mono hz.size))
     have x4:=fun (dd:Nat) (os:Array Obj)=>HL4.out _ (hz.trans ((below_regrown wz dd os).mono hz.size))
     clear hz
     simp only [pick_nil,pick_tt,pick_ft,List.take_succ_cons,List.take_zero,List.drop_succ_cons,List.drop_zero,List.append_nil]
     repeat (go_big_quiet_step (fail))
     refine wpQuiet_nil ?_
     rfl
    ·simp only [pick_nil,pick_ff,pick_tf,List.take_succ_cons,List.take_zero,List.drop_succ_cons,List.drop_zero,List.append_nil]
     have hz':=HB1.out.trans (hz.mono HB1.out.size)
     have S0:=Lib.hid hz'
     clear hz hz'
     refine wpMix_step S0.out fun wa ha=>?_
     have S1:=Lib.hid (HCC.out _ _ S0.out ha)
     obtain ⟨e8,h8c,hr8⟩:=(HR8.out.keep (Same.ofBelow S1.out fun k hk=>hk.2)).len
     rw [← e8] at hr8
     have hcl8:=clone8_any A8 (n - 8) (c - 8) (bytesV (x.drop 8)) _ wa hr8 (bytesV_one _) (by omega)
     have HCLN:=Lib.hid hcl8
     have HE8:=Lib.hid e8
     clear ha hcl8 hr8 h8c e8
     go_wp2_with fail
     refine HCLN.out.mono ?_
     rintro e w2 ⟨v2,rfl,h2,hb2⟩
     obtain ⟨A2,c2,rfl,_⟩:=own_form h2
     obtain ⟨n8,hn8⟩:∃ n8,n8=n - 8:=⟨_,rfl⟩
     rw [← hn8] at h2 HE8 ⊢
     have HO2:=Lib.hid (own_base h2 S1.out.size)
     have S2:=Lib.hid (HCC.out _ _ S1.out hb2)
     clear h2 hb2 hn8
     go_wp2_with fail
     refine wpMix_step S2.out fun wb hb=>?_
     have S3:=Lib.hid (HCC.out _ _ S2.out hb)
     have HO3:=Lib.hid (own_below HO2.out hb)
     clear hb
     have hbd:=fun wx=>ic_build wx b0 b1 b4 b5 b6 b7 A2 n8 c2
     go_wp2_with fail
     refine wpMix_plain ?_
     have hk2:=HK0.out.below S3.out HK0.out.lt
     have hst:=ic_store (vs:=#[.int .u8 b0,.int .u8 b1,.int .u8 b4,.int .u8 b5,.int .u8 b6,.int .u8 b7,.slice A2 n8 c2]) hk2 rfl rfl (by simp [Value.oneCell'])
     have HK2:=Lib.hid hk2
     clear hk2
     go_wp2_with fail
     refine bodyPost_ret_by (res_ic (cs:=#[.int .u8 b0,.int .u8 b1,.int .u8 b4,.int .u8 b5,.int .u8 b6,.int .u8 b7,.slice A2 n8 c2]) rfl _ rfl (blk_setCells (vs:=#[.int .u8 b0,.int .u8 b1,.int .u8 b4,.int .u8 b5,.int .u8 b6,.int .u8 b7,.slice A2 n8 c2]) HK2.out rfl) rfl) rfl ?_
     rw [HE.out]
     refine ⟨.slice A2 n8 c2,?_,?_,below_setCells (Nat.le_refl _) _ 0 _ (HB0.out.trans (S3.out.mono HB0.out.size))⟩
     ·rw [HB0'.out,HB1'.out,HB4'.out,HB5'.out,HB6'.out,HB7'.out]
      rfl
     ·show Row8 _ _ _ (x.drop 8)
      unfold Row8
      rw [← HE8.out]
      have hs:=(Upd.setCells #[.int .u8 b0,.int .u8 b1,.int .u8 b4,.int .u8 b5,.int .u8 b6,.int .u8 b7,.slice A2 n8 c2].toList 0 _ (Upd.refl (fun k=>k=w.heap.size) wb) (.inl rfl)).same (I:=fun k=>w.heap.size < k) fun k (hk:k=_) hi=>by omega
      exact own_base (own_keep HO3.out hs fun g hg=>by have:=(own_lt HO3.out hg).1; have:=HZ0.out; omega) HB0.out.size
end Go.Proofs.YthlommalbkhcjaaGreat
