/- Frag: the iterators, Pieces, Cut, Many. -/
import Derived.Test.YthlommalbkhcjaaGreatNq35
import Derived.Test.YthlommalbkhcjaaGreatNq04
import Derived.Test.YthlommalbkhcjaaGreatNq37
import Derived.Test.YthlommalbkhcjaaGreatNq39
import Derived.Lib.QuietBelow
namespace Go.Proofs.YthlommalbkhcjaaGreat
open Go.RowKit
attribute [local go_sem] Oper.semAt_some
abbrev Pc:=Option Addr × Nat × By
def pcV (x:Pc):Array Value:=#[.slice x.1 x.2.2.length x.2.1]
def PcFit (L:List By) (B:Nat) (pre:List Pc) (x:Pc) (V:World):Prop :=
 L[pre.length]?=some x.2.2∧V.ownsRow B 5 1 (.slice x.1 x.2.2.length x.2.1) x.2.2.length (bytesV x.2.2)
set_option maxRecDepth 100000 in
theorem none_fits (w:World) (Kp:World→World→Prop) (Fit:List Pc→Pc→World→Prop) (S Sp:List Pc→Prop) (hS:S []) :
  SeqFit Fence.wide 4 Tryz.prog 224 #[] pcV Kp S Sp Fit w:=fun l J Jx W _ _ _ h0 _=>by
 refine callsIn_of_wp Tryz.func224 rfl trivial ?_ rfl
 simp only [Tryz.ntmps224,List.size_toArray,List.length_cons,List.length_nil,Nat.reduceAdd,Nat.reduceSub,Array.replicate_succ,Array.replicate_zero,List.push_toArray,List.append_toArray,List.nil_append,List.cons_append]
 gi_wp2
 go_end0
 exact ⟨⟨_,rfl⟩,.inl ⟨[],hS,h0⟩⟩
set_option maxRecDepth 100000 in
set_option maxHeartbeats 2000000 in
theorem one_fits (w:World) (Bx:Nat) (ad:Addr) (cap:Nat) (x:By) (J0:Nat→Prop) (hJ:∀ k,J0 k→k < w.heap.size) (hB:Blk w Bx 61 #[.slice (some ad) x.length cap]) (hr:Reads w J0 1 (some ad) x.length (bytesV x)) (hsm:x.length≤1000000) :
  SeqFit Fence.wide 4 Tryz.prog 225 #[.pointer (some ⟨Bx,0,none⟩)] pcV (Same J0) (fun ys=>ys.length=1) (fun _=>True) (PcFit [x] w.heap.size) w:=fun l J Jx W hW hJa _ h0 hY=>by
 have hs:Same J0 w W:=Same.ofBelow hW hJ
 have hcB:W.cell? ⟨Bx,0,none⟩=some (.slice (some ad) x.length cap):=(hB.below hW hB.lt).cell 0
 obtain ⟨i0,hi,hz0,hz1,hz2⟩:=info_parts info_u8
 have hrW:=hr.keep hs
 obtain ⟨n,hn⟩:∃ n,n=x.length:=⟨_,rfl⟩
 rw [← hn] at hcB
 have hcells:∀ (j:Nat) u,(bytesV x)[j]?=some u→W.cell? (ad.add j)=some u:=fun j u hu=>by
  obtain ⟨ad',e,_,_,hc⟩:=hrW.2 (by
   have:=(List.getElem?_eq_some_iff.1 hu).1
   unfold bytesV at this
   simp at this
   omega)
  injection e with e
  subst e
  exact hc j u hu
 have hlen:(bytesV x).length=n * 1:=by rw [hn]; unfold bytesV; simp
 have HC:=Lib.hid hcells
 have HLN:=Lib.hid hlen
 have H1:=Lib.hid (bytesV_one x)
 have HN:=Lib.hid hn
 have HY:=Lib.hid hY
 have HJA:=Lib.hid hJa
 have HH0:=Lib.hid h0
 have HWZ:=Lib.hid hW.size
 have hmx:0+n≤maxLen:=by unfold maxLen; omega
 have hmb:(0+n) * 1≤140737488355328:=by omega
 clear hcells hlen hn hrW hs hY hJa h0 hr hB hW
 refine callsIn_of_wp Tryz.func225 rfl trivial ?_ rfl
 simp only [Tryz.ntmps225,List.size_toArray,List.length_cons,List.length_nil,Nat.reduceAdd,Nat.reduceSub,Array.replicate_succ,Array.replicate_zero,List.push_toArray,List.append_toArray,List.nil_append,List.cons_append]
 gi_wp2_with (refine wpListIn_append_own _ rfl (.const (.slice none 0 0)) (.tmp 4) 61 rfl W.heap.size 5 i0 _ 1 1 Tryz.underlying61 hi hz0 hz1 hz2 rfl Nat.one_pos (.slice none 0 0) 0 [] rfl (World.ownsRow_nil _ _ _ _) ad n cap (bytesV x) rfl HLN.out HC.out H1.out hmx hmb (Nat.le_refl _) ?_; intro v3 w3 hown3 hg3 hat3; have ho3:w3.ownsRow W.heap.size 5 1 v3 n (bytesV x):=(by simpa using hown3); obtain ⟨A3,c3,rfl,_⟩:=own_form ho3; have hJ3:=HJA.out _ _ _ _ HH0.out hg3 (fun r hr=>by cases hr); have hfit:PcFit [x] w.heap.size [] (A3,c3,x) w3:=⟨rfl,by rw [← HN.out]; exact own_base ho3 HWZ.out⟩; have hyy:=HY.out [] (A3,c3,x) w3 hJ3 hfit; unfold pcV at hyy; simp only at hyy; rw [← HN.out] at hyy; clear hown3 hat3 ho3 hJ3 hfit; obtain ⟨fn,tmps,assign,body,hy,hR⟩:=hyy)
 refine hR.mono ?_
 rintro e3 W3 (⟨rfl,hJ3,hk3⟩ | ⟨rfl,hJx3⟩)
 ·gi_wp2
  go_end0
  exact ⟨⟨_,rfl⟩,.inl ⟨_,rfl,hJ3⟩⟩
 ·gi_wp2
  go_end0
  exact ⟨⟨_,rfl⟩,.inr ⟨_,trivial,hJx3⟩⟩
end Go.Proofs.YthlommalbkhcjaaGreat
namespace Go.Proofs.YthlommalbkhcjaaGreat
open Go.RowKit Go.Sort Go.BigFrame
structure PgS (w wx:World) (bs:Nat) (g:Hd) (v:Value):Prop where
 below:Below w.heap.size w wx
 res:∃ cs,Blk wx w.heap.size 76 cs∧cs.size=11
 var:Blk wx bs 76 (hdC g v)
 lt:w.heap.size < bs
section
variable {w wx wy:World} {bs:Nat} {g:Hd} {v:Value}
theorem PgS.keep (h:PgS w wx bs g v) (hb:Below wx.heap.size wx wy):PgS w wy bs g v:=by
 obtain ⟨cs,h1,h2⟩:=h.res
 exact ⟨h.below.trans (hb.mono h.below.size),⟨cs,h1.below hb h1.lt,h2⟩,h.var.below hb h.var.lt,h.lt⟩
theorem PgS.set (h:PgS w wx bs g v) (i:Nat) (u:Value) {g2:Hd} {v2:Value} (e:(hdC g v).setIfInBounds i u=hdC g2 v2):PgS w (wx.setCell ⟨bs,i,none⟩ u) bs g2 v2:=by
 obtain ⟨cs,h1,h2⟩:=h.res
 refine ⟨h.below.setCell (p:=⟨bs,i,none⟩) (Nat.le_of_lt h.lt) _,⟨cs,?_,h2⟩,?_,h.lt⟩
 ·exact h1.far (p:=⟨bs,i,none⟩) (Nat.ne_of_lt h.lt) u
 ·rw [← e]; exact h.var.set_ i u
end
def PgPost (h:Hd) (L m at_:Nat) (w:World) (e:Ending) (w':World):Prop :=
 ∃ v2,e=.returned (.tuple #[hdV (pcF h L m at_).1 v2,.int .i64 ((pcF h L m at_).2:Int)])∧Sl8 w' (fun k=>k < w'.heap.size) v2 (pcF h L m at_).1.opts∧Below w.heap.size w w'
attribute [-go_sem] Instr.storeAt Instr.loadAt in
set_option maxRecDepth 100000 in
set_option maxHeartbeats 8000000 in
theorem piece_any (h:Hd) (A1:Option Addr) (n1 c1 bh bp bm:Nat) (Ap:Option Addr) (L cp:Nat) (m:Int) (at_:Nat) (w:World) (hbh:Blk w bh 76 (hdC h (.slice A1 n1 c1))) (hbp:Blk w bp 61 #[.slice Ap L cp]) (hbm:Blk w bm 3 #[.int .i64 m]) (hv:Sl8 w (fun k=>k < w.heap.size) (.slice A1 n1 c1) h.opts) (hmay:mayH h=true) (h68:68≤m) (hm2:m≤65535) (hlt:at_ < L) (hL:L≤1000000) :
  Calls Tryz.prog 226 #[.int .i64 (at_:Int),.pointer (some ⟨bh,0,none⟩),.pointer (some ⟨bp,0,none⟩),.pointer (some ⟨bm,0,none⟩)] w (PgPost h L m.toNat at_ w):=by
 obtain ⟨W0,hW0⟩:∃ W0,W0=w.alloc (.cells #[.int .u8 0,.int .u16 0,.bool false,.bool false,.bool false,.int .i64 0,.int .u8 0,.int .u8 0,.int .u32 0,.int .u32 0,.slice none 0 0] 76):=⟨_,rfl⟩
 have hb0:Below w.heap.size w W0:=by rw [hW0]; exact (Below.refl _ _).alloc (Nat.le_refl _) _
 have hr0:Blk W0 w.heap.size 76 #[.int .u8 0,.int .u16 0,.bool false,.bool false,.bool false,.int .i64 0,.int .u8 0,.int .u8 0,.int .u32 0,.int .u32 0,.slice none 0 0]:=by rw [hW0]; exact Blk.new _ _ _
 have hl1:=hd_load (hbh.below hb0 hbh.lt) rfl
 obtain ⟨W2,hst2,hb2,hb02,hk2⟩:=hd_var hb0 hb0.size h A1 n1 c1
 have hst:(Instr.storeAt 76 (.pointer (some ⟨W0.heap.size,0,none⟩)) (.agg (hdC h (.slice A1 n1 c1)))).run Tryz.prog (W0.alloc (.cells #[.int .u8 0,.int .u16 0,.bool false,.bool false,.bool false,.int .i64 0,.int .u8 0,.int .u8 0,.int .u32 0,.int .u32 0,.slice none 0 0] 76))=.ok () W2:=hst2
 clear hst2
 have q5:=ld_int (hk2.cell 5)
 have f5:=st_int (hk2.cell 5) (hk2.frozen 5) (h.off+(at_:Int) / 8)
 obtain ⟨hg,h40,h4,ho0,ho1⟩:=may_opts hmay
 have e0:0≤h.off+(at_:Int) / 8:=by omega
 have e1:h.off+(at_:Int) / 8 < 1000000000:=by omega
 obtain ⟨hc40,hc4⟩:=cop_le h4
 have hs0:W0.heap.size=w.heap.size+1:=by rw [hW0]; simp
 have hpg:PgS w W2 W0.heap.size h (.slice A1 n1 c1):=⟨hb2,⟨_,hr0.below hb02 hr0.lt,rfl⟩,hk2,by omega⟩
 obtain ⟨F,hF⟩:∃ F,F=pcF h L m.toNat at_:=⟨_,rfl⟩
 have HF:=Lib.hid hF
 unfold PgPost
 rw [← hF]
 obtain ⟨bs,hbs⟩:∃ bs,bs=W0.heap.size:=⟨_,rfl⟩
 have HW0:=Lib.hid hW0
 have HPG:=Lib.hid hpg
 have HBH:=Lib.hid hbh
 have HBP:=Lib.hid hbp
 have HBM:=Lib.hid hbm
 have HV:=Lib.hid hv
 have HGD:=Lib.hid hg
 have HC4:=Lib.hid hc4
 clear hW0 hb0 hbh hb2 hb02 hk2 hpg hr0 hbp hbm hv hF hs0
 go_enter Tryz.func226,Tryz.ntmps226
 go_upto_region 1 with (fail)
 rw [← HW0.out]
 go_upto_region 3 with (fail)
 obtain ⟨W3,hW3⟩:∃ W3,W3=W2.setCell ⟨W0.heap.size,5,none⟩ (.int .i64 (h.off+(at_:Int) / 8)):=⟨_,rfl⟩
 rw [← hW3]
 obtain ⟨h3,hh3⟩:∃ h3:Hd,h3={ h with off:=h.off+(at_:Int) / 8 }:=⟨_,rfl⟩
 have pg3:PgS w W3 W0.heap.size h3 (.slice A1 n1 c1):=by rw [hW3,hh3]; exact HPG.out.set 5 _ rfl
 rw [← hbs] at pg3 HPG ⊢
 have PG3:=Lib.hid pg3
 have p3:=ld8s ((HBP.out.below pg3.below HBP.out.lt).cell 0)
 have HH3:=Lib.hid hh3
 clear hW3 hst hl1 q5 f5 pg3 HPG hh3 hbs
 by_cases hat:at_=0
 ·subst hat
  obtain ⟨o,ho⟩:∃ o,o=h.opts:=⟨_,rfl⟩
  have ho40:o.length≤40:=by rw [ho]; exact h40
  have hgo:goodF o=true∧o.length % 4=0:=by rw [ho]; exact ⟨HGD.out,h4⟩
  have hsl:=HV.out.keep (Same.ofBelow PG3.out.below fun k hk=>hk)
  have hsl3:Sl8 W3 (fun k=>k < W3.heap.size∧k≠bs∧k≠w.heap.size) (.slice A1 n1 c1) o:=by rw [ho]; exact hsl.mono fun k hk=>⟨Nat.lt_of_lt_of_le hk PG3.out.below.size,by have:=PG3.out.lt; omega,by omega⟩
  have hF0:F=if m.toNat - (20+o.length) < L - 0 then ({ h3 with opts:=o,mf:=true },(m.toNat - (20+o.length)) / 8 * 8) else ({ h3 with opts:=o },L - 0):=by
   rw [HF.out,HH3.out,ho]
   unfold pcF
   simp
  have pg4:PgS w W3 bs { h3 with opts:=o } (.slice A1 n1 c1):=⟨PG3.out.below,PG3.out.res,PG3.out.var,PG3.out.lt⟩
  have PG:=Lib.hid pg4
  have HF0:=Lib.hid hF0
  have HGO:=Lib.hid hgo
  have HSL:=Lib.hid hsl3
  clear hsl hsl3 ho hF0 hgo pg4 PG3 HF HV HGD hc40 HC4 h40 h4
  go_upto_region 6 with (fail)
  have hso:sizeH (optH o)=20+o.length:=by
   unfold sizeH
   rw [if_pos (by unfold mayH optH; simp [HGO.out.1,HGO.out.2,ho40])]
   rfl
  have hcs:=fun (d:Nat) (os:Array Obj)=>Calls.regrown_of (size_any (optH o) (.slice A1 n1 c1) (fun k=>k < W3.heap.size∧k≠bs∧k≠w.heap.size) (grow (redrawn W3 d) os) (HSL.out.keep (Same.ofBelow (below_regrown W3 d os) fun k hk=>hk.1)) (show o.length≤1000000 by omega))
  rw [hso] at hcs
  have k0:=cell_regrown ((HBM.out.below PG.out.below HBM.out.lt).cell 0)
  have k1:=cell_regrown (PG.out.var.cell 10)
  have l0:=fun d os=>ld_int (k0 d os)
  have l1:=fun d os=>ld8s (k1 d os)
  unfold optH hdV at hcs
  clear k0 k1 p3
  refine wp_region_quiet_below (by kernel_rfl) (by kernel_rfl) ?_
  repeat (go_big_quiet_step (exact hcs _ _))
  refine wpQuiet_nil ?_
  intro _ hw'
  obtain ⟨⟨dq,osq⟩,hw''⟩:=hw'
  subst hw''
  clear hcs l0 l1
  have hbq:=below_regrown W3 dq osq
  generalize grow (redrawn W3 dq) osq=wq at hbq
  have pgq:=PG.out.keep hbq
  have hslq:=HSL.out.keep (Same.ofBelow hbq fun k hk=>hk.1)
  have HSQ:=Lib.hid (hslq.mono (J:=fun k=>k < wq.heap.size∧k≠bs∧k≠w.heap.size) fun k hk=>⟨Nat.lt_of_lt_of_le hk.1 hbq.size,hk.2⟩)
  clear hslq hbq
  by_cases hr:m.toNat - (20+o.length) < L - 0
  ·have hF1:=HF0.out
   rw [if_pos hr] at hF1
   obtain ⟨W6,hW6⟩:∃ W6,W6=wq.setCell ⟨bs,4,none⟩ (.bool true):=⟨_,rfl⟩
   have f4:=st_true (pgq.var.cell 4) (pgq.var.frozen 4)
   rw [← hW6] at f4
   have pg6:PgS w W6 bs { h3 with opts:=o,mf:=true } (.slice A1 n1 c1):=by rw [hW6]; exact pgq.set 4 _ rfl
   have hl6:=hd_load pg6.var rfl
   obtain ⟨cs6,hr6,hc6⟩:=pg6.res
   have hst6:=hd_store (vs:=hdC { h3 with opts:=o,mf:=true } (.slice A1 n1 c1)) hr6 hc6 rfl (by simp [hdC,Value.oneCell'])
   have hsl6:=(HSQ.out.keep ((upd_set wq bs 4 (.bool true)).same fun k hk hi=>hi.2.1 hk))
   rw [← hW6] at hsl6
   clear hW6
   have hsl7:=hsl6.keep ((Upd.setCells (hdC { h3 with opts:=o,mf:=true } (.slice A1 n1 c1)).toList 0 _ (Upd.refl (fun k=>k=w.heap.size) W6) (.inl rfl)).same fun k hk hi=>hi.2.2 hk)
   have hr7:=blk_setCells (vs:=hdC { h3 with opts:=o,mf:=true } (.slice A1 n1 c1)) hr6 hc6
   have hb7:=below_setCells (Nat.le_refl _) (hdC { h3 with opts:=o,mf:=true } (.slice A1 n1 c1)).toList 0 _ pg6.below
   obtain ⟨W7,hW7⟩:∃ W7,W7=W6.setCells w.heap.size 0 (hdC { h3 with opts:=o,mf:=true } (.slice A1 n1 c1)).toList:=⟨_,rfl⟩
   rw [← hW7] at hst6 hsl7 hr7 hb7
   have hn:(m - (20+(o.length:Int))) / 8 * 8=(((m.toNat - (20+o.length)) / 8 * 8:Nat):Int):=by omega
   have HN:=Lib.hid hn
   have HSL7:=Lib.hid hsl7
   have HR7:=Lib.hid hr7
   have HB7:=Lib.hid hb7
   have HF1:=Lib.hid hF1
   clear hsl6 hsl7 hr7 hb7 hW7 hr6 hc6 pg6 pgq hF1 hn
   go_wp2_with fail
   refine bodyPost_ret_by (res_hd1 rfl _ rfl HR7.out rfl) rfl ?_
   rw [HF1.out]
   refine ⟨_,?_,HSL7.out.lt.mono fun k hk=>hk.2,HB7.out⟩
   simp only
   rw [← HN.out]
   rfl
  ·have hF1:=HF0.out
   rw [if_neg hr] at hF1
   have pg6:=pgq
   have hl6:=hd_load pg6.var rfl
   obtain ⟨cs6,hr6,hc6⟩:=pg6.res
   have hst6:=hd_store (vs:=hdC { h3 with opts:=o } (.slice A1 n1 c1)) hr6 hc6 rfl (by simp [hdC,Value.oneCell'])
   have hsl6:=HSQ.out
   have hsl7:=hsl6.keep ((Upd.setCells (hdC { h3 with opts:=o } (.slice A1 n1 c1)).toList 0 _ (Upd.refl (fun k=>k=w.heap.size) wq) (.inl rfl)).same fun k hk hi=>hi.2.2 hk)
   have hr7:=blk_setCells (vs:=hdC { h3 with opts:=o } (.slice A1 n1 c1)) hr6 hc6
   have hb7:=below_setCells (Nat.le_refl _) (hdC { h3 with opts:=o } (.slice A1 n1 c1)).toList 0 _ pg6.below
   obtain ⟨W7,hW7⟩:∃ W7,W7=wq.setCells w.heap.size 0 (hdC { h3 with opts:=o } (.slice A1 n1 c1)).toList:=⟨_,rfl⟩
   rw [← hW7] at hst6 hsl7 hr7 hb7
   have hn:(L:Int) - ((0:Nat):Int)=((L - 0:Nat):Int):=by omega
   have HN:=Lib.hid hn
   have HSL7:=Lib.hid hsl7
   have HR7:=Lib.hid hr7
   have HB7:=Lib.hid hb7
   have HF1:=Lib.hid hF1
   clear hsl6 hsl7 hr7 hb7 hW7 hr6 hc6 pg6 pgq hF1 hn
   go_wp2_with fail
   refine bodyPost_ret_by (res_hd1 rfl _ rfl HR7.out rfl) rfl ?_
   rw [HF1.out]
   refine ⟨_,?_,HSL7.out.lt.mono fun k hk=>hk.2,HB7.out⟩
   simp only
   rw [← HN.out]
   rfl
 ·have ha:(0:Int) < at_:=by omega
  obtain ⟨o,ho⟩:∃ o,o=copF h.opts:=⟨_,rfl⟩
  have ho40:o.length≤40:=by rw [ho]; omega
  have hgo:goodF o=true∧o.length % 4=0:=by rw [ho]; exact ⟨good_cop _,HC4.out⟩
  have hF0:F=if m.toNat - (20+o.length) < L - at_ then ({ h3 with opts:=o,mf:=true },(m.toNat - (20+o.length)) / 8 * 8) else ({ h3 with opts:=o },L - at_):=by
   have e:(if 0 < at_ then copF h.opts else h.opts)=copF h.opts:=if_pos (by omega)
   rw [HF.out,HH3.out,ho]
   unfold pcF
   simp only [e]
   simp
  have hl3:=ld8s ((HBH.out.below PG3.out.below HBH.out.lt).cell 10)
  have hcp:=copied_any (.slice A1 n1 c1) h.opts (fun k=>k < w.heap.size) W3 (HV.out.keep (Same.ofBelow PG3.out.below fun k hk=>hk)) (show h.opts.length≤1000000 by omega)
  have HF0:=Lib.hid hF0
  have HGO:=Lib.hid hgo
  have HCP:=Lib.hid hcp
  have HO:=Lib.hid ho
  clear ho hF0 hgo HF HV HGD hc40 HC4 h40 h4 hcp
  go_wp2_with fail
  refine HCP.out.mono ?_
  rintro e w4 ⟨v4,rfl,hr4,hb4⟩
  rw [← HO.out] at hr4
  obtain ⟨A4,c4,rfl,_⟩:=hr4.form
  have pg4:=PG3.out.keep hb4
  have f10:=st_8s (pg4.var.cell 10) (pg4.var.frozen 10) A4 o.length c4
  obtain ⟨W5,hW5⟩:∃ W5,W5=w4.setCell ⟨bs,10,none⟩ (.slice A4 o.length c4):=⟨_,rfl⟩
  have pg5:PgS w W5 bs { h3 with opts:=o } (.slice A4 o.length c4):=by rw [hW5]; exact pg4.set 10 _ rfl
  have hu5:Same (fun k=>W3.heap.size≤k∧k < w4.heap.size) w4 W5:=by rw [hW5]; exact (upd_set w4 bs 10 _).same fun k (hk:k=bs) hh=>by have:=PG3.out.var.lt; omega
  have hsl5:Sl8 W5 (fun k=>k < W5.heap.size∧k≠bs∧k≠w.heap.size) (.slice A4 o.length c4) o:=(hr4.sl.keep hu5).mono fun k hk=>⟨Nat.lt_of_lt_of_le hk.2 hu5.1,by have:=PG3.out.var.lt; omega,by have:=PG3.out.var.lt; have:=PG3.out.lt; omega⟩
  have p5:=ld8s ((HBP.out.below pg5.below HBP.out.lt).cell 0)
  rw [← hW5] at f10
  have PG:=Lib.hid pg5
  have HSL:=Lib.hid hsl5
  clear pg4 pg5 hr4 hb4 hW5 hu5 hsl5 PG3 p3
  go_upto_region 6 with (fail)
  have hso:sizeH (optH o)=20+o.length:=by
   unfold sizeH
   rw [if_pos (by unfold mayH optH; simp [HGO.out.1,HGO.out.2,ho40])]
   rfl
  have hcs:=fun (d:Nat) (os:Array Obj)=>Calls.regrown_of (size_any (optH o) (.slice A4 o.length c4) (fun k=>k < W5.heap.size∧k≠bs∧k≠w.heap.size) (grow (redrawn W5 d) os) (HSL.out.keep (Same.ofBelow (below_regrown W5 d os) fun k hk=>hk.1)) (show o.length≤1000000 by omega))
  rw [hso] at hcs
  have k0:=cell_regrown ((HBM.out.below PG.out.below HBM.out.lt).cell 0)
  have k1:=cell_regrown (PG.out.var.cell 10)
  have l0:=fun d os=>ld_int (k0 d os)
  have l1:=fun d os=>ld8s (k1 d os)
  unfold optH hdV at hcs
  clear k0 k1 p5
  refine wp_region_quiet_below (by kernel_rfl) (by kernel_rfl) ?_
  repeat (go_big_quiet_step (exact hcs _ _))
  refine wpQuiet_nil ?_
  intro _ hw'
  obtain ⟨⟨dq,osq⟩,hw''⟩:=hw'
  subst hw''
  clear hcs l0 l1
  have hbq:=below_regrown W5 dq osq
  generalize grow (redrawn W5 dq) osq=wq at hbq
  have pgq:=PG.out.keep hbq
  have hslq:=HSL.out.keep (Same.ofBelow hbq fun k hk=>hk.1)
  have HSQ:=Lib.hid (hslq.mono (J:=fun k=>k < wq.heap.size∧k≠bs∧k≠w.heap.size) fun k hk=>⟨Nat.lt_of_lt_of_le hk.1 hbq.size,hk.2⟩)
  clear hslq hbq
  by_cases hr:m.toNat - (20+o.length) < L - at_
  ·have hF1:=HF0.out
   rw [if_pos hr] at hF1
   obtain ⟨W6,hW6⟩:∃ W6,W6=wq.setCell ⟨bs,4,none⟩ (.bool true):=⟨_,rfl⟩
   have f4:=st_true (pgq.var.cell 4) (pgq.var.frozen 4)
   rw [← hW6] at f4
   have pg6:PgS w W6 bs { h3 with opts:=o,mf:=true } (.slice A4 o.length c4):=by rw [hW6]; exact pgq.set 4 _ rfl
   have hl6:=hd_load pg6.var rfl
   obtain ⟨cs6,hr6,hc6⟩:=pg6.res
   have hst6:=hd_store (vs:=hdC { h3 with opts:=o,mf:=true } (.slice A4 o.length c4)) hr6 hc6 rfl (by simp [hdC,Value.oneCell'])
   have hsl6:=(HSQ.out.keep ((upd_set wq bs 4 (.bool true)).same fun k hk hi=>hi.2.1 hk))
   rw [← hW6] at hsl6
   clear hW6
   have hsl7:=hsl6.keep ((Upd.setCells (hdC { h3 with opts:=o,mf:=true } (.slice A4 o.length c4)).toList 0 _ (Upd.refl (fun k=>k=w.heap.size) W6) (.inl rfl)).same fun k hk hi=>hi.2.2 hk)
   have hr7:=blk_setCells (vs:=hdC { h3 with opts:=o,mf:=true } (.slice A4 o.length c4)) hr6 hc6
   have hb7:=below_setCells (Nat.le_refl _) (hdC { h3 with opts:=o,mf:=true } (.slice A4 o.length c4)).toList 0 _ pg6.below
   obtain ⟨W7,hW7⟩:∃ W7,W7=W6.setCells w.heap.size 0 (hdC { h3 with opts:=o,mf:=true } (.slice A4 o.length c4)).toList:=⟨_,rfl⟩
   rw [← hW7] at hst6 hsl7 hr7 hb7
   have hn:(m - (20+(o.length:Int))) / 8 * 8=(((m.toNat - (20+o.length)) / 8 * 8:Nat):Int):=by omega
   have HN:=Lib.hid hn
   have HSL7:=Lib.hid hsl7
   have HR7:=Lib.hid hr7
   have HB7:=Lib.hid hb7
   have HF1:=Lib.hid hF1
   clear hsl6 hsl7 hr7 hb7 hW7 hr6 hc6 pg6 pgq hF1 hn
   go_wp2_with fail
   refine bodyPost_ret_by (res_hd1 rfl _ rfl HR7.out rfl) rfl ?_
   rw [HF1.out]
   refine ⟨_,?_,HSL7.out.lt.mono fun k hk=>hk.2,HB7.out⟩
   simp only
   rw [← HN.out]
   rfl
  ·have hF1:=HF0.out
   rw [if_neg hr] at hF1
   have pg6:=pgq
   have hl6:=hd_load pg6.var rfl
   obtain ⟨cs6,hr6,hc6⟩:=pg6.res
   have hst6:=hd_store (vs:=hdC { h3 with opts:=o } (.slice A4 o.length c4)) hr6 hc6 rfl (by simp [hdC,Value.oneCell'])
   have hsl6:=HSQ.out
   have hsl7:=hsl6.keep ((Upd.setCells (hdC { h3 with opts:=o } (.slice A4 o.length c4)).toList 0 _ (Upd.refl (fun k=>k=w.heap.size) wq) (.inl rfl)).same fun k hk hi=>hi.2.2 hk)
   have hr7:=blk_setCells (vs:=hdC { h3 with opts:=o } (.slice A4 o.length c4)) hr6 hc6
   have hb7:=below_setCells (Nat.le_refl _) (hdC { h3 with opts:=o } (.slice A4 o.length c4)).toList 0 _ pg6.below
   obtain ⟨W7,hW7⟩:∃ W7,W7=wq.setCells w.heap.size 0 (hdC { h3 with opts:=o } (.slice A4 o.length c4)).toList:=⟨_,rfl⟩
   rw [← hW7] at hst6 hsl7 hr7 hb7
   have hn:(L:Int) - ((at_:Nat):Int)=((L - at_:Nat):Int):=by omega
   have HN:=Lib.hid hn
   have HSL7:=Lib.hid hsl7
   have HR7:=Lib.hid hr7
   have HB7:=Lib.hid hb7
   have HF1:=Lib.hid hF1
   clear hsl6 hsl7 hr7 hb7 hW7 hr6 hc6 pg6 pgq hF1 hn
   go_wp2_with fail
   refine bodyPost_ret_by (res_hd1 rfl _ rfl HR7.out rfl) rfl ?_
   rw [HF1.out]
   refine ⟨_,?_,HSL7.out.lt.mono fun k hk=>hk.2,HB7.out⟩
   simp only
   rw [← HN.out]
   rfl
end Go.Proofs.YthlommalbkhcjaaGreat
namespace Go.Proofs.YthlommalbkhcjaaGreat
open Go.RowKit Go.Sort Go.BigFrame
attribute [local go_sem] Oper.semAt_some
structure P3 (w:World) (I:Nat→Prop) (bh bp bm bc:Nat) (h:Hd) (A1:Option Addr) (n1 c1:Nat) (Ap:Option Addr) (cp:Nat) (p:By) (m:Int):Prop where
 lt:∀ k,I k→k < w.heap.size
 kh:Blk w bh 76 (hdC h (.slice A1 n1 c1))
 jh:I bh
 kp:Blk w bp 61 #[.slice Ap p.length cp]
 jp:I bp
 km:Blk w bm 3 #[.int .i64 m]
 jm:I bm
 kc:Blk w bc 321 #[.func (.func 226) #[] #[.pointer (some ⟨bh,0,none⟩),.pointer (some ⟨bp,0,none⟩),.pointer (some ⟨bm,0,none⟩)]]
 jc:I bc
 sv:Sl8 w I (.slice A1 n1 c1) h.opts
 sp:Sl8 w I (.slice Ap p.length cp) p
section
variable {w w2:World} {I K:Nat→Prop} {bh bp bm bc:Nat} {h:Hd} {A1:Option Addr} {n1 c1:Nat} {Ap:Option Addr} {cp:Nat} {p:By} {m:Int}
theorem P3.keep (s:P3 w I bh bp bm bc h A1 n1 c1 Ap cp p m) (hs:Same I w w2):P3 w2 I bh bp bm bc h A1 n1 c1 Ap cp p m :=
 ⟨fun k hk=>Nat.lt_of_lt_of_le (s.lt k hk) hs.1,(hs.2 bh s.jh s.kh.lt).trans s.kh,s.jh,(hs.2 bp s.jp s.kp.lt).trans s.kp,s.jp,(hs.2 bm s.jm s.km.lt).trans s.km,s.jm,(hs.2 bc s.jc s.kc.lt).trans s.kc,s.jc,s.sv.keep hs,s.sp.keep hs⟩
theorem P3.mono (s:P3 w I bh bp bm bc h A1 n1 c1 Ap cp p m) (hs:∀ k,I k→K k) (hl:∀ k,K k→k < w.heap.size):P3 w K bh bp bm bc h A1 n1 c1 Ap cp p m :=
 ⟨hl,s.kh,hs _ s.jh,s.kp,hs _ s.jp,s.km,hs _ s.jm,s.kc,hs _ s.jc,s.sv.mono hs,s.sp.mono hs⟩
end
theorem ld_fn {w:World} {a:Addr} {f:Nat} {l:Array Value} (hu:w.cell? a=some (.func (.func f) #[] l)):(Instr.loadAt 321 (.pointer (some a))).run Tryz.prog w=.ok (.func (.func f) #[] l) w:=by
 simp [go_sem,hu]
attribute [-go_sem] Instr.storeAt Instr.loadAt in
set_option maxRecDepth 100000 in
set_option maxHeartbeats 4000000 in
theorem pcs_fits (w:World) (bh bp bm bc:Nat) (h:Hd) (A1:Option Addr) (n1 c1:Nat) (Ap:Option Addr) (cp:Nat) (p:By) (m:Int) (J0:Nat→Prop) (s0:P3 w J0 bh bp bm bc h A1 n1 c1 Ap cp p m) (ok:h.ok) (hmy:mayH h=true) (h68:68≤m) (hm2:m≤65535) (hsm:p.length≤1000000) (hoff:∀ q ∈ pcsF h p.length m.toNat p.length 0,q.2.1.off≤8191) :
  SeqFit Fence.wide 4 Tryz.prog 228 #[.pointer (some ⟨bp,0,none⟩),.pointer (some ⟨bc,0,none⟩)] pcV (Same J0) (fun ys=>ys.length=(pcsF h p.length m.toNat p.length 0).length) (fun _=>True) (PcFit ((pcsF h p.length m.toNat p.length 0).map (pbF p)) w.heap.size) w:=fun l J Jx W hW hJa _ h0 hY=>by
 have S0:=Lib.hid (s0.keep (Same.ofBelow hW s0.lt))
 obtain ⟨L,hL⟩:∃ L,L=p.length:=⟨_,rfl⟩
 obtain ⟨m',hm'⟩:∃ m':Nat,m'=m.toNat:=⟨_,rfl⟩
 have h68':68≤m':=by omega
 have hmm:(m':Int)=m:=by omega
 rw [← hL] at hsm hoff
 rw [← hm'] at hoff
 rw [← hL,← hm'] at hY ⊢
 have HY:=Lib.hid hY
 have HJA:=Lib.hid hJa
 have HH0:=Lib.hid h0
 have HWZ:=Lib.hid hW.size
 have HL:=Lib.hid hL
 have HM:=Lib.hid hm'
 have HOF:=Lib.hid hoff
 have HMY:=Lib.hid hmy
 clear hY hJa h0 hW hL hm' hoff hmy s0
 refine callsIn_of_wp Tryz.func228 rfl trivial ?_ rfl
 simp only [Tryz.ntmps228,List.size_toArray,List.length_cons,List.length_nil,Nat.reduceAdd,Nat.reduceSub,Array.replicate_succ,Array.replicate_zero,List.push_toArray,List.append_toArray,List.nil_append,List.cons_append]
 gi_wp2
 gi_loopw [4] (fun i wr=>∃ (a:Nat) (pre:List Pc),i=.int .i64 (a:Int)∧a≤L∧J pre wr∧Same J0 W wr∧pcsF h L m' L a=(pcsF h L m' L 0).drop pre.length∧pre.length≤(pcsF h L m' L 0).length) (fun i _=>L - (intOf i).toNat)
 case atStart=>exact ⟨0,[],rfl,Nat.zero_le _,HH0.out,Same.refl _ _,rfl,Nat.zero_le _⟩
 case round =>
  obtain ⟨a,pre,rfl,hal,hJs,hsame,hdrop,hple⟩:=hrel
  have sr:=S0.out.keep hsame
  have hpc:=ld8s (show wr.cell? ⟨bp,0,none⟩=some (.slice Ap L cp) by rw [HL.out]; exact sr.kp.cell 0)
  have hi0:(0:Int)≤a:=by omega
  have HJ:=Lib.hid hJs
  have HSM:=Lib.hid hsame
  by_cases hlt:a < L
  ·have hi1:(a:Int) < L:=by omega
   obtain ⟨hpos,hle,hm8,hsz⟩:=pc_pos HMY.out h68' hlt
   have hcons:pcsF h L m' L a=(a,pcF h L m' a) :: pcsF h L m' L (a+(pcF h L m' a).2):=by
    obtain ⟨L',hL'⟩:∃ L',L=L'+1:=⟨L - 1,by omega⟩
    have e:=pcs_cons h L m' L' a hlt
    rw [← hL'] at e
    rw [e,pcs_fuel HMY.out h68' L' L (a+(pcF h L m' a).2) (by omega) (by omega)]
   have hget:(pcsF h L m' L 0)[pre.length]?=some (a,pcF h L m' a):=by
    have:=congrArg (fun l=>l[0]?) (hdrop.symm.trans hcons)
    simpa using this
   have ho8:(pcF h L m' a).1.off≤8191:=HOF.out _ (List.mem_of_getElem? hget)
   have hmg:=pc_may HMY.out ho8
   have hge:=pc_mf h L m' a hlt h68'
   have hPC:=piece_any h A1 n1 c1 bh bp bm Ap L cp m a wr sr.kh (by rw [HL.out]; exact sr.kp) sr.km (sr.sv.mono sr.lt) HMY.out h68 hm2 hlt hsm
   unfold PgPost at hPC
   rw [← HM.out] at hPC
   obtain ⟨G,hG⟩:∃ G,G=pcF h L m' a:=⟨_,rfl⟩
   rw [← hG] at hPC hpos hle hm8 hsz hcons hget ho8 hmg hge
   obtain ⟨g,n⟩:=G
   simp only at hPC hpos hle hm8 hsz hcons hget ho8 hmg hge
   have hgo:g.ok:=by rw [hge]; exact ok
   have hfit:fitsH g (partF p a (a+n))=true:=by
    unfold fitsH
    rw [hmg,part_len2 (by rw [← HL.out]; omega)]
    simp only [Bool.true_and,decide_eq_true_eq]
    omega
   have hpb:bytesF g (partF p a (a+n))=pbF p (a,g,n):=rfl
   obtain ⟨x,hx⟩:∃ x,x=pbF p (a,g,n):=⟨_,rfl⟩
   have hg40:g.opts.length≤1000000:=by omega
   have HPC:=Lib.hid hPC
   have HGO:=Lib.hid hgo
   have HFT:=Lib.hid hfit
   have HPB:=Lib.hid hpb
   have HX:=Lib.hid hx
   have HCN:=Lib.hid hcons
   have HGT:=Lib.hid hget
   have HKC:=ld_fn (sr.kc.cell 0)
   have SR:=Lib.hid sr
   have HDR:=Lib.hid hdrop
   have HPL:=Lib.hid hple
   clear hPC hgo hfit hpb hx hcons hget hmg hge ho8 hm8 hsz hG sr hdrop hple hJs hsame
   gi_wp2_with fail
   refine ⟨trivial,?_⟩
   refine (callsIn_wide.2 HPC.out).mono ?_
   rintro e w3 ⟨v3,rfl,hs3,hb3⟩
   obtain ⟨A3,c3,rfl,hc3,hr3⟩:=hs3
   obtain ⟨W5,hst,hb5,hb35,hk5⟩:=hd_var hb3 hb3.size g A3 g.opts.length c3
   have s5:=SR.out.keep (Same.ofBelow hb5 SR.out.lt)
   have hv5:Sl8 W5 (fun k=>k < w3.heap.size) (.slice A3 g.opts.length c3) g.opts:=⟨_,_,rfl,hc3,hr3.keep (Same.ofBelow hb35 fun k hk=>hk)⟩
   have HV5:=Lib.hid hv5
   have HK5:=Lib.hid hk5
   have HB5:=Lib.hid hb5
   have HB35:=Lib.hid hb35.size
   have HS5:=Lib.hid s5
   have hpn:n≤cp∧a+n≤cp:=by
    obtain ⟨_,hc,_⟩:=SR.out.sp.len
    rw [← HL.out] at hc
    omega
   have hsl:=cut_mid (a:=a) (b:=a+n) (s5.sp.len.2.2) (by omega) (by rw [← HL.out]; omega)
   obtain ⟨pv,hpv⟩:∃ pv,pv=(if a+n=a then Ap else Ap.map (·.add a)):=⟨_,rfl⟩
   have hsn:=fun wx=>sl_mid wx Ap L cp a (a+n) (by omega) hpn.2
   rw [← hpv] at hsl hsn
   rw [show a+n - a=n from by omega] at hsl hsn
   simp only [Int.natCast_add] at hsn
   have HSL:=Lib.hid hsl
   clear hb3 hr3 hc3 hb5 hb35 hk5 s5 hv5 hpn hsl hpv HPC
   gi_wp2_with fail
   refine wpIn_wide.2 ?_
   clear hst
   refine wp_region_stages [(true,10),(false,1),(true,5)] (by kernel_rfl) (by kernel_rfl) fun wz hz _=>?_
   have kz:=HK5.out.below hz HK5.out.lt
   have pz:=(HS5.out.kp.below hz HS5.out.kp.lt).cell 0
   rw [← HL.out] at pz
   have ld:=fun (d:Nat) (os:Array Obj)=>hd_load (kz.below (below_regrown wz d os) kz.lt) rfl
   have k1:=cell_regrown pz
   have l1:=fun d os=>ld8s (k1 d os)
   have HZ:=Lib.hid hz
   clear kz pz k1 hz
   refine wpSt_q ?_
   simp only [List.take_succ_cons,List.take_zero,List.drop_succ_cons,List.drop_zero]
   repeat (go_big_quiet_step (fail))
   refine wpQuiet_nil ?_
   intro _ hw'
   obtain ⟨⟨dq,osq⟩,hw''⟩:=hw'
   subst hw''
   have hbq:=below_regrown wz dq osq
   generalize grow (redrawn wz dq) osq=wq at hbq ⊢
   clear ld l1
   have hb5q:=HZ.out.trans (hbq.mono HZ.out.size)
   have hBY:=bytes_any g (.slice A3 g.opts.length c3) (.slice pv n n) (partF p a (a+n)) (fun k=>k < W5.heap.size) wq ((HV5.out.keep (Same.ofBelow hb5q fun k hk=>Nat.lt_of_lt_of_le hk HB35.out)).mono fun k hk=>Nat.lt_of_lt_of_le hk HB35.out) ((HSL.out.keep (Same.ofBelow hb5q HS5.out.lt)).mono HS5.out.lt) HGO.out hg40 (by rw [part_len2 (by rw [← HL.out]; omega)]; omega)
   rw [if_pos HFT.out,if_pos HFT.out,HPB.out,← HX.out] at hBY
   have HBY:=Lib.hid hBY
   have HBQ:=Lib.hid hb5q
   clear hBY hbq hsn hb5q
   refine wpSt_l ?_
   go_wp2_with (refine HBY.out.mono ?_; rintro e w6 ⟨v6,rfl,hr6,hb6⟩; obtain ⟨A6,c6,rfl,_⟩:=own_form hr6)
   have hb56:=HBQ.out.trans (hb6.mono HBQ.out.size)
   have hbr6:=HB5.out.trans (hb56.mono HB5.out.size)
   have H6:=Lib.hid (show Below wr.heap.size wr w6∧Row8 wq.heap.size w6 (.slice A6 x.length c6) x from ⟨hbr6,hr6⟩)
   have HQZ:=Lib.hid (show w.heap.size≤wq.heap.size from Nat.le_trans HWZ.out (Nat.le_trans HSM.out.1 (Nat.le_trans HB5.out.size HBQ.out.size)))
   clear hb56 hbr6 hr6 hb6 HBY
   refine wpSt_q ?_
   simp only [List.take_succ_cons,List.take_zero,List.drop_succ_cons,List.drop_zero]
   repeat (go_big_quiet_step (fail))
   refine wpQuiet_nil ?_
   intro _ hw'
   obtain ⟨⟨dr,osr⟩,hw''⟩:=hw'
   subst hw''
   have hbr:=below_regrown w6 dr osr
   generalize grow (redrawn w6 dr) osr=w7 at hbr ⊢
   have hb7:=H6.out.1.trans (hbr.mono H6.out.1.size)
   have hr7:=H6.out.2.below hbr
   refine wpSt_end ?_
   have hJ7:=HJA.out _ _ _ _ HJ.out (grown_none hb7) (fun r hr=>by cases hr)
   have hfit7:PcFit ((pcsF h L m' L 0).map (pbF p)) w.heap.size pre (A6,c6,x) w7:=⟨by rw [List.getElem?_map,HGT.out,HX.out]; rfl,own_base hr7 HQZ.out⟩
   have hyy:=HY.out pre (A6,c6,x) w7 hJ7 hfit7
   unfold pcV at hyy
   simp only at hyy
   have hs7:Same J0 W w7:=HSM.out.trans (Same.ofBelow hb7 SR.out.lt)
   have HS7:=Lib.hid hs7
   clear hb7 hr7 hbr hJ7 hfit7 hs7
   obtain ⟨fn,tmps,assign,body,hy,hR⟩:=hyy
   gi_wp2_with fail
   refine hR.mono ?_
   rintro e3 W3 (⟨rfl,hJ3,hk3⟩ | ⟨rfl,hJx3⟩)
   ·gi_wp2
    go_roundw
    case rel =>
     refine ⟨a+n,pre++[(A6,c6,x)],by simp,by omega,hJ3,HS7.out.trans hk3,?_,?_⟩
     ·have e:=HDR.out.symm.trans HCN.out
      rw [List.length_append,List.length_singleton,← List.drop_drop,e]
      rfl
     ·have:=(List.getElem?_eq_some_iff.1 HGT.out).1
      rw [List.length_append,List.length_singleton]
      omega
    case measure=>simp [intOf]; omega
   ·gi_wp2
    refine bodyPost_ret (results_none rfl _ _ _) rfl ?_
    exact ⟨⟨_,rfl⟩,.inr ⟨_,trivial,hJx3⟩⟩
  ·obtain rfl:a=L:=by omega
   have HPL:=Lib.hid hple
   have HDR:=Lib.hid hdrop
   clear hple hdrop
   gi_wp2
   go_end0
   refine ⟨⟨_,rfl⟩,.inl ⟨pre,?_,HJ.out⟩⟩
   have e:=HDR.out
   rw [pcs_end _ _ _ _ _ (Nat.le_refl _)] at e
   have e2:=congrArg List.length e
   rw [List.length_drop,List.length_nil] at e2
   have:=HPL.out
   omega
end Go.Proofs.YthlommalbkhcjaaGreat
namespace Go.Proofs.YthlommalbkhcjaaGreat
open Go.RowKit Go.Sort Go.BigFrame
attribute [local go_sem] Oper.semAt_some
def PcSeq (w:World) (J:Nat→Prop) (f:Value) (L:List By):Prop :=
 (f=.func (.func 224) #[] #[]∧L=[]) ∨
 (∃ (Bx:Nat) (ad:Addr) (cap:Nat) (x:By),f=.func (.func 225) #[] #[.pointer (some ⟨Bx,0,none⟩)]∧L=[x]∧Blk w Bx 61 #[.slice (some ad) x.length cap]∧J Bx∧Reads w J 1 (some ad) x.length (bytesV x)∧x.length≤1000000) ∨
 (∃ (bh bp bm bc:Nat) (h:Hd) (A1:Option Addr) (n1 c1:Nat) (Ap:Option Addr) (cp:Nat) (p:By) (m:Int),f=.func (.func 228) #[] #[.pointer (some ⟨bp,0,none⟩),.pointer (some ⟨bc,0,none⟩)]∧L=(pcsF h p.length m.toNat p.length 0).map (pbF p)∧P3 w J bh bp bm bc h A1 n1 c1 Ap cp p m∧h.ok∧mayH h=true∧68≤m∧m≤65535∧p.length≤1000000∧∀ q ∈ pcsF h p.length m.toNat p.length 0,q.2.1.off≤8191)
section
variable {w w2:World} {J K:Nat→Prop} {f:Value} {L:List By}
theorem PcSeq.keep (h:PcSeq w J f L) (hs:Same J w w2):PcSeq w2 J f L:=by
 rcases h with h | ⟨Bx,ad,cap,x,h1,h2,h3,h4,h5,h6⟩ | ⟨bh,bp,bm,bc,h,A1,n1,c1,Ap,cp,p,m,h1,h2,h3,h4⟩
 ·exact .inl h
 ·exact .inr (.inl ⟨Bx,ad,cap,x,h1,h2,(hs.2 Bx h4 h3.lt).trans h3,h4,h5.keep hs,h6⟩)
 ·exact .inr (.inr ⟨bh,bp,bm,bc,h,A1,n1,c1,Ap,cp,p,m,h1,h2,h3.keep hs,h4⟩)
theorem PcSeq.fits (h:PcSeq w J f L) (hJ:∀ k,J k→k < w.heap.size):∃ (g:Nat) (lb:Array Value),f=.func (.func g) #[] lb∧(∀ args w,(callFunc g args).run Tryz.prog w=.ok (.enter g args) w) ∧
  SeqFit Fence.wide 4 Tryz.prog g lb pcV (Same J) (fun ys=>ys.length=L.length) (fun _=>True) (PcFit L w.heap.size) w:=by
 rcases h with ⟨rfl,rfl⟩ | ⟨Bx,ad,cap,x,rfl,rfl,h3,h4,h5,h6⟩ | ⟨bh,bp,bm,bc,h,A1,n1,c1,Ap,cp,p,m,rfl,rfl,h3,h4,h5,h6,h7,h8,h9⟩
 ·exact ⟨_,_,rfl,enters_of Tryz.func224 (by kernel_rfl) rfl,none_fits w _ _ _ _ rfl⟩
 ·exact ⟨_,_,rfl,enters_of Tryz.func225 (by kernel_rfl) rfl,one_fits w Bx ad cap x J hJ h3 h5 h6⟩
 ·refine ⟨_,_,rfl,enters_of Tryz.func228 (by kernel_rfl) rfl,?_⟩
  have:=pcs_fits w bh bp bm bc h A1 n1 c1 Ap cp p m J h3 h4 h5 h6 h7 h8 h9
  rw [List.length_map]
  exact this
end
def PcsPost (w:World) (r:List By × Nat) (e:Ending) (w':World):Prop :=
 ∃ f,e=.returned (.tuple #[f,.int .i64 (r.2:Int)])∧PcSeq w' (fun k=>w.heap.size≤k∧k < w'.heap.size) f r.1∧Below w.heap.size w w'
theorem PcsPost.none {w w':World} {r:List By × Nat} {n:Nat} (hr:r=([],n)) (hb:Below w.heap.size w w'):PcsPost w r (.returned (.tuple #[.func (.func 224) #[] #[],.int .i64 (n:Int)])) w':=by
 subst hr
 exact ⟨_,rfl,.inl ⟨rfl,rfl⟩,hb⟩
theorem st_fn {w:World} {g:Nat} {u:Value} (hu:w.cell? ⟨g,0,none⟩=some u) (hf:w.frozen? ⟨g,0,none⟩=false) (f:Nat) (l:Array Value):(Instr.storeAt 321 (.pointer (some ⟨g,0,none⟩)) (.func (.func f) #[] l)).run Tryz.prog w=.ok () (w.setCell ⟨g,0,none⟩ (.func (.func f) #[] l)):=by
 simp [go_sem,run_store _ _ _ (Value.func (.func f) #[] l) _ rfl,hu,hf]
theorem hp_var {B:Nat} {w w1:World} (hb:Below B w w1) (hB:B≤w1.heap.size) (h:Hd) (A:Option Addr) (n c:Nat) (Ap:Option Addr) (q cp:Nat):∃ w2 w3,(Instr.storeAt 76 (.pointer (some ⟨w1.heap.size,0,none⟩)) (hdV h (.slice A n c))).run Tryz.prog ((w1.alloc (.cells #[.int .u8 0,.int .u16 0,.bool false,.bool false,.bool false,.int .i64 0,.int .u8 0,.int .u8 0,.int .u32 0,.int .u32 0,.slice none 0 0] 76)).alloc (.cells #[.slice none 0 0] 61))=.ok () w2 ∧
  (Instr.storeAt 61 (.pointer (some ⟨w1.heap.size+1,0,none⟩)) (.slice Ap q cp)).run Tryz.prog w2=.ok () w3∧Below B w w3∧Below w1.heap.size w1 w3∧Blk w3 w1.heap.size 76 (hdC h (.slice A n c))∧Blk w3 (w1.heap.size+1) 61 #[.slice Ap q cp]:=by
 obtain ⟨w0,h0⟩:∃ w0,w0=w1.alloc (.cells #[.int .u8 0,.int .u16 0,.bool false,.bool false,.bool false,.int .i64 0,.int .u8 0,.int .u8 0,.int .u32 0,.int .u32 0,.slice none 0 0] 76):=⟨_,rfl⟩
 have hz:w0.heap.size=w1.heap.size+1:=by rw [h0]; simp
 have k0:Blk w0 w1.heap.size 76 #[.int .u8 0,.int .u16 0,.bool false,.bool false,.bool false,.int .i64 0,.int .u8 0,.int .u8 0,.int .u32 0,.int .u32 0,.slice none 0 0]:=by rw [h0]; exact Blk.new _ _ _
 have b0:Below w1.heap.size w1 w0:=by rw [h0]; exact (Below.refl _ _).alloc (Nat.le_refl _) _
 rw [← h0,← hz]
 clear h0
 have ka:=k0.alloc (.cells #[.slice none 0 0] 61)
 have kb:=Blk.new w0 61 #[.slice none 0 0]
 have hst:=hd_store (vs:=hdC h (.slice A n c)) ka rfl rfl (by simp [hdC,Value.oneCell'])
 obtain ⟨w2,h2⟩:∃ w2,w2=(w0.alloc (.cells #[.slice none 0 0] 61)).setCells w1.heap.size 0 (hdC h (.slice A n c)).toList:=⟨_,rfl⟩
 have kc:Blk w2 w1.heap.size 76 (hdC h (.slice A n c)):=by rw [h2]; exact blk_setCells (vs:=hdC h (.slice A n c)) ka rfl
 have kd:Blk w2 w0.heap.size 61 #[.slice none 0 0]:=by rw [h2]; exact blk_far_setCells (by omega) _ 0 _ kb
 have b2:Below w1.heap.size w1 w2:=by rw [h2]; exact below_setCells (Nat.le_refl _) _ 0 _ (b0.alloc (by omega) _)
 rw [← h2] at hst
 have hs2:=st_8s (kd.cell 0) (kd.frozen 0) Ap q cp
 refine ⟨_,_,hst,hs2,?_,?_,?_,?_⟩
 ·exact (hb.trans (b2.mono hB)).setCell (p:=⟨w0.heap.size,0,none⟩) (by show B≤w0.heap.size; omega) _
 ·exact b2.setCell (p:=⟨w0.heap.size,0,none⟩) (by show w1.heap.size≤w0.heap.size; omega) _
 ·exact kc.far (p:=⟨w0.heap.size,0,none⟩) (by show w1.heap.size≠w0.heap.size; omega) _
 ·exact kd.set_ 0 _
attribute [-go_sem] Instr.storeAt Instr.loadAt in
set_option maxRecDepth 100000 in
set_option maxHeartbeats 8000000 in
theorem pieces_any (A:Option Addr) (n c:Nat) (x:By) (m:Int) (I:Nat→Prop) (w:World) (h:Reads w I 1 A n (bytesV x)) (hn:x.length=n) (hc:n≤c) (hsm:n≤1000000) :
  Calls Tryz.prog 211 #[.slice A n c,.int .i64 m] w (PcsPost w (cutF x m)):=by
 obtain ⟨W0,hW0⟩:∃ W0,W0=w.alloc (.cells #[.int .i64 m] 3):=⟨_,rfl⟩
 have hb0:Below w.heap.size w W0:=by rw [hW0]; exact (Below.refl _ _).alloc (Nat.le_refl _) _
 have hm0:Blk W0 w.heap.size 3 #[.int .i64 m]:=by rw [hW0]; exact Blk.new _ _ _
 have hr0:=h.lt.keep (Same.ofBelow hb0 fun k hk=>hk.2)
 have HFI:=Lib.hid (ffits_any A n c x m _ W0 hr0 hn hc hsm)
 have lm0:=ld_int (hm0.cell 0)
 have HR0:=Lib.hid hr0
 have HW0:=Lib.hid hW0
 have HB0:=Lib.hid hb0
 have HM0:=Lib.hid hm0
 have HZ0:=Lib.hid (show W0.heap.size=w.heap.size+1 by rw [hW0]; simp)
 have HCUT:Hid (cutF x m=cutF x m):=Lib.hid rfl
 obtain ⟨R,hR⟩:∃ R,R=cutF x m:=⟨_,rfl⟩
 rw [← hR]
 have HR:=Lib.hid hR
 obtain ⟨F,hF⟩:∃ F,F=fitsF x m:=⟨_,rfl⟩
 have HF:=Lib.hid hF
 rw [← hF] at HFI
 obtain ⟨fb,fe⟩:=F
 have HN:=Lib.hid hn
 clear h hW0 hb0 hm0 hr0 hR hF HCUT hn
 go_enter Tryz.func211,Tryz.ntmps211
 go_upto_region 1 with (fail)
 rw [← HW0.out]
 go_wp2_with (go_at_call 132; refine HFI.out.mono ?_; rintro e w1 ⟨rfl,hb1⟩)
 have hbb1:=HB0.out.trans (hb1.mono HB0.out.size)
 have hr1:=HR0.out.keep (Same.ofBelow hb1 fun k hk=>by have:=HZ0.out; have:=hk.2; omega)
 have HPA:=Lib.hid (parse_any A n c x _ w1 hr1 HN.out hc hsm)
 have HB1:=Lib.hid hb1
 have HBB1:=Lib.hid hbb1
 have HR1:=Lib.hid hr1
 clear hb1 hbb1 hr1
 go_wp2_with (go_at_call 33; refine HPA.out.mono ?_; rintro e w2 ⟨vo,vp,rfl,ho,hp,hdj,hb2⟩)
 have hok:(prsF x).1.ok:=prs_ok x
 have hplen:=prs_len x
 have hpw:(prsF x).2.2=0→mayH (prsF x).1=true∧20+(prsF x).1.opts.length+(prsF x).2.1.length≤x.length:=fun h=>⟨(prs_may h).1,prs_whole h⟩
 have hfo:fe=0→68≤m∧m≤65535∧(prsF x).2.2=0∧fb=decide (((20+(prsF x).1.opts.length+(prsF x).2.1.length:Nat):Int)≤m):=fun h=>by
  have:=HF.out
  rw [h] at this
  exact fits_ok this
 obtain ⟨P,hP⟩:∃ P,P=prsF x:=⟨_,rfl⟩
 rw [← hP] at ho hp hok hpw hfo hplen ⊢
 obtain ⟨g,p,f⟩:=P
 simp only at ho hp hok hpw hfo hplen ⊢
 have HCU:=Lib.hid (HR.out.trans (cut_eq HF.out hP))
 obtain ⟨Ao,co,rfl,_⟩:=ho.form
 obtain ⟨Ap,cp,rfl,_⟩:=hp.form
 have hb02:=HBB1.out.trans (hb2.mono HBB1.out.size)
 obtain ⟨w3,w4,hs3,hs4,hb4,hb24,hkh,hkp⟩:=hp_var hb02 hb02.size g Ao g.opts.length co Ap p.length cp
 have so4:=ho.sl.keep (Same.ofBelow hb24 fun k hk=>hk.2)
 have sp4:=hp.sl.keep (Same.ofBelow hb24 fun k hk=>hk.2)
 have hm4:Blk w4 w.heap.size 3 #[.int .i64 m]:=(HM0.out.below HB1.out HM0.out.lt).below (hb2.trans (hb24.mono hb2.size)) (Nat.lt_of_lt_of_le HM0.out.lt HB1.out.size)
 have hr4:=HR1.out.keep (Same.ofBelow (hb2.trans (hb24.mono hb2.size)) fun k hk=>by have:=HBB1.out.size; have:=hk.2; omega)
 have HS:=Lib.hid (show w.heap.size < w1.heap.size∧w1.heap.size≤w2.heap.size from ⟨Nat.lt_of_lt_of_le HM0.out.lt HB1.out.size,hb2.size⟩)
 have HB4:=Lib.hid hb4
 have HKH:=Lib.hid hkh
 have HKP:=Lib.hid hkp
 have HSO:=Lib.hid so4
 have HSP:=Lib.hid sp4
 have HM4:=Lib.hid hm4
 have HR4:=Lib.hid hr4
 have HPW:=Lib.hid hpw
 have HOK:=Lib.hid hok
 have HFO:=Lib.hid hfo
 have hxn:=HN.out
 have hg1:g.opts.length≤1000000:=by omega
 have hp1:p.length≤1000000:=by omega
 clear ho hp hdj hb2 hb02 hb4 hb24 hkh hkp so4 sp4 hm4 hr4 hpw hfo hok hplen hP HF HR HPA HFI HR1 HBB1 HB1 HR0 HM0 HB0 HW0
 by_cases hfe:fe=0
 ·subst hfe
  obtain ⟨h68,hm2,hf0,hfb⟩:=HFO.out rfl
  obtain ⟨hmy,hwh⟩:=HPW.out hf0
  obtain ⟨_,h40,_⟩:=may_opts hmy
  have HMY:=Lib.hid hmy
  have HWH:=Lib.hid hwh
  have HFB:=Lib.hid hfb
  obtain ⟨W,hW⟩:∃ W,W=20+g.opts.length+p.length:=⟨_,rfl⟩
  have hW1:W≤n:=by rw [hW]; have:=HN.out; omega
  have HW:=Lib.hid hW
  clear hmy hwh hfb
  cases fb with
  | true =>
    have hR:=HCU.out
    rw [if_neg (by simp),if_pos rfl,← hW] at hR
    have HR:=Lib.hid hR
    have hss:sizeH g=20+g.opts.length:=by unfold sizeH; rw [if_pos HMY.out]
    clear hR hW
    go_upto_region 6 with (fail)
    have hcs:=fun (d:Nat) (os:Array Obj)=>Calls.regrown_of (size_any g (.slice Ao g.opts.length co) _ (grow (redrawn w4 d) os) (HSO.out.keep (Same.ofBelow (below_regrown w4 d os) fun k hk=>Nat.lt_of_lt_of_le hk.2 (by have:=HKH.out.lt; omega))) hg1)
    rw [hss] at hcs
    have ldh:=fun (d:Nat) (os:Array Obj)=>hd_load (HKH.out.below (below_regrown w4 d os) HKH.out.lt) rfl
    have k1:=cell_regrown (HKP.out.cell 0)
    have l1:=fun d os=>ld8s (k1 d os)
    clear k1 hs3 hs4
    refine wp_region_quiet_below (by kernel_rfl) (by kernel_rfl) ?_
    repeat (go_big_quiet_step (exact hcs _ _))
    refine wpQuiet_nil ?_
    intro _ hw'
    obtain ⟨⟨dq,osq⟩,hw''⟩:=hw'
    subst hw''
    clear hcs ldh l1
    have hbq:=below_regrown w4 dq osq
    generalize grow (redrawn w4 dq) osq=wq at hbq
    have hwi:(20+(g.opts.length:Int)+(p.length:Int))=(W:Int):=by rw [HW.out]; simp
    rw [hwi]
    have hrq:=(HR4.out.keep (Same.ofBelow hbq fun k hk=>Nat.lt_of_lt_of_le hk.2 HB4.out.size))
    rw [← HN.out] at hrq
    obtain ⟨A2,c2,e2,hc2,hrw⟩:=cut_hi (k:=W) (cap:=c) hrq (by rw [HN.out]; exact hW1) (by omega)
    have hl2:(x.take W).length=W:=by rw [List.length_take,HN.out]; omega
    rw [hl2] at e2 hc2 hrw
    injection e2 with e2 _ e3
    subst e2 e3
    have hsl:=fun wx=>sl_hi (w:=wx) (A:=A) (n:=n) (cap:=c) W (by omega)
    obtain ⟨i0,hi,hz0,hz1,hz2⟩:=info_parts info_u8
    have hmxl:0+W≤maxLen:=by unfold maxLen; omega
    go_wp2_with
     (at_builtin
      refine wpList_append_any _ rfl (.const (.slice none 0 0)) (.tmp 42) _ rfl w4.heap.size 5 i0 _ 1 1 Tryz.underlying61 hi hz0 hz1 hz2 rfl Nat.one_pos (.slice none 0 0) 0 [] rfl (World.ownsRow_nil _ _ _ _) _ A W c (bytesV (x.take W)) rfl hrw (bytesV_one _) hmxl (by omega) hbq.size ?_
      intro v2 w6 hown hg6 _
      rw [Nat.zero_add,List.nil_append] at hown
      obtain ⟨g6,c6,rfl,_⟩:=own_form1 hown (by omega)
      have hbq6:Below wq.heap.size wq w6:=⟨hg6.os,hg6.tape,hg6.output,hg6.size,fun k hk=>hg6.block k hk (by simp [Value.ownBlock])⟩
      have hk7:=Blk.new w6 61 #[.slice none 0 0]
      have st7:=st_8s (hk7.cell 0) (hk7.frozen 0) (some ⟨g6,0,none⟩) W c6
      obtain ⟨w8,h8⟩:∃ w8,w8=(w6.alloc (.cells #[.slice none 0 0] 61)).setCell ⟨w6.heap.size,0,none⟩ (.slice (some ⟨g6,0,none⟩) W c6):=⟨_,rfl⟩
      rw [← h8] at st7
      have hk8:Blk w8 w6.heap.size 61 #[.slice (some ⟨g6,0,none⟩) W c6]:=by rw [h8]; exact hk7.set_ 0 _
      have hb8:Below w6.heap.size w6 w8:=by rw [h8]; exact ((Below.refl _ _).alloc (Nat.le_refl _) _).setCell (p:=⟨w6.heap.size,0,none⟩) (Nat.le_refl _) _
      have hrd8:Reads w8 (fun k=>w4.heap.size≤k∧k < w6.heap.size) 1 (some ⟨g6,0,none⟩) W (bytesV (x.take W)):=(Reads.of_own hown fun k hk=>own_lt hown hk).keep (Same.ofBelow hb8 fun k hk=>hk.2)
      have hz6:w4.heap.size≤w6.heap.size:=Nat.le_trans hbq.size hbq6.size
      have HEND:=Lib.hid (show PcsPost w ([x.take W],0) (.returned (.tuple #[.func (.func 225) #[] #[.pointer (some ⟨w6.heap.size,0,none⟩)],.int .i64 ((0:Nat):Int)])) w8 from by
       refine ⟨_,rfl,.inr (.inl ⟨w6.heap.size,⟨g6,0,none⟩,c6,x.take W,rfl,rfl,?_,?_,?_,?_⟩),?_⟩
       ·rw [hl2]; exact hk8
       ·exact ⟨by have:=HB4.out.size; omega,hk8.lt⟩
       ·rw [hl2]
        exact hrd8.mono fun k hk=>⟨by have:=HB4.out.size; omega,by have:=hb8.size; omega⟩
       ·rw [hl2]; omega
       ·exact HB4.out.trans ((hbq.trans ((hbq6.trans (hb8.mono hbq6.size)).mono hbq.size)).mono HB4.out.size))
      clear hrq hrw hg6 hbq6 hk7 hk8 hb8 hrd8 hz6 hbq hown h8)
    go_ret2
    rw [HR.out]
    exact HEND.out
  | false =>
    have hR:=HCU.out
    rw [if_neg (by simp),if_neg (by simp)] at hR
    obtain ⟨d,hd⟩:∃ d,d=g.df:=⟨_,rfl⟩
    rw [← hd] at hR
    have ldf:=ld_bool (show w4.cell? ⟨w2.heap.size,3,none⟩=some (.bool d) by rw [hd]; exact HKH.out.cell 3)
    have hss:sizeH g=20+g.opts.length:=by unfold sizeH; rw [if_pos HMY.out]
    have HR:=Lib.hid hR
    clear hR hW hd
    cases d with
    | true =>
      have hR:=HR.out
      rw [if_pos rfl] at hR
      have HR2:=Lib.hid hR
      clear hR
      go_wp2_with fail
      go_ret2
      exact PcsPost.none HR2.out HB4.out
    | false =>
      have hR:=HR.out
      rw [if_neg (by simp)] at hR
      obtain ⟨L,hL⟩:∃ L,L=p.length:=⟨_,rfl⟩
      obtain ⟨m',hm'⟩:∃ m':Nat,m'=m.toNat:=⟨_,rfl⟩
      have h68':68≤m':=by omega
      have hmm:(m':Int)=m:=by omega
      rw [← hL,← hm'] at hR
      have HR2:=Lib.hid hR
      have HL:=Lib.hid hL
      have HM:=Lib.hid hm'
      have hk9:=Blk.new w4 321 #[.nilFunc]
      have st9:=st_fn (hk9.cell 0) (hk9.frozen 0) 226 #[.pointer (some ⟨w2.heap.size,0,none⟩),.pointer (some ⟨w2.heap.size+1,0,none⟩),.pointer (some ⟨w.heap.size,0,none⟩)]
      obtain ⟨w9,h9⟩:∃ w9,w9=(w4.alloc (.cells #[.nilFunc] 321)).setCell ⟨w4.heap.size,0,none⟩ (.func (.func 226) #[] #[.pointer (some ⟨w2.heap.size,0,none⟩),.pointer (some ⟨w2.heap.size+1,0,none⟩),.pointer (some ⟨w.heap.size,0,none⟩)]):=⟨_,rfl⟩
      rw [← h9] at st9
      have hb9:Below w4.heap.size w4 w9:=by rw [h9]; exact ((Below.refl _ _).alloc (Nat.le_refl _) _).setCell (p:=⟨w4.heap.size,0,none⟩) (Nat.le_refl _) _
      have hkc:Blk w9 w4.heap.size 321 #[.func (.func 226) #[] #[.pointer (some ⟨w2.heap.size,0,none⟩),.pointer (some ⟨w2.heap.size+1,0,none⟩),.pointer (some ⟨w.heap.size,0,none⟩)]]:=by rw [h9]; exact hk9.set_ 0 _
      have hp3:P3 w9 (fun k=>w.heap.size≤k∧k < w9.heap.size) w2.heap.size (w2.heap.size+1) w.heap.size w4.heap.size g Ao g.opts.length co Ap cp p m:=by
       have hz:=hb9.size
       have h1:=HS.out
       have h2:=HKP.out.lt
       have h3:=HKH.out.lt
       have h4:=HM4.out.lt
       have h5:=hkc.lt
       exact ⟨fun k hk=>hk.2,HKH.out.below hb9 h3,⟨by omega,by omega⟩,HKP.out.below hb9 h2,⟨by omega,by omega⟩,HM4.out.below hb9 h4,⟨Nat.le_refl _,by omega⟩,hkc,⟨by omega,h5⟩,(HSO.out.keep (Same.ofBelow hb9 fun k hk=>by omega)).mono fun k hk=>⟨by omega,by omega⟩,(HSP.out.keep (Same.ofBelow hb9 fun k hk=>by omega)).mono fun k hk=>⟨by omega,by omega⟩⟩
      have hb09:=HB4.out.trans (hb9.mono HB4.out.size)
      have HP3:=Lib.hid hp3
      have HB9:=Lib.hid hb09
      clear hR hL hm' hk9 h9 hb9 hkc hp3 hb09 HR
      go_upto_region 12 with (fail)
      clear hss ldf st9 hs3 hs4
      go_wp2_with fail
      go_loopw [14] (fun i wr=>∃ (a k:Nat),i=.int .i64 (a:Int)∧a≤L∧Below w9.heap.size w9 wr∧pcsF g L m' L a=(pcsF g L m' L 0).drop k∧∀ q ∈ (pcsF g L m' L 0).take k,q.2.1.off≤8191) (fun i _=>L - (intOf i).toNat)
      case atStart=>exact ⟨0,0,rfl,Nat.zero_le _,Below.refl _ _,rfl,fun q hq=>by simp at hq⟩
      case round =>
       obtain ⟨a,k,rfl,hal,hbr,hdrop,hok⟩:=hrel
       have sr:=HP3.out.keep (Same.ofBelow hbr fun k hk=>hk.2)
       have hpl:=ld8s (show wr.cell? ⟨w2.heap.size+1,0,none⟩=some (.slice Ap L cp) by rw [HL.out]; exact sr.kp.cell 0)
       have hpl2:=ld_fn (sr.kc.cell 0)
       have hi0:(0:Int)≤a:=by omega
       have HBR:=Lib.hid hbr
       have HDR:=Lib.hid hdrop
       have HOKS:=Lib.hid hok
       by_cases hlt:a < L
       ·have hi1:(a:Int) < L:=by omega
        obtain ⟨hpos,hle,_,hsz⟩:=pc_pos HMY.out h68' hlt
        have hcons:pcsF g L m' L a=(a,pcF g L m' a) :: pcsF g L m' L (a+(pcF g L m' a).2):=by
         obtain ⟨L',hL'⟩:∃ L',L=L'+1:=⟨L - 1,by omega⟩
         have e:=pcs_cons g L m' L' a hlt
         rw [← hL'] at e
         rw [e,pcs_fuel HMY.out h68' L' L (a+(pcF g L m' a).2) (by omega) (by omega)]
        have hget:(pcsF g L m' L 0)[k]?=some (a,pcF g L m' a):=by
         have:=congrArg (fun l=>l[0]?) (hdrop.symm.trans hcons)
         simpa using this
        have hPC:=piece_any g Ao g.opts.length co w2.heap.size (w2.heap.size+1) w.heap.size Ap L cp m a wr sr.kh (by rw [HL.out]; exact sr.kp) sr.km (sr.sv.mono sr.lt) HMY.out h68 hm2 hlt (by rw [HL.out]; exact hp1)
        have hge:=pc_off g L m' a
        unfold PgPost at hPC
        rw [← HM.out] at hPC
        obtain ⟨G,hG⟩:∃ G,G=pcF g L m' a:=⟨_,rfl⟩
        rw [← hG] at hPC hpos hle hcons hget hge hsz
        obtain ⟨q,n'⟩:=G
        simp only at hPC hpos hle hcons hget hge hsz
        have HPC:=Lib.hid hPC
        have HCN:=Lib.hid hcons
        have HGT:=Lib.hid hget
        have hof:0≤q.off∧q.off < 1000000000:=by
         have:=(may_opts HMY.out).2.2.2
         have:=HL.out
         omega
        obtain ⟨ho1,ho2⟩:=hof
        have hLm:L≤1000000:=by rw [HL.out]; exact hp1
        clear hPC hcons hget hG hdrop hok sr hge hbr
        by_cases h8:8191 < q.off
        ·have hR:=HR2.out
         rw [if_pos ⟨_,List.mem_of_getElem? HGT.out,h8⟩] at hR
         have HR3:=Lib.hid hR
         clear hR
         go_wp2_with (refine HPC.out.mono ?_; rintro e w5 ⟨v5,rfl,⟨A5,c5,rfl,hc5,hr5⟩,hb5⟩; obtain ⟨w6,hst,hb6,hb56,hk6⟩:=hd_var hb5 hb5.size q A5 q.opts.length c5; have lo6:=ld_int (hk6.cell 5); have HB6:=Lib.hid hb6; clear hb6 hb56 hk6 hr5 hc5 hb5)
         go_ret2
         exact PcsPost.none HR3.out (HB9.out.trans ((HBR.out.trans (HB6.out.mono HBR.out.size)).mono HB9.out.size))
        ·have H8:=Lib.hid h8
         go_wp2_with (refine HPC.out.mono ?_; rintro e w5 ⟨v5,rfl,⟨A5,c5,rfl,hc5,hr5⟩,hb5⟩; obtain ⟨w6,hst,hb6,hb56,hk6⟩:=hd_var hb5 hb5.size q A5 q.opts.length c5; have lo6:=ld_int (hk6.cell 5); have HB6:=Lib.hid hb6; clear hb6 hb56 hk6 hr5 hc5 hb5)
         go_roundw
         case rel =>
          refine ⟨a+n',k+1,by simp,by omega,HBR.out.trans (HB6.out.mono HBR.out.size),?_,fun y hy=>?_⟩
          ·have e:=HDR.out.symm.trans HCN.out
           rw [← List.drop_drop,e]
           rfl
          ·rw [List.take_add_one,HGT.out] at hy
           rcases List.mem_append.1 hy with hy | hy
           ·exact HOKS.out y hy
           ·obtain rfl:y=(a,q,n'):=by simpa using hy
            have:=H8.out
            simp only
            omega
         case measure=>simp [intOf]; omega
       ·obtain rfl:a=L:=by omega
        have hall:∀ q ∈ pcsF g a m' a 0,q.2.1.off≤8191:=fun q hq=>by
         have e:=HDR.out
         rw [pcs_end _ _ _ _ _ (Nat.le_refl _)] at e
         have e2:=List.take_append_drop k (pcsF g a m' a 0)
         rw [← e,List.append_nil] at e2
         rw [← e2] at hq
         exact HOKS.out q hq
        have hR:=HR2.out
        rw [if_neg (fun ⟨q,h1,h2⟩=>by have:=hall q h1; omega)] at hR
        have HR3:=Lib.hid hR
        have HALL:=Lib.hid hall
        have HSR:=Lib.hid sr
        clear hR hdrop hok sr hbr hall
        go_wp2_with fail
        go_ret2
        rw [HR3.out]
        refine ⟨_,rfl,.inr (.inr ⟨w2.heap.size,w2.heap.size+1,w.heap.size,w4.heap.size,g,Ao,g.opts.length,co,Ap,cp,p,m,rfl,?_,?_,HOK.out,HMY.out,h68,hm2,hp1,?_⟩),?_⟩
        ·simp only; rw [← HL.out,← HM.out]
        ·exact HSR.out.mono (fun k hk=>⟨hk.1,Nat.lt_of_lt_of_le hk.2 HBR.out.size⟩) fun k hk=>hk.2
        ·rw [← HL.out,← HM.out]; exact HALL.out
        ·exact HB9.out.trans (HBR.out.mono HB9.out.size)
 ·have hR:=HCU.out
  rw [if_pos hfe] at hR
  have HR:=Lib.hid hR
  have HFE:=Lib.hid hfe
  clear hR hfe
  have hf1:((fe:Int) != 0)=true:=by rw [bne_iff_ne]; have:=HFE.out; omega
  rw [hs3]
  go_wp2_with fail
  go_ret2
  exact PcsPost.none HR.out HB4.out
end Go.Proofs.YthlommalbkhcjaaGreat
namespace Go.Proofs.YthlommalbkhcjaaGreat
open Go.RowKit Go.Sort Go.BigFrame
attribute [local go_sem] Oper.semAt_some
structure CtS (w W:World) (Bc:Nat) (L:List By):Prop where
 below:Below w.heap.size w W
 le:w.heap.size≤Bc
 ex:∃ v,Blk W Bc 68 #[v]∧Rows8 (Bc+1) W v L
theorem CtS.own {w W W':World} {Bc:Nat} {L:List By} {row:Option Nat} (h:CtS w W Bc L) (hg:W.grownBy W' row) (hr:∀ r,row=some r→w.heap.size≤r∧∃ o:Obj,W.heap[r]?=some o∧o.isCells=false):CtS w W' Bc L:=by
 obtain ⟨v,h1,h2⟩:=h.ex
 exact ⟨h.below.grown hg h.below.size fun r e=>(hr r e).1,h.le,v,blk_own h1 hg fun r e=>(hr r e).2,h2.own hg fun r e=>(hr r e).2⟩
def pcB (pre:List Pc):List By:=pre.map (·.2.2)
def CutPost (w:World) (r:List By × Nat) (e:Ending) (w':World):Prop:=∃ v,e=.returned (.tuple #[v,.int .i64 (r.2:Int)])∧Rows8 w.heap.size w' v r.1∧Below w.heap.size w w'
set_option maxRecDepth 100000 in
set_option maxHeartbeats 8000000 in
theorem fcut_any (A:Option Addr) (n c:Nat) (x:By) (m:Int) (I:Nat→Prop) (w:World) (h:Reads w I 1 A n (bytesV x)) (hn:x.length=n) (hc:n≤c) (hsm:n≤1000000) :
  Calls Tryz.prog 172 #[.slice A n c,.int .i64 m] w (CutPost w (cutF x m)):=by
 have HPI:=Lib.hid (pieces_any A n c x m I w h hn hc hsm)
 have hcl:=cut_len x m
 obtain ⟨R,hR⟩:∃ R,R=cutF x m:=⟨_,rfl⟩
 rw [← hR] at HPI hcl ⊢
 obtain ⟨L,en⟩:=R
 have hL:L.length≤1000001:=by have:L.length≤x.length+1:=hcl; omega
 clear h hn hc hR hcl
 refine (callsIn_wide (n:=5)).1 ?_
 refine callsIn_of_wp_marks Tryz.func172 rfl trivial ?_ rfl
 simp only [Tryz.ntmps172,List.size_toArray,List.length_cons,List.length_nil,Nat.reduceAdd,Nat.reduceSub,Array.replicate_succ,Array.replicate_zero,List.push_toArray,List.append_toArray,List.nil_append,List.cons_append]
 refine wpIn_wide.2 ?_
 go_wp2_with fail
 refine HPI.out.mono ?_
 rintro e wo ⟨f,rfl,hsq,hbo⟩
 obtain ⟨W0,hW0⟩:∃ W0,W0=wo.alloc (.cells #[.slice none 0 0] 68):=⟨_,rfl⟩
 have hB00:Below wo.heap.size wo W0:=by rw [hW0]; exact (Below.refl _ _).alloc (Nat.le_refl _) _
 have hB0:Below w.heap.size w W0:=hbo.trans (hB00.mono hbo.size)
 have hS0:CtS w W0 wo.heap.size []:=⟨hB0,hbo.size,.slice none 0 0,by rw [hW0]; exact Blk.new _ _ _,Rows8.nil _ _⟩
 obtain ⟨gf,lb,rfl,hent,hfit⟩:=(hsq.keep (Same.ofBelow hB00 fun k hk=>hk.2)).fits fun k hk=>Nat.lt_of_lt_of_le hk.2 hB00.size
 have HZ0:=Lib.hid (show W0.heap.size=wo.heap.size+1 by rw [hW0]; simp)
 have HW0:=Lib.hid hW0
 have HS0:=Lib.hid hS0
 have HZO:=Lib.hid hbo.size
 have HFIT:=Lib.hid hfit
 have HENT:=Lib.hid hent
 obtain ⟨Bc,hBc⟩:∃ Bc,Bc=wo.heap.size:=⟨_,rfl⟩
 rw [← hBc] at HS0 HZ0 HZO HFIT
 have HBC:=Lib.hid hBc
 clear hW0 hS0 hB0 hB00 hsq hbo hBc hfit hent
 go_wp2_with fail
 rw [← HW0.out,← HBC.out]
 go_wp2_with fail
 refine (wpIn_wide (n:=5)).1 ?_
 refine wpIn_range_fit rfl (by omega) (gf:=gf) (lb:=lb) rfl trivial HENT.out HFIT.out (fun h k=>same_t h k) (fun W l o o' hl h h1 h2=>same_b (w:=W0) (fun k hk=>by have:=hk.2; have:=HZ0.out; omega) W l o o' hl h h1 h2) (Below.refl _ _) (fun _=>rfl)
  (fun pre W=>CtS w W Bc (pcB pre)∧pcB pre=L.take pre.length) (fun _ _ _=>False) (fun pre W W' row hs hg hr=>⟨hs.1.own hg fun r e=>⟨Nat.le_trans (by have:=HZ0.out; have:=HZO.out; omega) (hr r e).1,(hr r e).2⟩,hs.2⟩) (fun cd pre W W' row hs hg hr=>hs) ⟨HS0.out,rfl⟩
  (fun t pre x a' W=>PcFit L W0.heap.size pre x W∧a'={ tmps:=(t.setIfInBounds 17 (.slice x.1 x.2.2.length x.2.1)).setIfInBounds 9 (.slice x.1 x.2.2.length x.2.1),defers:=[] })
  (fun pre x a' _ W W' row hs hg hr=>⟨⟨hs.1.1,own_own hs.1.2 hg fun r e=>(hr r e).2⟩,hs.2⟩) ?assign ?body ?done ?stop
 case assign =>
  intro l pre x W K hi hfit hsz hK
  simp only [pcV]
  gi_wp2
  exact hK _ _ ⟨Nat.le_refl _,fun k o _ hk _=>hk⟩ (Same.refl _ _) hi ⟨hfit,rfl⟩
 case body =>
  rintro l pre ⟨A1,c1,y⟩ a' W hl ⟨rr,hr⟩ ⟨hs,htk⟩ ⟨⟨hget,hown⟩,rfl⟩
  obtain ⟨lv,hkl,hrow⟩:=hs.ex
  simp only at hget hown ⊢
  have hpl:pre.length < L.length:=(List.getElem?_eq_some_iff.1 hget).1
  obtain ⟨us,hv,hul,hu⟩:=hrow
  have hpn:(pcB pre).length=pre.length:=by unfold pcB; simp
  obtain ⟨Y,hY⟩:∃ Y,Y=pcB pre:=⟨_,rfl⟩
  rw [← hY] at hv hul hu hs htk hpn
  obtain ⟨k,hk⟩:∃ k,k=Y.length:=⟨_,rfl⟩
  have hkp:k=pre.length:=hk.trans hpn
  obtain ⟨nn,hnn⟩:∃ nn,nn=y.length:=⟨_,rfl⟩
  rw [← hk] at hv
  rw [← hnn]
  have hBl:Bc < W.heap.size:=hkl.lt
  obtain ⟨i0,hi,hz0,hz1,hz2⟩:=info_parts info_sl8
  obtain ⟨Al,cl,rfl,hcl⟩:=own_form hv
  have hkl1:=hkl.alloc (.cells #[.slice A1 nn c1] 61)
  have hv1:=hv.alloc (.cells #[.slice A1 nn c1] 61)
  have hoy:W.ownsRow (Bc+1) 5 1 (.slice A1 nn c1) y.length (bytesV y):=by rw [hnn]; exact own_base hown (by have:=HZ0.out; omega)
  have hu1:∀ (k:Nat) (x:By),Y[k]?=some x→∃ u,us[k]?=some u∧(W.alloc (.cells #[.slice A1 nn c1] 61)).ownsRow (Bc+1) 5 1 u x.length (bytesV x):=fun k x hx=>by
   obtain ⟨u,e,r⟩:=hu k x hx
   exact ⟨u,e,r.alloc _⟩
  have hx1:=hoy.alloc (.cells #[.slice A1 nn c1] 61)
  have b0:W.cell? ⟨Bc,0,none⟩=some (.slice Al k cl):=hkl.cell 0
  have hmx:k+1≤maxLen:=by unfold maxLen; omega
  have hmb:(k+1) * 24≤140737488355328:=by omega
  have hbs:Bc+1≤(W.alloc (.cells #[.slice A1 nn c1] 61)).heap.size:=by simp; omega
  have HV1:=Lib.hid hv1
  have HV:=Lib.hid hv
  have HU1:=Lib.hid hu1
  have HX1:=Lib.hid hx1
  have HK1:=Lib.hid hkl1
  have HKL:=Lib.hid hkl
  have HS:=Lib.hid hs
  have HTK:=Lib.hid htk
  have HUL:=Lib.hid hul
  have HGET:=Lib.hid hget
  have HKN:=Lib.hid hk
  have hk1:k≤1000001:=by omega
  have HKP:=Lib.hid hkp
  have HPL:=Lib.hid hpl
  have HNN:=Lib.hid hnn
  have HY:=Lib.hid hY
  clear hv1 hv hu1 hx1 hkl1 hkl hs htk hul hget hk hnn hoy hu hown hcl hpn hY hkp hpl
  gi_wp2_with (gi_at_builtin; refine wpListIn_append_any _ rfl (.tmp 18) (.tmp 20) _ rfl rfl (Bc+1) 61 i0 _ 1 24 Tryz.underlying68 hi hz0 hz1 hz2 rfl (by decide) _ _ _ rfl HV1.out (fun _=>True) (some ⟨W.heap.size,0,none⟩) 1 1 [.slice A1 nn c1] rfl (reads_new W 61 (.slice A1 nn c1)) (fun u hu=>by rw [List.mem_singleton.1 hu]; rfl) hmx hmb hbs ?_; intro v2 w2 h2 hg2 _; obtain ⟨A2,d2,rfl,hd2⟩:=own_form h2; have hkl2:Blk w2 Bc 68 #[.slice Al k cl]:=(hg2.block Bc HK1.out.lt fun e=>by have:=(own_lt HV1.out e.symm).1; omega).trans HK1.out; have c2:=hkl2.cell 0; have z2:=hkl2.frozen 0)
  have hu2:Upd (fun j=>(Value.slice Al k cl).ownBlock=some j∨j=Bc) W (w2.setCell ⟨Bc,0,none⟩ (.slice A2 (k+1) d2)):=(((Upd.refl (fun j=>(Value.slice Al k cl).ownBlock=some j∨j=Bc) W).alloc _).grown hg2 (fun k hk=>.inl (.inl hk))).setCell (p:=⟨Bc,0,none⟩) (.inl (.inr rfl)) _
  have hrow2:=Rows8.push (L:=Y) (by rw [← HKN.out]; exact h2) (by rw [← HKN.out]; exact HV1.out) HUL.out hg2 HU1.out HX1.out
  have hrow3:Rows8 (Bc+1) (w2.setCell ⟨Bc,0,none⟩ (.slice A2 (k+1) d2)) (.slice A2 (k+1) d2) (Y++[y]):=hrow2.types (by simp [World.setCell]) (fun j cs hj hb=>Below.heap_setCell w2 ⟨Bc,0,none⟩ _ j (hb.ne_ hkl2 (by decide))) fun j cs hj hb=>Below.heap_setCell w2 ⟨Bc,0,none⟩ _ j (hb.ne_ hkl2 (by decide))
  have epc:pcB (pre++[((A1,c1,y):Pc)])=Y++[y]:=by rw [HY.out]; unfold pcB; simp
  refine ⟨keeps_of_cells _ hu2 fun j hj _=>?_,hu2.same fun j hj hi=>?_,⟨HS.out.below.trans (hu2.below (fun j hj=>?_) HS.out.below.size),HZO.out,_,hkl2.set_ 0 _,by rw [epc]; exact hrow3⟩,?_⟩
  ·rcases hj with hj | rfl
   ·obtain ⟨cs,hb⟩:=own_blk HV.out hj
    exact ⟨_,_,hb⟩
   ·exact ⟨_,_,HKL.out⟩
  ·rcases hj with hj | hj
   ·have:=(own_lt HV.out hj).1
    omega
   ·omega
  ·have:=HZO.out
   rcases hj with hj | hj
   ·have:=(own_lt HV.out hj).1
    omega
   ·omega
  ·rw [epc,List.length_append,List.length_singleton,List.take_add_one,HGET.out,HTK.out]
   rfl
 case stop =>
  rintro D cd pre W hD hsp hf hK
  exact hf.elim
 case done =>
  rintro D ys W hD hys ⟨hs,htk⟩ hK
  rw [hys,List.take_length] at htk
  rw [htk] at hs
  obtain ⟨lv,hkl,hrow⟩:=hs.ex
  have b0:=hkl.cell 0
  obtain ⟨Al,cl,rfl,hcl⟩:=hrow.form
  have HBW:=Lib.hid hs.below
  have HROW:=Lib.hid hrow
  have hDl:D < W.heap.size:=(Array.getElem?_eq_some_iff.1 hK).1
  have HK:=Lib.hid hK
  have hno:∀ r,some D=some r→∃ o:Obj,W.heap[r]?=some o∧o.isCells=false:=fun r e=>by cases e; exact ⟨_,HK.out,rfl⟩
  have hfin2:=hrow.own (grownBy_putObj' W D (.deferred none)) hno
  have hBz:=hs.below.trans (belowK_b (w:=w) (Nat.le_refl _) W D _ (.deferred none) (by have:=HZ0.out; have:=HZO.out; omega) hK rfl rfl)
  have HF2:=Lib.hid hfin2
  have HBZ:=Lib.hid hBz
  clear hfin2 hBz hs hrow hkl htk hK hno hcl
  go_wp2_with fail
  refine ⟨by simp,.inl ⟨_,_,rfl,run_takeDeferred HK.out,?_⟩⟩
  refine ⟨.tuple #[.slice Al L.length cl,.int .i64 (en:Int)],?_,.slice Al L.length cl,rfl,?_,HBZ.out⟩
  ·simp [results,Tryz.f172,go_sem]
  ·obtain ⟨us,q1,q2,q3⟩:=HF2.out
   have hle:w.heap.size≤Bc+1:=by have:=HZO.out; omega
   exact ⟨us,own_base q1 hle,q2,fun k x hx=>by obtain ⟨u,e,r⟩:=q3 k x hx; exact ⟨u,e,own_base r hle⟩⟩
end Go.Proofs.YthlommalbkhcjaaGreat
