/- ip.Copied, ip.Routed. -/
import Derived.Test.YthlommalbkhcjaaGreatNq37
import Derived.Test.YthlommalbkhcjaaGreatNq38
namespace Go.Proofs.YthlommalbkhcjaaGreat
open Go.RowKit Go.Sort Go.BigFrame
attribute [local go_sem] Oper.semAt_some
section
variable {P:Program} {lp n0:Nat} {ops:Array Oper} {rest:List Oper} {o:Oper} {a:Act} {Q:Exit→Act→World→Prop}
theorem wpListIn_append_any (w:World) (hgd:o.guard=none) (s x:Operand) (t:TypeId) (ho:o.op=.call { callee:=.builtin .append,args:=#[s,x],argTypes:=#[t,t] }) (hty:o.type=t)
  (base:Nat) (e:TypeId) (i:TypeInfo) (z:Value) (size bytes:Nat) (ht:P.underlying t=some (.slice e)) (hi:P.info? e=some i) (hz:i.zero=some z)
  (hsize:i.size=size) (hby:i.bytes=bytes) (hzs:z.cells.size=size) (hsz:0 < size)
  (v:Value) (n:Nat) (xs:List Value) (hs:a.eval s=v) (hown:w.ownsRow base e size v n xs)
  (I:Nat→Prop) (A:Option Addr) (m c:Nat) (news:List Value) (hx:a.eval x=.slice A m c) (hr:Reads w I size A m news) (h1:∀ u ∈ news,u.oneCell'=true)
  (h63:n+m≤maxLen) (hbytes:(n+m) * bytes≤140737488355328) (hbase:base≤w.heap.size)
  (h:∀ v2 w2,w2.ownsRow base e size v2 (n+m) (xs++news)→w.grownBy w2 v.ownBlock→(v2.ownBlock=v.ownBlock∨v2.ownBlock=some w.heap.size)→wpListIn (Fence.wide.inRound lp) n0 P ops Q rest (a.put o.dst v2) w2):wpListIn (Fence.wide.inRound lp) n0 P ops Q (o :: rest) a w:=by
 subst hty
 unfold wpListIn
 rw [if_pos (by unfold Region.wanted; rw [hgd])]
 refine wide_wpIn (by unfold noDefer; rw [ho]) ?_
 exact wp_append_any w s x o.type ho base e i z size bytes ht hi hz hsize hby hzs hsz v n xs hs hown I A m c news hx hr h1 h63 hbytes hbase h
end
structure CpS (w W:World) (Bc:Nat) (y:By):Prop where
 below:Below w.heap.size w W
 le:w.heap.size≤Bc
 ex:∃ v,Blk W Bc 61 #[v]∧Row8 (Bc+1) W v y
theorem CpS.own {w W W':World} {Bc:Nat} {y:By} {row:Option Nat} (h:CpS w W Bc y) (hg:W.grownBy W' row) (hr:∀ r,row=some r→w.heap.size≤r∧∃ o:Obj,W.heap[r]?=some o∧o.isCells=false):CpS w W' Bc y:=by
 obtain ⟨v,h1,h2⟩:=h.ex
 exact ⟨h.below.grown hg h.below.size fun r e=>(hr r e).1,h.le,v,blk_own h1 hg fun r e=>(hr r e).2,own_own h2 hg fun r e=>(hr r e).2⟩
theorem highF_snoc (L:List (UInt8 × By)) (s:UInt8 × By):flatF (highF (L++[s]))=flatF (highF L)++(if 128≤s.1 then s.2 else []):=by
 unfold highF
 rw [List.filter_append,flatF_app]
 by_cases h1:128≤s.1
 ·rw [if_pos h1]; simp [h1,flatF]
 ·rw [if_neg h1]; simp [h1,flatF]
def CopPost (w:World) (b:By) (e:Ending) (w':World):Prop:=∃ v,e=.returned v∧Row8 w.heap.size w' v (copF b)∧Below w.heap.size w w'
set_option maxRecDepth 100000 in
set_option maxHeartbeats 8000000 in
theorem copied_any (v0:Value) (b:By) (I:Nat→Prop) (w:World) (h:Sl8 w I v0 b) (hsm:b.length≤1000000) :
  Calls Tryz.prog 227 #[v0] w (CopPost w b):=by
 have HO:=Lib.hid (options_any v0 b I w h hsm)
 have HSL:=Lib.hid h.lt
 clear h
 refine (callsIn_wide (n:=5)).1 ?_
 refine callsIn_of_wp_marks Tryz.func227 rfl trivial ?_ rfl
 simp only [Tryz.ntmps227,List.size_toArray,List.length_cons,List.length_nil,Nat.reduceAdd,Nat.reduceSub,Array.replicate_succ,Array.replicate_zero,List.push_toArray,List.append_toArray,List.nil_append,List.cons_append]
 refine wpIn_wide.2 ?_
 go_wp2_with fail
 refine HO.out.mono ?_
 rintro e wo ⟨vo,rfl,_,hbo⟩
 have HBO:=Lib.hid hbo
 clear hbo
 cases hg:goodF b with
 | false =>
   have hcf:copF b=[]:=by unfold copF; rw [if_neg (by rw [hg]; decide)]
   have HCF:=Lib.hid hcf
   clear hcf hg
   go_wp2_with fail
   exact ⟨.slice none 0 0,by simp [results,Tryz.f227,go_sem],.slice none 0 0,rfl,by rw [HCF.out]; exact Row8.nil _ _,HBO.out⟩
 | true =>
   have HG:=Lib.hid hg
   clear hg
   obtain ⟨W0,hW0⟩:∃ W0,W0=wo.alloc (.cells #[.slice none 0 0] 61):=⟨_,rfl⟩
   have hB0:Below w.heap.size w W0:=by rw [hW0]; exact HBO.out.alloc HBO.out.size _
   have hS0:CpS w W0 wo.heap.size []:=⟨hB0,HBO.out.size,.slice none 0 0,by rw [hW0]; exact Blk.new _ _ _,Row8.nil _ _⟩
   have hst:=steps_any v0 b (fun k=>I k∧k < w.heap.size) W0 (HSL.out.keep (Same.ofBelow hB0 fun k hk=>hk.2))
   have HST:=Lib.hid hst
   have HW0:=Lib.hid hW0
   have HS0:=Lib.hid hS0
   have HZ0:=Lib.hid (show W0.heap.size=wo.heap.size+1 by rw [hW0]; simp)
   have HZO:=Lib.hid HBO.out.size
   obtain ⟨Bc,hBc⟩:∃ Bc,Bc=wo.heap.size:=⟨_,rfl⟩
   rw [← hBc] at HS0 HZ0 HZO
   have HBC:=Lib.hid hBc
   clear hst hW0 hS0 hB0 hBc
   go_wp2_with fail
   rw [← HW0.out,← HBC.out]
   refine HST.out.mono ?_
   rintro e w1 ⟨f,rfl,hsq,hb1⟩
   obtain ⟨Bx,rfl,hfit⟩:=hsq.fits hsm Fence.wide 4 (fun _=>trivial) rfl (by omega)
   have HFIT:=Lib.hid hfit
   have hs1:CpS w w1 Bc []:=by
    obtain ⟨lv,h1,h2⟩:=HS0.out.ex
    exact ⟨HS0.out.below.trans (hb1.mono HS0.out.below.size),HZO.out,lv,h1.below hb1 h1.lt,h2.below hb1⟩
   have HS1:=Lib.hid hs1
   have HZ1:=Lib.hid hb1.size
   clear hfit hs1 hsq hb1 HST HS0 HW0
   go_wp2_with fail
   refine (wpIn_wide (n:=5)).1 ?_
   refine wpIn_range_fit rfl (by omega) (gf:=212) (lb:=#[.pointer (some ⟨Bx,0,none⟩)]) rfl trivial (enters_of Tryz.func212 (by kernel_rfl) rfl) HFIT.out (fun h k=>same_t h k) (fun W l o o' hl h h1 h2=>same_b (w:=w1) (fun k hk=>by have:=hk.2; have:=HZ1.out; omega) W l o o' (by omega) h h1 h2) (Below.refl _ _) (fun _=>rfl)
    (fun pre W=>CpS w W Bc (flatF (highF (pre.map stP)))) (fun _ _ _=>False) (fun pre W W' row hs hg hr=>hs.own hg fun r e=>⟨Nat.le_trans (by have:=HZ0.out; have:=HZ1.out; have:=HZO.out; omega) (hr r e).1,(hr r e).2⟩) (fun cd pre W W' row hs hg hr=>hs) HS1.out
    (fun t pre x a' W=>FitS (fun k=>(I k∧k < w.heap.size)∧k < W0.heap.size) b pre x W∧a'={ tmps:=(((t.setIfInBounds 17 (.int .u8 (x.1.toNat:Int))).setIfInBounds 18 x.2.2).setIfInBounds 6 (.int .u8 (x.1.toNat:Int))).setIfInBounds 7 x.2.2,defers:=[] })
    (fun pre x a' _ W W' row hs hg hr=>⟨⟨hs.1.1,hs.1.2.keep ⟨hg.size,fun k hk hl=>hg.block k hl fun e=>by have:=(hr k e.symm).1; have:=hk.2; have:=HZ1.out; omega⟩⟩,hs.2⟩) ?assign ?body ?done ?stop
   case assign =>
    intro l pre x W K hi hfit hsz hK
    simp only [stV]
    gi_wp2
    exact hK _ _ ⟨Nat.le_refl _,fun k o _ hk _=>hk⟩ (Same.refl _ _) hi ⟨hfit,rfl⟩
   case body =>
    rintro l pre x a' W hl ⟨rr,hr⟩ hs ⟨⟨hfit,hsl⟩,rfl⟩
    obtain ⟨k,y,v⟩:=x
    obtain ⟨A,c,e0,hc,hrd⟩:=hsl
    simp only at e0 hc hrd
    subst e0
    obtain ⟨lv,hkl,hrow⟩:=hs.ex
    obtain ⟨Y,hY⟩:∃ Y,Y=flatF (highF (pre.map stP)):=⟨_,rfl⟩
    have hyl:Y.length+y.length≤1000000:=by
     have h1:=hfit
     obtain ⟨q,hq⟩:=h1
     have h2:=steps_prefix b.length b (Nat.le_refl _)
     obtain ⟨z,hz⟩:=h2
     rw [← hq,flatF_app,List.map_append,flatF_app] at hz
     have h3:=congrArg List.length hz
     have h4:=flat_high_le (pre.map stP) (pre.map stP).length
     rw [List.take_length] at h4
     have e:flatF (List.map stP [((k,y,Value.slice A y.length c):StX)])=y:=by simp [flatF,stP]
     rw [e] at h3
     simp only [List.length_append] at h3
     rw [hY]
     omega
    rw [← hY] at hrow hs
    have HYY:=Lib.hid hY
    obtain ⟨n,hn⟩:∃ n,n=y.length:=⟨_,rfl⟩
    rw [← hn] at hc hrd hfit hyl ⊢
    have b0:W.cell? ⟨Bc,0,none⟩=some lv:=hkl.cell 0
    have f0:W.frozen? ⟨Bc,0,none⟩=false:=hkl.frozen 0
    have hkl8:=k.toNat_lt
    have HS:=Lib.hid hs
    have HROW:=Lib.hid hrow
    have HKL:=Lib.hid hkl
    have HRD:=Lib.hid hrd
    have HNN:=Lib.hid hn
    obtain ⟨i0,hi,hz0,hz1,hz2⟩:=info_parts info_u8
    clear hs hrow hkl hrd hfit hn hY
    by_cases hk:k.toNat < 128
    ·have hd1:decide ((128:Int)≤(k.toNat:Int))=false:=decide_eq_false (by omega)
     have hd2:decide (128≤k.toNat)=false:=decide_eq_false (by omega)
     have hk2:¬ 128≤k:=fun e=>by have:=UInt8.le_iff_toNat_le.1 e; simp at this; omega
     gi_wp2_with fail
     refine ⟨⟨Nat.le_refl _,fun k o _ hk _=>hk⟩,Same.refl _ _,?_⟩
     show CpS w W Bc (flatF (highF ((pre++[((k,y,Value.slice A n c):StX)]).map stP)))
     rw [List.map_append]
     show CpS w W Bc (flatF (highF (pre.map stP++[(k,y)])))
     rw [highF_snoc,if_neg hk2,List.append_nil,← HYY.out]
     exact HS.out
    ·have hd1:decide ((128:Int)≤(k.toNat:Int))=true:=decide_eq_true (by omega)
     have hd2:decide (128≤k.toNat)=true:=decide_eq_true (by omega)
     have hk2:128≤k:=UInt8.le_iff_toNat_le.2 (by simp; omega)
     have hmx:Y.length+n≤maxLen:=by unfold maxLen; omega
     have hmb:(Y.length+n) * 1≤140737488355328:=by omega
     have hbs:Bc+1≤W.heap.size:=HKL.out.lt
     obtain ⟨Al,cl,rfl,hcl⟩:=HROW.out.form
     gi_wp2_with (gi_at_builtin; refine wpListIn_append_any W rfl (.tmp 21) (.tmp 22) _ rfl rfl (Bc+1) 5 i0 _ 1 1 Tryz.underlying61 hi hz0 hz1 hz2 rfl (by decide) _ _ _ rfl HROW.out _ A n c (bytesV y) rfl HRD.out (bytesV_one _) hmx hmb hbs ?_; intro v2 w2 h2 hg2 _; obtain ⟨A2,d2,rfl,hd2⟩:=own_form h2; have hkl2:Blk w2 Bc 61 #[.slice Al Y.length cl]:=(hg2.block Bc HKL.out.lt fun e=>by have:=(own_lt HROW.out e.symm).1; omega).trans HKL.out; have c2:=hkl2.cell 0; have z2:=hkl2.frozen 0)
     have hr2:Row8 (Bc+1) w2 (.slice A2 (Y.length+n) d2) (Y++y):=by
      unfold Row8
      rw [bytesV_app,List.length_append,← HNN.out]
      exact h2
     have hu:Upd (fun j=>(Value.slice Al Y.length cl).ownBlock=some j∨j=Bc) W (w2.setCell ⟨Bc,0,none⟩ (.slice A2 (Y.length+n) d2)):=((Upd.refl _ W).grown hg2 (fun k hk=>.inl (.inl hk))).setCell (p:=⟨Bc,0,none⟩) (.inl (.inr rfl)) _
     refine ⟨keeps_of_cells _ hu fun j hj _=>?_,hu.same fun j hj hi=>?_,?_⟩
     ·rcases hj with hj | rfl
      ·obtain ⟨cs,hb⟩:=own_blk HROW.out hj
       exact ⟨_,_,hb⟩
      ·exact ⟨_,_,HKL.out⟩
     ·have:=hi.1.2
      have:=HZO.out
      rcases hj with hj | hj
      ·have:=(own_lt HROW.out hj).1
       omega
      ·omega
     ·show CpS w _ Bc (flatF (highF ((pre++[((k,y,Value.slice A n c):StX)]).map stP)))
      rw [List.map_append]
      show CpS w _ Bc (flatF (highF (pre.map stP++[(k,y)])))
      rw [highF_snoc,if_pos hk2,← HYY.out]
      refine ⟨HS.out.below.trans (hu.below (fun k hk=>?_) HS.out.below.size),HZO.out,_,hkl2.set_ 0 _,hr2.keep (I:=fun k=>k≠Bc) (Upd.same (F:=fun k=>k=Bc) ((Upd.refl (fun k=>k=Bc) w2).setCell (p:=⟨Bc,0,none⟩) (.inl rfl) _) fun k hk hi=>hi hk) fun g hg=>by have:=(own_lt hr2 hg).1; omega⟩
      have:=HZO.out
      rcases hk with hk | hk
      ·have:=(own_lt HROW.out hk).1
       omega
      ·omega
   case stop =>
    rintro D cd pre W hD hsp hf hK
    exact hf.elim
   case done =>
    rintro D ys W hD hys hs hK
    rw [hys] at hs
    obtain ⟨lv,hkl,hrow⟩:=hs.ex
    obtain ⟨Y,hY⟩:∃ Y,Y=flatF (highF (steps b)):=⟨_,rfl⟩
    rw [← hY] at hrow
    have hcf:copF b=padF Y:=by unfold copF; rw [if_pos HG.out,← hY]
    have hyl:Y.length≤1000000:=by
     obtain ⟨z,hz⟩:=steps_prefix b.length b (Nat.le_refl _)
     have h3:=congrArg List.length hz
     have h4:=flat_high_le (steps b) (steps b).length
     rw [List.take_length] at h4
     simp only [List.length_append] at h3
     rw [hY]
     omega
    obtain ⟨Al,cl,rfl,hcl⟩:=hrow.form
    have b0:W.cell? ⟨Bc,0,none⟩=some (.slice Al Y.length cl):=hkl.cell 0
    obtain ⟨m,hm⟩:∃ m,m=Y.length:=⟨_,rfl⟩
    rw [← hm] at b0 hcl
    obtain ⟨r,hr⟩:∃ r,r=m % 4:=⟨_,rfl⟩
    obtain ⟨s,hs4⟩:∃ s,s=4 - r:=⟨_,rfl⟩
    obtain ⟨q,hq⟩:∃ q,q=s % 4:=⟨_,rfl⟩
    have e1:(m:Int) % 4=(r:Int):=by omega
    have e2:(4:Int) - (r:Int)=(s:Int):=by omega
    have e3:(s:Int) % 4=(q:Int):=by omega
    have hDl:D < W.heap.size:=(Array.getElem?_eq_some_iff.1 hK).1
    have hrow':W.ownsRow (Bc+1) 5 1 (.slice Al m cl) m (bytesV Y):=by rw [hm]; rw [hm] at *; exact hrow
    have HROW:=Lib.hid hrow'
    have HBW:=Lib.hid hs.below
    have HM:=Lib.hid hm
    have HQ:=Lib.hid (show q=(4 - m % 4) % 4 by omega)
    have HCF:=Lib.hid hcf
    have hmx:m+q≤maxLen:=by unfold maxLen; omega
    have hmb:(m+q) * 1≤140737488355328:=by omega
    have hbs:Bc+1≤W.heap.size:=hkl.lt
    obtain ⟨i0,hi,hz0,hz1,hz2⟩:=info_parts info_u8
    have hKK:=Lib.hid hK
    have hmn:(0:Int)≤m:=by omega
    have hsn:(0:Int)≤s:=by omega
    clear hs hkl hrow hrow' hcf hY hm hr hs4 hq hys hK hcl
    go_wp2_with (at_builtin; refine wpList_append_zeros W rfl (.tmp 24) (.tmp 29) _ _ rfl (Bc+1) 5 .i64 i0 _ 1 Tryz.underlying61 Tryz.underlying3 hi hz0 hz1 hz2 rfl rfl _ _ _ rfl HROW.out q (congrArg (Value.int .i64) e3) hmx hmb hbs ?_; intro v2 w2 h2 hg2 hat)
    have hk2:w2.heap[D]?=some (.deferred (some [])):=(hg2.block D hDl fun e=>by
     obtain ⟨cs,hb⟩:=own_blk HROW.out e.symm
     unfold Blk at hb
     rw [hKK.out] at hb
     cases hb).trans hKK.out
    have hDl2:D < w2.heap.size:=Nat.lt_of_lt_of_le hDl hg2.size
    have hfin:Row8 (Bc+1) w2 v2 (padF Y):=by
     unfold Row8 padF
     rw [bytesV_app,List.length_append,List.length_replicate,← HM.out,← HQ.out]
     have e:bytesV (List.replicate q 0)=List.replicate q (.int .u8 0):=by simp [bytesV]
     rw [e]
     exact h2
    have hb2:Below w.heap.size w w2:=HBW.out.grown hg2 HBW.out.size fun g hg=>by have:=(own_lt HROW.out hg).1; have:=HZO.out; omega
    have hno:∀ r,some D=some r→∃ o:Obj,w2.heap[r]?=some o∧o.isCells=false:=fun r e=>by cases e; exact ⟨_,hk2,rfl⟩
    have hfin2:=own_own hfin (grownBy_putObj' w2 D (.deferred none)) hno
    have hBz:=hb2.trans (belowK_b (w:=w) (Nat.le_refl _) w2 D _ (.deferred none) (by have:=HZ0.out; have:=HZ1.out; have:=HZO.out; omega) hk2 rfl rfl)
    have HF2:=Lib.hid (own_base hfin2 (by have:=HZO.out; omega:w.heap.size≤Bc+1))
    have HBZ:=Lib.hid hBz
    clear h2 hg2 hat hfin hb2 hno hfin2 hBz
    go_wp2_with fail
    refine ⟨by simp,.inl ⟨_,_,rfl,run_takeDeferred hk2,?_⟩⟩
    refine ⟨v2,?_,v2,rfl,by rw [HCF.out]; exact HF2.out,HBZ.out⟩
    simp [results,Tryz.f227,go_sem]
/-! ### Routed -/
set_option maxHeartbeats 800000 in
theorem routed1_any (k:UInt8) (A:Option Addr) (n c:Nat) (w:World) :
  Calls Tryz.prog 165 #[.agg #[.int .u8 (k.toNat:Int),.slice A n c]] w fun e w'=>e=.returned (.bool (k == 131 || k == 137))∧Below w.heap.size w w':=by
 obtain ⟨b,hb⟩:∃ b,b=k.toNat:=⟨_,rfl⟩
 rw [← hb]
 have hbl:b < 256:=by rw [hb]; exact k.toNat_lt
 have hB:=(Below.refl w.heap.size w).alloc (Nat.le_refl _) (.cells #[.int .u8 (b:Int),.slice A n c] 252)
 have HB:=Lib.hid hB
 clear hB
 by_cases h1:b=131
 ·have hb1:((b:Int) == 131)=true:=by rw [h1]; rfl
  have hk:(k == 131 || k == 137)=true:=by rw [show k=131 from UInt8.toNat_inj.1 (by rw [← hb,h1]; rfl)]; rfl
  rw [hk]
  clear hk hb h1
  go_enter Tryz.func165,Tryz.ntmps165
  go_wp2_with fail
  go_ret
  exact ⟨rfl,HB.out⟩
 ·have hb1:((b:Int) == 131)=false:=by rw [beq_eq_false_iff_ne]; omega
  by_cases h2:b=137
  ·have hb2:((b:Int) == 137)=true:=by rw [h2]; rfl
   have hk:(k == 131 || k == 137)=true:=by rw [show k=137 from UInt8.toNat_inj.1 (by rw [← hb,h2]; rfl)]; rfl
   rw [hk]
   clear hk hb h2
   go_enter Tryz.func165,Tryz.ntmps165
   go_wp2_with fail
   go_ret
   exact ⟨rfl,HB.out⟩
  ·have hb2:((b:Int) == 137)=false:=by rw [beq_eq_false_iff_ne]; omega
   have hk:(k == 131 || k == 137)=false:=by
    rw [Bool.or_eq_false_iff,beq_eq_false_iff_ne,beq_eq_false_iff_ne]
    exact ⟨fun e=>h1 (by rw [hb,e]; rfl),fun e=>h2 (by rw [hb,e]; rfl)⟩
   rw [hk]
   clear hk hb
   go_enter Tryz.func165,Tryz.ntmps165
   go_wp2_with fail
   go_ret
   exact ⟨rfl,HB.out⟩
set_option maxHeartbeats 1600000 in
theorem index_any (v:Value) (L:List (UInt8 × By)) (J:Nat→Prop) (w:World) (h:OptV w J v L) (hsm:L.length≤1000000) :
  Calls Tryz.prog 203 #[v,.func (.func 165) #[] #[]] w fun e w'=>∃ i:Int,e=.returned (.int .i64 i)∧decide (0≤i)=L.any routeS∧Below w.heap.size w w':=by
 obtain ⟨A,c,us,rfl,hr,he⟩:=h
 have HR:=Lib.hid hr.lt
 have HE:=Lib.hid he
 obtain ⟨N,hN⟩:∃ N,N=L.length:=⟨_,rfl⟩
 rw [← hN] at HR hsm ⊢
 have HN:=Lib.hid hN
 clear hr he hN
 go_enter Tryz.func203,Tryz.ntmps203
 go_wp2_with fail
 go_loopw [8] (fun i wr=>∃ k:Nat,k≤N∧i=.int .i64 (k:Int)∧(L.take k).any routeS=false∧Below w.heap.size w wr) (fun i _=>N - (intOf i).toNat)
 case atStart=>exact ⟨0,Nat.zero_le _,rfl,rfl,Below.refl _ _⟩
 case round =>
  obtain ⟨k,hk,rfl,hno,hb⟩:=hrel
  have HNO:=Lib.hid hno
  have HB:=Lib.hid hb
  clear hno hb
  by_cases hlt:k < N
  ·obtain ⟨s,hs⟩:∃ s,L[k]?=some s:=⟨L[k]'(by rw [← HN.out]; exact hlt),List.getElem?_eq_getElem _⟩
   obtain ⟨u,hu,hsl⟩:=HE.out.get hs
   obtain ⟨A2,c2,e2,_,_⟩:=hsl
   obtain ⟨g0,g1⟩:=optC_get hu
   simp only at g0 g1
   obtain ⟨ad,rfl,_,hadl,hc⟩:=HR.out.2 (by omega)
   obtain ⟨n2,hn2⟩:∃ n2,n2=s.2.length:=⟨_,rfl⟩
   rw [e2,← hn2] at g1
   have c0:wr.cell? (ad.add (k * 2))=some (.int .u8 (s.1.toNat:Int)):=(HB.out.cell (by rw [block_of_add]; exact hadl)).trans (hc _ _ g0)
   have c1:wr.cell? ⟨(ad.add (k * 2)).block,(ad.add (k * 2)).off+1,none⟩=some (.slice A2 n2 c2):=by
    have e:ad.add (k * 2+1)=⟨(ad.add (k * 2)).block,(ad.add (k * 2)).off+1,none⟩:=by rw [← add_of_add,add_pos _ 1 (by decide)]
    rw [← e]
    exact (HB.out.cell (by rw [block_of_add]; exact hadl)).trans (hc _ _ g1)
   have hi0:(0:Int)≤k:=by omega
   have hi1:(k:Int) < N:=by omega
   have hd0:decide ((k:Int) < (N:Int))=true:=decide_eq_true (by omega)
   have hd1:decide (k < N)=true:=decide_eq_true hlt
   have hany:=any_take (p:=routeS) hs
   have HANY:=Lib.hid hany
   have HC:=Lib.hid (routed1_any s.1 A2 n2 c2 wr)
   have hrs:(s.1 == 131 || s.1 == 137)=routeS s:=rfl
   rw [hrs] at HC
   obtain ⟨b,hbb⟩:∃ b,b=s.1.toNat:=⟨_,rfl⟩
   rw [← hbb] at c0 HC
   clear hs hu e2 g0 g1 hc hn2 hany hrs hbb
   cases hr:routeS s with
   | true =>
     have hfin:L.any routeS=true:=any_of_take (k:=k+1) (by rw [HANY.out,hr,Bool.or_true])
     rw [hr] at HC
     have HF:=Lib.hid hfin
     clear hr hfin HANY
     go_wp2_with fail
     refine HC.out.mono ?_
     rintro e w2 ⟨rfl,hb2⟩
     have HB2:=Lib.hid (HB.out.trans (hb2.mono HB.out.size))
     clear hb2
     go_wp2_with fail
     go_ret
     exact ⟨_,rfl,by rw [HF.out]; exact decide_eq_true (by omega),HB2.out⟩
   | false =>
     have hno:(L.take (k+1)).any routeS=false:=by rw [HANY.out,HNO.out,hr]; rfl
     rw [hr] at HC
     have HNO2:=Lib.hid hno
     clear hr hno HANY
     go_wp2_with fail
     refine HC.out.mono ?_
     rintro e w2 ⟨rfl,hb2⟩
     have HB2:=Lib.hid (HB.out.trans (hb2.mono HB.out.size))
     clear hb2
     go_wp2_with fail
     go_roundw
     case rel=>exact ⟨k+1,by omega,rfl,HNO2.out,HB2.out⟩
     case measure=>simp [intOf]; omega
  ·obtain rfl:k=N:=by omega
   have hd0:decide ((k:Int) < (k:Int))=false:=decide_eq_false (by omega)
   have hd1:decide (k < k)=false:=decide_eq_false (by omega)
   have hfin:L.any routeS=false:=by
    have:=HNO.out
    rwa [List.take_of_length_le (by rw [← HN.out]; exact Nat.le_refl _)] at this
   have HF:=Lib.hid hfin
   clear hfin hd0
   go_wp2_with fail
   go_ret
   exact ⟨-1,rfl,by rw [HF.out]; rfl,HB.out⟩
theorem contains_any (v:Value) (L:List (UInt8 × By)) (J:Nat→Prop) (w:World) (h:OptV w J v L) (hsm:L.length≤1000000) :
  Calls Tryz.prog 164 #[v,.func (.func 165) #[] #[]] w fun e w'=>e=.returned (.bool (L.any routeS))∧Below w.heap.size w w':=by
 have HC:=Lib.hid (index_any v L J w h hsm)
 clear h
 go_enter Tryz.func164,Tryz.ntmps164
 go_wp2_with fail
 refine HC.out.mono ?_
 rintro e w2 ⟨i,rfl,hi,hb2⟩
 have HB2:=Lib.hid hb2
 have HI:=Lib.hid hi
 clear hb2 hi
 obtain ⟨b,hb⟩:∃ b,b=decide (0≤i):=⟨_,rfl⟩
 have hb':=hb.symm
 have HIB:=Lib.hid hb
 clear hb
 go_wp2_with fail
 go_ret
 exact ⟨by rw [← HI.out,← HIB.out]; rfl,HB2.out⟩
theorem opts_len (x:By):(optsF x).length≤x.length:=by
 unfold optsF
 split
 ·unfold optsOf
  rw [List.length_map]
  exact Nat.le_trans (List.length_filter_le _ _) (steps_len _ _ (Nat.le_refl _))
 ·exact Nat.zero_le _
theorem routed_any (v0:Value) (b:By) (I:Nat→Prop) (w:World) (h:Sl8 w I v0 b) (hsm:b.length≤1000000) :
  Calls Tryz.prog 126 #[v0] w fun e w'=>e=.returned (.bool (routedF b))∧Below w.heap.size w w':=by
 have HO:=Lib.hid (options_any v0 b I w h hsm)
 have hl:=opts_len b
 clear h
 go_enter Tryz.func126,Tryz.ntmps126
 go_wp2_with fail
 refine HO.out.mono ?_
 rintro e w1 ⟨v,rfl,hv,hb⟩
 have HC:=Lib.hid (contains_any v (optsF b) (fun _=>True) w1 (hv.view fun _ _ _=>trivial) (by omega))
 obtain ⟨A,c,rfl,_⟩:=hv.form
 have HB:=Lib.hid hb
 clear hb hv
 go_wp2_with fail
 refine HC.out.mono ?_
 rintro e w2 ⟨rfl,hb2⟩
 have HB2:=Lib.hid (HB.out.trans (hb2.mono HB.out.size))
 clear hb2
 go_wp2_with fail
 go_ret
 exact ⟨rfl,HB2.out⟩
end Go.Proofs.YthlommalbkhcjaaGreat
