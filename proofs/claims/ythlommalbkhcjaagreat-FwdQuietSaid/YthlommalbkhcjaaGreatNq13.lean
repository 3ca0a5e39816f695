/- law14's num, ten; guidepostref14's Way and May; the document's prefixes; rows of routes. -/
import Derived.Test.YthlommalbkhcjaaGreatNq09
import Derived.Test.YthlommalbkhcjaaGreatNq04
import Derived.Test.YthlommalbkhcjaaGreatNq12
import Derived.Deep.LoopGhost
import Derived.WalkMore
import Derived.Lib.QuietBelow
import Derived.Outline
import Derived.Deep.DeepCutAuto
import Derived.Deep.Cut
import Derived.RegionTactic
import Derived.ChangeAlike
import Derived.BigRegion
import Derived.Laws.NewBlocks
namespace Go.Proofs.YthlommalbkhcjaaGreat
open Go.RowKit Go.Sort Go.BigFrame
def TT.size:TT→Nat
 | .nil=>0
 | .node _ _ _ l r=>l.size+r.size+1
variable {dc:Int→Array Value}
structure PAt (dc:Int→Array Value) (w:World) (M:Nat→Prop) (tb:Nat) (pv0:Value) (T:TT) (p:Bs) (hb ho:Nat) (pv:Value) (S:TT) (Mo Ms:Nat→Prop) (f:TT→TT):Prop where
 wand:Wand dc w Mo tb hb ho pv0 f
 hole:hb≠tb→Mo hb∧∃ cs,Blk w hb 192 cs∧cs[ho]?=some pv
 root:hb=tb→ho=0∧pv=pv0
 tree:IsT dc w Ms pv S
 mo:∀ k,Mo k→M k∧k≠tb
 ms:∀ k,Ms k→M k∧k≠tb
 dis:∀ k,Ms k→¬ Mo k
 fS:f S=T
 ins:∀ v,T.ins p v=f (S.ins p v)
 get:T.get p=S.get p
 ctx:∃ c,c <+: p∧S.wf c
def PStop (p:Bs):TT→Prop
 | .nil=>True
 | .node q _ _ _ _=>q=p∨¬ q <+: p
theorem PAt.start {w:World} {M:Nat→Prop} {tb:Nat} {T:TT} {pv0:Value} (h:IsT dc w (fun k=>M k∧k≠tb) pv0 T) (wf:T.wf []) (p:Bs):PAt dc w M tb pv0 T p tb 0 pv0 T (fun _=>False) (fun k=>M k∧k≠tb) id :=
 ⟨Wand.start w tb pv0,fun h=>absurd rfl h,fun _=>⟨rfl,rfl⟩,h,fun _ h=>h.elim,fun _ h=>h,fun _ _ h=>h,rfl,fun _=>rfl,rfl,[],List.nil_prefix,wf⟩
theorem PAt.down (hd:Dc dc) {w:World} {M:Nat→Prop} {tb:Nat} {pv0:Value} {T:TT} {p:Bs} {hb ho:Nat} {pv:Value} {Mo Ms:Nat→Prop} {f:TT→TT} {q:Bs} {x:Int} {g:Bool} {l r:TT} (h:PAt dc w M tb pv0 T p hb ho pv (.node q x g l r) Mo Ms f)
  (hne:q≠p) (hpre:q <+: p) {b:Nat} (hpv:pv=.pointer (some ⟨b,0,none⟩)) {pl pr:Value} (hk:Blk w b 192 (ndC dc q x g pl pr)) :
  ∃ Mo2 Ms2 f2,PAt dc w M tb pv0 T p b (if nth p q.length then 261 else 260) (if nth p q.length then pr else pl) (if nth p q.length then r else l) Mo2 Ms2 f2:=by
 obtain ⟨b',pl',pr',Ml,Mr,h1,h2,h3,h4,h5,h6,h7,h8⟩:=h.tree
 have eb:b'=b:=by rw [hpv] at h1; injection h1 with h1; injection h1 with h1; injection h1 with h1; exact h1.symm
 subst eb
 have e2:pl'=pl∧pr'=pr:=by
  unfold Blk at hk h2
  rw [hk] at h2
  injection h2 with h2
  injection h2 with h2
  obtain ⟨e1,e2⟩:=ndX_inj (hd.sz x) h2
  exact ⟨e1.symm,e2.symm⟩
 obtain ⟨rfl,rfl⟩:=e2
 have hbt:b'≠tb:=(h.ms b' h3).2
 have wd:=Wand.down hd (dir:=nth p q.length) h.wand (fun hn=>by obtain ⟨_,cs,c1,c2⟩:=h.hole hn; exact ⟨cs,c1,by rw [c2,hpv]⟩) (fun e=>by rw [← (h.root e).2,hpv]) hbt (h.dis b' h3) (fun hm=>(h.mo tb hm).2 rfl) hk (fun _=>h8) (fun _=>h7) (Ml:=Ml) (Mr:=Mr) (fun k hm=>⟨h.dis k (h4 k hm).1,(h4 k hm).2⟩) (fun k hm=>⟨h.dis k (h5 k hm).1,(h5 k hm).2⟩)
 refine ⟨_,(if nth p q.length then Mr else Ml),_,wd,fun _=>⟨.inr (.inl rfl),_,hk,?_⟩,fun e=>absurd e hbt,?_,fun k hm=>?_,fun k hm=>?_,fun k hm=>?_,?_,fun v=>?_,?_,?_⟩
 ·cases nth p q.length
  ·exact ndX_l (hd.sz x)
  ·exact ndX_r (hd.sz x)
 ·cases nth p q.length
  ·exact h7
  ·exact h8
 ·rcases hm with hm | hm | hm
  ·exact h.mo k hm
  ·subst hm; exact h.ms _ h3
  ·revert hm
   cases nth p q.length
   ·exact fun hm=>h.ms k (h5 k hm).1
   ·exact fun hm=>h.ms k (h4 k hm).1
 ·revert hm
  cases nth p q.length
  ·exact fun hm=>h.ms k (h4 k hm).1
  ·exact fun hm=>h.ms k (h5 k hm).1
 ·revert hm
  cases nth p q.length
  ·exact fun hm hx=>by
    rcases hx with hx | hx | hx
    ·exact h.dis k (h4 k hm).1 hx
    ·exact (h4 k hm).2 hx
    ·exact h6 k hm hx
  ·exact fun hm hx=>by
    rcases hx with hx | hx | hx
    ·exact h.dis k (h5 k hm).1 hx
    ·exact (h5 k hm).2 hx
    ·exact h6 k hx hm
 ·rw [← h.fS]
  cases nth p q.length <;> rfl
 ·rw [h.ins v,TT.ins,if_neg hne,if_pos hpre]
  cases nth p q.length <;> rfl
 ·rw [h.get,TT.get,if_neg hne,if_pos hpre]
  cases nth p q.length <;> rfl
 ·obtain ⟨c,_,w1,w2,w3,w4,w5⟩:=h.ctx
  have hn:=pre_nth hpre hne
  revert hn
  cases nth p q.length
  ·exact fun hn=>⟨_,hn,w4⟩
  ·exact fun hn=>⟨_,hn,w5⟩
def PlcPost (dc:Int→Array Value) (w:World) (M:Nat→Prop) (tb:Nat) (pv0:Value) (T:TT) (p:Bs) (e:Ending) (w':World):Prop :=
 ∃ hb ho pv S Mo Ms f,e=.returned (.pointer (some ⟨hb,ho,none⟩))∧Below w.heap.size w w'∧PAt dc w M tb pv0 T p hb ho pv S Mo Ms f∧PStop p S
set_option maxHeartbeats 4000000 in
theorem place_any (hd:Dc dc) (p:Bs) (tb:Nat) (pv0 a2 a3 a4:Value) (T:TT) (M:Nat→Prop) (w:World) (hk0:Blk w tb 184 #[pv0,a2,a3,a4]) (ht:IsT dc w (fun k=>M k∧k≠tb) pv0 T) (wf:T.wf []) (hp:p.length≤32) :
  Calls Tryz.prog 105 #[.pointer (some ⟨tb,0,none⟩),pxV (padB p) p.length] w (PlcPost dc w M tb pv0 T p):=by
 have S0:=Lib.hid (PAt.start (M:=M) ht wf p)
 have K0:=Lib.hid hk0
 have hP:=padB_lt p hp
 clear ht wf hk0
 obtain ⟨a,ha⟩:∃ a,a=padB p:=⟨_,rfl⟩
 obtain ⟨n,hn⟩:∃ n,n=p.length:=⟨_,rfl⟩
 rw [← ha] at hP
 rw [← ha,← hn]
 have HA:=Lib.hid ha
 have HN:=Lib.hid hn
 clear ha hn
 go_enter Tryz.func105,Tryz.ntmps105
 go_wp2_with fail
 go_step3
 go_wp2_with fail
 go_step3
 go_wp2_with fail
 have hb0:Hid (Below w.heap.size w (w.alloc (.cells #[.int .u32 (a:Int),.int .i64 (n:Int)] 37))):=Lib.hid ((Below.refl _ _).alloc (Nat.le_refl _) _)
 have hk1:Hid (Blk (w.alloc (.cells #[.int .u32 (a:Int),.int .i64 (n:Int)] 37)) w.heap.size 37 #[.int .u32 (a:Int),.int .i64 (n:Int)]):=Lib.hid (Blk.new _ _ _)
 go_loopg [5] T.size (fun g s5 wr=>∃ hb ho pv S Mo Ms f,s5=.pointer (some ⟨hb,ho,none⟩)∧S.size≤g∧Below w.heap.size w wr∧Blk wr w.heap.size 37 #[.int .u32 (a:Int),.int .i64 (n:Int)]∧PAt dc w M tb pv0 T p hb ho pv S Mo Ms f)
 case atStart=>exact ⟨tb,0,pv0,T,_,_,_,rfl,Nat.le_refl _,hb0.out,hk1.out,S0.out⟩
 case round =>
  obtain ⟨hb,ho,pv,S,Mo,Ms,f,rfl,hg,hbl,hbx,pat⟩:=hrel
  have hcell:wr.cell? ⟨hb,ho,none⟩=some pv:=by
   by_cases e:hb=tb
   ·obtain ⟨e1,e2⟩:=pat.root e
    subst e; subst e1; subst e2
    exact (K0.out.below hbl K0.out.lt).cell 0
   ·obtain ⟨_,cs,c1,c2⟩:=pat.hole e
    exact ((c1.below hbl c1.lt).cell ho).trans c2
  have x0:wr.cell? ⟨w.heap.size,0,none⟩=some (.int .u32 (a:Int)):=hbx.cell 0
  have x1:wr.cell? ⟨w.heap.size,1,none⟩=some (.int .i64 (n:Int)):=hbx.cell 1
  have PT:=Lib.hid pat
  have HB:=Lib.hid hbl
  have HX:=Lib.hid hbx
  have HG:=Lib.hid hg
  clear pat hbl hbx hg
  cases S with
  | nil =>
    obtain rfl:pv=.pointer none:=PT.out.tree
    go_wp2_with fail
    rw [Exit.noGoto_ret]
    go_ret
    exact ⟨hb,ho,_,.nil,Mo,Ms,f,rfl,HB.out,PT.out,trivial⟩
  | node q x g l r =>
    obtain ⟨b,pl,pr,Ml,Mr,h1,h2,_⟩:=PT.out.tree
    obtain ⟨c,hc,w1,w2,_⟩:=PT.out.ctx
    subst h1
    have hkb:=h2.below HB.out h2.lt
    obtain ⟨qa,hqa⟩:∃ qa,qa=padB q:=⟨_,rfl⟩
    obtain ⟨qn,hqn⟩:∃ qn,qn=q.length:=⟨_,rfl⟩
    have y0:wr.cell? ⟨b,0,none⟩=some (.int .u32 (qa:Int)):=by rw [hqa]; exact (hkb.cell 0).trans ndX_a
    have y1:wr.cell? ⟨b,1,none⟩=some (.int .i64 (qn:Int)):=by rw [hqn]; exact (hkb.cell 1).trans ndX_n
    have H2:=Lib.hid h2
    have HQA:=Lib.hid hqa
    have HQN:=Lib.hid hqn
    have hblt:=hkb.lt
    clear h2 hkb hqa hqn hc w1
    by_cases he:q=p
    ·have e1:qa=a:=by rw [HQA.out,HA.out,he]
     have e2:qn=n:=by rw [HQN.out,HN.out,he]
     subst e1; subst e2
     go_wp2_with fail
     go_quiet (fail)
     go_wp2_with fail
     rw [Exit.noGoto_ret]
     go_ret
     exact ⟨hb,ho,_,.node q x g l r,Mo,Ms,f,rfl,⟨HB.out.os,HB.out.tape,HB.out.output,HB.out.size,HB.out.block⟩,PT.out,.inl he⟩
    ·have hne:¬ (qa=a∧qn=n):=fun ⟨e1,e2⟩=>he (by
      rw [HQA.out,HA.out] at e1
      rw [HQN.out,HN.out] at e2
      exact pad_inj w2 e2 e1)
     have hcm:=fun (wx:World)=>common_any q p wx w2 hp
     rw [← HQA.out,← HQN.out,← HA.out,← HN.out] at hcm
     have HC:=Lib.hid hcm
     have hq1:∀ w,(binOp .eql 37 (.agg #[.int .u32 (qa:Int),.int .i64 (qn:Int)]) (.agg #[.int .u32 (a:Int),.int .i64 (n:Int)])).run Tryz.prog w=.ok (.bool false) w:=fun w=>by
      rw [eql_px,decide_eq_false]
      exact fun h=>hne ⟨h.1,by have:=h.2; omega⟩
     clear hcm
     by_cases hpre:q <+: p
     ·have el:lcpB q p=q:=lcp_eq_left.2 hpre
      rw [el,← HQA.out,← HQN.out] at HC
      have hq2:∀ w,(binOp .neq 37 (.agg #[.int .u32 (qa:Int),.int .i64 (qn:Int)]) (.agg #[.int .u32 (qa:Int),.int .i64 (qn:Int)])).run Tryz.prog w=.ok (.bool false) w:=fun w=>by
       rw [neq_px,decide_eq_true]
       ·rfl
       ·exact ⟨rfl,rfl⟩
      have hlt:qn < p.length:=by rw [HQN.out]; exact Nat.lt_of_le_of_ne hpre.length_le fun e=>he (hpre.eq_of_length e)
      have hbi:bitI a qn=if nth p q.length then 1 else 0:=by
       unfold bitI bitB nth
       rw [HA.out,HQN.out,padB_bit p hp q.length (by rw [← HQN.out]; omega)]
      have hbc:=fun (wx:World)=>tbit_any a qn wx (by omega) hP
      obtain ⟨Mo2,Ms2,f2,pat2⟩:=PT.out.down hd he hpre rfl H2.out
      have P2:=Lib.hid pat2
      have hgg:=HG.out
      have HPRE:=Lib.hid hpre
      go_wp2_with fail
      have k0:=cell_regrown y0
      have k1:=cell_regrown y1
      have k2:=cell_regrown x0
      have k3:=cell_regrown x1
      have hcm:=fun (d:Nat) (os:Array Obj)=>Calls.regrown_of (HC.out (grow (redrawn wr d) os))
      refine wp_region_quiet_below (by kernel_rfl) (by kernel_rfl) ?_
      repeat (go_big_quiet_step (exact hcm _ _))
      refine wpQuiet_nil ?_
      intro _ hw'
      obtain ⟨⟨dq,osq⟩,hw''⟩:=hw'
      subst hw''
      have hbq:=below_regrown wr dq osq
      generalize grow (redrawn wr dq) osq=wq at hbq
      have z0:wq.cell? ⟨b,0,none⟩=some (.int .u32 (qa:Int)):=(hbq.cell (p:=⟨b,0,none⟩) hblt).trans y0
      have z1:wq.cell? ⟨b,1,none⟩=some (.int .i64 (qn:Int)):=(hbq.cell (p:=⟨b,1,none⟩) hblt).trans y1
      have z2:wq.cell? ⟨w.heap.size,0,none⟩=some (.int .u32 (a:Int)):=(hbq.cell (p:=⟨w.heap.size,0,none⟩) HX.out.lt).trans x0
      have HBQ:=Lib.hid hbq
      clear k0 k1 k2 k3 hcm pat2 hbq hlt hpre el
      cases hdir:nth p q.length with
      | false =>
        rw [hdir,if_neg (by decide)] at hbi
        rw [hbi] at hbc
        rw [hdir] at P2
        clear hbi hdir
        have hbb:=fun (nd:Nat)=>Calls.quiet_of_same ((hbc (wq.drewN nd)).mono fun _ _ ⟨h,hw⟩=>⟨h,hw.symm⟩)
        go_wp2_with fail
        go_quiet (exact hbb _)
        go_wp2_with fail
        go_roundg (l.size)
        case measure=>simp only [TT.size] at hgg; omega
        case rel =>
         refine ⟨b,260,_,l,Mo2,Ms2,f2,rfl,Nat.le_refl _,?_,?_,P2.out⟩
         ·exact HB.out.trans (Below.trans (HBQ.out.mono HB.out.size) ⟨rfl,rfl,rfl,Nat.le_refl _,fun _ _=>rfl⟩)
         ·exact (HX.out.below HBQ.out HX.out.lt).drewN _
      | true =>
        rw [hdir,if_pos rfl] at hbi
        rw [hbi] at hbc
        rw [hdir] at P2
        clear hbi hdir
        have hbb:=fun (nd:Nat)=>Calls.quiet_of_same ((hbc (wq.drewN nd)).mono fun _ _ ⟨h,hw⟩=>⟨h,hw.symm⟩)
        go_wp2_with fail
        go_quiet (exact hbb _)
        go_wp2_with fail
        go_roundg (r.size)
        case measure=>simp only [TT.size] at hgg; omega
        case rel =>
         refine ⟨b,261,_,r,Mo2,Ms2,f2,rfl,Nat.le_refl _,?_,?_,P2.out⟩
         ·exact HB.out.trans (Below.trans (HBQ.out.mono HB.out.size) ⟨rfl,rfl,rfl,Nat.le_refl _,fun _ _=>rfl⟩)
         ·exact (HX.out.below HBQ.out HX.out.lt).drewN _
     ·obtain ⟨ca,hca⟩:∃ ca,ca=padB (lcpB q p):=⟨_,rfl⟩
      obtain ⟨cn,hcn⟩:∃ cn,cn=(lcpB q p).length:=⟨_,rfl⟩
      rw [← hca,← hcn] at HC
      have hne2:¬ (ca=qa∧cn=qn):=fun ⟨e1,e2⟩=>hpre (lcp_eq_left.1 (pad_inj (Nat.le_trans (lcp_left q p).length_le w2) (by rw [← hcn,e2,HQN.out]) (by rw [← hca,e1,HQA.out])))
      have hq2:∀ w,(binOp .neq 37 (.agg #[.int .u32 (ca:Int),.int .i64 (cn:Int)]) (.agg #[.int .u32 (qa:Int),.int .i64 (qn:Int)])).run Tryz.prog w=.ok (.bool true) w:=fun w=>by
       rw [neq_px,decide_eq_false]
       ·rfl
       ·exact fun h=>hne2 ⟨h.1,by have:=h.2; omega⟩
      have HCA:=Lib.hid hca
      have HCN:=Lib.hid hcn
      clear hca hcn
      go_wp2_with fail
      have k0:=cell_regrown y0
      have k1:=cell_regrown y1
      have k2:=cell_regrown x0
      have k3:=cell_regrown x1
      have hcm:=fun (d:Nat) (os:Array Obj)=>Calls.regrown_of (HC.out (grow (redrawn wr d) os))
      refine wp_region_quiet_below (by kernel_rfl) (by kernel_rfl) ?_
      repeat (go_big_quiet_step (exact hcm _ _))
      refine wpQuiet_nil ?_
      intro _ hw'
      obtain ⟨⟨dq,osq⟩,hw''⟩:=hw'
      subst hw''
      have hbq:=below_regrown wr dq osq
      generalize grow (redrawn wr dq) osq=wq at hbq
      clear k0 k1 k2 k3 hcm
      go_wp2_with fail
      rw [Exit.noGoto_ret]
      go_ret
      exact ⟨hb,ho,_,.node q x g l r,Mo,Ms,f,rfl,HB.out.trans (hbq.mono HB.out.size),PT.out,.inr hpre⟩
end Go.Proofs.YthlommalbkhcjaaGreat
namespace Go.Proofs.YthlommalbkhcjaaGreat
open Go.RowKit Go.Sort Go.BigFrame
variable {dc:Int→Array Value}
theorem there_any (tb:Nat) (a1 a2 a3:Value) (w:World) (h:Blk w tb 184 #[a1,a2,a3,.bool true]) :
  Calls Tryz.prog 103 #[.pointer (some ⟨tb,0,none⟩)] w fun e w'=>e=.returned (.bool true)∧w=w':=by
 have hc:w.cell? ⟨tb,3,none⟩=some (.bool true):=h.cell 3
 clear h
 go_enter Tryz.func103,Tryz.ntmps103
 go_wp2
 go_ret
 exact ⟨rfl,rfl⟩
theorem may_yes (p:Bs) (w:World) (hp:p.length≤32):Calls Tryz.prog 104 #[pxV (padB p) p.length] w fun e w'=>e=.returned (.bool true)∧Below w.heap.size w w' :=
 (tmay_any (padB p) p.length w (padB_lt p hp)).mono fun e w' ⟨he,m,hw⟩=>⟨by rw [he,bits_may hp],by rw [hw]; exact below_box _ _ _⟩
theorem may_no (a:Nat) (n:Int) (w:World) (ha:a < 2 ^ 32) (h:mayB a n=false):Calls Tryz.prog 104 #[pxV a n] w fun e w'=>e=.returned (.bool false)∧Below w.heap.size w w' :=
 (tmay_any a n w ha).mono fun e w' ⟨he,m,hw⟩=>⟨by rw [he,h],by rw [hw]; exact below_box _ _ _⟩
def GetPost (dc:Int→Array Value) (w:World) (T:TT) (p:Bs) (e:Ending) (w':World):Prop:=e=.returned (.tuple #[.agg (dc ((T.get p).getD 0)),.bool (T.get p).isSome])∧Below w.heap.size w w'
theorem get_close {w wr:World} {T S:TT} {p:Bs} {v:Int} {g:Bool} (e1:T.get p=S.get p) (e2:S.get p=if g then some v else none) (hv:g=false→v=0) (hb:Below w.heap.size w wr):GetPost dc w T p (.returned (.tuple #[.agg (dc v),.bool g])) wr:=by
 refine ⟨?_,hb⟩
 rw [e1,e2]
 cases g
 ·rw [hv rfl]; rfl
 ·rfl
structure GtW (w:World) (a:Nat) (n:Int) (wx:World):Prop where
 x:Blk wx w.heap.size 37 #[.int .u32 (a:Int),.int .i64 n]
 v:Blk wx (w.heap.size+1) 41 wy0
 b:Below w.heap.size w wx
theorem GtW.later {w:World} {a:Nat} {n:Int} {wx wy:World} (h:GtW w a n wx) (hb:Below wx.heap.size wx wy):GtW w a n wy:=⟨h.x.below hb h.x.lt,h.v.below hb h.v.lt,h.b.trans (hb.mono h.b.size)⟩
theorem gtw_new (w:World) (a:Nat) (n:Int):GtW w a n ((w.alloc (.cells #[.int .u32 (a:Int),.int .i64 n] 37)).alloc (.cells wy0 41)):=by
 refine ⟨(Blk.new w _ _).alloc _,?_,((Below.refl _ _).alloc (Nat.le_refl _) _).alloc (by simp) _⟩
 have:=Blk.new (w.alloc (.cells #[.int .u32 (a:Int),.int .i64 n] 37)) 41 wy0
 rwa [show (w.alloc (.cells #[.int .u32 (a:Int),.int .i64 n] 37)).heap.size=w.heap.size+1 by simp] at this
set_option maxRecDepth 20000 in
set_option maxHeartbeats 2000000 in
attribute [-go_sem] Instr.storeAt Instr.loadAt Instr.alloc in
theorem get_no (hd:Dc dc) (a:Nat) (n:Int) (tb:Nat) (M:Nat→Prop) (limit:Int) (T:TT) (w:World) (h:IsTr dc w M tb limit T) (ha:a < 2 ^ 32) (hm:mayB a n=false) :
  Calls Tryz.prog 49 #[.pointer (some ⟨tb,0,none⟩),pxV a n] w fun e w'=>e=.returned (.tuple #[.agg (dc 0),.bool false])∧Below w.heap.size w w':=by
 obtain ⟨pv,hk,_⟩:=h.ex
 obtain ⟨W0,hW0⟩:∃ Z,Z=(w.alloc (.cells #[.int .u32 (a:Int),.int .i64 n] 37)).alloc (.cells wy0 41):=⟨_,rfl⟩
 have hg:GtW w a n W0:=by rw [hW0]; exact gtw_new w a n
 have HG:=Lib.hid hg
 have HT:=Lib.hid (there_any tb _ _ _ W0 (hk.below hg.b hk.lt))
 have HM:=Lib.hid (may_no a n W0 ha hm)
 have HZ:=Lib.hid hd.z
 have lx:=ld_pxB hg.x
 have hal:=way_alloc
 have HW0:=Lib.hid hW0
 have hz1:(w.alloc (.cells #[.int .u32 (a:Int),.int .i64 n] 37)).heap.size=w.heap.size+1:=by simp
 clear h hk hm hg hW0
 go_enter Tryz.func49,Tryz.ntmps49
 go_upto_region 1 with (fail)
 rw [← HW0.out]
 clear hal hz1
 go_wp2_with (first
  | (go_at_call 103; refine HT.out.mono ?_; rintro e w' ⟨rfl,rfl⟩)
  | (go_at_call 104; refine HM.out.mono ?_; rintro e w2 ⟨rfl,hb⟩; have HG2:=Lib.hid (HG.out.later hb); have lv:=ld_wyB HG2.out.v wy0_size; have st:=st_wyB HG2.out.v wy0_size wy0_size wy0_one; clear hb))
 have hk9:=blk_setCells HG2.out.v (show wy0.size=wy0.size from rfl)
 refine bodyPost_ret_by (res_cell2 Tryz.underlying41 rfl wy_info rfl _ rfl hk9 wy0_size) rfl ?_
 rw [HZ.out]
 exact ⟨rfl,below_setCells (Nat.le_succ _) _ _ _ HG2.out.b⟩
theorem get_none_end (hd:Dc dc) {w wx:World} {a:Nat} {n:Int} {T S:TT} {p:Bs} (h:GtW w a n wx) (e1:T.get p=S.get p) (e2:S.get p=none):GetPost dc w T p (.returned (.tuple #[.agg wy0,.bool false])) (wx.setCells (w.heap.size+1) 0 wy0.toList):=by
 rw [← hd.z]
 exact get_close (v:=0) (g:=false) e1 e2 (fun _=>rfl) (below_setCells (Nat.le_succ _) _ _ _ h.b)
set_option maxRecDepth 20000 in
set_option maxHeartbeats 4000000 in
attribute [-go_sem] Instr.storeAt Instr.loadAt Instr.alloc in
theorem get_yes (hd:Dc dc) (p:Bs) (tb:Nat) (M:Nat→Prop) (limit:Int) (T:TT) (w:World) (h:IsTr dc w M tb limit T) (hp:p.length≤32) :
  Calls Tryz.prog 49 #[.pointer (some ⟨tb,0,none⟩),pxV (padB p) p.length] w (GetPost dc w T p):=by
 obtain ⟨pv0,hk,ht⟩:=h.ex
 obtain ⟨a,ha⟩:∃ a,a=padB p:=⟨_,rfl⟩
 obtain ⟨n,hn⟩:∃ n,n=p.length:=⟨_,rfl⟩
 obtain ⟨W0,hW0⟩:∃ Z,Z=(w.alloc (.cells #[.int .u32 (a:Int),.int .i64 n] 37)).alloc (.cells wy0 41):=⟨_,rfl⟩
 have hg:GtW w a n W0:=by rw [hW0]; exact gtw_new w a n
 have HG:=Lib.hid hg
 have HT:=Lib.hid (there_any tb _ _ _ W0 (hk.below hg.b hk.lt))
 have HM:=Lib.hid (may_yes p W0 hp)
 have HPL:=Lib.hid (fun (wx:World) (hb:Below w.heap.size w wx)=>place_any hd p tb pv0 _ _ _ T (fun k=>M k) wx (hk.below hb hk.lt) (ht.keep ⟨hb.size,fun k hm _=>hb.block k (h.lt k hm.1)⟩) h.wf hp)
 have HK:=Lib.hid hk
 have HD:=Lib.hid hd
 rw [← ha,← hn] at HM HPL ⊢
 have lx:=ld_pxB hg.x
 have hal:=way_alloc
 have HW0:=Lib.hid hW0
 have HA:=Lib.hid ha
 have HN:=Lib.hid hn
 have hz1:(w.alloc (.cells #[.int .u32 (a:Int),.int .i64 n] 37)).heap.size=w.heap.size+1:=by simp
 clear h hk ht hg hW0 hd ha hn
 go_enter Tryz.func49,Tryz.ntmps49
 go_upto_region 1 with (fail)
 rw [← HW0.out]
 clear hal hz1
 go_wp2_with (first
  | (go_at_call 103; refine HT.out.mono ?_; rintro e w' ⟨rfl,rfl⟩)
  | (go_at_call 104; refine HM.out.mono ?_; rintro e w2 ⟨rfl,hb⟩; have HG2:=Lib.hid (HG.out.later hb); clear hb lx; have lx:=ld_pxB HG2.out.x))
 refine (HPL.out w2 HG2.out.b).mono ?_
 rintro e w4 ⟨hb,ho,pv,S,Mo,Ms,f,rfl,hb4,pat,stop⟩
 have hg4:=HG2.out.later hb4
 have hcell:w4.cell? ⟨hb,ho,none⟩=some pv:=by
  by_cases e:hb=tb
  ·obtain ⟨e1,e2⟩:=pat.root e
   subst e; subst e1; subst e2
   exact (HK.out.below hg4.b HK.out.lt).cell 0
  ·obtain ⟨_,cs,c1,c2⟩:=pat.hole e
   exact ((c1.below hb4 c1.lt).cell ho).trans c2
 have PT:=Lib.hid pat
 have HB4:=Lib.hid hb4
 have HG4:=Lib.hid hg4
 clear pat hb4 hg4 lx
 cases S with
 | nil =>
   obtain rfl:pv=.pointer none:=PT.out.tree
   have lh:=ld_ptN hcell
   go_wp2_with fail
   refine wp_region_stages [(true,17)] (by kernel_rfl) (by kernel_rfl) fun wz hz hz2=>?_
   have HZ:=Lib.hid (HG4.out.later hz)
   clear hz hz2
   refine wpSt_q ?_
   simp only [List.take_succ_cons,List.take_zero,List.drop_succ_cons,List.drop_zero]
   repeat (go_big_quiet_step (fail))
   refine wpQuiet_nil ?_
   intro _ hw'
   obtain ⟨⟨dq,osq⟩,hw''⟩:=hw'
   subst hw''
   have hgq:=HZ.out.later (below_regrown wz dq osq)
   generalize grow (redrawn wz dq) osq=wq at hgq ⊢
   have HGQ:=Lib.hid hgq
   have lv:=ld_wyB hgq.v wy0_size
   have st:=st_wyB hgq.v wy0_size wy0_size wy0_one
   clear hgq
   refine wpSt_end ?_
   go_wp2_with fail
   have hk9:=blk_setCells HGQ.out.v (show wy0.size=wy0.size from rfl)
   refine bodyPost_ret_by (res_cell2 Tryz.underlying41 rfl wy_info rfl _ rfl hk9 wy0_size) rfl ?_
   exact get_none_end HD.out HGQ.out PT.out.get rfl
 | node q x g l r =>
   obtain ⟨b,pl,pr,Ml,Mr,h1,h2,_⟩:=PT.out.tree
   obtain ⟨c,hc,w1,qw,_⟩:=PT.out.ctx
   subst h1
   have lh:=ld_ptN hcell
   have hkb:=h2.below HB4.out h2.lt
   unfold ndC at hkb
   obtain ⟨qa,hqa⟩:∃ qa,qa=padB q:=⟨_,rfl⟩
   obtain ⟨qn,hqn⟩:∃ qn,qn=q.length:=⟨_,rfl⟩
   rw [← hqa,← hqn] at hkb
   have HKB:=Lib.hid hkb
   have HQA:=Lib.hid hqa
   have HQN:=Lib.hid hqn
   have STOP:=Lib.hid stop
   clear h2 hkb hqa hqn hc w1 stop hcell
   by_cases he:q=p
   ·have e1:qa=a:=by rw [HQA.out,HA.out,he]
    have e2:qn=n:=by rw [HQN.out,HN.out,he]
    subst e1; subst e2
    have hq2:∀ w,(binOp .neq 37 (.agg #[.int .u32 (qa:Int),.int .i64 (qn:Int)]) (.agg #[.int .u32 (qa:Int),.int .i64 (qn:Int)])).run Tryz.prog w=.ok (.bool false) w:=fun w=>by
     rw [neq_px,decide_eq_true]
     ·rfl
     ·exact ⟨rfl,rfl⟩
    have hsg:Hid ((TT.node q x g l r).get p=if g then some x else none):=Lib.hid (by rw [TT.get,if_pos he])
    clear he
    cases g
    ·go_wp2_with fail
     refine wp_region_stages [(true,17)] (by kernel_rfl) (by kernel_rfl) fun wz hz hz2=>?_
     have HZ:=Lib.hid (HG4.out.later hz)
     have HZN:=Lib.hid (HKB.out.below hz HKB.out.lt)
     clear hz hz2
     have q0:=fun (dd:Nat) (os:Array Obj)=>ld_ndP (HZN.out.below (below_regrown wz dd os) HZN.out.lt)
     have q1:=fun (dd:Nat) (os:Array Obj)=>ld_pxB (HZ.out.later (below_regrown wz dd os)).x
     have q2:=fun (dd:Nat) (os:Array Obj)=>ld_ndH (HZN.out.below (below_regrown wz dd os) HZN.out.lt) (HD.out.sz x)
     refine wpSt_q ?_
     simp only [List.take_succ_cons,List.take_zero,List.drop_succ_cons,List.drop_zero]
     repeat (go_big_quiet_step (fail))
     refine wpQuiet_nil ?_
     intro _ hw'
     obtain ⟨⟨dq,osq⟩,hw''⟩:=hw'
     subst hw''
     have hgq:=HZ.out.later (below_regrown wz dq osq)
     have hkq:=HZN.out.below (below_regrown wz dq osq) HZN.out.lt
     clear q0 q1 q2
     generalize grow (redrawn wz dq) osq=wq at hgq hkq ⊢
     have HGQ:=Lib.hid hgq
     have lv:=ld_wyB hgq.v wy0_size
     have st:=st_wyB hgq.v wy0_size wy0_size wy0_one
     clear hgq hkq
     refine wpSt_end ?_
     go_wp2_with fail
     have hk9:=blk_setCells HGQ.out.v (show wy0.size=wy0.size from rfl)
     refine bodyPost_ret_by (res_cell2 Tryz.underlying41 rfl wy_info rfl _ rfl hk9 wy0_size) rfl ?_
     exact get_none_end HD.out HGQ.out PT.out.get hsg.out
    ·go_wp2_with fail
     refine wp_region_stages [(true,17)] (by kernel_rfl) (by kernel_rfl) fun wz hz hz2=>?_
     have HZ:=Lib.hid (HG4.out.later hz)
     have HZN:=Lib.hid (HKB.out.below hz HKB.out.lt)
     clear hz hz2
     have q0:=fun (dd:Nat) (os:Array Obj)=>ld_ndP (HZN.out.below (below_regrown wz dd os) HZN.out.lt)
     have q1:=fun (dd:Nat) (os:Array Obj)=>ld_pxB (HZ.out.later (below_regrown wz dd os)).x
     have q2:=fun (dd:Nat) (os:Array Obj)=>ld_ndH (HZN.out.below (below_regrown wz dd os) HZN.out.lt) (HD.out.sz x)
     refine wpSt_q ?_
     simp only [List.take_succ_cons,List.take_zero,List.drop_succ_cons,List.drop_zero]
     repeat (go_big_quiet_step (fail))
     refine wpQuiet_nil ?_
     intro _ hw'
     obtain ⟨⟨dq,osq⟩,hw''⟩:=hw'
     subst hw''
     have hgq:=HZ.out.later (below_regrown wz dq osq)
     have hkq:=HZN.out.below (below_regrown wz dq osq) HZN.out.lt
     clear q0 q1 q2
     generalize grow (redrawn wz dq) osq=wq at hgq hkq ⊢
     have HGQ:=Lib.hid hgq
     have lv:=ld_way hkq (HD.out.sz x)
     have st:=st_wyB hgq.v wy0_size (HD.out.sz x) (HD.out.one x)
     clear hgq hkq
     refine wpSt_end ?_
     go_wp2_with fail
     have hk9:=blk_setCells HGQ.out.v (show wy0.size=(dc x).size by rw [HD.out.sz x]; exact wy0_size)
     refine bodyPost_ret_by (res_cell2 Tryz.underlying41 rfl wy_info rfl _ rfl hk9 (HD.out.sz x)) rfl ?_
     exact get_close (v:=x) (g:=true) PT.out.get hsg.out (fun h=>by cases h) (below_setCells (Nat.le_succ _) _ _ _ HGQ.out.b)
   ·have hne:¬ (qa=a∧qn=n):=fun ⟨e1,e2⟩=>he (by
     rw [HQA.out,HA.out] at e1
     rw [HQN.out,HN.out] at e2
     exact pad_inj qw e2 e1)
    have hq2:∀ w,(binOp .neq 37 (.agg #[.int .u32 (qa:Int),.int .i64 (qn:Int)]) (.agg #[.int .u32 (a:Int),.int .i64 (n:Int)])).run Tryz.prog w=.ok (.bool true) w:=fun w=>by
     rw [neq_px,decide_eq_false]
     ·rfl
     ·exact fun h=>hne ⟨h.1,by have:=h.2; omega⟩
    have hsg:Hid ((TT.node q x g l r).get p=none):=Lib.hid (by
     rcases STOP.out with h | h
     ·exact absurd h he
     ·rw [TT.get,if_neg he,if_neg h])
    clear he hne
    go_wp2_with fail
    refine wp_region_stages [(true,17)] (by kernel_rfl) (by kernel_rfl) fun wz hz hz2=>?_
    have HZ:=Lib.hid (HG4.out.later hz)
    have HZN:=Lib.hid (HKB.out.below hz HKB.out.lt)
    clear hz hz2
    have q0:=fun (dd:Nat) (os:Array Obj)=>ld_ndP (HZN.out.below (below_regrown wz dd os) HZN.out.lt)
    have q1:=fun (dd:Nat) (os:Array Obj)=>ld_pxB (HZ.out.later (below_regrown wz dd os)).x
    have q2:=fun (dd:Nat) (os:Array Obj)=>ld_ndH (HZN.out.below (below_regrown wz dd os) HZN.out.lt) (HD.out.sz x)
    refine wpSt_q ?_
    simp only [List.take_succ_cons,List.take_zero,List.drop_succ_cons,List.drop_zero]
    repeat (go_big_quiet_step (fail))
    refine wpQuiet_nil ?_
    intro _ hw'
    obtain ⟨⟨dq,osq⟩,hw''⟩:=hw'
    subst hw''
    have hgq:=HZ.out.later (below_regrown wz dq osq)
    have hkq:=HZN.out.below (below_regrown wz dq osq) HZN.out.lt
    clear q0 q1 q2
    generalize grow (redrawn wz dq) osq=wq at hgq hkq ⊢
    have HGQ:=Lib.hid hgq
    have lv:=ld_wyB hgq.v wy0_size
    have st:=st_wyB hgq.v wy0_size wy0_size wy0_one
    clear hgq hkq
    refine wpSt_end ?_
    go_wp2_with fail
    have hk9:=blk_setCells HGQ.out.v (show wy0.size=wy0.size from rfl)
    refine bodyPost_ret_by (res_cell2 Tryz.underlying41 rfl wy_info rfl _ rfl hk9 wy0_size) rfl ?_
    exact get_none_end HD.out HGQ.out PT.out.get hsg.out
end Go.Proofs.YthlommalbkhcjaaGreat
namespace Go.Proofs.YthlommalbkhcjaaGreat
open Go.RowKit Go.Sort
end Go.Proofs.YthlommalbkhcjaaGreat
namespace Go.Proofs.YthlommalbkhcjaaGreat
open Go.RowKit Go.Sort Go.BigFrame
structure Px where
 a:Nat
 n:Int
def pB (x:Px):Bs:=bitsB x.a x.n.toNat
def Px.may (x:Px):Bool:=mayB x.a x.n
theorem pB_may {x:Px} (ha:x.a < 2 ^ 32) (h:x.may=true):(pB x).length≤32∧padB (pB x)=x.a∧((pB x).length:Int)=x.n:=by
 obtain ⟨p,h1,h2,h3⟩:=may_bits ha h
 have e:pB x=p:=by
  unfold pB
  rw [← h2,← h3,Int.toNat_natCast]
  exact bits_pad p h1
 rw [e]
 exact ⟨h1,h2,h3⟩
end Go.Proofs.YthlommalbkhcjaaGreat
namespace Go.Proofs.YthlommalbkhcjaaGreat
open Go.RowKit Go.Sort
structure RtsM (w:World) (I:Nat→Prop) (A:Option Addr) (n:Nat) (l:List Rt):Prop where
 row:Reads w I 6 A n (l.flatMap rtC)
 len:l.length=n
 each:∀ r ∈ l,RtOk w I r
theorem RtsM.keep {w w':World} {I:Nat→Prop} {A:Option Addr} {n:Nat} {l:List Rt} (h:RtsM w I A n l) (hs:Same I w w'):RtsM w' I A n l:=⟨h.row.keep hs,h.len,fun r hr=>(h.each r hr).keep hs⟩
theorem RtsM.mono {w:World} {I J:Nat→Prop} {A:Option Addr} {n:Nat} {l:List Rt} (h:RtsM w I A n l) (hs:∀ k,I k→J k):RtsM w J A n l:=⟨h.row.mono hs,h.len,fun r hr=>(h.each r hr).mono hs⟩
theorem rtC_get:∀ {l:List Rt} {k:Nat} {r:Rt},l[k]?=some r→∀ {j:Nat},j < 6→(l.flatMap rtC)[k * 6+j]?=(rtC r)[j]?
 | [],k,r,h,_,_=>by simp at h
 | a :: l,0,r,h,j,hj=>by
   simp at h
   subst h
   rw [List.flatMap_cons,Nat.zero_mul,Nat.zero_add,List.getElem?_append_left (by show j < 6; exact hj)]
 | a :: l,k+1,r,h,j,hj=>by
   have:=rtC_get (l:=l) (k:=k) (r:=r) (by simpa using h) hj
   rw [List.flatMap_cons,List.getElem?_append_right (by show 6≤_; omega),← this]
   congr 1
   show (k+1) * 6+j - 6=_
   omega
end Go.Proofs.YthlommalbkhcjaaGreat
