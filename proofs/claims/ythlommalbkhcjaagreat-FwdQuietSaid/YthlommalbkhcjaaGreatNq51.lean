/- Layer 18: plain law of the chapter's rows. -/
import Derived.Test.YthlommalbkhcjaaGreatNq50
import Derived.Test.YthlommalbkhcjaaGreatNq29
namespace Go.Proofs.YthlommalbkhcjaaGreat
open Go.RowKit Go.Sort Go.BigFrame
structure LdM (dc:Int→Array Value) (w wx:World) (fb bb:Nat) (T:TT) (tok:Int):Prop where
 ex:∃ (M:Nat→Prop) (tb:Nat) (lim:Int),FbM dc wx M fb tb lim T∧¬ M bb∧fb≠bb
 bk:IsBk wx bb 64 1 tok 0
 bb:w.heap.size≤bb
 bl:Below w.heap.size w wx
def LdPost (dc:Int→Array Value) (w:World) (R:Option TT) (tok:Int) (e:Ending) (w':World):Prop:=match R with
 | some T=>∃ fb bb,e=.returned (.tuple #[.pointer (some ⟨fb,0,none⟩),.pointer (some ⟨bb,0,none⟩),.bool true])∧LdM dc w w' fb bb T tok
 | none=>e=.returned (.tuple #[.pointer none,.pointer none,.bool false])∧Below w.heap.size w w'
set_option maxRecDepth 100000 in
set_option maxHeartbeats 4000000 in
theorem laid18_any {dc:Int→Array Value} (hd:Dc dc) (vf:Nat→Int) (A:Option Addr) (n c:Nat) (l:List Rt) (own:Nat) (Am:Option Addr) (nm cm:Nat) (tok:Int) (w:World) (h:RtsM w (fun k=>k < w.heap.size) A n l) (hn:n≤1024) (hv:∀ i r,l[i]?=some r→mayR r=true→dc (vf i)=wayC (wayR r)) (htk:0≤tok∧tok≤64) :
  Calls Tryz.prog 27 #[.agg #[.slice A n c,.int .u32 (own:Int),.slice Am nm cm,.int .i64 tok]] w (LdPost dc w (mkT vf 0 l .nil) tok):=by
 obtain ⟨W,hW⟩:∃ Z,Z=w.alloc (.cells #[.slice A n c,.int .u32 (own:Int),.slice Am nm cm,.int .i64 tok] 60):=⟨_,rfl⟩
 have hbW:Below w.heap.size w W:=by rw [hW]; exact (Below.refl _ _).alloc (Nat.le_refl _) _
 have hkW:Blk W w.heap.size 60 #[.slice A n c,.int .u32 (own:Int),.slice Am nm cm,.int .i64 tok]:=by rw [hW]; exact Blk.new w _ _
 have hMk:=fmake_any hd vf A n c l W ((h.keep (Same.ofBelow hbW fun k hk=>hk)).mono fun k hk=>Nat.lt_of_lt_of_le hk hbW.size) hn hv
 obtain ⟨R,hR⟩:∃ R,R=mkT vf 0 l .nil:=⟨_,rfl⟩
 rw [← hR] at hMk ⊢
 obtain ⟨g,hg⟩:∃ g,g=w.heap.size:=⟨_,rfl⟩
 rw [← hg] at hkW
 have HMK:=Lib.hid hMk
 have HW:=Lib.hid hW
 have HG:=Lib.hid hg
 have HBW:=Lib.hid hbW
 have HKW:=Lib.hid hkW
 have HTK:=Lib.hid htk
 clear hMk hW hg hbW hkW htk h hn hv hR hd
 have q0:=(show W.cell? ⟨g,0,none⟩=some (.slice A n c) from HKW.out.cell 0)
 go_enter Tryz.func27,Tryz.ntmps27
 go_upto_region 1 with (fail)
 rw [← HW.out,← HG.out]
 cases R with
 | none =>
   go_wp2_with fail
   refine HMK.out.mono ?_
   rintro e w1 ⟨rfl,hb1⟩
   have HB1:=Lib.hid (HBW.out.trans (hb1.mono HBW.out.size))
   clear hb1 q0
   go_wp2_with fail
   refine (newbk_yes 64 1 w1 (by decide) (by decide) (by decide) (by decide)).mono ?_
   rintro e w2 ⟨rfl,hw2⟩
   have HB2:=Lib.hid (show Below w.heap.size w w2 by rw [hw2]; exact HB1.out.alloc HB1.out.size _)
   clear hw2
   go_wp2_with fail
   go_ret3
   exact ⟨rfl,HB2.out⟩
 | some T =>
   go_wp2_with fail
   refine HMK.out.mono ?_
   rintro e w1 ⟨fb,rfl,hk1⟩
   have hb1:=hk1.below
   obtain ⟨M,tb,hf1,hM1,h31,h41⟩:=hk1
   have HF1:=Lib.hid hf1
   have HB1:=Lib.hid (HBW.out.trans (hb1.mono HBW.out.size))
   have HK1:=Lib.hid (HKW.out.below hb1 HKW.out.lt)
   clear hb1 q0 hf1 hM1 h31 h41
   go_wp2_with fail
   refine (newbk_yes 64 1 w1 (by decide) (by decide) (by decide) (by decide)).mono ?_
   rintro e w2 ⟨rfl,hw2⟩
   obtain ⟨bb,hbb⟩:∃ b,b=w1.heap.size:=⟨_,rfl⟩
   rw [← hbb]
   have hb2:Below w1.heap.size w1 w2:=by rw [hw2]; exact (Below.refl _ _).alloc (Nat.le_refl _) _
   have HBK:=Lib.hid (show IsBk w2 bb 64 1 64 0 by rw [hw2,hbb]; exact Blk.new w1 _ _)
   have HK2:=Lib.hid (HK1.out.below hb2 HK1.out.lt)
   have HF2:=Lib.hid (HF1.out.below hb2)
   have HNE:=Lib.hid (show ¬ M bb∧fb≠bb∧g≠bb by
    refine ⟨fun hm=>?_,fun e=>?_,fun e=>?_⟩
    ·have:=HF1.out.t.lt bb hm; omega
    ·have:=HF1.out.f.lt; omega
    ·have:=HK1.out.lt; omega)
   have HB2:=Lib.hid (HB1.out.trans (hb2.mono HB1.out.size))
   have HLE:=Lib.hid (show w.heap.size≤bb by rw [hbb]; exact HB1.out.size)
   clear hw2 hb2 hbb HF1 HK1
   have q3:=(show w2.cell? ⟨g,3,none⟩=some (.int .i64 tok) from HK2.out.cell 3)
   go_wp2_with fail
   go_loopw [9] (fun i wr=>∃ k:Int,tok≤k∧k≤64∧i=.int .i64 k∧IsBk wr bb 64 1 (64+tok - k) 0∧Upd (only bb) w2 wr) (fun i _=>(64 - intOf i).toNat)
   case atStart=>exact ⟨tok,Int.le_refl _,HTK.out.2,rfl,by rw [show 64+tok - tok=64 by omega]; exact HBK.out,Upd.refl _ _⟩
   case round =>
    obtain ⟨k,hk1,hk2,rfl,hbk,hup⟩:=hrel
    have htk:=HTK.out
    by_cases hlt:k < 64
    ·have d1:decide (k < 64)=true:=decide_eq_true hlt
     have hT:=btake_any bb 64 1 (64+tok - k) 0 wr hbk ⟨by decide,by decide,by decide,by decide,by omega,by omega,by decide,by decide⟩
     have e1:takeN (64+tok - k)=64+tok - (k+1):=by unfold takeN; rw [if_pos (by omega)]; omega
     rw [e1] at hT
     have HT:=Lib.hid hT
     have HUP:=Lib.hid hup
     have HK:=Lib.hid (⟨hk1,hk2,hlt⟩:tok≤k∧k≤64∧k < 64)
     have c0:0≤k:=by omega
     have c1:k < 64:=hlt
     clear hT hup hbk e1 hlt hk1 hk2 htk
     go_wp2_with fail
     refine HT.out.mono ?_
     rintro e wy ⟨rfl,hb3,hu3⟩
     have HB3:=Lib.hid hb3
     have HU3:=Lib.hid (HUP.out.trans_ hu3)
     clear hb3 hu3
     go_wp2_with fail
     go_roundw
     case rel=>exact ⟨k+1,by have:=HK.out; omega,by have:=HK.out; omega,rfl,HB3.out,HU3.out⟩
     case measure=>simp [intOf]; have:=HK.out; omega
    ·obtain rfl:k=64:=by omega
     have HB3:=Lib.hid hbk
     have HU3:=Lib.hid hup
     clear hbk hup hlt hk1 hk2 htk
     go_wp2_with fail
     go_ret3
     refine ⟨fb,bb,rfl,⟨M,tb,_,⟨HF2.out.f.upd HU3.out HNE.out.2.1,HF2.out.t.keep ⟨HU3.out.size,fun j hm hj=>HU3.out.block j hj fun (e:j=bb)=>HNE.out.1 (e ▸ hm)⟩,HF2.out.ne⟩,HNE.out.1,HNE.out.2.1⟩,?_,HLE.out,?_⟩
     ·have:=HB3.out
      rwa [show 64+tok - 64=tok by omega] at this
     ·exact below_upd HB2.out HU3.out (fun j (e:j=bb)=>by rw [e]; exact HLE.out) HB2.out.size
end Go.Proofs.YthlommalbkhcjaaGreat
namespace Go.Proofs.YthlommalbkhcjaaGreat
theorem part_take {x:By} {n a b:Nat} (hb:b≤n):partF (x.take n) a b=partF x a b:=by
 unfold partF
 rw [List.take_take,show min b n=b by omega]
theorem getD_take {x:By} {n k:Nat} (hk:k < n):(x.take n).getD k 0=x.getD k 0:=by
 simp [List.getD_eq_getElem?_getD,hk]
theorem prs_lenF {x:By} (h:(prsF x).2.2=0):20+(prsF x).1.opts.length+(prsF x).2.1.length=lenF x:=by
 have h0:=(prs_may h).2
 obtain ⟨h1,h2,h3,h4,h5⟩:=wrong0 h0
 have e:prsF x=(hdF x,partF x (sizeF x) (lenF x),0):=by unfold prsF; rw [if_pos h0]
 have hl:(partF x 20 (sizeF x)).length=sizeF x - 20:=part_len h3
 have hl2:(partF x (sizeF x) (lenF x)).length=lenF x - sizeF x:=part_len h5
 rw [e]
 show 20+(partF x 20 (sizeF x)).length+(partF x (sizeF x) (lenF x)).length=lenF x
 rw [hl,hl2]
 omega
theorem prs_take {x:By} (h:(prsF x).2.2=0):prsF (x.take (20+(prsF x).1.opts.length+(prsF x).2.1.length))=prsF x:=by
 rw [prs_lenF h]
 have h0:=(prs_may h).2
 obtain ⟨h1,h2,h3,h4,h5⟩:=wrong0 h0
 obtain ⟨n,hn⟩:∃ n,n=lenF x:=⟨_,rfl⟩
 rw [← hn]
 have gd:∀ k,k < 20→(x.take n).getD k 0=x.getD k 0:=fun k hk=>getD_take (by omega)
 have gp:∀ a b,b≤n→partF (x.take n) a b=partF x a b:=fun a b hb=>part_take hb
 have es:sizeF (x.take n)=sizeF x:=by unfold sizeF; rw [gd 0 (by omega)]
 have el:lenF (x.take n)=lenF x:=by unfold lenF; rw [gp 2 4 (by omega)]
 have et:(x.take n).take (sizeF x)=x.take (sizeF x):=by rw [List.take_take]; congr 1; omega
 have ew:wrongF (x.take n)=0:=by
  have h9:=h0
  unfold wrongF at h9 ⊢
  rw [es,el,et,gd 0 (by omega),gp 20 (sizeF x) (by omega),List.length_take]
  split at h9
  ·omega
  rename_i a1
  split at h9
  ·omega
  rename_i a2
  split at h9
  ·omega
  rename_i a3
  split at h9
  ·omega
  rename_i a4
  split at h9
  ·omega
  rename_i a5
  split at h9
  ·rename_i a6
   rw [if_neg (by omega),if_neg a2,if_neg (by omega),if_neg (by omega),if_neg a5,if_pos a6]
  ·omega
 have eh:hdF (x.take n)=hdF x:=by
  unfold hdF
  rw [es,gd 1 (by omega),gd 8 (by omega),gd 9 (by omega),gp 4 6 (by omega),gp 6 8 (by omega),gp 12 16 (by omega),gp 16 20 (by omega),gp 20 (sizeF x) (by omega)]
 unfold prsF
 rw [if_pos ew,if_pos h0,eh,es,el,gp _ _ (by omega)]
def leaveF (F:Ft):List By:=F.out.map (·.2)++F.loc
structure Asks (pk:Nat→Nat→Int × Int) (mtus:List Int):Prop where
 pos:∀ a u,(pk a u).1=3→0≤(pk a u).2
 m8:∀ m ∈ mtus,68≤m∧m≤1500
variable {pk:Nat→Nat→Int × Int} {mtus:List Int}
theorem way_out (H:Asks pk mtus) {x:By} {dt:Nat} (e:(fwWay pk mtus.length x dt).1=3):0≤(fwWay pk mtus.length x dt).2∧(fwWay pk mtus.length x dt).2 < mtus.length:=by
 unfold fwWay at e ⊢
 split at e
 ·cases e
 ·rename_i hne
  rw [if_neg hne]
  refine ⟨H.pos _ _ e,?_⟩
  have:=H.pos _ _ e
  omega
theorem mtu_at (H:Asks pk mtus) {po:Int} (h:0≤po∧po < mtus.length):68≤mtus.getD po.toNat 0∧mtus.getD po.toNat 0≤1500:=by
 have hl:po.toNat < mtus.length:=by omega
 have:mtus.getD po.toNat 0=mtus[po.toNat]:=by simp [List.getD_eq_getElem?_getD,hl]
 rw [this]
 exact H.m8 _ (List.getElem_mem hl)
theorem out_is {po:Int} {x:By} {F:Ft}:(∃ L,cutF x (mtus.getD po.toNat 0)=(L,0)∧fwOut mtus po x F={ F with out:=F.out++L.map fun y=>(po,y) })∨∃ d,d≠0∧fwOut mtus po x F=dropF F d:=by
 unfold fwOut
 obtain ⟨⟨L,e⟩,hR⟩:∃ R,R=cutF x (mtus.getD po.toNat 0):=⟨_,rfl⟩
 rw [← hR]
 match e with
 | 0=>exact .inl ⟨L,rfl,rfl⟩
 | 7=>exact .inr ⟨14,by decide,rfl⟩
 | 1=>exact .inr ⟨13,by decide,rfl⟩
 | 2=>exact .inr ⟨13,by decide,rfl⟩
 | 3=>exact .inr ⟨13,by decide,rfl⟩
 | 4=>exact .inr ⟨13,by decide,rfl⟩
 | 5=>exact .inr ⟨13,by decide,rfl⟩
 | 6=>exact .inr ⟨13,by decide,rfl⟩
 | n+8=>exact .inr ⟨13,by decide,rfl⟩
theorem send_is (H:Asks pk mtus) {x:By} {F:Ft}:fwSend pk mtus x F={ F with loc:=F.loc++[x] }∨(∃ d,d≠0∧fwSend pk mtus x F=dropF F d) ∨
  ∃ po L,(0≤po∧po < (mtus.length:Int))∧cutF x (mtus.getD po.toNat 0)=(L,0)∧fwSend pk mtus x F={ F with out:=F.out++L.map fun y=>(po,y) }:=by
 unfold fwSend
 split
 ·exact .inl rfl
 split
 ·rename_i h
  have hp:=way_out H h
  rcases out_is (mtus:=mtus) (po:=(fwWay pk mtus.length x (prsF x).1.dst).2) (x:=x) (F:=F) with ⟨L,h1,h2⟩ | ⟨d,hd,h2⟩
  ·exact .inr (.inr ⟨_,L,hp,h1,h2⟩)
  ·exact .inr (.inl ⟨d,hd,h2⟩)
 ·exact .inr (.inl ⟨12,by decide,rfl⟩)
theorem cut_pieces {h:Hd} (ok:h.ok) {p:By} (hf:fitsH h p=true) {m:Int} {L:List By} (hc:cutF (bytesF h p) m=(L,0)) :
  (∀ y ∈ L,∃ g q,prsF y=(g,q,0)∧g.src=h.src∧g.dst=h.dst∧g.proto=h.proto∧(y.length:Int)≤m)∧(L.length=1→L=[bytesF h p]):=by
 have hmy:mayH h=true:=by unfold fitsH at hf; simp only [Bool.and_eq_true] at hf; exact hf.1
 rcases cut_bytes ok hf m with ⟨_,h1,h2,h3,h4⟩ | ⟨_,h1⟩
 ·rw [hc] at h3
  simp only at h3
  refine ⟨fun y hy=>?_,fun hl=>?_⟩
  ·obtain ⟨k,hk⟩:=List.getElem?_of_mem hy
   rw [h3] at hk
   have hkl:k < (cutP h p.length m.toNat).length:=by have:=(List.getElem?_eq_some_iff.1 hk).1; rwa [List.length_map] at this
   obtain ⟨x,g,q,e,P,_⟩:=cut_k ok hmy (m:=m.toNat) (by omega) (by omega) h4 hkl
   rw [e] at hk
   injection hk with hk
   subst hk
   have hfit:=(fits_ok P.fit.symm).2.2.2
   refine ⟨g,q,P.prs,by rw [P.hd],by rw [P.hd],by rw [P.hd],?_⟩
   have hl:=bytesF_len g q
   rw [← P.bts] at hl
   have:=of_decide_eq_true hfit.symm
   rw [P.prs] at this
   simp only at this
   omega
  ·have hlen:(cutP h p.length m.toNat).length=1:=by rw [h3,List.length_map] at hl; exact hl
   have hfm:20+h.opts.length+p.length≤m.toNat:=by
    rcases Nat.lt_or_ge m.toNat (20+h.opts.length+p.length) with h9 | h9
    ·have:=cut_two hmy (L:=p.length) (m:=m.toNat) (by omega) (by omega)
     omega
    ·exact h9
   rw [h3]
   unfold cutP
   rw [if_pos hfm]
   simp only [List.map_cons,List.map_nil,pbF,partF]
   rw [List.take_of_length_le (by omega)]
   simp
 ·rw [hc] at h1
  simp at h1
theorem send_all (H:Asks pk mtus) {h:Hd} (ok:h.ok) {p:By} (hf:fitsH h p=true) {F:Ft} (h0:leaveF F=[]) :
  (fwSend pk mtus (bytesF h p) F).err=F.err∧(∀ y ∈ leaveF (fwSend pk mtus (bytesF h p) F),∃ g q,prsF y=(g,q,0)∧g.src=h.src∧g.dst=h.dst∧g.proto=h.proto∧y.length≤(bytesF h p).length+1500) ∧
  ((leaveF (fwSend pk mtus (bytesF h p) F)).length=1→leaveF (fwSend pk mtus (bytesF h p) F)=[bytesF h p])∧(leaveF (fwSend pk mtus (bytesF h p) F)).length≤(bytesF h p).length+1:=by
 have hr:prsF (bytesF h p)=(h,p,0):=by have:=read_back ok hf []; rwa [List.append_nil] at this
 unfold leaveF at h0
 have ho:F.out=[]:=by
  have:=List.append_eq_nil_iff.1 h0
  exact List.map_eq_nil_iff.1 this.1
 have hl:F.loc=[]:=(List.append_eq_nil_iff.1 h0).2
 rcases send_is H (x:=bytesF h p) (F:=F) with e | ⟨d,_,e⟩ | ⟨po,L,hp,hc,e⟩
 ·rw [e]
  have:leaveF { F with loc:=F.loc++[bytesF h p] }=[bytesF h p]:=by unfold leaveF; simp [ho,hl]
  rw [this]
  refine ⟨rfl,fun y hy=>?_,fun _=>rfl,by simp⟩
  obtain rfl:=List.mem_singleton.1 hy
  exact ⟨h,p,hr,rfl,rfl,rfl,by omega⟩
 ·rw [e]
  have:leaveF (dropF F d)=[]:=by unfold leaveF dropF; simp [ho,hl]
  rw [this]
  exact ⟨rfl,fun y hy=>by simp at hy,fun hh=>by simp at hh,Nat.zero_le _⟩
 ·rw [e]
  have:leaveF { F with out:=F.out++L.map fun y=>(po,y) }=L:=by unfold leaveF; simp [ho,hl,Function.comp_def]
  rw [this]
  obtain ⟨h1,h2⟩:=cut_pieces ok hf hc
  exact ⟨rfl,fun y hy=>by obtain ⟨g,q,a,b,c,d,e⟩:=h1 y hy; exact ⟨g,q,a,b,c,d,by have:=mtu_at H hp; omega⟩,h2,by have:=cut_len (bytesF h p) (mtus.getD po.toNat 0); rw [hc] at this; exact this⟩
structure Told (own:Nat) (tok:Int) (h:Hd) (p:By) (b:By) (F:Ft) (t:Int):Prop where
 tk:0 < tok∧t=tok - 1
 off:h.off=0
 src:h.src≠0∧multiF h.src=false
 body:h.proto≠1∨8≤p.length∧errT (p.getD 0 0)=false
 all:∀ y ∈ leaveF F,∃ g q,prsF y=(g,q,0)∧g.src=own∧g.dst=h.src∧g.proto=1∧y.length≤2000
 len:(leaveF F).length≤1000
 one:(leaveF F).length=1→∃ y g q m,leaveF F=[y]∧prsF y=(g,q,0)∧icOf q=(m,0)∧errT m.ty=true∧m.body=b.take (20+h.opts.length+min 8 p.length)
theorem errT_m (k:Int) (mtu:Nat) (q:By):errT (errM k mtu q).ty=true:=by
 unfold errM
 by_cases h:k=3
 ·simp only [h,if_true]; decide
 ·simp only [h,if_false]; decide
theorem tell_law (H:Asks pk mtus) {own:Nat} (hown:own < 2 ^ 32) {tok:Int} {k:Nat} {mtu:Int} (ha:errArg (k:Int) mtu=false) (hk:k≠0) {b x:By} (hb:(prsF b).2.2=0) (hx:x=b.take (20+(prsF b).1.opts.length+(prsF b).2.1.length)) :
  if (fwTell pk mtus own tok k mtu x ft0).1.err=0 then (fwTell pk mtus own tok k mtu x ft0).2=tok else Told own tok (prsF b).1 (prsF b).2.1 b (fwTell pk mtus own tok k mtu x ft0).1 (fwTell pk mtus own tok k mtu x ft0).2:=by
 have hp:prsF x=prsF b:=by rw [hx]; exact prs_take hb
 unfold fwTell
 by_cases h1:emayF x=false
 ·rw [if_pos h1]
  exact if_pos rfl ▸ rfl
 rw [if_neg h1]
 by_cases h2:tok≤0
 ·rw [if_pos h2]
  exact if_pos rfl ▸ rfl
 rw [if_neg h2]
 have h1:emayF x=true:=by simpa using h1
 have he:(errF (k:Int) x own mtu)=(bytesF (errH own (prsF x).1.src) (icB (errM k mtu.toNat (quoteF x).1)),0):=by
  unfold errF
  rw [if_neg (by rw [ha]; decide),if_neg (by rw [hp]; omega),if_neg (by rw [h1]; decide)]
 have hok:=errH_ok hown (prs_ok x).2.2.2.2.1
 have hf:=err_fits k x own mtu.toNat
 obtain ⟨s1,s2,s3,s4⟩:=send_all H hok hf (F:={ ft0 with err:=k }) rfl
 rw [he]
 simp only
 rw [s1]
 simp only
 rw [if_neg hk]
 rw [hp] at s2 s3 s4 hok hf ⊢
 unfold emayF emayH at h1
 rw [hp] at h1
 simp only [Bool.and_eq_true,decide_eq_true_eq,Bool.not_eq_true',Bool.or_eq_false_iff,decide_eq_false_iff_not,Bool.or_eq_true] at h1
 obtain ⟨_,⟨⟨⟨g1,g2⟩,g3⟩,g4⟩,g5⟩:=h1
 refine ⟨by omega,by omega,⟨g2,g3⟩,?_,fun y hy=>?_,?_,fun hl=>?_⟩
 rotate_left 2
 ·have:=quote_len x
  rw [bytesF_len,icB_len] at s4
  have e:(errM k mtu.toNat (quoteF x).1).body=(quoteF x).1:=rfl
  have e2:(errH own (prsF b).1.src).opts=[]:=rfl
  rw [e,e2] at s4
  simp only [List.length_nil] at s4
  omega
 rotate_left
 ·rcases g5 with g5 | g5
  ·exact .inl g5
  ·exact .inr g5
 ·obtain ⟨g,q,a,b1,c,d,l⟩:=s2 y hy
  refine ⟨g,q,a,b1,c,d,?_⟩
  have:=quote_len x
  rw [bytesF_len,icB_len] at l
  have e:(errM k mtu.toNat (quoteF x).1).body=(quoteF x).1:=rfl
  have e2:(errH own (prsF b).1.src).opts=[]:=rfl
  rw [e,e2] at l
  simp only [List.length_nil] at l
  omega
 ·have hr:prsF (bytesF (errH own (prsF b).1.src) (icB (errM k mtu.toNat (quoteF x).1)))=(errH own (prsF b).1.src,icB (errM k mtu.toNat (quoteF x).1),0):=by have:=read_back hok hf []; rwa [List.append_nil] at this
  refine ⟨_,_,_,_,s3 hl,hr,ic_back _,errT_m _ _ _,?_⟩
  show (quoteF x).1=_
  unfold quoteF
  rw [if_neg (by rw [hp]; omega),hp,hx]
  simp only
  rw [List.take_take]
  congr 1
  have:=Nat.min_le_right 8 (prsF b).2.1.length
  omega
theorem out_err {po:Int} {x:By} {F:Ft}:(fwOut mtus po x F).err=F.err:=by
 rcases out_is (mtus:=mtus) (po:=po) (x:=x) (F:=F) with ⟨L,_,h2⟩ | ⟨d,_,h2⟩ <;> rw [h2] <;> rfl
theorem send_err (H:Asks pk mtus) {x:By} {F:Ft}:(fwSend pk mtus x F).err=F.err:=by
 rcases send_is H (x:=x) (F:=F) with e | ⟨d,_,e⟩ | ⟨po,L,hp,hc,e⟩ <;> rw [e] <;> rfl
theorem quiet_law (H:Asks pk mtus) {own:Nat} (hown:own < 2 ^ 32) (tok:Int) (b:By) :
  if (fwJudge pk mtus own tok b).1.err=0 then (fwJudge pk mtus own tok b).2=tok else (prsF b).2.2=0∧Told own tok (prsF b).1 (prsF b).2.1 b (fwJudge pk mtus own tok b).1 (fwJudge pk mtus own tok b).2:=by
 unfold fwJudge
 by_cases hf:(prsF b).2.2≠0
 ·rw [if_pos hf]
  exact if_pos rfl ▸ rfl
 rw [if_neg hf]
 have hb:(prsF b).2.2=0:=by omega
 simp only
 split
 ·exact if_pos rfl ▸ rfl
 split
 ·exact if_pos rfl ▸ rfl
 split
 ·exact if_pos rfl ▸ rfl
 obtain ⟨x,hx⟩:∃ x,x=b.take (20+(prsF b).1.opts.length+(prsF b).2.1.length):=⟨_,rfl⟩
 rw [← hx]
 obtain ⟨Wy,hWy⟩:∃ z,z=fwWay pk mtus.length x (prsF b).1.dst:=⟨_,rfl⟩
 have hwo:=way_out H (x:=x) (dt:=(prsF b).1.dst)
 rw [← hWy] at hwo ⊢
 obtain ⟨kd,po⟩:=Wy
 simp only at hwo ⊢
 split
 ·have:(fwHere pk mtus own (prsF b).1 x ft0).err=0:=by
   unfold fwHere
   split
   ·rw [send_err H]; rfl
   ·rfl
  rw [this]
  exact if_pos rfl ▸ rfl
 ·have key:∀ (k:Nat) (mtu:Int),errArg (k:Int) mtu=false→k≠0→(if (fwTell pk mtus own tok k mtu x ft0).1.err=0 then (fwTell pk mtus own tok k mtu x ft0).2=tok else (prsF b).2.2=0∧Told own tok (prsF b).1 (prsF b).2.1 b (fwTell pk mtus own tok k mtu x ft0).1 (fwTell pk mtus own tok k mtu x ft0).2):=fun k mtu ha hk=>by
   have:=tell_law H hown (tok:=tok) ha hk hb hx
   split
   ·rename_i h; rwa [if_pos h] at this
   ·rename_i h; rw [if_neg h] at this; exact ⟨hb,this⟩
  unfold fwOn
  split
  ·exact key 3 0 (by decide) (by decide)
  split
  ·exact key 1 0 (by decide) (by decide)
  rename_i hk3
  have hk3:kd=3:=by simpa using hk3
  split
  ·have:=mtu_at H (hwo hk3)
   generalize mtus.getD po.toNat 0=m at this ⊢
   exact key 2 _ (by unfold errArg; simp; omega) (by decide)
  ·simp only
   rw [out_err]
   simp [ft0]
end Go.Proofs.YthlommalbkhcjaaGreat
namespace Go.Proofs.YthlommalbkhcjaaGreat
def kh (t:Nat):Hd:={ hd0 with ttl:=t,proto:=17,src:=184549381,dst:=201326597 }
theorem kh_ok {t:Nat} (h:t < 256):(kh t).ok:=⟨by show 0 < 256; decide,by show 0 < 65536; decide,h,by show 17 < 256; decide,by show 184549381 < 2 ^ 32; decide,by show 201326597 < 2 ^ 32; decide⟩
theorem kh_fits (t:Nat) {p:By} (hp:p.length≤65515):fitsH (kh t) p=true:=by
 unfold fitsH mayH kh hd0
 simp [goodF,steps,stepsF]
 omega
theorem kh_prs {t:Nat} (h:t < 256) {p:By} (hp:p.length≤65515):prsF (bytesF (kh t) p)=(kh t,p,0):=by
 have:=read_back (kh_ok h) (kh_fits t hp) []
 rwa [List.append_nil] at this
theorem kh_len (t:Nat) (p:By):(bytesF (kh t) p).length=20+p.length:=by rw [bytesF_len]; rfl
variable {pk:Nat→Nat→Int × Int}
theorem kn_judge {t:Nat} (h:t < 256) {p:By} (hp:p.length≤65515) (hd:∀ u,pk 201326597 u=(3,1)) (tok:Int) :
  fwJudge pk [1500,600] 167772161 tok (bytesF (kh t) p)=fwOn pk [1500,600] 167772161 tok (kh t) 3 1 (bytesF (kh t) p) ft0:=by
 have hr:=kh_prs h hp
 have hl:=kh_len t p
 obtain ⟨x,hx⟩:∃ x,x=bytesF (kh t) p:=⟨_,rfl⟩
 rw [← hx] at hr hl ⊢
 have ht:x.take (20+(kh t).opts.length+p.length)=x:=List.take_of_length_le (by show x.length≤20+0+p.length; omega)
 unfold fwJudge
 rw [hr]
 simp only
 rw [ht,if_neg (by decide),if_neg (show ¬ oddF (kh t).src=true from by show ¬ oddF 184549381=true; decide),if_neg (show ¬ oddF (kh t).dst=true from by show ¬ oddF 201326597=true; decide),if_neg (show ¬ routedF (kh t).opts=true from by show ¬ routedF []=true; decide)]
 have hw:fwWay pk ([1500,600]:List Int).length x (kh t).dst=(3,1):=by
  unfold fwWay
  show (if (pk 201326597 _).1=3∧((2:Nat):Int)≤(pk 201326597 _).2 then _ else pk 201326597 _)=_
  rw [hd]
  rfl
 rw [hw]
 rfl
theorem known_x (hs:∀ u,pk 184549381 u=(3,0)) (hd:∀ u,pk 201326597 u=(3,1)) {p:By} (hp:p.length=7) :
  ∃ y,fwJudge pk [1500,600] 167772161 5 (bytesF (kh 1) p)=(⟨0,3,[],[(0,y)]⟩,4):=by
 rw [kn_judge (by decide) (by omega) hd]
 have hr:=kh_prs (t:=1) (by decide) (p:=p) (by omega)
 obtain ⟨x,hx⟩:∃ x,x=bytesF (kh 1) p:=⟨_,rfl⟩
 rw [← hx] at hr ⊢
 have hm:emayF x=true:=by
  unfold emayF
  rw [hr]
  simp only
  unfold emayH
  rfl
 have he:errF ((3:Nat):Int) x 167772161 0=(bytesF (errH 167772161 184549381) (icB (errM 3 0 (quoteF x).1)),0):=by
  unfold errF
  rw [if_neg (by decide),if_neg (by rw [hr]; simp),if_neg (by rw [hm]; decide),hr]
  rfl
 have hq:=quote_len x
 have hf:=err_fits 3 x 167772161 0
 rw [hr] at hf
 have hok:=errH_ok (fr:=167772161) (dt:=184549381) (by decide) (by decide)
 have hy:=read_back hok hf []
 have hyl:=bytesF_len (errH 167772161 184549381) (icB (errM 3 0 (quoteF x).1))
 rw [List.append_nil] at hy
 rw [icB_len] at hyl
 have hyl2:(icB (errM 3 0 (quoteF x).1)).length=8+(quoteF x).1.length:=by rw [icB_len]; rfl
 obtain ⟨y,hy0⟩:∃ y,y=bytesF (errH 167772161 184549381) (icB (errM 3 0 (quoteF x).1)):=⟨_,rfl⟩
 change prsF (bytesF (errH 167772161 184549381) (icB (errM 3 0 (quoteF x).1)))=_ at hy
 rw [← hy0] at hy hyl he
 have hyl:y.length=20+0+(8+(quoteF x).1.length):=hyl
 refine ⟨y,?_⟩
 unfold fwOn
 rw [if_pos (by decide)]
 unfold fwTell
 rw [if_neg (by rw [hm]; decide),if_neg (by decide),he]
 simp only
 have hw:fwWay pk ([1500,600]:List Int).length y (prsF y).1.dst=(3,0):=by
  unfold fwWay
  rw [hy]
  show (if (pk 184549381 _).1=3∧((2:Nat):Int)≤(pk 184549381 _).2 then _ else pk 184549381 _)=_
  rw [hs]
  rfl
 have hc:cutF y 1500=([y],0):=by
  have hfit:fitsF y 1500=(true,0):=by
   unfold fitsF
   rw [if_neg (by decide),hy]
   simp only
   rw [if_neg (by decide),decide_eq_true]
   rw [hyl2]
   show ((20+0+(8+(quoteF x).1.length):Nat):Int)≤1500
   omega
  unfold cutF
  rw [hfit,if_neg (by decide),if_pos rfl,hy]
  simp only
  rw [List.take_of_length_le (by rw [hyl2,hyl]; exact Nat.le_refl _)]
 have hsend:fwSend pk [1500,600] y { ft0 with err:=3 }=⟨0,3,[],[(0,y)]⟩:=by
  unfold fwSend
  rw [hw,if_neg (by decide),if_pos rfl]
  unfold fwOut
  simp only [show ([1500,600]:List Int).getD (Int.toNat 0) 0=1500 from rfl,hc]
  rfl
 rw [hsend]
 rfl
theorem kn_pcs (t:Nat):pcsF (kh t) 1380 600 1380 0=[(0,{ kh t with mf:=true },576),(576,{ kh t with off:=72,mf:=true },576),(1152,{ kh t with off:=144 },228)]:=by kernel_rfl
theorem known_y (hd:∀ u,pk 201326597 u=(3,1)) {p:By} (hp:p.length=1380) :
  ∃ a b c,fwJudge pk [1500,600] 167772161 4 (bytesF (kh 9) p)=(⟨0,0,[],[(1,a),(1,b),(1,c)]⟩,4)∧a.length=596:=by
 rw [kn_judge (by decide) (by omega) hd]
 have hl:=less_back (kh_ok (t:=9) (by decide)) (kh_fits 9 (p:=p) (by omega))
 rw [if_neg (by decide)] at hl
 have h8:lessH (kh 9)=kh 8:=rfl
 rw [h8] at hl
 have hr:=kh_prs (t:=8) (by decide) (p:=p) (by omega)
 obtain ⟨x,hx⟩:∃ x,x=bytesF (kh 8) p:=⟨_,rfl⟩
 rw [← hx] at hr hl
 have h66:Int.toNat 600=600:=rfl
 have hf:fitsF x 600=(false,0):=by
  unfold fitsF
  rw [if_neg (by decide),hr]
  simp only
  rw [if_neg (by decide),hp,decide_eq_false]
  show ¬ ((20+0+1380:Nat):Int)≤600
  omega
 have hc:cutF x 600=((pcsF (kh 8) 1380 600 1380 0).map (pbF p),0):=by
  unfold cutF
  rw [hf,if_neg (by decide),if_neg (by decide),hr]
  simp only
  rw [hp]
  rw [h66,kn_pcs,if_neg (by decide),if_neg]
  simp [kh,hd0]
 rw [kn_pcs] at hc
 refine ⟨pbF p (0,{ kh 8 with mf:=true },576),pbF p (576,{ kh 8 with off:=72,mf:=true },576),pbF p (1152,{ kh 8 with off:=144 },228),?_,?_⟩
 ·unfold fwOn
  rw [if_neg (by decide),if_neg (by decide),hl,if_neg (by intro h; exact absurd h.2 (by decide))]
  unfold fwOut
  simp only [show ([1500,600]:List Int).getD (Int.toNat 1) 0=600 from rfl,hc]
  rfl
 ·unfold pbF
  rw [bytesF_len]
  simp only
  rw [show partF p 0 (0+576)=p.take 576 from by unfold partF; simp,List.length_take,hp]
  rfl
end Go.Proofs.YthlommalbkhcjaaGreat
