/- Layer 18: Judge's walk. -/
import Derived.Test.YthlommalbkhcjaaGreatNm46
import Derived.Test.YthlommalbkhcjaaGreatNm15
import Derived.Test.YthlommalbkhcjaaGreatNm45
import Derived.LoopN
namespace Go.Proofs.YthlommalbkhcjaaGreat
open Go.RowKit Go.Sort Go.BigFrame
structure LdM (dc:Int→Array Value) (w wx:World) (fb bb:Nat) (T:TT) (tok:Int):Prop where
 ex:∃ (M:Nat→Prop) (tb:Nat) (lim:Int),FbM dc wx M fb tb lim T∧¬ M bb∧fb≠bb
 bk:IsBk wx bb 64 1 tok 0
 bb:w.heap.size≤bb
 bl:Below w.heap.size w wx
def LdPost (dc:Int→Array Value) (w:World) (R:Option TT) (tok:Int) (e:Ending) (w':World):Prop:=match R with
 | some T=>∃ fb bb,e=.returned (.tuple #[.pointer (some ⟨fb,0,none⟩),.pointer (some ⟨bb,0,none⟩),.bool true])∧LdM dc w w' fb bb T tok
 | none=>e=.returned (.tuple #[.pointer none,.pointer none,.bool false])∧Below w.heap.size w w'
set_option maxRecDepth 100000 in
set_option maxHeartbeats 4000000 in
theorem laid18_any {dc:Int→Array Value} (hd:Dc dc) (vf:Nat→Int) (A:Option Addr) (n c:Nat) (l:List Rt) (own:Nat) (Am:Option Addr) (nm cm:Nat) (tok:Int) (w:World) (h:RtsM w (fun k=>k < w.heap.size) A n l) (hn:n≤1024) (hv:∀ i r,l[i]?=some r→mayR r=true→dc (vf i)=wayC (wayR r)) (htk:0≤tok∧tok≤64) :
  Calls Tryz.prog 27 #[.agg #[.slice A n c,.int .u32 (own:Int),.slice Am nm cm,.int .i64 tok]] w (LdPost dc w (mkT vf 0 l .nil) tok):=by
 obtain ⟨W,hW⟩:∃ Z,Z=w.alloc (.cells #[.slice A n c,.int .u32 (own:Int),.slice Am nm cm,.int .i64 tok] 60):=⟨_,rfl⟩
 have hbW:Below w.heap.size w W:=by rw [hW]; exact (Below.refl _ _).alloc (Nat.le_refl _) _
 have hkW:Blk W w.heap.size 60 #[.slice A n c,.int .u32 (own:Int),.slice Am nm cm,.int .i64 tok]:=by rw [hW]; exact Blk.new w _ _
 have hMk:=fmake_any hd vf A n c l W ((h.keep (Same.ofBelow hbW fun k hk=>hk)).mono fun k hk=>Nat.lt_of_lt_of_le hk hbW.size) hn hv
 obtain ⟨R,hR⟩:∃ R,R=mkT vf 0 l .nil:=⟨_,rfl⟩
 rw [← hR] at hMk ⊢
 obtain ⟨g,hg⟩:∃ g,g=w.heap.size:=⟨_,rfl⟩
 rw [← hg] at hkW
 have HMK:=Lib.hid hMk
 have HW:=Lib.hid hW
 have HG:=Lib.hid hg
 have HBW:=Lib.hid hbW
 have HKW:=Lib.hid hkW
 have HTK:=Lib.hid htk
 clear hMk hW hg hbW hkW htk h hn hv hR hd
 have q0:=(show W.cell? ⟨g,0,none⟩=some (.slice A n c) from HKW.out.cell 0)
 go_enter Tryz.func27,Tryz.ntmps27
 go_upto_region 1 with (fail)
 rw [← HW.out,← HG.out]
 cases R with
 | none =>
   go_wp2_with fail
   refine HMK.out.mono ?_
   rintro e w1 ⟨rfl,hb1⟩
   have HB1:=Lib.hid (HBW.out.trans (hb1.mono HBW.out.size))
   clear hb1 q0
   go_wp2_with fail
   refine (newbk_yes 64 1 w1 (by decide) (by decide) (by decide) (by decide)).mono ?_
   rintro e w2 ⟨rfl,hw2⟩
   have HB2:=Lib.hid (show Below w.heap.size w w2 by rw [hw2]; exact HB1.out.alloc HB1.out.size _)
   clear hw2
   go_wp2_with fail
   go_ret3
   exact ⟨rfl,HB2.out⟩
 | some T =>
   go_wp2_with fail
   refine HMK.out.mono ?_
   rintro e w1 ⟨fb,rfl,hk1⟩
   have hb1:=hk1.below
   obtain ⟨M,tb,hf1,hM1,h31,h41⟩:=hk1
   have HF1:=Lib.hid hf1
   have HB1:=Lib.hid (HBW.out.trans (hb1.mono HBW.out.size))
   have HK1:=Lib.hid (HKW.out.below hb1 HKW.out.lt)
   clear hb1 q0 hf1 hM1 h31 h41
   go_wp2_with fail
   refine (newbk_yes 64 1 w1 (by decide) (by decide) (by decide) (by decide)).mono ?_
   rintro e w2 ⟨rfl,hw2⟩
   obtain ⟨bb,hbb⟩:∃ b,b=w1.heap.size:=⟨_,rfl⟩
   rw [← hbb]
   have hb2:Below w1.heap.size w1 w2:=by rw [hw2]; exact (Below.refl _ _).alloc (Nat.le_refl _) _
   have HBK:=Lib.hid (show IsBk w2 bb 64 1 64 0 by rw [hw2,hbb]; exact Blk.new w1 _ _)
   have HK2:=Lib.hid (HK1.out.below hb2 HK1.out.lt)
   have HF2:=Lib.hid (HF1.out.below hb2)
   have HNE:=Lib.hid (show ¬ M bb∧fb≠bb∧g≠bb by
    refine ⟨fun hm=>?_,fun e=>?_,fun e=>?_⟩
    ·have:=HF1.out.t.lt bb hm; omega
    ·have:=HF1.out.f.lt; omega
    ·have:=HK1.out.lt; omega)
   have HB2:=Lib.hid (HB1.out.trans (hb2.mono HB1.out.size))
   have HLE:=Lib.hid (show w.heap.size≤bb by rw [hbb]; exact HB1.out.size)
   clear hw2 hb2 hbb HF1 HK1
   have q3:=(show w2.cell? ⟨g,3,none⟩=some (.int .i64 tok) from HK2.out.cell 3)
   go_wp2_with fail
   go_loopw [9] (fun i wr=>∃ k:Int,tok≤k∧k≤64∧i=.int .i64 k∧IsBk wr bb 64 1 (64+tok - k) 0∧Upd (only bb) w2 wr) (fun i _=>(64 - intOf i).toNat)
   case atStart=>exact ⟨tok,Int.le_refl _,HTK.out.2,rfl,by rw [show 64+tok - tok=64 by omega]; exact HBK.out,Upd.refl _ _⟩
   case round =>
    obtain ⟨k,hk1,hk2,rfl,hbk,hup⟩:=hrel
    have htk:=HTK.out
    by_cases hlt:k < 64
    ·have d1:decide (k < 64)=true:=decide_eq_true hlt
     have hT:=btake_any bb 64 1 (64+tok - k) 0 wr hbk ⟨by decide,by decide,by decide,by decide,by omega,by omega,by decide,by decide⟩
     have e1:takeN (64+tok - k)=64+tok - (k+1):=by unfold takeN; rw [if_pos (by omega)]; omega
     rw [e1] at hT
     have HT:=Lib.hid hT
     have HUP:=Lib.hid hup
     have HK:=Lib.hid (⟨hk1,hk2,hlt⟩:tok≤k∧k≤64∧k < 64)
     have c0:0≤k:=by omega
     have c1:k < 64:=hlt
     clear hT hup hbk e1 hlt hk1 hk2 htk
     go_wp2_with fail
     refine HT.out.mono ?_
     rintro e wy ⟨rfl,hb3,hu3⟩
     have HB3:=Lib.hid hb3
     have HU3:=Lib.hid (HUP.out.trans_ hu3)
     clear hb3 hu3
     go_wp2_with fail
     go_roundw
     case rel=>exact ⟨k+1,by have:=HK.out; omega,by have:=HK.out; omega,rfl,HB3.out,HU3.out⟩
     case measure=>simp [intOf]; have:=HK.out; omega
    ·obtain rfl:k=64:=by omega
     have HB3:=Lib.hid hbk
     have HU3:=Lib.hid hup
     clear hbk hup hlt hk1 hk2 htk
     go_wp2_with fail
     go_ret3
     refine ⟨fb,bb,rfl,⟨M,tb,_,⟨HF2.out.f.upd HU3.out HNE.out.2.1,HF2.out.t.keep ⟨HU3.out.size,fun j hm hj=>HU3.out.block j hj fun (e:j=bb)=>HNE.out.1 (e ▸ hm)⟩,HF2.out.ne⟩,HNE.out.1,HNE.out.2.1⟩,?_,HLE.out,?_⟩
     ·have:=HB3.out
      rwa [show 64+tok - 64=tok by omega] at this
     ·exact below_upd HB2.out HU3.out (fun j (e:j=bb)=>by rw [e]; exact HLE.out) HB2.out.size
end Go.Proofs.YthlommalbkhcjaaGreat
namespace Go.Proofs.YthlommalbkhcjaaGreat
def kh (t:Nat):Hd:={ hd0 with ttl:=t,proto:=17,src:=184549381,dst:=201326597 }
theorem kh_ok {t:Nat} (h:t < 256):(kh t).ok:=⟨by show 0 < 256; decide,by show 0 < 65536; decide,h,by show 17 < 256; decide,by show 184549381 < 2 ^ 32; decide,by show 201326597 < 2 ^ 32; decide⟩
theorem kh_fits (t:Nat) {p:By} (hp:p.length≤65515):fitsH (kh t) p=true:=by
 unfold fitsH mayH kh hd0
 simp [goodF,steps,stepsF]
 omega
theorem kh_prs {t:Nat} (h:t < 256) {p:By} (hp:p.length≤65515):prsF (bytesF (kh t) p)=(kh t,p,0):=by
 have:=read_back (kh_ok h) (kh_fits t hp) []
 rwa [List.append_nil] at this
theorem kh_len (t:Nat) (p:By):(bytesF (kh t) p).length=20+p.length:=by rw [bytesF_len]; rfl
variable {pk:Nat→Nat→Int × Int}
theorem kn_judge {t:Nat} (h:t < 256) {p:By} (hp:p.length≤65515) (hd:∀ u,pk 201326597 u=(3,1)) (tok:Int) :
  fwJudge pk [1500,600] 167772161 tok (bytesF (kh t) p)=fwOn pk [1500,600] 167772161 tok (kh t) 3 1 (bytesF (kh t) p) ft0:=by
 have hr:=kh_prs h hp
 have hl:=kh_len t p
 obtain ⟨x,hx⟩:∃ x,x=bytesF (kh t) p:=⟨_,rfl⟩
 rw [← hx] at hr hl ⊢
 have ht:x.take (20+(kh t).opts.length+p.length)=x:=List.take_of_length_le (by show x.length≤20+0+p.length; omega)
 unfold fwJudge
 rw [hr]
 simp only
 rw [ht,if_neg (by decide),if_neg (show ¬ oddF (kh t).src=true from by show ¬ oddF 184549381=true; decide),if_neg (show ¬ oddF (kh t).dst=true from by show ¬ oddF 201326597=true; decide),if_neg (show ¬ routedF (kh t).opts=true from by show ¬ routedF []=true; decide)]
 have hw:fwWay pk ([1500,600]:List Int).length x (kh t).dst=(3,1):=by
  unfold fwWay
  show (if (pk 201326597 _).1=3∧((2:Nat):Int)≤(pk 201326597 _).2 then _ else pk 201326597 _)=_
  rw [hd]
  rfl
 rw [hw]
 rfl
theorem known_x (hs:∀ u,pk 184549381 u=(3,0)) (hd:∀ u,pk 201326597 u=(3,1)) {p:By} (hp:p.length=7) :
  ∃ y,fwJudge pk [1500,600] 167772161 5 (bytesF (kh 1) p)=(⟨0,3,[],[(0,y)]⟩,4):=by
 rw [kn_judge (by decide) (by omega) hd]
 have hr:=kh_prs (t:=1) (by decide) (p:=p) (by omega)
 obtain ⟨x,hx⟩:∃ x,x=bytesF (kh 1) p:=⟨_,rfl⟩
 rw [← hx] at hr ⊢
 have hm:emayF x=true:=by
  unfold emayF
  rw [hr]
  simp only
  unfold emayH
  rfl
 have he:errF ((3:Nat):Int) x 167772161 0=(bytesF (errH 167772161 184549381) (icB (errM 3 0 (quoteF x).1)),0):=by
  unfold errF
  rw [if_neg (by decide),if_neg (by rw [hr]; simp),if_neg (by rw [hm]; decide),hr]
  rfl
 have hq:=quote_len x
 have hf:=err_fits 3 x 167772161 0
 rw [hr] at hf
 have hok:=errH_ok (fr:=167772161) (dt:=184549381) (by decide) (by decide)
 have hy:=read_back hok hf []
 have hyl:=bytesF_len (errH 167772161 184549381) (icB (errM 3 0 (quoteF x).1))
 rw [List.append_nil] at hy
 rw [icB_len] at hyl
 have hyl2:(icB (errM 3 0 (quoteF x).1)).length=8+(quoteF x).1.length:=by rw [icB_len]; rfl
 obtain ⟨y,hy0⟩:∃ y,y=bytesF (errH 167772161 184549381) (icB (errM 3 0 (quoteF x).1)):=⟨_,rfl⟩
 change prsF (bytesF (errH 167772161 184549381) (icB (errM 3 0 (quoteF x).1)))=_ at hy
 rw [← hy0] at hy hyl he
 have hyl:y.length=20+0+(8+(quoteF x).1.length):=hyl
 refine ⟨y,?_⟩
 unfold fwOn
 rw [if_pos (by decide)]
 unfold fwTell
 rw [if_neg (by rw [hm]; decide),if_neg (by decide),he]
 simp only
 have hw:fwWay pk ([1500,600]:List Int).length y (prsF y).1.dst=(3,0):=by
  unfold fwWay
  rw [hy]
  show (if (pk 184549381 _).1=3∧((2:Nat):Int)≤(pk 184549381 _).2 then _ else pk 184549381 _)=_
  rw [hs]
  rfl
 have hc:cutF y 1500=([y],0):=by
  have hfit:fitsF y 1500=(true,0):=by
   unfold fitsF
   rw [if_neg (by decide),hy]
   simp only
   rw [if_neg (by decide),decide_eq_true]
   rw [hyl2]
   show ((20+0+(8+(quoteF x).1.length):Nat):Int)≤1500
   omega
  unfold cutF
  rw [hfit,if_neg (by decide),if_pos rfl,hy]
  simp only
  rw [List.take_of_length_le (by rw [hyl2,hyl]; exact Nat.le_refl _)]
 have hsend:fwSend pk [1500,600] y { ft0 with err:=3 }=⟨0,3,[],[(0,y)]⟩:=by
  unfold fwSend
  rw [hw,if_neg (by decide),if_pos rfl]
  unfold fwOut
  simp only [show ([1500,600]:List Int).getD (Int.toNat 0) 0=1500 from rfl,hc]
  rfl
 rw [hsend]
 rfl
theorem kn_pcs (t:Nat):pcsF (kh t) 1380 600 1380 0=[(0,{ kh t with mf:=true },576),(576,{ kh t with off:=72,mf:=true },576),(1152,{ kh t with off:=144 },228)]:=by kernel_rfl
theorem known_y (hd:∀ u,pk 201326597 u=(3,1)) {p:By} (hp:p.length=1380) :
  ∃ a b c,fwJudge pk [1500,600] 167772161 4 (bytesF (kh 9) p)=(⟨0,0,[],[(1,a),(1,b),(1,c)]⟩,4)∧a.length=596:=by
 rw [kn_judge (by decide) (by omega) hd]
 have hl:=less_back (kh_ok (t:=9) (by decide)) (kh_fits 9 (p:=p) (by omega))
 rw [if_neg (by decide)] at hl
 have h8:lessH (kh 9)=kh 8:=rfl
 rw [h8] at hl
 have hr:=kh_prs (t:=8) (by decide) (p:=p) (by omega)
 obtain ⟨x,hx⟩:∃ x,x=bytesF (kh 8) p:=⟨_,rfl⟩
 rw [← hx] at hr hl
 have h66:Int.toNat 600=600:=rfl
 have hf:fitsF x 600=(false,0):=by
  unfold fitsF
  rw [if_neg (by decide),hr]
  simp only
  rw [if_neg (by decide),hp,decide_eq_false]
  show ¬ ((20+0+1380:Nat):Int)≤600
  omega
 have hc:cutF x 600=((pcsF (kh 8) 1380 600 1380 0).map (pbF p),0):=by
  unfold cutF
  rw [hf,if_neg (by decide),if_neg (by decide),hr]
  simp only
  rw [hp]
  rw [h66,kn_pcs,if_neg (by decide),if_neg]
  simp [kh,hd0]
 rw [kn_pcs] at hc
 refine ⟨pbF p (0,{ kh 8 with mf:=true },576),pbF p (576,{ kh 8 with off:=72,mf:=true },576),pbF p (1152,{ kh 8 with off:=144 },228),?_,?_⟩
 ·unfold fwOn
  rw [if_neg (by decide),if_neg (by decide),hl,if_neg (by intro h; exact absurd h.2 (by decide))]
  unfold fwOut
  simp only [show ([1500,600]:List Int).getD (Int.toNat 1) 0=600 from rfl,hc]
  rfl
 ·unfold pbF
  rw [bytesF_len]
  simp only
  rw [show partF p 0 (0+576)=p.take 576 from by unfold partF; simp,List.length_take,hp]
  rfl
end Go.Proofs.YthlommalbkhcjaaGreat
namespace Go.Proofs.YthlommalbkhcjaaGreat
open Go.RowKit Go.Sort Go.BigFrame
section
variable {w0 w wx wy:World} {rb:Nat} {E:Re} {S:Rs} {pk:Nat→Nat→Int × Int}
theorem TbE.below (h:TbE w0 E pk) (hb:Below w0.heap.size w0 wx) (kb:Nat) (kc:Array Value):TbE wx { E with kb:=kb,kc:=kc } pk:=by
 refine ⟨?_,?_,h.ml,h.own,h.m8⟩
 ·obtain ⟨dc,wk,T,M,tb,limit,h1,h2,h3,h4,h5,h6⟩:=h.ex
  exact ⟨dc,wk,T,M,tb,limit,h1,h2,h3.below hb,h4,h5,h6⟩
 ·have:=h.mt.lt.keep (Same.ofBelow hb fun k hk=>hk.2)
  exact this.mono fun k hk=>⟨Nat.lt_of_lt_of_le hk.2 hb.size,hk.1.2⟩
theorem wrong_zero {l:List Int} {n:Nat} (h1:l.length≤8) (h2:∀ m ∈ l,68≤m∧m≤1500) (h3:n≤2048):wrongM l n=0:=by
 unfold wrongM
 have:l.any badM=false:=List.any_eq_false.2 fun m hm=>by
  have:=h2 m hm
  unfold badM
  simp
  omega
 rw [if_neg (by omega),this,if_neg (by decide),if_neg (by omega)]
def fwRest (pk:Nat→Nat→Int × Int) (mtus:List Int) (own:Nat) (tok:Int) (h:Hd) (x:By):Ft × Int :=
 if oddF h.src=true then (dropF ft0 7,tok)
 else if oddF h.dst=true then (dropF ft0 8,tok)
 else if routedF h.opts=true then (dropF ft0 9,tok)
 else if (fwWay pk mtus.length x h.dst).1=1 then (fwHere pk mtus own h x ft0,tok)
 else fwOn pk mtus own tok h (fwWay pk mtus.length x h.dst).1 (fwWay pk mtus.length x h.dst).2 x ft0
theorem judge_rest (b:By) (mtus:List Int) (own:Nat) (tok:Int):fwJudge pk mtus own tok b=if (prsF b).2.2=0 then fwRest pk mtus own tok (prsF b).1 (b.take (20+(prsF b).1.opts.length+(prsF b).2.1.length)) else (dropF ft0 (prsF b).2.2,tok):=by
 unfold fwJudge fwRest
 by_cases h:(prsF b).2.2=0
 ·rw [if_neg (by omega),if_pos h]
 ·rw [if_pos h,if_neg h]
theorem fn_cases (hft:S.ft=ft0) {e:Ending} {w':World} (h:FnPost w0 rb E S pk e w') :
  (e=.returned (.bool true)∧∃ F,fwRest pk E.mtus E.own S.tok S.h S.x=(F,S.tok)∧RnW w0 w' rb E { S with ft:=F }) ∨
  (e=.returned (.bool false)∧RnW w0 w' rb E { S with kd:=(fwWay pk E.mtus.length S.x S.h.dst).1,po:=(fwWay pk E.mtus.length S.x S.h.dst).2 } ∧
   fwRest pk E.mtus E.own S.tok S.h S.x=if (fwWay pk E.mtus.length S.x S.h.dst).1=1 then (fwHere pk E.mtus E.own S.h S.x S.ft,S.tok) else fwOn pk E.mtus E.own S.tok S.h (fwWay pk E.mtus.length S.x S.h.dst).1 (fwWay pk E.mtus.length S.x S.h.dst).2 S.x S.ft):=by
 unfold FnPost at h
 unfold fwRest
 rw [hft] at h ⊢
 split at h
 ·rename_i c1
  exact .inl ⟨h.1,_,by rw [if_pos c1],h.2⟩
 rename_i c1
 split at h
 ·rename_i c2
  exact .inl ⟨h.1,_,by rw [if_neg c1,if_pos c2],h.2⟩
 rename_i c2
 split at h
 ·rename_i c3
  exact .inl ⟨h.1,_,by rw [if_neg c1,if_neg c2,if_pos c3],h.2⟩
 rename_i c3
 exact .inr ⟨h.1,h.2,by rw [if_neg c1,if_neg c2,if_neg c3]⟩
def rn0 (fb own:Nat) (Am:Option Addr) (m cm bb:Nat) (A:Option Addr) (n c:Nat):Array Value:=#[.pointer (some ⟨fb,0,none⟩),.int .u32 (own:Int),.slice Am m cm,.pointer (some ⟨bb,0,none⟩),.slice A n c,
 .int .u8 0,.int .u16 0,.bool false,.bool false,.bool false,.int .i64 0,.int .u8 0,.int .u8 0,.int .u32 0,.int .u32 0,.slice none 0 0,.int .i64 0,.int .i64 0,.int .i64 0,.int .i64 0,.slice none 0 0,.slice none 0 0]
theorem bd_run (fb own:Nat) (Am:Option Addr) (m cm bb:Nat) (A:Option Addr) (n c:Nat) (w:World):(Instr.build 142 #[(0,.pointer (some ⟨fb,0,none⟩)),(1,.int .u32 (own:Int)),(2,.slice Am m cm),(3,.pointer (some ⟨bb,0,none⟩)),(4,.slice A n c)]).run Tryz.prog w=.ok (.agg (rn0 fb own Am m cm bb A n c)) w:=by kernel_rfl
theorem box_run (fb own:Nat) (Am:Option Addr) (m cm bb:Nat) (A:Option Addr) (n c:Nat) (w:World):(Instr.box 142 (.agg (rn0 fb own Am m cm bb A n c))).run Tryz.prog w=.ok (.pointer (some ⟨w.heap.size,0,none⟩)) (w.alloc (.cells (rn0 fb own Am m cm bb A n c) 142)):=by kernel_rfl
set_option maxRecDepth 100000 in
set_option maxHeartbeats 16000000 in
attribute [-go_sem] Instr.storeAt Instr.loadAt Instr.build Instr.box in
theorem fjudge_any (H:TbE w E pk) (hp0:PkPos pk) {tok:Int} (hbk:IsBk w E.bb 64 1 tok 0) (htk:0≤tok∧tok≤64) {A:Option Addr} {n c:Nat} {x:By} (hx:Reads w (fun k=>k < w.heap.size∧k≠E.bb) 1 A n (bytesV x)) (hn:x.length=n) (hc:n≤c) (hsm:n≤2048) :
  Calls Tryz.prog 28 #[.pointer (some ⟨E.fb,0,none⟩),.int .u32 (E.own:Int),.slice E.Am E.mtus.length E.cm,.pointer (some ⟨E.bb,0,none⟩),.slice A n c] w (JgPost w E.bb (fwJudge pk E.mtus E.own tok x)):=by
 have hbl:E.bb < w.heap.size:=Blk.lt hbk
 obtain ⟨W0,hW0⟩:∃ Z,Z=w.alloc (.cells #[.int .i64 0,.int .i64 0,.slice none 0 0,.slice none 0 0] 71):=⟨_,rfl⟩
 have hb0:Below w.heap.size w W0:=by rw [hW0]; exact (Below.refl _ _).alloc (Nat.le_refl _) _
 have hg0:Blk W0 w.heap.size 71 #[.int .i64 0,.int .i64 0,.slice none 0 0,.slice none 0 0]:=by rw [hW0]; exact Blk.new w _ _
 have HCP:=Lib.hid (bcopy_any E.bb 64 1 tok 0 W0 (Blk.below hbk hb0 hbl) ⟨by decide,by decide,by decide,by decide,htk.1,htk.2,by decide,by decide⟩)
 obtain ⟨V,hV⟩:∃ Z,Z=W0.alloc (.cells #[.int .i64 64,.int .i64 1,.int .i64 tok,.int .i64 0] 145):=⟨_,rfl⟩
 rw [← hV] at HCP
 have hbV:Below w.heap.size w V:=by rw [hV]; exact hb0.alloc hb0.size _
 have hgV:Blk V w.heap.size 71 #[.int .i64 0,.int .i64 0,.slice none 0 0,.slice none 0 0]:=by rw [hV]; exact hg0.alloc _
 have hwr:=fwrong_any E.fb E.Am E.mtus.length E.cm E.mtus _ A n c V ((H.below hbV 0 #[]).mt) rfl
 rw [wrong_zero H.ml H.m8 hsm] at hwr
 have HWR:=Lib.hid hwr
 obtain ⟨m,hm⟩:∃ m,m=E.mtus.length:=⟨_,rfl⟩
 rw [← hm] at HWR ⊢
 have HW0:=Lib.hid hW0
 have HH:=Lib.hid H
 have HBV:=Lib.hid hbV
 have HGV:=Lib.hid hgV
 have HBK:=Lib.hid hbk
 have HTK:=Lib.hid htk
 have HX:=Lib.hid hx
 have HN:=Lib.hid hn
 have HC:=Lib.hid hc
 have HM:=Lib.hid hm
 clear hwr hW0 hV H hbV hgV hbk htk hx hn hm hb0 hg0 hc
 go_enter Tryz.func28,Tryz.ntmps28
 go_wp2_with fail
 rw [← HW0.out]
 refine HCP.out.mono ?_
 rintro e V ⟨rfl,rfl⟩
 obtain ⟨g,hg⟩:∃ g,g=w.heap.size:=⟨_,rfl⟩
 rw [← hg]
 have HG:=Lib.hid hg
 clear hg HW0 HCP
 go_wp2_with fail
 refine HWR.out.mono ?_
 rintro e V ⟨rfl,rfl⟩
 clear HWR
 have b1:=bd_run E.fb E.own E.Am m E.cm E.bb A n c V
 have f1:=box_run E.fb E.own E.Am m E.cm E.bb A n c V
 go_upto_region 7 with (fail)
 clear b1 f1
 obtain ⟨rb,hrb⟩:∃ k,k=V.heap.size:=⟨_,rfl⟩
 rw [← hrb]
 obtain ⟨V1,hV1⟩:∃ Z,Z=V.alloc (.cells (rn0 E.fb E.own E.Am m E.cm E.bb A n c) 142):=⟨_,rfl⟩
 rw [← hV1]
 have hk1:Blk V1 rb 142 (rn0 E.fb E.own E.Am m E.cm E.bb A n c):=by rw [hV1,hrb]; exact Blk.new V _ _
 have hb1:Below V.heap.size V V1:=by rw [hV1]; exact (Below.refl _ _).alloc (Nat.le_refl _) _
 obtain ⟨kb,hkb⟩:∃ k,k=V1.heap.size:=⟨_,rfl⟩
 obtain ⟨W,hW⟩:∃ Z,Z=V1.alloc (.cells #[.func (.func 68) #[.pointer (some ⟨rb,0,none⟩)] #[],.func (.func 69) #[.pointer (some ⟨rb,0,none⟩)] #[],.func (.func 70) #[.pointer (some ⟨rb,0,none⟩)] #[],.func (.func 71) #[.pointer (some ⟨rb,0,none⟩)] #[]] 26):=⟨_,rfl⟩
 have hkW:Blk W kb 26 (fnC rb):=by rw [hW,hkb]; exact Blk.new V1 _ _
 have hk2:Blk W rb 142 (rn0 E.fb E.own E.Am m E.cm E.bb A n c):=by rw [hW]; exact hk1.alloc _
 have hbW:Below V.heap.size V W:=by rw [hW]; exact hb1.alloc hb1.size _
 have hrun:RnW V W rb { E with kb:=kb,kc:=fnC rb } (rs0 (.slice A n c) x tok):=by
  have h1:Sl8 V (fun k=>k < V.heap.size∧k≠E.bb) (.slice A n c) x:=by
   refine ⟨A,c,by rw [HN.out],by rw [HN.out]; exact HC.out,?_⟩
   rw [HN.out]
   exact (HX.out.keep (Same.ofBelow HBV.out fun k hk=>hk.1)).mono fun k hk=>⟨Nat.lt_of_lt_of_le hk.1 HBV.out.size,hk.2⟩
  refine ⟨⟨Upd.ofBelow hbW _,?_,by rw [hrb]; exact Nat.le_refl _,Nat.lt_of_lt_of_le (Blk.lt HBK.out) HBV.out.size,?_,World.ownsRow_nil _ _ _ _,Blk.below (Blk.below HBK.out HBV.out (Blk.lt HBK.out)) hbW (Nat.lt_of_lt_of_le (Blk.lt HBK.out) HBV.out.size),HTK.out,hkW⟩,Rows8.nil _ _,Snts.nil _ _⟩
  ·rw [HM.out] at hk2
   exact hk2
  ·exact h1.keep (Same.ofBelow hbW fun k hk=>hk.1)
 have HT:=Lib.hid (HH.out.below HBV.out kb (fnC rb))
 have HR0:=Lib.hid hrun
 have HGV:=Lib.hid HGV.out
 have HW:=Lib.hid hW
 have HKB:=Lib.hid hkb
 clear hW hkW hk2 hbW hrun hk1 hb1 hV1 hkb hrb
 go_wp2_with fail
 rw [← HW.out,← HKB.out]
 have HSM:=Lib.hid (show x.length≤2048 by have:=HN.out; omega)
 clear HW HKB HM HX HC HN
 have hg0:w.heap.size≤g:=by rw [HG.out]; exact Nat.le_refl _
 have hgn:g≠E.bb:=by have:=Blk.lt HBK.out; rw [HG.out]; omega
 have hgv:Blk V g 71 #[.int .i64 0,.int .i64 0,.slice none 0 0,.slice none 0 0]:=by rw [HG.out]; exact HGV.out
 have HEND:=Lib.hid (fun (wx:World) (S:Rs) (R:Ft × Int) (lv ov:Value) (hw:RnW V wx rb { E with kb:=kb,kc:=fnC rb } { S with ft:=R.1,tok:=R.2,lv:=lv,ov:=ov })=>jg_end (w1:=w) (g:=g) (R:=R) (lv:=lv) (ov:=ov) hw (hgv.upd hw.upd hgn) HBV.out hg0 (Blk.lt HBK.out))
 clear hg0 hgn hgv HGV
 obtain ⟨R,hR⟩:∃ R,R=fwJudge pk E.mtus E.own tok x:=⟨_,rfl⟩
 have HRJ:=Lib.hid hR
 rw [judge_rest] at hR
 have HR:=Lib.hid hR
 obtain ⟨P,hP⟩:∃ P,P=prsF x:=⟨_,rfl⟩
 have hdt:=(prs_ok x).2.2.2.2.2
 have hpl:=prs_len x
 have HS0:=Lib.hid (fwhole_any HR0.out (show x.length≤100000 by have:=HSM.out; omega))
 unfold WhPost at HS0
 change Hid (Calls _ _ _ _ fun e w'=>if (prsF x).2.2=0 then e=.returned (.bool false)∧∃ pv hv,RnW V w' rb { E with kb:=kb,kc:=fnC rb } ⟨true,pv,x.take (20+(prsF x).1.opts.length+(prsF x).2.1.length),hv,(prsF x).1,0,0,.slice none 0 0,.slice none 0 0,ft0,tok⟩ else e=.returned (.bool true)∧RnW V w' rb { E with kb:=kb,kc:=fnC rb } ⟨false,.slice A n c,x,.slice none 0 0,hd0,0,0,.slice none 0 0,.slice none 0 0,dropF ft0 (prsF x).2.2,tok⟩) at HS0
 rw [← hP] at HS0 HR hdt hpl
 obtain ⟨h,p,f⟩:=P
 simp only at HS0 HR hdt hpl
 have l0:=ld_fnb (f:=68) (show W.cell? ⟨kb,0,none⟩=_ from HR0.out.kp.cell 0)
 clear hR hP hsm
 refine wp_loop_rounds 5 ?_
 rw [rounds_succ]
 go_wp2_with fail
 by_cases hf:f≠0
 ·have HS1:=Lib.hid (HS0.out.mono fun e w' hh=>by rw [if_neg hf] at hh; exact hh)
  have HR:=Lib.hid (HR.out.trans (if_neg hf))
  clear HS0
  refine HS1.out.mono ?_
  rintro e wa ⟨rfl,hw⟩
  obtain ⟨J1,J2,J3,J4⟩:=HEND.out wa ⟨false,.slice A n c,x,.slice none 0 0,hd0,0,0,.slice none 0 0,.slice none 0 0,dropF ft0 f,tok⟩ R (.slice none 0 0) (.slice none 0 0) (by rw [HR.out]; exact hw)
  have K3:=Lib.hid J3
  have K4:=Lib.hid J4
  clear hw J3 J4 hf l0 hdt hpl
  go_wp2_with fail
  refine bodyPost_ret_by (res_ft rfl _ rfl K3.out rfl) rfl ?_
  rw [← HRJ.out]
  exact K4.out
 have hf0:f=0:=by omega
 have HS1:=Lib.hid (HS0.out.mono fun e w' hh=>by rw [if_pos hf0] at hh; exact hh)
 have HR:=Lib.hid (HR.out.trans (if_pos hf0))
 refine HS1.out.mono ?_
 rintro e wa ⟨rfl,pv,hv,hr1⟩
 obtain ⟨y,hy⟩:∃ y,y=x.take (20+h.opts.length+p.length):=⟨_,rfl⟩
 rw [← hy] at hr1 HR
 have hyl:y.length≤2048:=by rw [hy,List.length_take]; have:=HSM.out; omega
 have HR1:=Lib.hid hr1
 clear hr1 HS0 HS1 hf hf0 hy l0
 go_wp2_with fail
 have HF0:=Lib.hid (ffine_any HT.out HR1.out (show y.length≤100000 by omega) hdt (show h.opts.length≤1000000 by have:=HSM.out; omega))
 have l1:=ld_fnb (f:=69) (show wa.cell? ⟨kb,1,none⟩=_ from HR1.out.kp.cell 1)
 rw [rounds_succ]
 go_wp2_with fail
 refine HF0.out.mono ?_
 intro e wb hpost
 rcases fn_cases (S:=⟨true,pv,y,hv,h,0,0,.slice none 0 0,.slice none 0 0,ft0,tok⟩) rfl hpost with ⟨rfl,F,hF,hw⟩ | ⟨rfl,hw,hF⟩
 ·have HR:=Lib.hid (HR.out.trans hF)
  obtain ⟨J1,J2,J3,J4⟩:=HEND.out wb ⟨true,pv,y,hv,h,0,0,.slice none 0 0,.slice none 0 0,F,tok⟩ R (.slice none 0 0) (.slice none 0 0) (by rw [HR.out]; exact hw)
  have K3:=Lib.hid J3
  have K4:=Lib.hid J4
  clear hw J3 J4 l1 hdt hpl hpost hF
  go_wp2_with fail
  refine bodyPost_ret_by (res_ft rfl _ rfl K3.out rfl) rfl ?_
  rw [← HRJ.out]
  exact K4.out
 have HR:=Lib.hid (HR.out.trans hF)
 have hwo:=hp0.way (ports:=E.mtus.length) (x:=y) (dt:=h.dst)
 obtain ⟨Wy,hWy⟩:∃ z,z=fwWay pk E.mtus.length y h.dst:=⟨_,rfl⟩
 change RnW V wb rb { E with kb:=kb,kc:=fnC rb } ⟨true,pv,y,hv,h,(fwWay pk E.mtus.length y h.dst).1,(fwWay pk E.mtus.length y h.dst).2,.slice none 0 0,.slice none 0 0,ft0,tok⟩ at hw
 rw [← hWy] at hw hwo
 have hR2:R=if Wy.1=1 then (fwHere pk E.mtus E.own h y ft0,tok) else fwOn pk E.mtus E.own tok h Wy.1 Wy.2 y ft0:=by
  rw [hWy]
  exact HR.out
 obtain ⟨kd,po⟩:=Wy
 simp only at hw hwo hR2
 have HR2:=Lib.hid hw
 have HRB:=Lib.hid hR2
 have HWO:=Lib.hid hwo
 clear HR hw hR2 hwo hpost hF hWy l1 HF0
 have HH0:=Lib.hid (fhere_any HT.out hp0 HR2.out rfl (show y.length≤100000 by omega) (Nat.zero_le _) (Nat.zero_le _))
 unfold HrPost at HH0
 go_wp2_with fail
 have l2:=ld_fnb (f:=70) (show wb.cell? ⟨kb,2,none⟩=_ from HR2.out.kp.cell 2)
 rw [rounds_succ]
 go_wp2_with fail
 by_cases hk1:kd=1
 ·have HH1:=Lib.hid (HH0.out.mono fun e w' hh=>by rw [if_pos hk1] at hh; exact hh)
  have HRC:=Lib.hid (HRB.out.trans (if_pos hk1))
  refine HH1.out.mono ?_
  rintro e wc ⟨rfl,lv,ov,hw⟩
  obtain ⟨J1,J2,J3,J4⟩:=HEND.out wc ⟨true,pv,y,hv,h,kd,po,lv,ov,fwHere pk E.mtus E.own h y ft0,tok⟩ R lv ov (by rw [HRC.out]; exact hw)
  have K3:=Lib.hid J3
  have K4:=Lib.hid J4
  clear hw J3 J4 l2 hdt hpl HH0 HH1 hk1
  go_wp2_with fail
  refine bodyPost_ret_by (res_ft rfl _ rfl K3.out rfl) rfl ?_
  rw [← HRJ.out]
  exact K4.out
 have HH1:=Lib.hid (HH0.out.mono fun e w' hh=>by rw [if_neg hk1] at hh; exact hh)
 have HRC:=Lib.hid (HRB.out.trans (if_neg hk1))
 refine HH1.out.mono ?_
 rintro e wc ⟨rfl,hw⟩
 have HR3:=Lib.hid hw
 clear hw l2 HH0 HH1 hk1
 go_wp2_with fail
 have l3:=ld_fnb (f:=71) (show wc.cell? ⟨kb,3,none⟩=_ from HR3.out.kp.cell 3)
 have HO:=Lib.hid (fon_any HT.out hp0 HR3.out HWO.out (show y.length≤100000 by omega) (Nat.zero_le _) (Nat.zero_le _))
 rw [rounds_succ]
 go_wp2_with fail
 refine HO.out.mono ?_
 rintro e wd ⟨rfl,lv,ov,hw⟩
 obtain ⟨J1,J2,J3,J4⟩:=HEND.out wd ⟨true,pv,y,hv,h,kd,po,lv,ov,ft0,tok⟩ R lv ov (by rw [HRC.out]; exact hw)
 have K3:=Lib.hid J3
 have K4:=Lib.hid J4
 clear hw J3 J4 l3 HO
 go_wp2_with fail
 refine bodyPost_ret_by (res_ft rfl _ rfl K3.out rfl) rfl ?_
 rw [← HRJ.out]
 exact K4.out
end
end Go.Proofs.YthlommalbkhcjaaGreat
