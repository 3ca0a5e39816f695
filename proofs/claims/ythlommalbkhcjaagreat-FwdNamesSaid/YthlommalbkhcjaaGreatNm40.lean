/- Icmp: send. -/
import Derived.Test.YthlommalbkhcjaaGreatNm39
import Derived.Test.YthlommalbkhcjaaGreatNm33
import Derived.Maps.RangeWalk
import Derived.Maps.OwnSet
import Derived.Maps.Views
namespace Go.Proofs.YthlommalbkhcjaaGreat
open Go.RowKit Go.Sort Go.BigFrame
def kdV (a b:Int):Value:=.agg #[.int .u8 a,.int .u8 b,.int .u8 0,.int .u8 0,.int .u8 0,.int .u8 0,.slice none 0 0]
theorem kdV_inj {a b c d:Int} (h:kdV a b=kdV c d):a=c∧b=d:=by
 unfold kdV at h
 simp at h
 exact h
open Classical in
noncomputable def kdE (v:Value):Option (DataW Unit × List MemPlace) :=
 if v=kdV 0 0 then some (.lit (.int .i64 0),[]) else if v=kdV 3 0 then some (.lit (.int .i64 1),[]) else if v=kdV 3 4 then some (.lit (.int .i64 2),[]) else if v=kdV 11 0 then some (.lit (.int .i64 3),[]) else none
theorem kdE0:kdE (kdV 0 0)=some (.lit (.int .i64 0),[]):=by unfold kdE; rw [if_pos rfl]
theorem kdE1:kdE (kdV 3 0)=some (.lit (.int .i64 1),[]):=by
 unfold kdE
 rw [if_neg (fun h=>by have:=(kdV_inj h).1; omega),if_pos rfl]
theorem kdE2:kdE (kdV 3 4)=some (.lit (.int .i64 2),[]):=by
 unfold kdE
 rw [if_neg (fun h=>by have:=(kdV_inj h).1; omega),if_neg (fun h=>by have:=(kdV_inj h).2; omega),if_pos rfl]
theorem kdE3:kdE (kdV 11 0)=some (.lit (.int .i64 3),[]):=by
 unfold kdE
 rw [if_neg (fun h=>by have:=(kdV_inj h).1; omega),if_neg (fun h=>by have:=(kdV_inj h).1; omega),if_neg (fun h=>by have:=(kdV_inj h).1; omega),if_pos rfl]
theorem kdE_inv {v:Value} {z:Int} {ps:List MemPlace} (h:kdE v=some (.lit (.int .i64 z),ps)):(z=0→v=kdV 0 0)∧(z=1→v=kdV 3 0)∧(z=2→v=kdV 3 4)∧(z=3→v=kdV 11 0):=by
 unfold kdE at h
 split at h
 ·simp at h
  refine ⟨fun _=>by assumption,fun e=>?_,fun e=>?_,fun e=>?_⟩ <;> omega
 split at h
 ·simp at h
  refine ⟨fun e=>?_,fun _=>by assumption,fun e=>?_,fun e=>?_⟩ <;> omega
 split at h
 ·simp at h
  refine ⟨fun e=>?_,fun e=>?_,fun _=>by assumption,fun e=>?_⟩ <;> omega
 split at h
 ·simp at h
  refine ⟨fun e=>?_,fun e=>?_,fun e=>?_,fun _=>by assumption⟩ <;> omega
 ·cases h
theorem iceKeyed:Maps.Keyed Tryz.prog 67:=Maps.int_keyed Tryz.underlying67
def ikK (k:Int):Lit:=.int .i64 k
def kdD:DataW Unit:=(((DataW.map []).put (ikK 1) (.lit (.int .i64 1))).put (ikK 2) (.lit (.int .i64 2))).put (ikK 3) (.lit (.int .i64 3))
def kdA (k:Int):Value:=if k=1 then kdV 3 0 else if k=2 then kdV 3 4 else if k=3 then kdV 11 0 else kdV 0 0
def kdB (k:Int):Bool:=decide (k=1) || decide (k=2) || decide (k=3)
theorem kd_zero (w:World):(zeroValue 86).run Tryz.prog w=.ok (kdV 0 0) w:=by kernel_rfl
def KindsM (w:World) (b:Nat):Prop:=w.ownsMap Tryz.prog 67 kdE b 3 kdD
theorem ikK_ne {a b:Int} (h:a≠b):ikK a≠ikK b:=fun e=>by
 unfold ikK at e
 injection e with _ e
 exact h e
theorem ikK_lit (k:Int):WideAt.IsKeyLit (ikK k):=trivial
theorem kdD_at (k:Int):Maps.has kdD (ikK k)=kdB k∧∃ z:Int,kdD.atKey (ikK k) (.lit (.int .i64 0))=.lit (.int .i64 z)∧(k=1→z=1)∧(k=2→z=2)∧(k=3→z=3)∧(k≠1→k≠2→k≠3→z=0):=by
 have m0:Maps.IsMap (DataW.map []:DataW Unit):=⟨_,rfl⟩
 have m1:=m0.put (k:=ikK 1) (d:=.lit (.int .i64 1))
 have m2:=m1.put (k:=ikK 2) (d:=.lit (.int .i64 2))
 unfold kdD kdB
 by_cases h3:k=3
 ·subst h3
  rw [Maps.has_put_same m2 (ikK_lit 3),Maps.atKey_put_same m2 (ikK_lit 3)]
  exact ⟨by decide,3,rfl,by omega,by omega,fun _=>rfl,by omega⟩
 rw [Maps.has_put_other (ikK_ne h3),Maps.atKey_put_other (ikK_ne h3)]
 by_cases h2:k=2
 ·subst h2
  rw [Maps.has_put_same m1 (ikK_lit 2),Maps.atKey_put_same m1 (ikK_lit 2)]
  exact ⟨by decide,2,rfl,by omega,fun _=>rfl,by omega,by omega⟩
 rw [Maps.has_put_other (ikK_ne h2),Maps.atKey_put_other (ikK_ne h2)]
 by_cases h1:k=1
 ·subst h1
  rw [Maps.has_put_same m0 (ikK_lit 1),Maps.atKey_put_same m0 (ikK_lit 1)]
  exact ⟨by decide,1,rfl,fun _=>rfl,by omega,by omega,by omega⟩
 rw [Maps.has_put_other (ikK_ne h1),Maps.atKey_put_other (ikK_ne h1),decide_eq_false h1,decide_eq_false h2,decide_eq_false h3]
 exact ⟨rfl,0,rfl,by omega,by omega,by omega,fun _ _ _=>rfl⟩
theorem KindsM.look {w:World} {b:Nat} (h:KindsM w b) (k:Int) (hk:(Lit.int .i64 k).wf=true):(Instr.lookup 296 (.map (some b)) (.int .i64 k) true).run Tryz.prog w=.ok (.tuple #[kdA k,.bool (kdB k)]) w:=by
 obtain ⟨v,ps,hr,hv⟩:=World.ownsMap.look_ok h iceKeyed Tryz.underlying296 (kd_zero w) kdE0 (Maps.keyOf_int_mk (a:=k) Tryz.underlying67 hk)
 obtain ⟨e1,z,e2,z1,z2,z3,z0⟩:=kdD_at k
 have hv2:kdE v=some (.lit (.int .i64 z),ps):=by rw [← e2]; exact hv
 obtain ⟨v0,v1,v2,v3⟩:=kdE_inv hv2
 have e3:v=kdA k:=by
  unfold kdA
  split
  ·exact v1 (z1 (by assumption))
  split
  ·exact v2 (z2 (by assumption))
  split
  ·exact v3 (z3 (by assumption))
  ·exact v0 (z0 (by assumption) (by assumption) (by assumption))
 rw [← e3,← e1]
 exact hr
set_option maxRecDepth 20000 in
theorem kinds_any (w:World) :
  Calls Tryz.prog 208 #[] w fun e w'=>∃ b,e=.returned (.map (some b))∧KindsM w' b∧Below w.heap.size w w':=by
 have hm0:=World.ownsMap_made w Tryz.prog 67 kdE
 obtain ⟨mb,hmb⟩:∃ mb,mb=w.heap.size:=⟨_,rfl⟩
 obtain ⟨W1,hW1⟩:∃ W1,W1=w.alloc (.map #[] 0):=⟨_,rfl⟩
 rw [← hmb,← hW1] at hm0
 have hb1:Below w.heap.size w W1:=by rw [hW1]; exact (Below.refl _ _).alloc (Nat.le_refl _) _
 obtain ⟨W2,hr2,hm2,hg2⟩:=hm0.update iceKeyed Tryz.underlying296 (by decide) (Maps.keyOf_int_mk (a:=1) Tryz.underlying67 (by decide)) kdE1
 obtain ⟨W3,hr3,hm3,hg3⟩:=hm2.update iceKeyed Tryz.underlying296 (by decide) (Maps.keyOf_int_mk (a:=2) Tryz.underlying67 (by decide)) kdE2
 obtain ⟨W4,hr4,hm4,hg4⟩:=hm3.update iceKeyed Tryz.underlying296 (by decide) (Maps.keyOf_int_mk (a:=3) Tryz.underlying67 (by decide)) kdE3
 have hb4:Below w.heap.size w W4:=((hb1.grown hg2 hb1.size fun k e=>by injection e with e; omega).grown hg3 (by have:=hb1.size; have:=hg2.size; omega) fun k e=>by injection e with e; omega).grown hg4 (by have:=hb1.size; have:=hg2.size; have:=hg3.size; omega) fun k e=>by injection e with e; omega
 have hmm:(Instr.makeMap 296 none).run Tryz.prog w=.ok (.map (some mb)) W1:=by rw [hW1,hmb]; exact run_makeMap _ _
 have HOWN:=Lib.hid (show KindsM W4 mb from hm4)
 have HB4:=Lib.hid hb4
 unfold kdV at hr2 hr3 hr4
 clear hm0 hm2 hm3 hm4 hg2 hg3 hg4 hb1 hb4 hW1 hmb
 go_enter Tryz.func208,Tryz.ntmps208
 have b1:=fun wx:World=>(show (Instr.build 86 #[(0,.int .u8 3)]).run Tryz.prog wx=.ok (.agg #[.int .u8 3,.int .u8 0,.int .u8 0,.int .u8 0,.int .u8 0,.int .u8 0,.slice none 0 0]) wx by kernel_rfl)
 have b2:=fun wx:World=>(show (Instr.build 86 #[(0,.int .u8 3),(1,.int .u8 4)]).run Tryz.prog wx=.ok (.agg #[.int .u8 3,.int .u8 4,.int .u8 0,.int .u8 0,.int .u8 0,.int .u8 0,.slice none 0 0]) wx by kernel_rfl)
 have b3:=fun wx:World=>(show (Instr.build 86 #[(0,.int .u8 11)]).run Tryz.prog wx=.ok (.agg #[.int .u8 11,.int .u8 0,.int .u8 0,.int .u8 0,.int .u8 0,.int .u8 0,.slice none 0 0]) wx by kernel_rfl)
 go_wp2_with fail
 go_ret
 exact ⟨mb,rfl,HOWN.out,HB4.out⟩
end Go.Proofs.YthlommalbkhcjaaGreat
namespace Go.Proofs.YthlommalbkhcjaaGreat
open Go.RowKit Go.Sort Go.BigFrame
theorem prs_wh {x:By} (h:(prsF x).2.2=0):20+(prsF x).1.opts.length+(prsF x).2.1.length≤x.length:=prs_whole h
attribute [-go_sem] Instr.storeAt Instr.loadAt in
set_option maxRecDepth 100000 in
set_option maxHeartbeats 4000000 in
theorem quote_any (A:Option Addr) (n c:Nat) (x:By) (I:Nat→Prop) (w:World) (h:Reads w I 1 A n (bytesV x)) (hn:x.length=n) (hc:n≤c) (hsm:n≤1000000) :
  Calls Tryz.prog 209 #[.slice A n c] w (BytPost w (quoteF x).1 ((quoteF x).2:Int)):=by
 have hpa:=parse_any A n c x I w h hn hc hsm
 have hwh:=prs_wh (x:=x)
 have hsz:=prs_size (x:=x)
 obtain ⟨Q,hQ⟩:∃ Q,Q=quoteF x:=⟨_,rfl⟩
 rw [← hQ]
 unfold quoteF at hQ
 have hpl:=prs_len x
 obtain ⟨R,hR⟩:∃ R,R=prsF x:=⟨_,rfl⟩
 rw [← hR] at hpa hQ hwh hsz hpl
 obtain ⟨g,y,f⟩:=R
 simp only at hQ hwh hsz hpl
 have HPA:=Lib.hid hpa
 have HQ:=Lib.hid hQ
 have HWH:=Lib.hid hwh
 have HSZ:=Lib.hid hsz
 have HH:=Lib.hid h.lt
 have HN:=Lib.hid hn
 have hgo:g.opts.length≤1000000:=by omega
 obtain ⟨q,hq⟩:∃ q,q=y.length:=⟨_,rfl⟩
 have HQL:=Lib.hid hq
 have hql:q≤1000000:=by omega
 clear hpa hQ hR h hn hwh hsz hpl hq
 go_enter Tryz.func209,Tryz.ntmps209
 go_upto_region 2 with
  (go_at_call 33
   refine HPA.out.mono ?_
   rintro e w1 ⟨vo,vq,rfl,ho,hq,_,hb⟩
   obtain ⟨Ao,co,rfl,_⟩:=ho.form
   obtain ⟨Aq,cq,rfl,_⟩:=hq.form
   rw [show (g,y,f).2.1.length=q from HQL.out.symm]
   obtain ⟨w2,hst,hb2,hb12,hk2⟩:=hd_var hb hb.size g Ao g.opts.length co
   have hld:=hd_load hk2 rfl
   have HO:=Lib.hid ((ho.below hb12).sl)
   have HB2:=Lib.hid hb2
   clear ho hq hb hb2 hb12 hk2)
 by_cases hf:f=0
 ·subst hf
  have hQ:=HQ.out
  rw [if_neg (by simp)] at hQ
  have hsize:=size_any g (.slice Ao g.opts.length co) _ w2 HO.out hgo
  rw [HSZ.out rfl] at hsize
  have hwh:=HWH.out rfl
  obtain ⟨s,hs⟩:∃ s,s=20+g.opts.length:=⟨_,rfl⟩
  rw [← hs] at hsize hQ hwh
  have HS:=Lib.hid hsize
  obtain ⟨k,hk⟩:∃ k,k=min 8 q:=⟨_,rfl⟩
  have hmin:min (8:Int) (q:Int)=(k:Int):=by omega
  have hkn:s+k≤n:=by have:=HN.out; have:=HQL.out; omega
  have hQ1:Q.1=x.take (s+k):=by rw [hQ,hk,HQL.out]
  have hQ2:Q.2=0:=by rw [hQ]
  have HQ2:=Lib.hid hQ2
  have HQ1:=Lib.hid hQ1
  clear hsize hs hQ hwh hQ1 hQ2 HQ
  have hcut:=fun wx=>sl_hi A n c wx (s+k) (by omega)
  by_cases h8:8≤q
  ·obtain rfl:k=8:=by omega
   have d1:decide ((8:Int)≤(q:Int))=true:=decide_eq_true (by omega)
   have d2:decide (8≤q)=true:=decide_eq_true h8
   have d3:decide ((q:Int) < 8)=false:=decide_eq_false (by omega)
   have d4:decide (q < 8)=false:=decide_eq_false (by omega)
   clear hk
   go_wp2_with (go_at_call 97; refine HS.out.mono ?_; rintro e w3 ⟨rfl,hb3⟩; have HB3:=Lib.hid (HB2.out.trans (hb3.mono HB2.out.size)); clear hb3)
   obtain ⟨e1,e2,hrt⟩:=(cut_hi (cap:=c) (k:=s+8) (by rw [HN.out]; exact HH.out.keep (Same.ofBelow HB3.out fun k hk=>hk.2)) (by have:=HN.out; omega) (by omega)).len
   rw [← e1] at hrt
   have HCL:=Lib.hid (clone8_any A (s+8) c (bytesV (x.take (s+8))) _ w3 hrt (bytesV_one _) (by omega))
   have HE1:=Lib.hid e1
   clear e1 e2 hrt
   refine HCL.out.mono ?_
   rintro e w4 ⟨v4,rfl,h4,hb4⟩
   obtain ⟨A4,c4,rfl,_⟩:=own_form h4
   have HO4:=Lib.hid (own_base h4 HB3.out.size)
   have HB4:=Lib.hid (HB3.out.trans (hb4.mono HB3.out.size))
   clear h4 hb4
   go_wp2_with fail
   go_ret2
   rw [HQ1.out,HQ2.out]
   refine ⟨_,rfl,?_,HB4.out⟩
   unfold Row8
   rw [← HE1.out]
   exact HO4.out
  ·obtain rfl:k=q:=by omega
   have d1:decide ((8:Int)≤(k:Int))=false:=decide_eq_false (by omega)
   have d2:decide (8≤k)=false:=decide_eq_false h8
   have d3:decide ((k:Int) < 8)=true:=decide_eq_true (by omega)
   have d4:decide (k < 8)=true:=decide_eq_true (by omega)
   clear hk
   go_wp2_with (go_at_call 97; refine HS.out.mono ?_; rintro e w3 ⟨rfl,hb3⟩; have HB3:=Lib.hid (HB2.out.trans (hb3.mono HB2.out.size)); clear hb3)
   obtain ⟨e1,e2,hrt⟩:=(cut_hi (cap:=c) (k:=s+k) (by rw [HN.out]; exact HH.out.keep (Same.ofBelow HB3.out fun k hk=>hk.2)) (by have:=HN.out; omega) (by omega)).len
   rw [← e1] at hrt
   have HCL:=Lib.hid (clone8_any A (s+k) c (bytesV (x.take (s+k))) _ w3 hrt (bytesV_one _) (by omega))
   have HE1:=Lib.hid e1
   clear e1 e2 hrt
   refine HCL.out.mono ?_
   rintro e w4 ⟨v4,rfl,h4,hb4⟩
   obtain ⟨A4,c4,rfl,_⟩:=own_form h4
   have HO4:=Lib.hid (own_base h4 HB3.out.size)
   have HB4:=Lib.hid (HB3.out.trans (hb4.mono HB3.out.size))
   clear h4 hb4
   go_wp2_with fail
   go_ret2
   rw [HQ1.out,HQ2.out]
   refine ⟨_,rfl,?_,HB4.out⟩
   unfold Row8
   rw [← HE1.out]
   exact HO4.out
 ·have hQ:=HQ.out
  rw [if_pos (by simpa using hf)] at hQ
  subst hQ
  have b1:((f:Int) != 0)=true:=by rw [bne_iff_ne]; omega
  clear hf HQ HWH HSZ
  go_wp2_with fail
  go_ret2
  exact ⟨_,rfl,Row8.nil _ _,HB2.out⟩
end Go.Proofs.YthlommalbkhcjaaGreat
namespace Go.Proofs.YthlommalbkhcjaaGreat
open Go.RowKit Go.Sort Go.BigFrame
def sentH (h:Hd):Hd:={ h with ttl:=64,proto:=1 }
structure SnS (w:World) (m:Ic) (v:Value) (h:Hd) (vo:Value) (wx:World):Prop where
 ic:Blk wx w.heap.size 86 (icC m v)
 hd:Blk wx (w.heap.size+1) 76 (hdC (sentH h) vo)
 sv:Sl8 wx (fun _=>True) v m.body
 so:Sl8 wx (fun _=>True) vo h.opts
 below:Below w.heap.size w wx
theorem SnS.on {w wx wy:World} {m:Ic} {v:Value} {h:Hd} {vo:Value} (s:SnS w m v h vo wx) (hb:Below wx.heap.size wx wy):SnS w m v h vo wy :=
 ⟨s.ic.below hb s.ic.lt,s.hd.below hb s.hd.lt,s.sv.below hb,s.so.below hb,s.below.trans (hb.mono s.below.size)⟩
def SndΦ (H C:Array Value) (B:Nat) (x z:By):Nat→Value→World→Prop
 | 0,u,_=>u=.agg H
 | 1,u,_=>u=.agg C
 | 2,u,w=>Sl8 w (fun _=>True) u x
 | 3,u,w=>∃ v,u=.tuple #[v,.int .i64 0]∧Row8 B w v z
 | 4,u,w=>Row8 B w u z
 | 5,u,_=>u=.int .i64 0
 | 6,u,w=>Row8 B w u z
 | 7,u,_=>u=.int .i64 0
 | _,_,_=>True
theorem SndΦ.keep {H C:Array Value} {B:Nat} {x z:By} {wx wy:World} (hb:Below wx.heap.size wx wy):∀ (j:Nat) (u:Value),SndΦ H C B x z j u wx→SndΦ H C B x z j u wy
 | 0,_,h=>h
 | 1,_,h=>h
 | 2,_,h=>Sl8.below h hb
 | 3,_,⟨v,e,h⟩=>⟨v,e,Row8.below h hb⟩
 | 4,_,h=>Row8.below h hb
 | 5,_,h=>h
 | 6,_,h=>Row8.below h hb
 | 7,_,h=>h
 | _+8,_,_=>trivial
attribute [-go_sem] Instr.storeAt Instr.loadAt in
set_option maxRecDepth 100000 in
set_option maxHeartbeats 4000000 in
theorem send_any (m:Ic) (v:Value) (h:Hd) (vo:Value) (I:Nat→Prop) (w:World) (hv:Sl8 w I v m.body) (hvo:Sl8 w I vo h.opts) (hsm:m.body.length≤900000) (ok:(sentH h).ok) (hf:fitsH (sentH h) (icB m)=true) :
  Calls Tryz.prog 167 #[icV m v,hdV h vo] w (BytPost w (bytesF (sentH h) (icB m)) 0):=by
 have hv':=hv
 obtain ⟨A,c,e1,hc,hr⟩:=hv'
 obtain ⟨Ao,co,e2,hco,hro⟩:=hvo
 obtain ⟨W0,hW0⟩:∃ W,W=(w.alloc (.cells (icC m v) 86)).alloc (.cells (hdC h vo) 76):=⟨_,rfl⟩
 have hb0:Below w.heap.size w W0:=by rw [hW0]; exact ((Below.refl _ _).alloc (Nat.le_refl _) _).alloc (by simp) _
 have hk1:Blk W0 w.heap.size 86 (icC m v):=by rw [hW0]; exact (Blk.new _ _ _).alloc _
 have hk2:Blk W0 (w.heap.size+1) 76 (hdC h vo):=by
  rw [hW0]
  have:=Blk.new (w.alloc (.cells (icC m v) 86)) 76 (hdC h vo)
  simpa using this
 have s6:=st8 (hk2.cell 6) (hk2.frozen 6) 64
 obtain ⟨W1,hW1⟩:∃ W,W=W0.setCell ⟨w.heap.size+1,6,none⟩ (.int .u8 64):=⟨_,rfl⟩
 have hk3:Blk W1 (w.heap.size+1) 76 (hdC { h with ttl:=64 } vo):=by rw [hW1]; exact hk2.set_ 6 _
 have s7:=st8 (hk3.cell 7) (hk3.frozen 7) 1
 obtain ⟨W2,hW2⟩:∃ W,W=W1.setCell ⟨w.heap.size+1,7,none⟩ (.int .u8 1):=⟨_,rfl⟩
 have hk4:Blk W2 (w.heap.size+1) 76 (hdC (sentH h) vo):=by rw [hW2]; exact hk3.set_ 7 _
 have hu:Upd (only (w.heap.size+1)) W0 W2:=by
  rw [hW2,hW1]
  exact ((Upd.refl (only (w.heap.size+1)) W0).set_ 6 _).set_ 7 _
 have hb2:Below w.heap.size w W2:=hb0.trans (hu.below (B:=w.heap.size) (fun k (hk:k=_)=>by omega) hb0.size)
 have S2:SnS w m v h vo W2:=by
  refine ⟨(hu.block _ hk1.lt (fun (e:w.heap.size=w.heap.size+1)=>by omega)).trans hk1,hk4,?_,?_,hb2⟩
  ·exact (hv.lt.keep (Same.ofBelow hb2 fun k hk=>hk.2)).mono fun _ _=>trivial
  ·exact ⟨Ao,co,e2,hco,(hro.lt.keep (Same.ofBelow hb2 fun k hk=>hk.2)).mono fun _ _=>trivial⟩
 rw [← hW1] at s6
 rw [← hW2] at s7
 have HW0:=Lib.hid hW0
 have HS:=Lib.hid S2
 have HOK:=Lib.hid ok
 have HF:=Lib.hid hf
 subst e1 e2
 clear hb0 hk1 hk2 hk3 hk4 hu hb2 S2 hv hr hro hc hco hW0 hW1 hW2 ok hf
 unfold icV hdV
 go_enter Tryz.func167,Tryz.ntmps167
 go_upto_region 1 with (fail)
 have hw0:=HW0.out
 unfold hdC at hw0
 rw [← hw0]
 clear hw0
 go_upto_region 2 with (fail)
 have HZ2:=Lib.hid HS.out.below.size
 refine wp_region_rel (by kernel_rfl) (fun p q=>Below W2.heap.size p q∧p.heap.size≤q.heap.size) (SndΦ (hdC (sentH h) (.slice Ao h.opts.length co)) (icC m (.slice A m.body.length c)) w.heap.size (icB m) (bytesF (sentH h) (icB m))) 8 (fun _ _=>True) (fun _ _=>false) (by kernel_rfl) (fun p=>⟨Below.refl _ p,Nat.le_refl _⟩) (fun h k=>⟨h.1.trans k.1,Nat.le_trans h.2 k.2⟩) (obl_of ?_) (fun o h=>by cases h) ?_
 ·refine ⟨fun _=>?_,fun _=>?_,fun _=>?_,fun _=>?_,fun _=>?_,fun _=>?_,fun _=>?_,fun _=>?_,trivial⟩
  ·
   intro val wx hg hd hb hs K hK
   generalize hρ:rhoV _ _ val=ρ
   have r3:ρ (.tmp 3)=.pointer (some ⟨w.heap.size+1,0,none⟩):=by rw [← hρ]; rfl
   have hbx:Below W2.heap.size W2 wx:=⟨hg.1.os,hg.1.tape,hg.1.output,hg.1.size,hg.1.block⟩
   have hl:=hd_load (HS.out.on hbx).hd rfl
   clear hρ hd hb hs
   refine ifv rfl ?_
   go_simp
   exact hK _ _ ⟨Below.refl _ _,Nat.le_refl _⟩ rfl fun _ _ _ _ h=>h
  ·
   intro val wx hg hd hb hs K hK
   generalize hρ:rhoV _ _ val=ρ
   have r2:ρ (.tmp 2)=.pointer (some ⟨w.heap.size,0,none⟩):=by rw [← hρ]; rfl
   have hbx:Below W2.heap.size W2 wx:=⟨hg.1.os,hg.1.tape,hg.1.output,hg.1.size,hg.1.block⟩
   have hl:=ic_load (HS.out.on hbx).ic rfl
   clear hρ hd hb hs
   refine ifv rfl ?_
   go_simp
   exact hK _ _ ⟨Below.refl _ _,Nat.le_refl _⟩ rfl fun _ _ _ _ h=>h
  ·
   intro val wx hg hd hb hs K hK
   generalize hρ:rhoV _ _ val=ρ
   have ff:∀ u,ρ (.func u)=.func (.func u) #[] #[]:=fun u=>by rw [← hρ]; rfl
   have r9:ρ (.tmp 9)=.agg (icC m (.slice A m.body.length c)):=by rw [← hρ]; exact hd 1 rfl rfl
   have hbx:Below W2.heap.size W2 wx:=⟨hg.1.os,hg.1.tape,hg.1.output,hg.1.size,hg.1.block⟩
   have hc:=icbytes_any m (.slice A m.body.length c) _ wx (HS.out.on hbx).sv hsm
   unfold icV at hc
   have hzx:W2.heap.size≤wx.heap.size:=hg.1.size
   clear hρ hd hb hs
   refine ifv rfl ?_
   go_simp
   refine hc.mono ?_
   rintro e w3 ⟨v3,rfl,h3,hb3⟩
   exact ⟨_,rfl,hK _ _ ⟨hb3.mono hzx,hb3.size⟩ (row_sl h3) fun j _ _ _ h=>SndΦ.keep hb3 j _ h⟩
  ·
   intro val wx hg hd hb hs K hK
   generalize hρ:rhoV _ _ val=ρ
   have ff:∀ u,ρ (.func u)=.func (.func u) #[] #[]:=fun u=>by rw [← hρ]; rfl
   have r8:ρ (.tmp 8)=.agg (hdC (sentH h) (.slice Ao h.opts.length co)):=by rw [← hρ]; exact hd 0 rfl rfl
   have r10:ρ (.tmp 10)=val 2:=by rw [← hρ]; rfl
   have p2:Sl8 wx (fun _=>True) (val 2) (icB m):=hd 2 rfl rfl
   have hbx:Below W2.heap.size W2 wx:=⟨hg.1.os,hg.1.tape,hg.1.output,hg.1.size,hg.1.block⟩
   obtain ⟨A3,c3,e3,_⟩:=id p2
   rw [e3] at r10 p2
   have hc:=bytes_yes (sentH h) (.slice Ao h.opts.length co) (.slice A3 (icB m).length c3) (icB m) _ wx (HS.out.on hbx).so p2 HOK.out HF.out
   rw [hdV_eq] at hc
   have hzx:W2.heap.size≤wx.heap.size:=hg.1.size
   have hzw:w.heap.size≤wx.heap.size:=Nat.le_trans HZ2.out hzx
   clear hρ hd hb hs e3 p2
   refine ifv rfl ?_
   go_simp
   refine hc.mono ?_
   rintro e w3 ⟨v3,rfl,h3,hb3⟩
   exact ⟨_,rfl,hK _ _ ⟨hb3.mono hzx,hb3.size⟩ ⟨v3,rfl,own_base h3 hzw⟩ fun j _ _ _ h=>SndΦ.keep hb3 j _ h⟩
  ·
   intro val wx hg hd hb hs K hK
   generalize hρ:rhoV _ _ val=ρ
   have r11:ρ (.tmp 11)=val 3:=by rw [← hρ]; rfl
   obtain ⟨v3,e3,h3⟩:∃ v,val 3=.tuple #[v,.int .i64 0]∧Row8 w.heap.size wx v (bytesF (sentH h) (icB m)):=hd 3 rfl rfl
   rw [e3] at r11
   clear hρ hd hb hs e3
   refine ifv rfl ?_
   go_simp
   exact hK _ _ ⟨Below.refl _ _,Nat.le_refl _⟩ h3 fun _ _ _ _ h=>h
  ·
   intro val wx hg hd hb hs K hK
   generalize hρ:rhoV _ _ val=ρ
   have r11:ρ (.tmp 11)=val 3:=by rw [← hρ]; rfl
   obtain ⟨v3,e3,h3⟩:∃ v,val 3=.tuple #[v,.int .i64 0]∧Row8 w.heap.size wx v (bytesF (sentH h) (icB m)):=hd 3 rfl rfl
   rw [e3] at r11
   clear hρ hd hb hs e3 h3
   refine ifv rfl ?_
   go_simp
   exact hK _ _ ⟨Below.refl _ _,Nat.le_refl _⟩ rfl fun _ _ _ _ h=>h
  ·
   intro val wx hg hd hb hs K hK
   generalize hρ:rhoV _ _ val=ρ
   have r12:ρ (.tmp 12)=val 4:=by rw [← hρ]; rfl
   have h4:Row8 w.heap.size wx (val 4) (bytesF (sentH h) (icB m)):=hd 4 rfl rfl
   clear hρ hd hb hs
   refine ifv rfl ?_
   go_simp
   exact hK _ _ ⟨Below.refl _ _,Nat.le_refl _⟩ h4 fun _ _ _ _ h=>h
  ·
   intro val wx hg hd hb hs K hK
   generalize hρ:rhoV _ _ val=ρ
   have r13:ρ (.tmp 13)=.int .i64 0:=by rw [← hρ]; exact hd 5 rfl rfl
   clear hρ hd hb hs
   refine ifv rfl ?_
   go_simp
   exact hK _ _ ⟨Below.refl _ _,Nat.le_refl _⟩ rfl fun _ _ _ _ h=>h
 ·intro val w9 h9
  rw [if_neg (by decide)] at h9
  obtain ⟨hb9,h9⟩:=h9
  have p6:Row8 w.heap.size w9 (val 6) (bytesF (sentH h) (icB m)):=h9 6 (by decide) fun _ _=>rfl
  have p7:val 7=.int .i64 0:=h9 7 (by decide) fun _ _=>rfl
  have HB9:=Lib.hid (show Below w.heap.size w w9 from HS.out.below.trans (Below.mono (⟨hb9.1.os,hb9.1.tape,hb9.1.output,hb9.1.size,hb9.1.block⟩:Below W2.heap.size W2 w9) HS.out.below.size))
  have HP6:=Lib.hid p6
  simp only [putAll,p7]
  simp only [Act.put,List.setIfInBounds_toArray,List.set_cons_succ,List.set_cons_zero]
  clear h9 hb9 p6 p7
  generalize val 0=x0,val 1=x1,val 2=x2,val 3=x3,val 4=x4,val 5=x5,val 6=x6 at HP6 ⊢
  obtain ⟨A6,c6,rfl,_⟩:=HP6.out.form
  go_wp2_with fail
  go_ret2
  exact ⟨_,rfl,HP6.out,HB9.out⟩
end Go.Proofs.YthlommalbkhcjaaGreat
