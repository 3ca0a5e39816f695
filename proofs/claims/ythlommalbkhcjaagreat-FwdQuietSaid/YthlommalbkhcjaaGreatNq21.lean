/- ip.Parse. -/
import Derived.Test.YthlommalbkhcjaaGreatNq20
import Derived.Test.YthlommalbkhcjaaGreatNq04
import Derived.Laws.BitsLemmas
namespace Go.Proofs.YthlommalbkhcjaaGreat
open Go.RowKit Go.Sort Go.BigFrame
theorem wraps_u64 (n:Int) (h0:0≤n) (h1:n < 2 ^ 64):IntKind.u64.wrap n=n:=by simp [IntKind.wrap,IntKind.bits,IntKind.signed]; omega
theorem and_u64 (a b:Nat) (ha:a < 2 ^ 64) (hb:b < 2 ^ 64):bits .and .u64 (a:Int) (b:Int)=((a &&& b:Nat):Int) :=
 (bits_nat .u64 64 (by decide) wraps_u64 a b ha hb).1
theorem and_bit (a k:Nat) (ha:a < 2 ^ 64) (hk:2 ^ k < 2 ^ 64):((bits .and .u64 (a:Int) ((2 ^ k:Nat):Int)) != 0)=decide (a / 2 ^ k % 2=1):=by
 rw [and_u64 a _ ha hk,← Nat.testBit_eq_decide_div_mod_eq]
 cases h:a.testBit k with
 | true =>
   rw [bne_iff_ne]
   intro h0
   have h1:(a &&& 2 ^ k).testBit k=true:=by rw [Nat.testBit_and,Nat.testBit_two_pow_self,h]; rfl
   rw [show a &&& 2 ^ k=0 by omega,Nat.zero_testBit] at h1
   cases h1
 | false =>
   have:a &&& 2 ^ k=0:=Nat.eq_of_testBit_eq fun i=>by
    rw [Nat.testBit_and,Nat.testBit_two_pow,Nat.zero_testBit]
    by_cases hi:k=i
    ·subst hi; simp [h]
    ·simp [hi]
   rw [this]
   rfl
theorem and_low (a:Nat) (ha:a < 2 ^ 64):bits .and .u64 (a:Int) 8191=((a % 8192:Nat):Int):=by
 have:=and_u64 a 8191 ha (by decide)
 rw [Nat.and_two_pow_sub_one_eq_mod a 13] at this
 exact this
theorem wrong0 {x:By} (h:wrongF x=0):20≤x.length∧20≤sizeF x∧sizeF x≤x.length∧sizeF x≤lenF x∧lenF x≤x.length:=by
 unfold wrongF at h
 repeat' split at h
 all_goals first
  | omega
  | (exfalso; omega)
theorem num_cut {w:World} {I:Nat→Prop} {ad:Addr} {n c:Nat} {x:By} (h:Reads w I 1 (some ad) n (bytesV x)) (hn:x.length=n) (hc:n≤c) (a b:Nat) (hab:a < b) (hb:b≤n) (h7:b - a≤7) :
  ∃ cv,(∀ wx:World,(Instr.slice 61 (.slice (some ad) n c) (some (.int .i64 (a:Int))) (some (.int .i64 (b:Int))) none).run Tryz.prog wx=.ok cv wx)∧∀ wx,Same I w wx→Calls Tryz.prog 76 #[cv] wx fun e w'=>e=.returned (.int .u64 (getF (partF x a b):Int))∧wx=w':=by
 refine ⟨_,fun wx=>sl_lohi (some ad) n c wx a b (by omega) (by omega),fun wx hs=>?_⟩
 have q:=(cut_lohi (a:=a) (b:=b) (cap:=c) (x:=x) (by rw [hn]; exact h) (by omega) (by omega) (by omega)).keep hs
 have hl:(partF x a b).length=b - a:=part_len (by omega)
 have q2:=q.len.2.2
 rw [hl] at q2
 exact number_any _ _ _ _ _ wx q2 hl (by omega) h7
theorem get_lt {x:By} {a b:Nat} (hb:b≤x.length):getF (partF x a b) < 256 ^ (b - a):=by
 have:=getF_lt (partF x a b)
 rwa [part_len hb] at this
def hdV (h:Hd) (v:Value):Value:=.agg #[.int .u8 (h.tos:Int),.int .u16 (h.id:Int),.bool h.evil,.bool h.df,.bool h.mf,.int .i64 h.off,.int .u8 (h.ttl:Int),.int .u8 (h.proto:Int),.int .u32 (h.src:Int),.int .u32 (h.dst:Int),v]
def PrsPost (w:World) (r:Hd × By × Nat) (e:Ending) (w':World):Prop:=∃ v p,e=.returned (.tuple #[hdV r.1 v,p,.int .i64 (r.2.2:Int)])∧Row8 w.heap.size w' v r.1.opts∧Row8 w.heap.size w' p r.2.1∧(∀ j,v.ownBlock=some j→p.ownBlock≠some j)∧Below w.heap.size w w'
attribute [-go_sem] Instr.storeAt Instr.loadAt in
set_option maxRecDepth 20000 in
set_option maxHeartbeats 1600000 in
theorem parse_no (A:Option Addr) (n c:Nat) (x:By) (I:Nat→Prop) (w:World) (h:Reads w I 1 A n (bytesV x)) (hn:x.length=n) (hc:n≤c) (hsm:n≤1000000) (h0:wrongF x≠0) :
  Calls Tryz.prog 33 #[.slice A n c] w (PrsPost w (prsF x)):=by
 have HC:=Lib.hid (fun (wx:World) (hb:Below w.heap.size w wx)=>wrong_any A n c x (fun k=>I k∧k < w.heap.size) wx (h.lt.keep (Same.ofBelow hb fun k hk=>hk.2)) hn hc hsm)
 have HH:=Lib.hid h
 obtain ⟨q,hq⟩:∃ q,q=wrongF x:=⟨_,rfl⟩
 obtain ⟨R,hR⟩:∃ R,R=prsF x:=⟨_,rfl⟩
 rw [← hR]
 unfold prsF at hR
 rw [← hq] at HC hR h0
 have HQ:=Lib.hid hq
 have HR:=Lib.hid hR
 clear h hq hR
 have hk0:=Blk.new w 76 #[.int .u8 0,.int .u16 0,.bool false,.bool false,.bool false,.int .i64 0,.int .u8 0,.int .u8 0,.int .u32 0,.int .u32 0,.slice none 0 0]
 have hb0:Below w.heap.size w (w.alloc (.cells #[.int .u8 0,.int .u16 0,.bool false,.bool false,.bool false,.int .i64 0,.int .u8 0,.int .u8 0,.int .u32 0,.int .u32 0,.slice none 0 0] 76)):=(Below.refl _ _).alloc (Nat.le_refl _) _
 have HK0:=Lib.hid hk0
 have HB0:=Lib.hid hb0
 clear hk0 hb0
 go_enter Tryz.func33,Tryz.ntmps33
 go_wp2_with fail
 refine (HC.out _ HB0.out).mono ?_
 rintro e w1 ⟨rfl,hb1⟩
 have HB1:=Lib.hid (HB0.out.trans (hb1.mono HB0.out.size))
 have HK1:=Lib.hid (HK0.out.below hb1 HK0.out.lt)
 clear hb1
 have h0i:((q:Int) != 0)=true:=by rw [bne_iff_ne]; omega
 have hst:=hd_store (vs:=#[.int .u8 0,.int .u16 0,.bool false,.bool false,.bool false,.int .i64 0,.int .u8 0,.int .u8 0,.int .u32 0,.int .u32 0,.slice none 0 0]) HK1.out rfl rfl (by simp [Value.oneCell'])
 have hk9:=blk_setCells (vs:=#[.int .u8 0,.int .u16 0,.bool false,.bool false,.bool false,.int .i64 0,.int .u8 0,.int .u8 0,.int .u32 0,.int .u32 0,.slice none 0 0]) HK1.out rfl
 have HB9:=Lib.hid (below_setCells (Nat.le_refl _) [.int .u8 0,.int .u16 0,.bool false,.bool false,.bool false,.int .i64 0,.int .u8 0,.int .u8 0,.int .u32 0,.int .u32 0,.slice none 0 0] 0 _ HB1.out)
 obtain ⟨w9,hw9⟩:∃ w9,w9=w1.setCells w.heap.size 0 (#[.int .u8 0,.int .u16 0,.bool false,.bool false,.bool false,.int .i64 0,.int .u8 0,.int .u8 0,.int .u32 0,.int .u32 0,.slice none 0 0]:Array Value).toList:=⟨_,rfl⟩
 rw [← hw9] at hst hk9
 have hb9:Below w.heap.size w w9:=by rw [hw9]; exact HB9.out
 have HB9:=Lib.hid hb9
 have hld:=hd_load hk9 rfl
 have HK9:=Lib.hid hk9
 clear hw9 hk9 hb9
 go_wp2_with fail
 refine bodyPost_ret_by (res_hd rfl _ rfl HK9.out rfl) rfl ?_
 obtain rfl:R=(hd0,[],q):=by rw [HR.out,if_neg h0]
 exact ⟨.slice none 0 0,.slice none 0 0,rfl,Row8.nil _ _,Row8.nil _ _,(fun j hj=>nomatch hj),HB9.out⟩
def GrP (wb:Nat) (p q:World):Prop:=Upd (fun j=>j=wb) p q∧((∃ cs,Blk p wb 76 cs∧cs.size=11)→∃ cs,Blk q wb 76 cs∧cs.size=11)
theorem GrP.below {wb:Nat} {p q:World} (h:Below p.heap.size p q):GrP wb p q:=⟨Upd.ofBelow h _,fun ⟨cs,hb,hc⟩=>⟨cs,hb.below h hb.lt,hc⟩⟩
def PrsΨ (ad:Addr) (n c m t wb:Nat) (cv5:Value) (C:Array Value) (B:Nat) (z:By):Nat→Value→World→Prop
 | 0,u,_=>u=.agg C
 | 1,u,_=>u=.slice (some ad) n c
 | 2,u,_=>u=.int .i64 (m:Int)
 | 3,u,_=>u=.int .i64 (t:Int)
 | 4,u,_=>u=cv5
 | 5,u,w=>Row8 B w u z
 | 6,_,w=>Blk w wb 76 C
 | 7,u,w=>Row8 B w u z
 | 8,u,_=>u=.int .i64 0
 | _,_,_=>True
theorem PrsΨ.keep {ad:Addr} {n c m t wb:Nat} {cv5:Value} {C:Array Value} {B:Nat} {z:By} {wx wy:World} (hb:Below wx.heap.size wx wy):∀ j u,PrsΨ ad n c m t wb cv5 C B z j u wx→PrsΨ ad n c m t wb cv5 C B z j u wy:=by
 intro j u h
 unfold PrsΨ at h ⊢
 split at h
 all_goals first
  | exact h
  | exact Row8.below h hb
  | exact Blk.below h hb (Blk.lt h)
theorem PrsΨ.store {ad:Addr} {n c m t wb:Nat} {cv5:Value} {C:Array Value} {B:Nat} {z:By} {wx:World} {l:List Value} (hB:wb < B):∀ j u,j≠6→PrsΨ ad n c m t wb cv5 C B z j u wx→PrsΨ ad n c m t wb cv5 C B z j u (wx.setCells wb 0 l):=by
 intro j u hne h
 unfold PrsΨ at h ⊢
 split at h
 all_goals first
  | exact h
  | exact Row8.keep (I:=fun k=>k≠wb) h (Upd.same (Upd.setCells (F:=fun j=>j=wb) _ 0 _ (Upd.refl _ _) (.inl rfl)) fun j hj hi=>hi hj) fun k hk e=>by have:=(Row8.lt h hk).1; omega
  | exact absurd rfl hne
def PrsΦ (ad:Addr) (n c m _t f tos idn ttl pro src dst o:Nat) (e1 e2 e3:Int) (b1 b2 b3:Bool) (cv1 cv2 cv3 cv4:Value) (B:Nat) (y:By):Nat→Value→World→Prop
 | 0,u,_=>u=.slice (some ad) n c
 | 1,u,_=>u=.pointer (some ⟨ad.block,ad.off+1,none⟩)
 | 2,u,_=>u=.int .u8 (tos:Int)
 | 3,u,_=>u=.slice (some ad) n c
 | 4,u,_=>u=cv1
 | 5,u,_=>u=.int .u64 (idn:Int)
 | 6,u,_=>u=.int .u16 (idn:Int)
 | 7,u,_=>u=.int .u64 (f:Int)
 | 8,u,_=>u=.int .u64 e1
 | 9,u,_=>u=.bool b1
 | 10,u,_=>u=.int .u64 (f:Int)
 | 11,u,_=>u=.int .u64 e2
 | 12,u,_=>u=.bool b2
 | 13,u,_=>u=.int .u64 (f:Int)
 | 14,u,_=>u=.int .u64 e3
 | 15,u,_=>u=.bool b3
 | 16,u,_=>u=.int .u64 (f:Int)
 | 17,u,_=>u=.int .u64 (o:Int)
 | 18,u,_=>u=.int .i64 (o:Int)
 | 19,u,_=>u=.slice (some ad) n c
 | 20,u,_=>u=.pointer (some ⟨ad.block,ad.off+8,none⟩)
 | 21,u,_=>u=.int .u8 (ttl:Int)
 | 22,u,_=>u=.slice (some ad) n c
 | 23,u,_=>u=.pointer (some ⟨ad.block,ad.off+9,none⟩)
 | 24,u,_=>u=.int .u8 (pro:Int)
 | 25,u,_=>u=.slice (some ad) n c
 | 26,u,_=>u=cv2
 | 27,u,_=>u=.int .u64 (src:Int)
 | 28,u,_=>u=.int .u32 (src:Int)
 | 29,u,_=>u=.slice (some ad) n c
 | 30,u,_=>u=cv3
 | 31,u,_=>u=.int .u64 (dst:Int)
 | 32,u,_=>u=.int .u32 (dst:Int)
 | 33,u,_=>u=.slice (some ad) n c
 | 34,u,_=>u=.int .i64 (m:Int)
 | 35,u,_=>u=cv4
 | 36,u,w=>Row8 B w u y
 | 37,u,w=>∃ dv,u=.agg #[.int .u8 (tos:Int),.int .u16 (idn:Int),.bool b1,.bool b2,.bool b3,.int .i64 (o:Int),.int .u8 (ttl:Int),.int .u8 (pro:Int),.int .u32 (src:Int),.int .u32 (dst:Int),dv]∧Row8 B w dv y
 | 38,u,w=>∃ g,u=.pointer (some ⟨g,0,none⟩)∧B≤g∧Blk w g 76 #[.int .u8 0,.int .u16 0,.bool false,.bool false,.bool false,.int .i64 0,.int .u8 0,.int .u8 0,.int .u32 0,.int .u32 0,.slice none 0 0]
 | _,_,_=>True
theorem PrsΦ.keep {ad:Addr} {n c m t f tos idn ttl pro src dst o:Nat} {e1 e2 e3:Int} {b1 b2 b3:Bool} {cv1 cv2 cv3 cv4:Value} {B:Nat} {y:By} {wx wy:World} (hb:Below wx.heap.size wx wy):∀ j u,PrsΦ ad n c m t f tos idn ttl pro src dst o e1 e2 e3 b1 b2 b3 cv1 cv2 cv3 cv4 B y j u wx→PrsΦ ad n c m t f tos idn ttl pro src dst o e1 e2 e3 b1 b2 b3 cv1 cv2 cv3 cv4 B y j u wy:=by
 intro j u h
 unfold PrsΦ at h ⊢
 split at h
 all_goals first
  | exact h
  | exact Row8.below h hb
  | (obtain ⟨dv,h1,h2⟩:=h; exact ⟨dv,h1,h2.below hb⟩)
  | (obtain ⟨g,h1,h2,h3⟩:=h; exact ⟨g,h1,h2,h3.below hb h3.lt⟩)
attribute [-go_sem] Instr.storeAt in
set_option maxRecDepth 100000 in
set_option maxHeartbeats 4000000 in
theorem parse_yes (A:Option Addr) (n c:Nat) (x:By) (I:Nat→Prop) (w:World) (h:Reads w I 1 A n (bytesV x)) (hn:x.length=n) (hc:n≤c) (hsm:n≤1000000) (hw0:wrongF x=0) :
  Calls Tryz.prog 33 #[.slice A n c] w (PrsPost w (hdF x,partF x (sizeF x) (lenF x),0)):=by
 obtain ⟨z1,z2,z3,z4,z5⟩:=wrong0 hw0
 have HC:=Lib.hid (fun (wx:World) (hb:Below w.heap.size w wx)=>wrong_any A n c x (fun k=>I k∧k < w.heap.size) wx (h.lt.keep (Same.ofBelow hb fun k hk=>hk.2)) hn hc hsm)
 rw [hw0] at HC
 have HH:=Lib.hid h.lt
 obtain ⟨ad,rfl,_⟩:=byte_getD h (k:=0) (by omega)
 obtain ⟨m,hm⟩:∃ m,m=sizeF x:=⟨_,rfl⟩
 obtain ⟨t,ht⟩:∃ t,t=lenF x:=⟨_,rfl⟩
 obtain ⟨b0,hb0⟩:∃ b0,b0=(x.getD 0 0).toNat:=⟨_,rfl⟩
 obtain ⟨s,hs⟩:∃ s,s=b0 % 16:=⟨_,rfl⟩
 have hms:m=4 * s:=by rw [hm,hs,hb0]; rfl
 have hb0l:b0 < 256:=by rw [hb0]; exact UInt8.toNat_lt _
 have a15:bits .and .u8 (b0:Int) 15=(s:Int):=by
  have:∀ b:Fin 256,bits .and .u8 (b.val:Int) 15=((b.val % 16:Nat):Int):=by decide +kernel
  rw [hs]; exact this ⟨b0,hb0l⟩
 obtain ⟨f,hf⟩:∃ f,f=getF (partF x 6 8):=⟨_,rfl⟩
 have hfl:f < 65536:=by have:=get_lt (x:=x) (a:=6) (b:=8) (by omega); rw [hf]; simpa using this
 have htl:t < 65536:=by have:=get_lt (x:=x) (a:=2) (b:=4) (by omega); rw [ht]; unfold lenF; simpa using this
 rw [← hm,← ht]
 rw [← hm] at z2 z3 z4
 rw [← ht] at z4 z5
 rw [hn] at z1 z3 z5
 have w1:IntKind.i64.wrap (s:Int)=(s:Int):=wrap_i64 _ (by omega) (by omega)
 have w2:IntKind.i64.wrap (4 * (s:Int))=(m:Int):=by rw [wrap_i64 _ (by omega) (by omega),hms]; push_cast; rfl
 have w3:IntKind.i64.wrap (t:Int)=(t:Int):=wrap_i64 _ (by omega) (by omega)
 have hk0:=Blk.new w 76 #[.int .u8 0,.int .u16 0,.bool false,.bool false,.bool false,.int .i64 0,.int .u8 0,.int .u8 0,.int .u32 0,.int .u32 0,.slice none 0 0]
 have hbz:Below w.heap.size w (w.alloc (.cells #[.int .u8 0,.int .u16 0,.bool false,.bool false,.bool false,.int .i64 0,.int .u8 0,.int .u8 0,.int .u32 0,.int .u32 0,.slice none 0 0] 76)):=(Below.refl _ _).alloc (Nat.le_refl _) _
 have HK0:=Lib.hid hk0
 have HB0:=Lib.hid hbz
 have HN:=Lib.hid hn
 have HM:=Lib.hid hm
 have HT:=Lib.hid ht
 have HF:=Lib.hid hf
 have HB:=Lib.hid hb0
 clear hk0 hbz h hn hm ht hf hs hms hw0 hb0
 go_enter Tryz.func33,Tryz.ntmps33
 go_wp2_with fail
 refine (HC.out _ HB0.out).mono ?_
 rintro e W1 ⟨rfl,hb1⟩
 have HB1:=Lib.hid (HB0.out.trans (hb1.mono HB0.out.size))
 have HK1:=Lib.hid (HK0.out.below hb1 HK0.out.lt)
 have h1:Reads W1 (fun k=>I k∧k < w.heap.size) 1 (some ad) n (bytesV x):=HH.out.keep (Same.ofBelow HB1.out fun k hk=>hk.2)
 clear hb1
 have HR1:=Lib.hid h1
 obtain ⟨cva,ea,na⟩:=num_cut h1 HN.out hc 2 4 (by decide) (by omega) (by decide)
 obtain ⟨cvb,eb,nb⟩:=num_cut h1 HN.out hc 6 8 (by decide) (by omega) (by decide)
 have NA:=Lib.hid (show ∀ q,Calls Tryz.prog 76 #[cva] (W1.drewN q) (fun e w'=>e=.returned (.int .u64 (t:Int))∧∃ k,w'=W1.drewN k) from fun q=>(na (W1.drewN q) (Same.ofHeap _ rfl)).mono (by rintro e w' ⟨rfl,rfl⟩; exact ⟨by rw [HT.out]; rfl,_,rfl⟩))
 have NB:=Lib.hid (show ∀ q,Calls Tryz.prog 76 #[cvb] (W1.drewN q) (fun e w'=>e=.returned (.int .u64 (f:Int))∧∃ k,w'=W1.drewN k) from fun q=>(nb (W1.drewN q) (Same.ofHeap _ rfl)).mono (by rintro e w' ⟨rfl,rfl⟩; exact ⟨by rw [HF.out],_,rfl⟩))
 obtain ⟨ad0,had0,c0⟩:=byte_getD h1 (k:=0) (by omega)
 injection had0 with had0
 subst had0
 rw [← HB.out,show ad.add 0=ad from by unfold Addr.add; simp] at c0
 have ea':∀ wx:World,(Instr.slice 61 (.slice (some ad) n c) (some (.int .i64 2)) (some (.int .i64 4)) none).run Tryz.prog wx=.ok cva wx:=ea
 have eb':∀ wx:World,(Instr.slice 61 (.slice (some ad) n c) (some (.int .i64 6)) (some (.int .i64 8)) none).run Tryz.prog wx=.ok cvb wx:=eb
 have hn0:0 < n:=by omega
 clear ea eb na nb h1
 go_wp2_with fail
 go_quiet (first | (go_at_call 76; with_reducible exact NA.out _) | (go_at_call 76; with_reducible exact NB.out _))
 go_wp2_with fail
 have bq:Below w.heap.size w (W1.drewN nq):=⟨HB1.out.os,HB1.out.tape,HB1.out.output,HB1.out.size,HB1.out.block⟩
 have kq:Blk (W1.drewN nq) w.heap.size 76 #[.int .u8 0,.int .u16 0,.bool false,.bool false,.bool false,.int .i64 0,.int .u8 0,.int .u8 0,.int .u32 0,.int .u32 0,.slice none 0 0]:=HK1.out
 have hq:Reads (W1.drewN nq) (fun k=>I k∧k < w.heap.size) 1 (some ad) n (bytesV x):=HR1.out
 generalize W1.drewN nq=wq at bq kq hq ⊢
 clear NA NB ea' eb' c0 a15 w1 w2 w3 HR1 HB1 HK1
 have HBQ:=Lib.hid bq
 have HKQ:=Lib.hid kq
 have HRQ:=Lib.hid hq
 have hsame:∀ wx,Below wq.heap.size wq wx→Same (fun k=>I k∧k < w.heap.size) wq wx:=fun wx hb=>Same.ofBelow hb fun k hk=>Nat.lt_of_lt_of_le hk.2 bq.size
 have HSAME:=Lib.hid hsame
 obtain ⟨cv1,s1,n1⟩:=num_cut hq HN.out hc 4 6 (by decide) (by omega) (by decide)
 obtain ⟨cv2,s2,n2⟩:=num_cut hq HN.out hc 12 16 (by decide) (by omega) (by decide)
 obtain ⟨cv3,s3,n3⟩:=num_cut hq HN.out hc 16 20 (by decide) (by omega) (by decide)
 have l1:=get_lt (x:=x) (a:=4) (b:=6) (by rw [HN.out]; omega)
 have l2:=get_lt (x:=x) (a:=12) (b:=16) (by rw [HN.out]; omega)
 have l3:=get_lt (x:=x) (a:=16) (b:=20) (by rw [HN.out]; omega)
 obtain ⟨idn,hidn⟩:∃ v,v=getF (partF x 4 6):=⟨_,rfl⟩
 obtain ⟨src,hsrc⟩:∃ v,v=getF (partF x 12 16):=⟨_,rfl⟩
 obtain ⟨dst,hdst⟩:∃ v,v=getF (partF x 16 20):=⟨_,rfl⟩
 rw [← hidn] at l1 n1
 rw [← hsrc] at l2 n2
 rw [← hdst] at l3 n3
 have u1:IntKind.u16.wrap (idn:Int)=(idn:Int):=by simp [IntKind.wrap,IntKind.bits,IntKind.signed]; omega
 have u2:IntKind.u32.wrap (src:Int)=(src:Int):=by simp [IntKind.wrap,IntKind.bits,IntKind.signed]; omega
 have u3:IntKind.u32.wrap (dst:Int)=(dst:Int):=by simp [IntKind.wrap,IntKind.bits,IntKind.signed]; omega
 have S1:=Lib.hid (show ∀ wx:World,(Instr.slice 61 (.slice (some ad) n c) (some (.int .i64 4)) (some (.int .i64 6)) none).run Tryz.prog wx=.ok cv1 wx from s1)
 have S2:=Lib.hid (show ∀ wx:World,(Instr.slice 61 (.slice (some ad) n c) (some (.int .i64 12)) (some (.int .i64 16)) none).run Tryz.prog wx=.ok cv2 wx from s2)
 have S3:=Lib.hid (show ∀ wx:World,(Instr.slice 61 (.slice (some ad) n c) (some (.int .i64 16)) (some (.int .i64 20)) none).run Tryz.prog wx=.ok cv3 wx from s3)
 have NC1:=Lib.hid (fun wx (hb:Below wq.heap.size wq wx)=>n1 wx (HSAME.out wx hb))
 have NC2:=Lib.hid (fun wx (hb:Below wq.heap.size wq wx)=>n2 wx (HSAME.out wx hb))
 have NC3:=Lib.hid (fun wx (hb:Below wq.heap.size wq wx)=>n3 wx (HSAME.out wx hb))
 have q4:=cut_lohi (a:=20) (b:=m) (cap:=c) (x:=x) (by rw [HN.out]; exact hq) z2 (by rw [HN.out]; omega) (by rw [HN.out]; omega)
 obtain ⟨cv4,hcv4⟩:∃ cv,cv=Value.slice (if c=20 then some ad else (some ad).map (·.add 20)) (m - 20) (c - 20):=⟨_,rfl⟩
 have S4:=Lib.hid (show ∀ wx:World,(Instr.slice 61 (.slice (some ad) n c) (some (.int .i64 20)) (some (.int .i64 (m:Int))) none).run Tryz.prog wx=.ok cv4 wx from fun wx=>by rw [hcv4]; exact sl_lohi (some ad) n c wx 20 m z2 (by omega))
 rw [← hcv4] at q4
 obtain ⟨y,hy⟩:∃ y,y=partF x 20 m:=⟨_,rfl⟩
 have hyl:y.length≤1000000:=by rw [hy,part_len (by rw [HN.out]; omega)]; omega
 rw [← hy] at q4
 have CC:=Lib.hid (fun wx (hb:Below wq.heap.size wq wx)=>(show Calls Tryz.prog 77 #[cv4] wx (fun e w'=>∃ v,e=.returned v∧w'.ownsRow wx.heap.size 5 1 v y.length (bytesV y)∧Below wx.heap.size wx w') from by
  obtain ⟨A1,c1,e1,_,h1⟩:=q4.keep (HSAME.out wx hb)
  rw [e1]
  exact clone8_any A1 _ c1 (bytesV y) _ wx h1 (bytesV_one _) (by omega)))
 obtain ⟨_,r1,C1⟩:=byte_getD hq (k:=1) (by omega)
 obtain rfl:ad=_:=by injection r1
 obtain ⟨_,r8,C8⟩:=byte_getD hq (k:=8) (by omega)
 obtain rfl:ad=_:=by injection r8
 obtain ⟨_,r9,C9⟩:=byte_getD hq (k:=9) (by omega)
 obtain rfl:ad=_:=by injection r9
 have p1:=add_pos ad 1 (by decide)
 have p8:=add_pos ad 8 (by decide)
 have p9:=add_pos ad 9 (by decide)
 obtain ⟨tos,htos⟩:∃ v,v=(x.getD 1 0).toNat:=⟨_,rfl⟩
 obtain ⟨ttl,httl⟩:∃ v,v=(x.getD 8 0).toNat:=⟨_,rfl⟩
 obtain ⟨pro,hpro⟩:∃ v,v=(x.getD 9 0).toNat:=⟨_,rfl⟩
 rw [← htos,p1] at C1
 rw [← httl,p8] at C8
 rw [← hpro,p9] at C9
 have L1:ad.block < wq.heap.size:=World.block_lt_of_cell? wq ⟨ad.block,ad.off+1,none⟩ C1
 obtain ⟨e1,he1⟩:∃ e:Int,e=bits .and .u64 (f:Int) 32768:=⟨_,rfl⟩
 obtain ⟨e2,he2⟩:∃ e:Int,e=bits .and .u64 (f:Int) 16384:=⟨_,rfl⟩
 obtain ⟨e3,he3⟩:∃ e:Int,e=bits .and .u64 (f:Int) 8192:=⟨_,rfl⟩
 obtain ⟨b1,hb1⟩:∃ b,b=decide (f / 32768 % 2=1):=⟨_,rfl⟩
 obtain ⟨b2,hb2⟩:∃ b,b=decide (f / 16384 % 2=1):=⟨_,rfl⟩
 obtain ⟨b3,hb3⟩:∃ b,b=decide (f / 8192 % 2=1):=⟨_,rfl⟩
 have d1:(e1 != 0)=b1:=by rw [he1,hb1]; exact and_bit f 15 (by omega) (by decide)
 have d2:(e2 != 0)=b2:=by rw [he2,hb2]; exact and_bit f 14 (by omega) (by decide)
 have d3:(e3 != 0)=b3:=by rw [he3,hb3]; exact and_bit f 13 (by omega) (by decide)
 obtain ⟨o,ho⟩:∃ o,o=f % 8192:=⟨_,rfl⟩
 have d4:bits .and .u64 (f:Int) 8191=(o:Int):=by rw [ho]; exact and_low f (by omega)
 have d5:IntKind.i64.wrap (o:Int)=(o:Int):=wrap_i64 _ (by omega) (by omega)
 have HLET:Hid (∀ dv,hdV (hdF x) dv=.agg #[.int .u8 (tos:Int),.int .u16 (idn:Int),.bool b1,.bool b2,.bool b3,.int .i64 (o:Int),.int .u8 (ttl:Int),.int .u8 (pro:Int),.int .u32 (src:Int),.int .u32 (dst:Int),dv]):=Lib.hid (fun dv=>by
  unfold hdV hdF
  rw [← HF.out,← hb1,← hb2,← hb3,← ho,← hidn,← hsrc,← hdst,← htos,← httl,← hpro])
 have HY:=Lib.hid hy
 have D1:=he1.symm
 have D2:=he2.symm
 have D3:=he3.symm
 have i1:(1:Int) < n:=by omega
 have i8:(8:Int) < n:=by omega
 have i9:(9:Int) < n:=by omega
 clear he1 he2 he3 hb1 hb2 hb3 ho hidn hsrc hdst htos httl hpro hcv4 q4 hy s1 s2 s3 n1 n2 n3 l1 l2 l3 r1 r8 r9 hsame bq kq hq
 refine wp_region_rel (by kernel_rfl) (fun p q=>Below wq.heap.size p q) (PrsΦ ad n c m t f tos idn ttl pro src dst o e1 e2 e3 b1 b2 b3 cv1 cv2 cv3 cv4 wq.heap.size y) 39 (fun val w9=>∃ g dv,val 38=.pointer (some ⟨g,0,none⟩)∧wq.heap.size≤g∧Blk w9 g 76 #[.int .u8 (tos:Int),.int .u16 (idn:Int),.bool b1,.bool b2,.bool b3,.int .i64 (o:Int),.int .u8 (ttl:Int),.int .u8 (pro:Int),.int .u32 (src:Int),.int .u32 (dst:Int),dv]∧Row8 wq.heap.size w9 dv y∧dv.ownBlock≠some g∧Below wq.heap.size wq w9) (fun _ _=>false) (by kernel_rfl) (fun p=>Below.refl _ p) (fun h k=>h.trans k) (obl_of ?_) ?_ ?_
 ·refine ⟨fun _=>?_,fun _=>?_,fun _=>?_,fun _=>?_,fun _=>?_,fun _=>?_,fun _=>?_,fun _=>?_,fun _=>?_,fun _=>?_,fun _=>?_,fun _=>?_,fun _=>?_,fun _=>?_,fun _=>?_,fun _=>?_,fun _=>?_,fun _=>?_,fun _=>?_,fun _=>?_,fun _=>?_,fun _=>?_,fun _=>?_,fun _=>?_,fun _=>?_,fun _=>?_,fun _=>?_,fun _=>?_,fun _=>?_,fun _=>?_,fun _=>?_,fun _=>?_,fun _=>?_,fun _=>?_,fun _=>?_,fun _=>?_,fun _=>?_,fun _=>?_,fun _=>?_,fun h=>absurd rfl h,trivial⟩
  ·
   intro val wx hg hd hb hs K hK
   generalize hρ:rhoV _ _ val=ρ
   have cc:∀ u,ρ (.const u)=u:=fun u=>by rw [← hρ]; rfl
   have ff:∀ u,ρ (.func u)=.func (.func u) #[] #[]:=fun u=>by rw [← hρ]; rfl
   have r0:ρ (.tmp 0)=.slice (some ad) n c:=by rw [← hρ]; rfl
   clear hρ hd hb hs
   refine ifv rfl ?_
   go_simp
   exact hK _ _ (Below.refl _ _) rfl fun _ _ _ _ h=>h
  ·
   intro val wx hg hd hb hs K hK
   generalize hρ:rhoV _ _ val=ρ
   have cc:∀ u,ρ (.const u)=u:=fun u=>by rw [← hρ]; rfl
   have ff:∀ u,ρ (.func u)=.func (.func u) #[] #[]:=fun u=>by rw [← hρ]; rfl
   have r29:ρ (.tmp 29)=.slice (some ad) n c:=by rw [← hρ]; exact hd 0 rfl rfl
   clear hρ hd hb hs
   refine ifv rfl ?_
   go_simp
   exact hK _ _ (Below.refl _ _) rfl fun _ _ _ _ h=>h
  ·
   intro val wx hg hd hb hs K hK
   generalize hρ:rhoV _ _ val=ρ
   have cc:∀ u,ρ (.const u)=u:=fun u=>by rw [← hρ]; rfl
   have ff:∀ u,ρ (.func u)=.func (.func u) #[] #[]:=fun u=>by rw [← hρ]; rfl
   have r30:ρ (.tmp 30)=.pointer (some ⟨ad.block,ad.off+1,none⟩):=by rw [← hρ]; exact hd 1 rfl rfl
   have g0:wx.cell? ⟨ad.block,ad.off+1,none⟩=some (.int .u8 (tos:Int)):=(hg.cell (p:=⟨ad.block,ad.off+1,none⟩) L1).trans C1
   clear hρ hd hb hs
   refine ifv rfl ?_
   go_simp
   exact hK _ _ (Below.refl _ _) rfl fun _ _ _ _ h=>h
  ·
   intro val wx hg hd hb hs K hK
   generalize hρ:rhoV _ _ val=ρ
   have cc:∀ u,ρ (.const u)=u:=fun u=>by rw [← hρ]; rfl
   have ff:∀ u,ρ (.func u)=.func (.func u) #[] #[]:=fun u=>by rw [← hρ]; rfl
   have r0:ρ (.tmp 0)=.slice (some ad) n c:=by rw [← hρ]; rfl
   clear hρ hd hb hs
   refine ifv rfl ?_
   go_simp
   exact hK _ _ (Below.refl _ _) rfl fun _ _ _ _ h=>h
  ·
   intro val wx hg hd hb hs K hK
   generalize hρ:rhoV _ _ val=ρ
   have cc:∀ u,ρ (.const u)=u:=fun u=>by rw [← hρ]; rfl
   have ff:∀ u,ρ (.func u)=.func (.func u) #[] #[]:=fun u=>by rw [← hρ]; rfl
   have r32:ρ (.tmp 32)=.slice (some ad) n c:=by rw [← hρ]; exact hd 3 rfl rfl
   have hsl:=S1.out wx
   clear hρ hd hb hs
   refine ifv rfl ?_
   go_simp
   exact hK _ _ (Below.refl _ _) rfl fun _ _ _ _ h=>h
  ·
   intro val wx hg hd hb hs K hK
   generalize hρ:rhoV _ _ val=ρ
   have cc:∀ u,ρ (.const u)=u:=fun u=>by rw [← hρ]; rfl
   have ff:∀ u,ρ (.func u)=.func (.func u) #[] #[]:=fun u=>by rw [← hρ]; rfl
   have r33:ρ (.tmp 33)=cv1:=by rw [← hρ]; exact hd 4 rfl rfl
   have hc:=NC1.out wx ⟨hg.os,hg.tape,hg.output,hg.size,hg.block⟩
   clear hρ hd hb hs
   refine ifv rfl ?_
   go_simp
   refine hc.mono ?_
   rintro e w2 ⟨rfl,rfl⟩
   exact ⟨_,rfl,hK _ _ (Below.refl _ _) rfl fun _ _ _ _ h=>h⟩
  ·
   intro val wx hg hd hb hs K hK
   generalize hρ:rhoV _ _ val=ρ
   have cc:∀ u,ρ (.const u)=u:=fun u=>by rw [← hρ]; rfl
   have ff:∀ u,ρ (.func u)=.func (.func u) #[] #[]:=fun u=>by rw [← hρ]; rfl
   have r34:ρ (.tmp 34)=.int .u64 (idn:Int):=by rw [← hρ]; exact hd 5 rfl rfl
   clear hρ hd hb hs
   refine ifv rfl ?_
   go_simp
   exact hK _ _ (Below.refl _ _) rfl fun _ _ _ _ h=>h
  ·
   intro val wx hg hd hb hs K hK
   generalize hρ:rhoV _ _ val=ρ
   have cc:∀ u,ρ (.const u)=u:=fun u=>by rw [← hρ]; rfl
   have ff:∀ u,ρ (.func u)=.func (.func u) #[] #[]:=fun u=>by rw [← hρ]; rfl
   have r8:ρ (.tmp 8)=.int .u64 (f:Int):=by rw [← hρ]; rfl
   clear hρ hd hb hs
   refine ifv rfl ?_
   go_simp
   exact hK _ _ (Below.refl _ _) rfl fun _ _ _ _ h=>h
  ·
   intro val wx hg hd hb hs K hK
   generalize hρ:rhoV _ _ val=ρ
   have cc:∀ u,ρ (.const u)=u:=fun u=>by rw [← hρ]; rfl
   have ff:∀ u,ρ (.func u)=.func (.func u) #[] #[]:=fun u=>by rw [← hρ]; rfl
   have r36:ρ (.tmp 36)=.int .u64 (f:Int):=by rw [← hρ]; exact hd 7 rfl rfl
   clear hρ hd hb hs
   refine ifv rfl ?_
   go_simp
   exact hK _ _ (Below.refl _ _) rfl fun _ _ _ _ h=>h
  ·
   intro val wx hg hd hb hs K hK
   generalize hρ:rhoV _ _ val=ρ
   have cc:∀ u,ρ (.const u)=u:=fun u=>by rw [← hρ]; rfl
   have ff:∀ u,ρ (.func u)=.func (.func u) #[] #[]:=fun u=>by rw [← hρ]; rfl
   have r37:ρ (.tmp 37)=.int .u64 e1:=by rw [← hρ]; exact hd 8 rfl rfl
   clear hρ hd hb hs
   refine ifv rfl ?_
   go_simp
   exact hK _ _ (Below.refl _ _) rfl fun _ _ _ _ h=>h
  ·
   intro val wx hg hd hb hs K hK
   generalize hρ:rhoV _ _ val=ρ
   have cc:∀ u,ρ (.const u)=u:=fun u=>by rw [← hρ]; rfl
   have ff:∀ u,ρ (.func u)=.func (.func u) #[] #[]:=fun u=>by rw [← hρ]; rfl
   have r8:ρ (.tmp 8)=.int .u64 (f:Int):=by rw [← hρ]; rfl
   clear hρ hd hb hs
   refine ifv rfl ?_
   go_simp
   exact hK _ _ (Below.refl _ _) rfl fun _ _ _ _ h=>h
  ·
   intro val wx hg hd hb hs K hK
   generalize hρ:rhoV _ _ val=ρ
   have cc:∀ u,ρ (.const u)=u:=fun u=>by rw [← hρ]; rfl
   have ff:∀ u,ρ (.func u)=.func (.func u) #[] #[]:=fun u=>by rw [← hρ]; rfl
   have r39:ρ (.tmp 39)=.int .u64 (f:Int):=by rw [← hρ]; exact hd 10 rfl rfl
   clear hρ hd hb hs
   refine ifv rfl ?_
   go_simp
   exact hK _ _ (Below.refl _ _) rfl fun _ _ _ _ h=>h
  ·
   intro val wx hg hd hb hs K hK
   generalize hρ:rhoV _ _ val=ρ
   have cc:∀ u,ρ (.const u)=u:=fun u=>by rw [← hρ]; rfl
   have ff:∀ u,ρ (.func u)=.func (.func u) #[] #[]:=fun u=>by rw [← hρ]; rfl
   have r40:ρ (.tmp 40)=.int .u64 e2:=by rw [← hρ]; exact hd 11 rfl rfl
   clear hρ hd hb hs
   refine ifv rfl ?_
   go_simp
   exact hK _ _ (Below.refl _ _) rfl fun _ _ _ _ h=>h
  ·
   intro val wx hg hd hb hs K hK
   generalize hρ:rhoV _ _ val=ρ
   have cc:∀ u,ρ (.const u)=u:=fun u=>by rw [← hρ]; rfl
   have ff:∀ u,ρ (.func u)=.func (.func u) #[] #[]:=fun u=>by rw [← hρ]; rfl
   have r8:ρ (.tmp 8)=.int .u64 (f:Int):=by rw [← hρ]; rfl
   clear hρ hd hb hs
   refine ifv rfl ?_
   go_simp
   exact hK _ _ (Below.refl _ _) rfl fun _ _ _ _ h=>h
  ·
   intro val wx hg hd hb hs K hK
   generalize hρ:rhoV _ _ val=ρ
   have cc:∀ u,ρ (.const u)=u:=fun u=>by rw [← hρ]; rfl
   have ff:∀ u,ρ (.func u)=.func (.func u) #[] #[]:=fun u=>by rw [← hρ]; rfl
   have r42:ρ (.tmp 42)=.int .u64 (f:Int):=by rw [← hρ]; exact hd 13 rfl rfl
   clear hρ hd hb hs
   refine ifv rfl ?_
   go_simp
   exact hK _ _ (Below.refl _ _) rfl fun _ _ _ _ h=>h
  ·
   intro val wx hg hd hb hs K hK
   generalize hρ:rhoV _ _ val=ρ
   have cc:∀ u,ρ (.const u)=u:=fun u=>by rw [← hρ]; rfl
   have ff:∀ u,ρ (.func u)=.func (.func u) #[] #[]:=fun u=>by rw [← hρ]; rfl
   have r43:ρ (.tmp 43)=.int .u64 e3:=by rw [← hρ]; exact hd 14 rfl rfl
   clear hρ hd hb hs
   refine ifv rfl ?_
   go_simp
   exact hK _ _ (Below.refl _ _) rfl fun _ _ _ _ h=>h
  ·
   intro val wx hg hd hb hs K hK
   generalize hρ:rhoV _ _ val=ρ
   have cc:∀ u,ρ (.const u)=u:=fun u=>by rw [← hρ]; rfl
   have ff:∀ u,ρ (.func u)=.func (.func u) #[] #[]:=fun u=>by rw [← hρ]; rfl
   have r8:ρ (.tmp 8)=.int .u64 (f:Int):=by rw [← hρ]; rfl
   clear hρ hd hb hs
   refine ifv rfl ?_
   go_simp
   exact hK _ _ (Below.refl _ _) rfl fun _ _ _ _ h=>h
  ·
   intro val wx hg hd hb hs K hK
   generalize hρ:rhoV _ _ val=ρ
   have cc:∀ u,ρ (.const u)=u:=fun u=>by rw [← hρ]; rfl
   have ff:∀ u,ρ (.func u)=.func (.func u) #[] #[]:=fun u=>by rw [← hρ]; rfl
   have r45:ρ (.tmp 45)=.int .u64 (f:Int):=by rw [← hρ]; exact hd 16 rfl rfl
   clear hρ hd hb hs
   refine ifv rfl ?_
   go_simp
   exact hK _ _ (Below.refl _ _) rfl fun _ _ _ _ h=>h
  ·
   intro val wx hg hd hb hs K hK
   generalize hρ:rhoV _ _ val=ρ
   have cc:∀ u,ρ (.const u)=u:=fun u=>by rw [← hρ]; rfl
   have ff:∀ u,ρ (.func u)=.func (.func u) #[] #[]:=fun u=>by rw [← hρ]; rfl
   have r46:ρ (.tmp 46)=.int .u64 (o:Int):=by rw [← hρ]; exact hd 17 rfl rfl
   clear hρ hd hb hs
   refine ifv rfl ?_
   go_simp
   exact hK _ _ (Below.refl _ _) rfl fun _ _ _ _ h=>h
  ·
   intro val wx hg hd hb hs K hK
   generalize hρ:rhoV _ _ val=ρ
   have cc:∀ u,ρ (.const u)=u:=fun u=>by rw [← hρ]; rfl
   have ff:∀ u,ρ (.func u)=.func (.func u) #[] #[]:=fun u=>by rw [← hρ]; rfl
   have r0:ρ (.tmp 0)=.slice (some ad) n c:=by rw [← hρ]; rfl
   clear hρ hd hb hs
   refine ifv rfl ?_
   go_simp
   exact hK _ _ (Below.refl _ _) rfl fun _ _ _ _ h=>h
  ·
   intro val wx hg hd hb hs K hK
   generalize hρ:rhoV _ _ val=ρ
   have cc:∀ u,ρ (.const u)=u:=fun u=>by rw [← hρ]; rfl
   have ff:∀ u,ρ (.func u)=.func (.func u) #[] #[]:=fun u=>by rw [← hρ]; rfl
   have r48:ρ (.tmp 48)=.slice (some ad) n c:=by rw [← hρ]; exact hd 19 rfl rfl
   clear hρ hd hb hs
   refine ifv rfl ?_
   go_simp
   exact hK _ _ (Below.refl _ _) rfl fun _ _ _ _ h=>h
  ·
   intro val wx hg hd hb hs K hK
   generalize hρ:rhoV _ _ val=ρ
   have cc:∀ u,ρ (.const u)=u:=fun u=>by rw [← hρ]; rfl
   have ff:∀ u,ρ (.func u)=.func (.func u) #[] #[]:=fun u=>by rw [← hρ]; rfl
   have r49:ρ (.tmp 49)=.pointer (some ⟨ad.block,ad.off+8,none⟩):=by rw [← hρ]; exact hd 20 rfl rfl
   have g0:wx.cell? ⟨ad.block,ad.off+8,none⟩=some (.int .u8 (ttl:Int)):=(hg.cell (p:=⟨ad.block,ad.off+8,none⟩) L1).trans C8
   clear hρ hd hb hs
   refine ifv rfl ?_
   go_simp
   exact hK _ _ (Below.refl _ _) rfl fun _ _ _ _ h=>h
  ·
   intro val wx hg hd hb hs K hK
   generalize hρ:rhoV _ _ val=ρ
   have cc:∀ u,ρ (.const u)=u:=fun u=>by rw [← hρ]; rfl
   have ff:∀ u,ρ (.func u)=.func (.func u) #[] #[]:=fun u=>by rw [← hρ]; rfl
   have r0:ρ (.tmp 0)=.slice (some ad) n c:=by rw [← hρ]; rfl
   clear hρ hd hb hs
   refine ifv rfl ?_
   go_simp
   exact hK _ _ (Below.refl _ _) rfl fun _ _ _ _ h=>h
  ·
   intro val wx hg hd hb hs K hK
   generalize hρ:rhoV _ _ val=ρ
   have cc:∀ u,ρ (.const u)=u:=fun u=>by rw [← hρ]; rfl
   have ff:∀ u,ρ (.func u)=.func (.func u) #[] #[]:=fun u=>by rw [← hρ]; rfl
   have r51:ρ (.tmp 51)=.slice (some ad) n c:=by rw [← hρ]; exact hd 22 rfl rfl
   clear hρ hd hb hs
   refine ifv rfl ?_
   go_simp
   exact hK _ _ (Below.refl _ _) rfl fun _ _ _ _ h=>h
  ·
   intro val wx hg hd hb hs K hK
   generalize hρ:rhoV _ _ val=ρ
   have cc:∀ u,ρ (.const u)=u:=fun u=>by rw [← hρ]; rfl
   have ff:∀ u,ρ (.func u)=.func (.func u) #[] #[]:=fun u=>by rw [← hρ]; rfl
   have r52:ρ (.tmp 52)=.pointer (some ⟨ad.block,ad.off+9,none⟩):=by rw [← hρ]; exact hd 23 rfl rfl
   have g0:wx.cell? ⟨ad.block,ad.off+9,none⟩=some (.int .u8 (pro:Int)):=(hg.cell (p:=⟨ad.block,ad.off+9,none⟩) L1).trans C9
   clear hρ hd hb hs
   refine ifv rfl ?_
   go_simp
   exact hK _ _ (Below.refl _ _) rfl fun _ _ _ _ h=>h
  ·
   intro val wx hg hd hb hs K hK
   generalize hρ:rhoV _ _ val=ρ
   have cc:∀ u,ρ (.const u)=u:=fun u=>by rw [← hρ]; rfl
   have ff:∀ u,ρ (.func u)=.func (.func u) #[] #[]:=fun u=>by rw [← hρ]; rfl
   have r0:ρ (.tmp 0)=.slice (some ad) n c:=by rw [← hρ]; rfl
   clear hρ hd hb hs
   refine ifv rfl ?_
   go_simp
   exact hK _ _ (Below.refl _ _) rfl fun _ _ _ _ h=>h
  ·
   intro val wx hg hd hb hs K hK
   generalize hρ:rhoV _ _ val=ρ
   have cc:∀ u,ρ (.const u)=u:=fun u=>by rw [← hρ]; rfl
   have ff:∀ u,ρ (.func u)=.func (.func u) #[] #[]:=fun u=>by rw [← hρ]; rfl
   have r54:ρ (.tmp 54)=.slice (some ad) n c:=by rw [← hρ]; exact hd 25 rfl rfl
   have hsl:=S2.out wx
   clear hρ hd hb hs
   refine ifv rfl ?_
   go_simp
   exact hK _ _ (Below.refl _ _) rfl fun _ _ _ _ h=>h
  ·
   intro val wx hg hd hb hs K hK
   generalize hρ:rhoV _ _ val=ρ
   have cc:∀ u,ρ (.const u)=u:=fun u=>by rw [← hρ]; rfl
   have ff:∀ u,ρ (.func u)=.func (.func u) #[] #[]:=fun u=>by rw [← hρ]; rfl
   have r55:ρ (.tmp 55)=cv2:=by rw [← hρ]; exact hd 26 rfl rfl
   have hc:=NC2.out wx ⟨hg.os,hg.tape,hg.output,hg.size,hg.block⟩
   clear hρ hd hb hs
   refine ifv rfl ?_
   go_simp
   refine hc.mono ?_
   rintro e w2 ⟨rfl,rfl⟩
   exact ⟨_,rfl,hK _ _ (Below.refl _ _) rfl fun _ _ _ _ h=>h⟩
  ·
   intro val wx hg hd hb hs K hK
   generalize hρ:rhoV _ _ val=ρ
   have cc:∀ u,ρ (.const u)=u:=fun u=>by rw [← hρ]; rfl
   have ff:∀ u,ρ (.func u)=.func (.func u) #[] #[]:=fun u=>by rw [← hρ]; rfl
   have r56:ρ (.tmp 56)=.int .u64 (src:Int):=by rw [← hρ]; exact hd 27 rfl rfl
   clear hρ hd hb hs
   refine ifv rfl ?_
   go_simp
   exact hK _ _ (Below.refl _ _) rfl fun _ _ _ _ h=>h
  ·
   intro val wx hg hd hb hs K hK
   generalize hρ:rhoV _ _ val=ρ
   have cc:∀ u,ρ (.const u)=u:=fun u=>by rw [← hρ]; rfl
   have ff:∀ u,ρ (.func u)=.func (.func u) #[] #[]:=fun u=>by rw [← hρ]; rfl
   have r0:ρ (.tmp 0)=.slice (some ad) n c:=by rw [← hρ]; rfl
   clear hρ hd hb hs
   refine ifv rfl ?_
   go_simp
   exact hK _ _ (Below.refl _ _) rfl fun _ _ _ _ h=>h
  ·
   intro val wx hg hd hb hs K hK
   generalize hρ:rhoV _ _ val=ρ
   have cc:∀ u,ρ (.const u)=u:=fun u=>by rw [← hρ]; rfl
   have ff:∀ u,ρ (.func u)=.func (.func u) #[] #[]:=fun u=>by rw [← hρ]; rfl
   have r58:ρ (.tmp 58)=.slice (some ad) n c:=by rw [← hρ]; exact hd 29 rfl rfl
   have hsl:=S3.out wx
   clear hρ hd hb hs
   refine ifv rfl ?_
   go_simp
   exact hK _ _ (Below.refl _ _) rfl fun _ _ _ _ h=>h
  ·
   intro val wx hg hd hb hs K hK
   generalize hρ:rhoV _ _ val=ρ
   have cc:∀ u,ρ (.const u)=u:=fun u=>by rw [← hρ]; rfl
   have ff:∀ u,ρ (.func u)=.func (.func u) #[] #[]:=fun u=>by rw [← hρ]; rfl
   have r59:ρ (.tmp 59)=cv3:=by rw [← hρ]; exact hd 30 rfl rfl
   have hc:=NC3.out wx ⟨hg.os,hg.tape,hg.output,hg.size,hg.block⟩
   clear hρ hd hb hs
   refine ifv rfl ?_
   go_simp
   refine hc.mono ?_
   rintro e w2 ⟨rfl,rfl⟩
   exact ⟨_,rfl,hK _ _ (Below.refl _ _) rfl fun _ _ _ _ h=>h⟩
  ·
   intro val wx hg hd hb hs K hK
   generalize hρ:rhoV _ _ val=ρ
   have cc:∀ u,ρ (.const u)=u:=fun u=>by rw [← hρ]; rfl
   have ff:∀ u,ρ (.func u)=.func (.func u) #[] #[]:=fun u=>by rw [← hρ]; rfl
   have r60:ρ (.tmp 60)=.int .u64 (dst:Int):=by rw [← hρ]; exact hd 31 rfl rfl
   clear hρ hd hb hs
   refine ifv rfl ?_
   go_simp
   exact hK _ _ (Below.refl _ _) rfl fun _ _ _ _ h=>h
  ·
   intro val wx hg hd hb hs K hK
   generalize hρ:rhoV _ _ val=ρ
   have cc:∀ u,ρ (.const u)=u:=fun u=>by rw [← hρ]; rfl
   have ff:∀ u,ρ (.func u)=.func (.func u) #[] #[]:=fun u=>by rw [← hρ]; rfl
   have r0:ρ (.tmp 0)=.slice (some ad) n c:=by rw [← hρ]; rfl
   clear hρ hd hb hs
   refine ifv rfl ?_
   go_simp
   exact hK _ _ (Below.refl _ _) rfl fun _ _ _ _ h=>h
  ·
   intro val wx hg hd hb hs K hK
   generalize hρ:rhoV _ _ val=ρ
   have cc:∀ u,ρ (.const u)=u:=fun u=>by rw [← hρ]; rfl
   have ff:∀ u,ρ (.func u)=.func (.func u) #[] #[]:=fun u=>by rw [← hρ]; rfl
   have r6:ρ (.tmp 6)=.int .i64 (m:Int):=by rw [← hρ]; rfl
   clear hρ hd hb hs
   refine ifv rfl ?_
   go_simp
   exact hK _ _ (Below.refl _ _) rfl fun _ _ _ _ h=>h
  ·
   intro val wx hg hd hb hs K hK
   generalize hρ:rhoV _ _ val=ρ
   have cc:∀ u,ρ (.const u)=u:=fun u=>by rw [← hρ]; rfl
   have ff:∀ u,ρ (.func u)=.func (.func u) #[] #[]:=fun u=>by rw [← hρ]; rfl
   have r62:ρ (.tmp 62)=.slice (some ad) n c:=by rw [← hρ]; exact hd 33 rfl rfl
   have r63:ρ (.tmp 63)=.int .i64 (m:Int):=by rw [← hρ]; exact hd 34 rfl rfl
   have hsl:=S4.out wx
   clear hρ hd hb hs
   refine ifv rfl ?_
   go_simp
   exact hK _ _ (Below.refl _ _) rfl fun _ _ _ _ h=>h
  ·
   intro val wx hg hd hb hs K hK
   generalize hρ:rhoV _ _ val=ρ
   have cc:∀ u,ρ (.const u)=u:=fun u=>by rw [← hρ]; rfl
   have ff:∀ u,ρ (.func u)=.func (.func u) #[] #[]:=fun u=>by rw [← hρ]; rfl
   have r64:ρ (.tmp 64)=cv4:=by rw [← hρ]; exact hd 35 rfl rfl
   have hc:=CC.out wx ⟨hg.os,hg.tape,hg.output,hg.size,hg.block⟩
   have hwb:wq.heap.size≤wx.heap.size:=hg.size
   clear hρ hd hb hs
   refine ifv rfl ?_
   go_simp
   refine hc.mono ?_
   rintro e w2 ⟨v2,rfl,h2,hb2⟩
   exact ⟨_,rfl,hK _ _ (hb2.mono hwb) (own_base h2 hwb) fun j _ _ _ h=>PrsΦ.keep hb2 j _ h⟩
  ·
   intro val wx hg hd hb hs K hK
   generalize hρ:rhoV _ _ val=ρ
   have cc:∀ u,ρ (.const u)=u:=fun u=>by rw [← hρ]; rfl
   have ff:∀ u,ρ (.func u)=.func (.func u) #[] #[]:=fun u=>by rw [← hρ]; rfl
   have r31:ρ (.tmp 31)=.int .u8 (tos:Int):=by rw [← hρ]; exact hd 2 rfl rfl
   have r35:ρ (.tmp 35)=.int .u16 (idn:Int):=by rw [← hρ]; exact hd 6 rfl rfl
   have r38:ρ (.tmp 38)=.bool b1:=by rw [← hρ]; exact hd 9 rfl rfl
   have r41:ρ (.tmp 41)=.bool b2:=by rw [← hρ]; exact hd 12 rfl rfl
   have r44:ρ (.tmp 44)=.bool b3:=by rw [← hρ]; exact hd 15 rfl rfl
   have r47:ρ (.tmp 47)=.int .i64 (o:Int):=by rw [← hρ]; exact hd 18 rfl rfl
   have r50:ρ (.tmp 50)=.int .u8 (ttl:Int):=by rw [← hρ]; exact hd 21 rfl rfl
   have r53:ρ (.tmp 53)=.int .u8 (pro:Int):=by rw [← hρ]; exact hd 24 rfl rfl
   have r57:ρ (.tmp 57)=.int .u32 (src:Int):=by rw [← hρ]; exact hd 28 rfl rfl
   have r61:ρ (.tmp 61)=.int .u32 (dst:Int):=by rw [← hρ]; exact hd 32 rfl rfl
   have r65:ρ (.tmp 65)=val 36:=by rw [← hρ]; rfl
   have p36:=hd 36 rfl rfl
   obtain ⟨Ad,cd,hde,_⟩:=Row8.form p36
   rw [hde] at r65
   have p36:Row8 wq.heap.size wx (val 36) y:=p36
   rw [hde] at p36
   clear hρ hd hb hs hde
   refine ifv rfl ?_
   go_simp
   exact hK _ _ (Below.refl _ _) ⟨_,rfl,p36⟩ fun _ _ _ _ h=>h
  ·
   intro val wx hg hd hb hs K hK
   generalize hρ:rhoV _ _ val=ρ
   have cc:∀ u,ρ (.const u)=u:=fun u=>by rw [← hρ]; rfl
   have ff:∀ u,ρ (.func u)=.func (.func u) #[] #[]:=fun u=>by rw [← hρ]; rfl
   have hal:Below wx.heap.size wx (wx.alloc (.cells #[.int .u8 0,.int .u16 0,.bool false,.bool false,.bool false,.int .i64 0,.int .u8 0,.int .u8 0,.int .u32 0,.int .u32 0,.slice none 0 0] 76)):=(Below.refl _ _).alloc (Nat.le_refl _) _
   have hwb:wq.heap.size≤wx.heap.size:=hg.size
   clear hρ hd hb hs
   refine ifv rfl ?_
   go_simp
   exact hK _ _ (hal.mono hwb) ⟨_,rfl,hwb,Blk.new _ _ _⟩ fun j _ _ _ h=>PrsΦ.keep hal j _ h
 ·intro o ho
  injection ho with ho
  subst ho
  intro val wx hg hd hs K hK
  have p37:=hd 37 (by decide) (by decide) fun i _ _=>rfl
  have p38:=hd 38 (by decide) (by decide) fun i _ _=>rfl
  generalize hρ:rhoV _ _ val=ρ
  obtain ⟨g,p38,hgB,hgK⟩:=p38
  obtain ⟨dv,p37,hr⟩:=p37
  have r9:ρ (.tmp 9)=.pointer (some ⟨g,0,none⟩):=by rw [← hρ]; exact p38
  have r66:ρ (.tmp 66)=.agg #[.int .u8 (tos:Int),.int .u16 (idn:Int),.bool b1,.bool b2,.bool b3,.int .i64 (o:Int),.int .u8 (ttl:Int),.int .u8 (pro:Int),.int .u32 (src:Int),.int .u32 (dst:Int),dv]:=by rw [← hρ]; exact p37
  have hdv:dv.oneCell'=true:=by obtain ⟨_,_,e,_⟩:=hr.form; rw [e]; rfl
  have hst:=hd_store (vs:=#[.int .u8 (tos:Int),.int .u16 (idn:Int),.bool b1,.bool b2,.bool b3,.int .i64 (o:Int),.int .u8 (ttl:Int),.int .u8 (pro:Int),.int .u32 (src:Int),.int .u32 (dst:Int),dv]) hgK rfl rfl (by obtain ⟨_,_,e,_⟩:=hr.form; rw [e]; simp [Value.oneCell'])
  have hne:dv.ownBlock≠some g:=fun e=>by
   obtain ⟨cs,hb⟩:=own_blk hr e
   exact absurd rfl (hb.ne_ hgK (by decide))
  clear hρ hd hs
  refine ifv rfl ?_
  go_simp
  refine hK _ _ ⟨g,dv,p38,hgB,blk_setCells (vs:=#[.int .u8 (tos:Int),.int .u16 (idn:Int),.bool b1,.bool b2,.bool b3,.int .i64 (o:Int),.int .u8 (ttl:Int),.int .u8 (pro:Int),.int .u32 (src:Int),.int .u32 (dst:Int),dv]) hgK rfl,hr.keep (I:=fun k=>k≠g) (Upd.same (Upd.setCells (F:=fun j=>j=g) _ 0 _ (Upd.refl _ _) (.inl rfl)) fun j hj hi=>hi hj) (fun k hk e=>hne (by rw [hk,e])),hne,below_setCells hgB _ _ _ ⟨hg.os,hg.tape,hg.output,hg.size,hg.block⟩⟩
 ·intro val w9 h9
  rw [if_pos (by decide)] at h9
  obtain ⟨g,dv,h38,hgB,hgK,hr,hne,hb9⟩:=h9
  simp only [putAll,h38]
  simp only [Act.put,List.setIfInBounds_toArray,List.set_cons_succ,List.set_cons_zero]
  generalize val 0=x0,val 1=x1,val 2=x2,val 3=x3,val 4=x4,val 5=x5,val 6=x6,val 7=x7,val 8=x8,val 9=x9,val 10=x10,val 11=x11,val 12=x12,val 13=x13,val 14=x14,val 15=x15,val 16=x16,val 17=x17,val 18=x18,val 19=x19,val 20=x20,val 21=x21,val 22=x22,val 23=x23,val 24=x24,val 25=x25,val 26=x26,val 27=x27,val 28=x28,val 29=x29,val 30=x30,val 31=x31,val 32=x32,val 33=x33,val 34=x34,val 35=x35,val 36=x36,val 37=x37
  clear C1 C8 C9 p1 p8 p9 S1 S2 S3 NC1 NC2 NC3 CC S4 u1 u2 u3 d1 d2 d3 d4 d5 D1 D2 D3 i1 i8 i9 L1
  go_wp2_with fail
  have hk9:Blk w9 w.heap.size 76 _:=HKQ.out.below hb9 HKQ.out.lt
  have hgn:g≠w.heap.size:=fun e=>by have:=HKQ.out.lt; omega
  have h9r:=HRQ.out.keep (HSAME.out w9 hb9)
  have q5:=cut_lohi (a:=m) (b:=t) (cap:=c) (x:=x) (by rw [HN.out]; exact h9r) z4 (by rw [HN.out]; omega) (by rw [HN.out]; omega)
  obtain ⟨cv5,hcv5⟩:∃ cv,cv=Value.slice (if c=m then some ad else (some ad).map (·.add m)) (t - m) (c - m):=⟨_,rfl⟩
  have S5:=Lib.hid (show ∀ wx:World,(Instr.slice 61 (.slice (some ad) n c) (some (.int .i64 (m:Int))) (some (.int .i64 (t:Int))) none).run Tryz.prog wx=.ok cv5 wx from fun wx=>by rw [hcv5]; exact sl_lohi (some ad) n c wx m t z4 (by omega))
  rw [← hcv5] at q5
  obtain ⟨z,hz⟩:∃ z,z=partF x m t:=⟨_,rfl⟩
  have hzl:z.length≤1000000:=by rw [hz,part_len (by rw [HN.out]; omega)]; omega
  rw [← hz] at q5
  have HZ:=Lib.hid hz
  have C5:=Lib.hid (fun wx (hu:Upd (fun j=>j=w.heap.size) w9 wx)=>(show Calls Tryz.prog 77 #[cv5] wx (fun e w'=>∃ v,e=.returned v∧w'.ownsRow wx.heap.size 5 1 v z.length (bytesV z)∧Below wx.heap.size wx w') from by
   obtain ⟨A1,c1,e1,_,h1⟩:=q5.keep (Upd.same hu fun j hj hi=>by have:=hi.2; omega)
   rw [e1]
   exact clone8_any A1 _ c1 (bytesV z) _ wx h1 (bytesV_one _) (by omega)))
  obtain ⟨C,hC⟩:∃ C:Array Value,C=#[.int .u8 (tos:Int),.int .u16 (idn:Int),.bool b1,.bool b2,.bool b3,.int .i64 (o:Int),.int .u8 (ttl:Int),.int .u8 (pro:Int),.int .u32 (src:Int),.int .u32 (dst:Int),dv]:=⟨_,rfl⟩
  rw [← hC] at hgK
  have hc1:C.all (·.oneCell')=true:=by obtain ⟨_,_,e,_⟩:=hr.form; rw [hC,e]; simp [Value.oneCell']
  have HC1:=Lib.hid hc1
  have HCE:=Lib.hid hC
  have HG9:=Lib.hid hgK
  have HGN:=Lib.hid hgn
  have HR9:=Lib.hid hr
  have HK9:=Lib.hid hk9
  have HB9:=Lib.hid hb9
  have HWB:=Lib.hid (show w.heap.size < w9.heap.size from hk9.lt)
  clear hC hgK hgn hr hk9 hb9 hcv5 q5 hz h9r hc1 hzl
  refine wp_region_rel (by kernel_rfl) (fun p q=>GrP w.heap.size p q) (PrsΨ ad n c m t w.heap.size cv5 C w9.heap.size z) 9 (fun _ _=>True) (fun _ _=>false) (by kernel_rfl) (fun p=>⟨Upd.refl _ p,id⟩) (fun h k=>⟨h.1.trans_ k.1,fun x=>k.2 (h.2 x)⟩) (obl_of ?_) (fun o h=>by cases h) ?_
  ·refine ⟨fun _=>?_,fun _=>?_,fun _=>?_,fun _=>?_,fun _=>?_,fun _=>?_,fun _=>?_,fun _=>?_,fun _=>?_,trivial⟩
   ·
    intro val wx hg hd hb hs K hK
    generalize hρ:rhoV _ _ val=ρ
    have cc:∀ u,ρ (.const u)=u:=fun u=>by rw [← hρ]; rfl
    have ff:∀ u,ρ (.func u)=.func (.func u) #[] #[]:=fun u=>by rw [← hρ]; rfl
    have r9:ρ (.tmp 9)=.pointer (some ⟨g,0,none⟩):=by rw [← hρ]; rfl
    have kg:Blk wx g 76 C:=(hg.1.block g HG9.out.lt fun e=>HGN.out e).trans HG9.out
    obtain ⟨Ad,cd,hde,_⟩:=Row8.form HR9.out
    rw [HCE.out,hde] at kg
    have g0:=kg.cell 0
    have g1:=kg.cell 1
    have g2:=kg.cell 2
    have g3:=kg.cell 3
    have g4:=kg.cell 4
    have g5:=kg.cell 5
    have g6:=kg.cell 6
    have g7:=kg.cell 7
    have g8:=kg.cell 8
    have g9:=kg.cell 9
    have g10:=kg.cell 10
    clear hρ hd hb hs kg
    refine ifv rfl ?_
    go_simp
    exact hK _ _ ⟨Upd.refl _ _,id⟩ (by rw [HCE.out,hde]; rfl) fun _ _ _ _ h=>h
   ·
    intro val wx hg hd hb hs K hK
    generalize hρ:rhoV _ _ val=ρ
    have cc:∀ u,ρ (.const u)=u:=fun u=>by rw [← hρ]; rfl
    have ff:∀ u,ρ (.func u)=.func (.func u) #[] #[]:=fun u=>by rw [← hρ]; rfl
    have r0:ρ (.tmp 0)=.slice (some ad) n c:=by rw [← hρ]; rfl
    clear hρ hd hb hs
    refine ifv rfl ?_
    go_simp
    exact hK _ _ (⟨Upd.refl _ _,id⟩) rfl fun _ _ _ _ h=>h
   ·
    intro val wx hg hd hb hs K hK
    generalize hρ:rhoV _ _ val=ρ
    have cc:∀ u,ρ (.const u)=u:=fun u=>by rw [← hρ]; rfl
    have ff:∀ u,ρ (.func u)=.func (.func u) #[] #[]:=fun u=>by rw [← hρ]; rfl
    have r6:ρ (.tmp 6)=.int .i64 (m:Int):=by rw [← hρ]; rfl
    clear hρ hd hb hs
    refine ifv rfl ?_
    go_simp
    exact hK _ _ (⟨Upd.refl _ _,id⟩) rfl fun _ _ _ _ h=>h
   ·
    intro val wx hg hd hb hs K hK
    generalize hρ:rhoV _ _ val=ρ
    have cc:∀ u,ρ (.const u)=u:=fun u=>by rw [← hρ]; rfl
    have ff:∀ u,ρ (.func u)=.func (.func u) #[] #[]:=fun u=>by rw [← hρ]; rfl
    have r7:ρ (.tmp 7)=.int .i64 (t:Int):=by rw [← hρ]; rfl
    clear hρ hd hb hs
    refine ifv rfl ?_
    go_simp
    exact hK _ _ (⟨Upd.refl _ _,id⟩) rfl fun _ _ _ _ h=>h
   ·
    intro val wx hg hd hb hs K hK
    generalize hρ:rhoV _ _ val=ρ
    have cc:∀ u,ρ (.const u)=u:=fun u=>by rw [← hρ]; rfl
    have ff:∀ u,ρ (.func u)=.func (.func u) #[] #[]:=fun u=>by rw [← hρ]; rfl
    have r68:ρ (.tmp 68)=.slice (some ad) n c:=by rw [← hρ]; exact hd 1 rfl rfl
    have r69:ρ (.tmp 69)=.int .i64 (m:Int):=by rw [← hρ]; exact hd 2 rfl rfl
    have r70:ρ (.tmp 70)=.int .i64 (t:Int):=by rw [← hρ]; exact hd 3 rfl rfl
    have hsl:=S5.out wx
    clear hρ hd hb hs
    refine ifv rfl ?_
    go_simp
    exact hK _ _ (⟨Upd.refl _ _,id⟩) rfl fun _ _ _ _ h=>h
   ·
    intro val wx hg hd hb hs K hK
    generalize hρ:rhoV _ _ val=ρ
    have cc:∀ u,ρ (.const u)=u:=fun u=>by rw [← hρ]; rfl
    have ff:∀ u,ρ (.func u)=.func (.func u) #[] #[]:=fun u=>by rw [← hρ]; rfl
    have r71:ρ (.tmp 71)=cv5:=by rw [← hρ]; exact hd 4 rfl rfl
    have hc:=C5.out wx ⟨hg.1.os,hg.1.tape,hg.1.output,hg.1.size,hg.1.block⟩
    have hwb:w9.heap.size≤wx.heap.size:=hg.1.size
    clear hρ hd hb hs
    refine ifv rfl ?_
    go_simp
    refine hc.mono ?_
    rintro e w2 ⟨v2,rfl,h2,hb2⟩
    exact ⟨_,rfl,hK _ _ (GrP.below hb2) (own_base h2 hwb) fun j _ _ _ h=>PrsΨ.keep hb2 j _ h⟩
   ·
    intro val wx hg hd hb hs K hK
    generalize hρ:rhoV _ _ val=ρ
    have cc:∀ u,ρ (.const u)=u:=fun u=>by rw [← hρ]; rfl
    have ff:∀ u,ρ (.func u)=.func (.func u) #[] #[]:=fun u=>by rw [← hρ]; rfl
    have r2:ρ (.tmp 2)=.pointer (some ⟨w.heap.size,0,none⟩):=by rw [← hρ]; rfl
    have r67:ρ (.tmp 67)=.agg C:=by rw [← hρ]; exact hd 0 rfl rfl
    obtain ⟨cs,kr,kc⟩:=hg.2 ⟨_,HK9.out,rfl⟩
    have hst:=hd_store (vs:=C) kr kc (by rw [HCE.out]; rfl) HC1.out
    clear hρ hd hb hs
    refine ifv rfl ?_
    go_simp
    exact hK _ _ ⟨Upd.setCells (F:=fun j=>j=w.heap.size) _ 0 _ (Upd.refl _ _) (.inl rfl),fun _=>⟨C,blk_setCells kr (by rw [kc,HCE.out]; rfl),by rw [HCE.out]; rfl⟩⟩ (blk_setCells kr (by rw [kc,HCE.out]; rfl)) fun j hne _ _ h=>PrsΨ.store HWB.out j _ hne h
   ·
    intro val wx hg hd hb hs K hK
    generalize hρ:rhoV _ _ val=ρ
    have cc:∀ u,ρ (.const u)=u:=fun u=>by rw [← hρ]; rfl
    have ff:∀ u,ρ (.func u)=.func (.func u) #[] #[]:=fun u=>by rw [← hρ]; rfl
    have r72:ρ (.tmp 72)=val 5:=by rw [← hρ]; rfl
    have p5:=hd 5 rfl rfl
    obtain ⟨Ad,cd,hde,_⟩:=Row8.form p5
    have p5:Row8 w9.heap.size wx (val 5) z:=p5
    rw [hde] at r72 p5
    clear hρ hd hb hs hde
    refine ifv rfl ?_
    go_simp
    exact hK _ _ ⟨Upd.refl _ _,id⟩ p5 fun _ _ _ _ h=>h
   ·
    intro val wx hg hd hb hs K hK
    generalize hρ:rhoV _ _ val=ρ
    have cc:∀ u,ρ (.const u)=u:=fun u=>by rw [← hρ]; rfl
    have ff:∀ u,ρ (.func u)=.func (.func u) #[] #[]:=fun u=>by rw [← hρ]; rfl
    clear hρ hd hb hs
    refine ifv rfl ?_
    go_simp
    exact hK _ _ (⟨Upd.refl _ _,id⟩) rfl fun _ _ _ _ h=>h
  ·intro val w10 h10
   rw [if_neg (by decide)] at h10
   obtain ⟨⟨hu,_⟩,h10⟩:=h10
   have k6:Blk w10 w.heap.size 76 C:=h10 6 (by decide) fun _ _=>rfl
   have p7:Row8 w9.heap.size w10 (val 7) z:=h10 7 (by decide) fun _ _=>rfl
   have h8:val 8=.int .i64 0:=h10 8 (by decide) fun _ _=>rfl
   have HU:=Lib.hid (show Upd (fun j=>j=w.heap.size) w9 w10 from ⟨hu.os,hu.tape,hu.output,hu.size,hu.block⟩)
   have HK6:=Lib.hid k6
   have HP7:=Lib.hid p7
   clear hu k6 p7 h10
   simp only [putAll,h8]
   simp only [Act.put,List.setIfInBounds_toArray,List.set_cons_succ,List.set_cons_zero]
   go_wp2_with fail
   refine bodyPost_ret_by (res_hd rfl _ rfl HK6.out (by rw [HCE.out]; rfl)) rfl ?_
   have hsz:=HKQ.out.lt
   refine ⟨dv,val 7,?_,?_,?_,fun j hj e=>?_,(HBQ.out.trans (HB9.out.mono HBQ.out.size)).trans (HU.out.below (B:=w.heap.size) (fun j hj=>by omega) (Nat.le_of_lt HWB.out))⟩
   ·rw [HLET dv,HCE.out]; kernel_rfl
   ·have hy2:(hdF x).opts=y:=by rw [HY.out,HM.out]; rfl
    rw [hy2]
    exact own_base (Row8.keep (I:=fun k=>k≠w.heap.size) HR9.out (Upd.same HU.out fun j hj hi=>hi hj) fun k hk e=>by have:=(HR9.out.lt hk).1; omega) HBQ.out.size
   ·show Row8 w.heap.size w10 (val 7) (partF x m t)
    rw [← HZ.out]
    exact own_base HP7.out (Nat.le_of_lt HWB.out)
   ·have:=(HR9.out.lt hj).2
    have:=(HP7.out.lt e).1
    omega
theorem parse_any (A:Option Addr) (n c:Nat) (x:By) (I:Nat→Prop) (w:World) (h:Reads w I 1 A n (bytesV x)) (hn:x.length=n) (hc:n≤c) (hsm:n≤1000000) :
  Calls Tryz.prog 33 #[.slice A n c] w (PrsPost w (prsF x)):=by
 by_cases h0:wrongF x=0
 ·have e:prsF x=(hdF x,partF x (sizeF x) (lenF x),0):=by unfold prsF; rw [if_pos h0]
  rw [e]
  exact parse_yes A n c x I w h hn hc hsm h0
 ·exact parse_no A n c x I w h hn hc hsm h0
end Go.Proofs.YthlommalbkhcjaaGreat
