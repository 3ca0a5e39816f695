/- Icmp: plain law of messages. -/
import Derived.Test.YthlommalbkhcjaaGreatNm09
import Derived.Test.YthlommalbkhcjaaGreatNm08
import Derived.Test.YthlommalbkhcjaaGreatNm04
import Derived.Test.YthlommalbkhcjaaGreatNm01
import Derived.Test.YthlommalbkhcjaaGreatNm05
import Derived.Deep.DeepCutAuto
import Derived.Deep.CutBlock
import Derived.Deep.RegionWith
import Derived.Laws.IdiomCopy
namespace Go.Proofs.YthlommalbkhcjaaGreat
open Go.RowKit Go.Sort Go.BigFrame
def hdC (h:Hd) (v:Value):Array Value:=#[.int .u8 (h.tos:Int),.int .u16 (h.id:Int),.bool h.evil,.bool h.df,.bool h.mf,.int .i64 h.off,.int .u8 (h.ttl:Int),.int .u8 (h.proto:Int),.int .u32 (h.src:Int),.int .u32 (h.dst:Int),v]
theorem hdV_eq (h:Hd) (v:Value):hdV h v=.agg (hdC h v):=rfl
set_option maxRecDepth 20000 in
set_option maxHeartbeats 1600000 in
theorem may_any (h:Hd) (v:Value) (I:Nat→Prop) (w:World) (hv:Sl8 w I v h.opts) (hsm:h.opts.length≤1000000) :
  Calls Tryz.prog 146 #[hdV h v] w fun e w'=>e=.returned (.bool (mayH h))∧Below w.heap.size w w':=by
 obtain ⟨A,c,rfl,hc,hr⟩:=hv
 have hb0:Below w.heap.size w (w.alloc (.cells (hdC h (.slice A h.opts.length c)) 76)):=(Below.refl _ _).alloc (Nat.le_refl _) _
 have hk0:=Blk.new w 76 (hdC h (.slice A h.opts.length c))
 have HO:=Lib.hid (options_any (.slice A h.opts.length c) h.opts (fun k=>I k∧k < w.heap.size) _ ⟨A,c,rfl,hc,hr.lt.keep (Same.ofBelow hb0 fun k hk=>hk.2)⟩ hsm)
 have HB0:=Lib.hid hb0
 have HK0:=Lib.hid hk0
 obtain ⟨G,hG⟩:∃ G,G=goodF h.opts:=⟨_,rfl⟩
 obtain ⟨M,hM⟩:∃ M,M=mayH h:=⟨_,rfl⟩
 obtain ⟨n,hn⟩:∃ n,n=h.opts.length:=⟨_,rfl⟩
 unfold OptPost at HO
 rw [← hM]
 unfold mayH at hM
 rw [← hG] at HO hM
 rw [← hn] at HO hM HB0 HK0 hsm ⊢
 unfold hdC at HO HB0 HK0
 unfold hdV
 have HM:=Lib.hid hM
 clear hb0 hk0 hr hc hG hM hn
 go_enter Tryz.func146,Tryz.ntmps146
 go_wp2_with fail
 refine HO.out.mono ?_
 rintro e w1 ⟨u,rfl,_,hb1⟩
 have hk1:=HK0.out.below hb1 HK0.out.lt
 have g5:w1.cell? ⟨w.heap.size,5,none⟩=some (.int .i64 h.off):=hk1.cell 5
 have g10:w1.cell? ⟨w.heap.size,10,none⟩=some (.slice A n c):=hk1.cell 10
 have HB1:=Lib.hid (HB0.out.trans (hb1.mono HB0.out.size))
 clear hb1 hk1
 cases G with
 | false =>
   go_wp2_with fail
   go_ret
   exact ⟨by rw [HM.out]; rfl,HB1.out⟩
 | true =>
   obtain ⟨r,hr⟩:∃ r,r=n % 4:=⟨_,rfl⟩
   have hrm:((n:Int).tmod 4)=(r:Int):=by rw [hr]; exact (Int.ofNat_tmod n 4).symm
   by_cases c1:n≤40
   ·by_cases c2:n % 4=0
    ·have c2b:(((n:Int).tmod 4) == 0)=true:=by rw [hrm,hr,c2]; rfl
     by_cases c3:0≤h.off
     ·go_wp2_with fail
      go_ret
      exact ⟨by rw [HM.out]; first | (simp [c1,c2]; done) | (simp [c1,c2]; omega),HB1.out⟩
     ·go_wp2_with fail
      go_ret
      exact ⟨by rw [HM.out]; first | (simp [c1,c2]; done) | (simp [c1,c2]; omega),HB1.out⟩
    ·go_wp2_with fail
     go_ret
     exact ⟨by rw [HM.out]; simp [c1,c2],HB1.out⟩
   ·go_wp2_with fail
    go_ret
    exact ⟨by rw [HM.out]; simp [c1],HB1.out⟩
def sizeH (h:Hd):Nat:=if mayH h=true then 20+h.opts.length else 0
set_option maxRecDepth 20000 in
set_option maxHeartbeats 1600000 in
theorem size_any (h:Hd) (v:Value) (I:Nat→Prop) (w:World) (hv:Sl8 w I v h.opts) (hsm:h.opts.length≤1000000) :
  Calls Tryz.prog 97 #[hdV h v] w fun e w'=>e=.returned (.int .i64 (sizeH h:Int))∧Below w.heap.size w w':=by
 have hb0:Below w.heap.size w (w.alloc (.cells (hdC h v) 76)):=(Below.refl _ _).alloc (Nat.le_refl _) _
 have hk0:=Blk.new w 76 (hdC h v)
 have HO:=Lib.hid (may_any h v (fun k=>I k∧k < w.heap.size) _ (hv.lt.keep (Same.ofBelow hb0 fun k hk=>hk.2)) hsm)
 obtain ⟨A,c,rfl,hc,hr⟩:=hv
 have HB0:=Lib.hid hb0
 have HK0:=Lib.hid hk0
 obtain ⟨M,hM⟩:∃ M,M=sizeH h:=⟨_,rfl⟩
 obtain ⟨G,hG⟩:∃ G,G=mayH h:=⟨_,rfl⟩
 rw [← hM]
 unfold sizeH at hM
 rw [← hG] at HO hM
 obtain ⟨n,hn⟩:∃ n,n=h.opts.length:=⟨_,rfl⟩
 rw [← hn] at HO hM HB0 HK0 hsm ⊢
 unfold hdC at HO HB0 HK0
 unfold hdV at HO ⊢
 have HM:=Lib.hid hM
 clear hb0 hk0 hr hc hM hn hG
 go_enter Tryz.func97,Tryz.ntmps97
 go_wp2_with fail
 refine HO.out.mono ?_
 rintro e w1 ⟨rfl,hb1⟩
 have hk1:=HK0.out.below hb1 HK0.out.lt
 have g10:w1.cell? ⟨w.heap.size,10,none⟩=some (.slice A n c):=hk1.cell 10
 have HB1:=Lib.hid (HB0.out.trans (hb1.mono HB0.out.size))
 clear hb1 hk1
 cases G with
 | false =>
   go_wp2_with fail
   go_ret
   exact ⟨by rw [HM.out]; rfl,HB1.out⟩
 | true =>
   go_wp2_with fail
   go_ret
   refine ⟨?_,HB1.out⟩
   have hM:=HM.out
   rw [if_pos trivial] at hM
   rw [hM]
   rfl
end Go.Proofs.YthlommalbkhcjaaGreat
namespace Go.Proofs.YthlommalbkhcjaaGreat
open Go.RowKit Go.Sort Go.BigFrame
theorem part_le (x:By) (a b:Nat):(partF x a b).length≤x.length:=by unfold partF; rw [List.length_drop,List.length_take]; omega
theorem prs_len (x:By):(prsF x).2.1.length≤x.length∧(prsF x).1.opts.length≤x.length:=by
 unfold prsF
 split
 ·exact ⟨part_le _ _ _,by unfold hdF; exact part_le _ _ _⟩
 ·exact ⟨Nat.zero_le _,Nat.zero_le _⟩
theorem hd_var {B:Nat} {w w1:World} (hb:Below B w w1) (hB:B≤w1.heap.size) (h:Hd) (A:Option Addr) (n c:Nat):∃ w2,(Instr.storeAt 76 (.pointer (some ⟨w1.heap.size,0,none⟩)) (hdV h (.slice A n c))).run Tryz.prog (w1.alloc (.cells #[.int .u8 0,.int .u16 0,.bool false,.bool false,.bool false,.int .i64 0,.int .u8 0,.int .u8 0,.int .u32 0,.int .u32 0,.slice none 0 0] 76))=.ok () w2∧Below B w w2∧Below w1.heap.size w1 w2∧Blk w2 w1.heap.size 76 (hdC h (.slice A n c)) :=
 ⟨_,hd_store (vs:=hdC h (.slice A n c)) (Blk.new w1 _ _) rfl rfl (by simp [hdC,Value.oneCell']),below_setCells hB _ 0 _ (hb.alloc hB _),below_setCells (Nat.le_refl _) _ 0 _ ((Below.refl _ _).alloc (Nat.le_refl _) _),blk_setCells (Blk.new w1 _ _) rfl⟩
theorem st8 {w:World} {g i:Nat} {u:Value} (hu:w.cell? ⟨g,i,none⟩=some u) (hf:w.frozen? ⟨g,i,none⟩=false) (b:Int):(Instr.storeAt 5 (.pointer (some ⟨g,i,none⟩)) (.int .u8 b)).run Tryz.prog w=.ok () (w.setCell ⟨g,i,none⟩ (.int .u8 b)):=by
 simp [go_sem,hu,hf]
theorem ld8s {w:World} {g i:Nat} {A:Option Addr} {n c:Nat} (hu:w.cell? ⟨g,i,none⟩=some (.slice A n c)):(Instr.loadAt 61 (.pointer (some ⟨g,i,none⟩))).run Tryz.prog w=.ok (.slice A n c) w:=by
 simp [go_sem,hu]
theorem part_lt (x:By) (a b k:Nat) (h:b - a≤k):getF (partF x a b) < 256 ^ k:=by
 refine Nat.lt_of_lt_of_le (getF_lt _) (Nat.pow_le_pow_right (by decide) ?_)
 unfold partF
 rw [List.length_drop,List.length_take]
 omega
theorem hdF_ok (x:By):(hdF x).ok:=by
 refine ⟨UInt8.toNat_lt _,?_,UInt8.toNat_lt _,UInt8.toNat_lt _,?_,?_⟩
 ·exact part_lt x 4 6 2 (by decide)
 ·exact part_lt x 12 16 4 (by decide)
 ·exact part_lt x 16 20 4 (by decide)
theorem prs_ok (x:By):(prsF x).1.ok:=by
 unfold prsF
 split
 ·exact hdF_ok x
 ·exact (show hd0.ok from ⟨by decide,by decide,by decide,by decide,by decide,by decide⟩)
theorem ld_u32s {w:World} {g i:Nat} {z:Int} (hu:w.cell? ⟨g,i,none⟩=some (.int .u32 z)):(Instr.loadAt 35 (.pointer (some ⟨g,i,none⟩))).run Tryz.prog w=.ok (.int .u32 z) w:=by
 simp [go_sem,hu]
theorem ld_u8s {w:World} {g i:Nat} {z:Int} (hu:w.cell? ⟨g,i,none⟩=some (.int .u8 z)):(Instr.loadAt 5 (.pointer (some ⟨g,i,none⟩))).run Tryz.prog w=.ok (.int .u8 z) w:=by
 simp [go_sem,hu]
theorem row_sl {B:Nat} {w:World} {v:Value} {x:By} (h:Row8 B w v x):Sl8 w (fun _=>True) v x:=h.sl.mono fun _ _=>trivial
theorem grown_none {w w2:World} (h:Below w.heap.size w w2):w.grownBy w2 none:=⟨h.os,h.tape,h.output,h.size,fun k hk _=>h.block k hk⟩
def optH (o:By):Hd:=⟨0,0,false,false,false,0,0,0,0,0,o⟩
theorem st_int {w:World} {g i:Nat} {u:Value} (hu:w.cell? ⟨g,i,none⟩=some u) (hf:w.frozen? ⟨g,i,none⟩=false) (z:Int):(Instr.storeAt 3 (.pointer (some ⟨g,i,none⟩)) (.int .i64 z)).run Tryz.prog w=.ok () (w.setCell ⟨g,i,none⟩ (.int .i64 z)):=by
 simp [go_sem,hu,hf]
theorem st_true {w:World} {g i:Nat} {u:Value} (hu:w.cell? ⟨g,i,none⟩=some u) (hf:w.frozen? ⟨g,i,none⟩=false):(Instr.storeAt 4 (.pointer (some ⟨g,i,none⟩)) (.bool true)).run Tryz.prog w=.ok () (w.setCell ⟨g,i,none⟩ (.bool true)):=by
 simp [go_sem,hu,hf]
theorem st_8s {w:World} {g i:Nat} {u:Value} (hu:w.cell? ⟨g,i,none⟩=some u) (hf:w.frozen? ⟨g,i,none⟩=false) (A:Option Addr) (n c:Nat):(Instr.storeAt 61 (.pointer (some ⟨g,i,none⟩)) (.slice A n c)).run Tryz.prog w=.ok () (w.setCell ⟨g,i,none⟩ (.slice A n c)):=by
 simp [go_sem,hu,hf]
theorem ld_int {w:World} {a:Addr} {z:Int} (hu:w.cell? a=some (.int .i64 z)):(Instr.loadAt 3 (.pointer (some a))).run Tryz.prog w=.ok (.int .i64 z) w:=by
 simp [go_sem,hu]
theorem res_hd1 {w:World} {g:Nat} {cs:Array Value} {fn:Func} {p u:Tmp} (hf:fn.results=#[.cell p 76,.tmp u]) (tmps:Array Value) (hp:tmps.getD p undef=.pointer (some ⟨g,0,none⟩)) (h:Blk w g 76 cs) (hc:cs.size=11) :
  (results fn tmps).run Tryz.prog w=.ok (.tuple #[.agg cs,tmps.getD u undef]) w:=by
 have hl:=run_loadVar_mid (P:=Tryz.prog) w g 0 76 cs.toList _ (blk_range h) Tryz.underlying76 rfl (by simpa [hc] using hd_info)
 have e1:tmps[p]?.getD undef=.pointer (some ⟨g,0,none⟩):=by simpa using hp
 simp only [results,hf]
 simp [Result.andThen,e1,asAddr,hl]
theorem ld_bool {w:World} {a:Addr} {b:Bool} (hu:w.cell? a=some (.bool b)):(Instr.loadAt 4 (.pointer (some a))).run Tryz.prog w=.ok (.bool b) w:=by
 simp [go_sem,hu]
theorem sl_mid (wx:World) (A:Option Addr) (n c a b:Nat) (ha:a≤b) (hb:b≤c):(Instr.slice 61 (.slice A n c) (some (.int .i64 (a:Int))) (some (.int .i64 (b:Int))) (some (.int .i64 (b:Int)))).run Tryz.prog wx=.ok (.slice (if b=a then A else A.map (·.add a)) (b - a) (b - a)) wx:=by
 rw [run_slice_lhm wx _ _ _ _ u8elem .i64 .i64 .i64 _ _ _ (by omega) (by omega) (by omega) (by omega),u8elem2,u8size]
 by_cases h0:b=a
 ·simp [Result.andThen,sliced,h0]
 ·simp [Result.andThen,sliced,h0]
theorem cut_mid {w:World} {I:Nat→Prop} {A:Option Addr} {x:By} {a b:Nat} (h:Reads w I 1 A x.length (bytesV x)) (hab:a≤b) (hb:b≤x.length):Sl8 w I (.slice (if b=a then A else A.map (·.add a)) (b - a) (b - a)) (partF x a b):=by
 have hl:(x.take b).length=b:=by rw [List.length_take]; omega
 have h1:Reads w I 1 A (x.take b).length (bytesV (x.take b)):=by
  rw [hl]
  exact reads_take h hb
 have h2:=cut_lo (k:=a) (cap:=b) h1 (by rw [hl]; exact hab) (by rw [hl]; omega)
 rw [hl] at h2
 exact h2
theorem cell_lt {w:World} {p:Addr} {u:Value} (h:w.cell? p=some u):p.block < w.heap.size:=World.block_lt_of_cell? w p h
section
variable {B:Nat} {w:World} {v:Value} {x:By}
theorem Row8.blk (h:Row8 B w v x) (hx:0 < x.length):∃ g cap,v=.slice (some ⟨g,0,none⟩) x.length cap∧x.length≤cap∧B≤g∧∃ cur,Blk w g 5 cur∧∀ (i:Nat) (u:Value),(bytesV x)[i]?=some u→cur[i]?=some u:=by
 obtain ⟨A,c,rfl,hc⟩:=h.form
 rcases h.2 with ⟨h2,_⟩ | ⟨g2,c2,cur,h2,h3,h4,h5,h6,h7,h8⟩
 ·injection h2 with _ h2 _
  omega
 ·injection h2 with h2 _ hc2
  subst h2
  refine ⟨g2,c,rfl,hc,(Row8.lt h (g:=g2) rfl).1,cur,h4,fun i u hi=>?_⟩
  rw [← h8,List.getElem?_take] at hi
  split at hi
  ·simpa using hi
  ·cases hi
theorem Row8.set {g n cap i:Nat} {b:UInt8} (h:Row8 B w (.slice (some ⟨g,0,none⟩) n cap) x):Row8 B (w.setCell ⟨g,i,none⟩ (.int .u8 (b.toNat:Int))) (.slice (some ⟨g,0,none⟩) n cap) (x.set i b):=by
 have e:bytesV (x.set i b)=(bytesV x).set i (.int .u8 (b.toNat:Int)):=by simp [bytesV,List.map_set]
 have hl:(x.set i b).length=x.length:=List.length_set
 unfold Row8
 rw [e,hl]
 refine ⟨by rw [List.length_set]; exact h.1,.inr ?_⟩
 rcases h.2 with ⟨h2,_⟩ | ⟨g2,c,cur,h2,h3,h4,h5,h6,h7,h8⟩
 ·cases h2
 ·injection h2 with h2 hn hc
  injection h2 with h2
  injection h2 with h2
  subst h2
  subst hc
  subst hn
  refine ⟨g,cap,cur.setIfInBounds i (.int .u8 (b.toNat:Int)),rfl,h3,Blk.set_ (t:=5) (cs:=cur) h4 i _,h5,h6,by rw [Array.size_setIfInBounds]; exact h7,?_⟩
  rw [Array.toList_setIfInBounds,List.take_set,h8]
end
end Go.Proofs.YthlommalbkhcjaaGreat
namespace Go.Proofs.YthlommalbkhcjaaGreat
theorem flat_steps_le:∀ (n:Nat) (x:By),x.length≤n→(flatF (steps x)).length≤x.length
 | 0,x,h=>by
   obtain rfl:x=[]:=List.eq_nil_of_length_eq_zero (by omega)
   simp [steps_nil,flatF]
 | n+1,[],_=>by simp [steps_nil,flatF]
 | n+1,k :: r,h=>by
   rw [steps_cons]
   by_cases h0:k=0
   ·rw [if_pos h0]; simp [flatF]
   rw [if_neg h0]
   by_cases h1:stepN (k :: r)=0
   ·rw [if_pos h1]; simp [flatF]
   rw [if_neg h1]
   have hle:=stepN_le (k :: r)
   have ih:=flat_steps_le n ((k :: r).drop (stepN (k :: r))) (by rw [List.length_drop]; simp at h ⊢; omega)
   rw [List.length_drop] at ih
   have e:flatF ((k,(k :: r).take (stepN (k :: r))) :: steps ((k :: r).drop (stepN (k :: r))))=(k :: r).take (stepN (k :: r))++flatF (steps ((k :: r).drop (stepN (k :: r)))):=rfl
   rw [e,List.length_append,List.length_take]
   omega
theorem flat_filter_le (p:UInt8 × By→Bool):∀ L:List (UInt8 × By),(flatF (L.filter p)).length≤(flatF L).length
 | []=>Nat.le_refl _
 | s :: L=>by
   have ih:=flat_filter_le p L
   have e:flatF (s :: L)=s.2++flatF L:=rfl
   rw [e,List.length_append]
   cases h:p s with
   | true =>
     rw [List.filter_cons_of_pos h]
     have e2:flatF (s :: L.filter p)=s.2++flatF (L.filter p):=rfl
     rw [e2,List.length_append]
     omega
   | false =>
     rw [List.filter_cons_of_neg (by simp [h])]
     omega
theorem cop_le {x:By} (h4:x.length % 4=0):(copF x).length≤x.length∧(copF x).length % 4=0:=by
 unfold copF
 split
 ·refine ⟨?_,padF_len _⟩
  have h1:=flat_filter_le (fun s=>decide (128≤s.1)) (steps x)
  have h2:=flat_steps_le x.length x (Nat.le_refl _)
  unfold padF highF
  simp only [List.length_append,List.length_replicate]
  omega
 ·simp
def pcF (h:Hd) (L m at_:Nat):Hd × Nat :=
 let o:=if 0 < at_ then copF h.opts else h.opts
 let room:=m - (20+o.length)
 if room < L - at_ then ({ h with off:=h.off+((at_ / 8:Nat):Int),opts:=o,mf:=true },room / 8 * 8) else ({ h with off:=h.off+((at_ / 8:Nat):Int),opts:=o },L - at_)
theorem may_opts {h:Hd} (hm:mayH h=true):goodF h.opts=true∧h.opts.length≤40∧h.opts.length % 4=0∧0≤h.off∧h.off≤8191:=by
 unfold mayH at hm
 simp only [Bool.and_eq_true,decide_eq_true_eq] at hm
 exact ⟨hm.1.1.1.1,hm.1.1.1.2,hm.1.1.2,hm.1.2,hm.2⟩
theorem pc_opts (h:Hd) (L m at_:Nat):(pcF h L m at_).1.opts=if 0 < at_ then copF h.opts else h.opts:=by
 unfold pcF
 generalize (if 0 < at_ then copF h.opts else h.opts)=o
 simp only
 split <;> rfl
theorem pc_off (h:Hd) (L m at_:Nat):(pcF h L m at_).1.off=h.off+((at_ / 8:Nat):Int):=by
 unfold pcF
 generalize (if 0 < at_ then copF h.opts else h.opts)=o
 simp only
 split <;> rfl
theorem pc_pos {h:Hd} (hm:mayH h=true) {L m at_:Nat} (h68:68≤m) (hlt:at_ < L):0 < (pcF h L m at_).2∧(pcF h L m at_).2≤L - at_∧((pcF h L m at_).2 % 8=0∨(pcF h L m at_).2=L - at_)∧20+(pcF h L m at_).1.opts.length+(pcF h L m at_).2≤m:=by
 obtain ⟨_,h40,h4,_⟩:=may_opts hm
 obtain ⟨hc,_⟩:=cop_le h4
 rw [pc_opts]
 unfold pcF
 simp only
 have ho:(if 0 < at_ then copF h.opts else h.opts).length≤40:=by split <;> omega
 generalize (if 0 < at_ then copF h.opts else h.opts)=o at ho
 by_cases hr:m - (20+o.length) < L - at_
 ·rw [if_pos hr]
  simp only
  omega
 ·rw [if_neg hr]
  exact ⟨by simp only; omega,by simp only; omega,.inr rfl,by simp only; omega⟩
theorem pc_may {h:Hd} (hm:mayH h=true) {L m at_:Nat} (ho:(pcF h L m at_).1.off≤8191):mayH (pcF h L m at_).1=true:=by
 obtain ⟨hg,h40,h4,h0,_⟩:=may_opts hm
 obtain ⟨hc,hc4⟩:=cop_le h4
 have hof:=pc_off h L m at_
 have hop:=pc_opts h L m at_
 unfold mayH
 simp only [Bool.and_eq_true,decide_eq_true_eq]
 rw [hop]
 refine ⟨⟨⟨⟨?_,?_⟩,?_⟩,?_⟩,ho⟩
 ·split
  ·exact good_cop _
  ·exact hg
 ·split <;> omega
 ·split <;> omega
 ·rw [hof]; omega
end Go.Proofs.YthlommalbkhcjaaGreat
namespace Go.Proofs.YthlommalbkhcjaaGreat
def pcsF (h:Hd) (L m:Nat):Nat→Nat→List (Nat × Hd × Nat)
 | 0,_=>[]
 | f+1,at_=>if at_ < L then (at_,pcF h L m at_) :: pcsF h L m f (at_+(pcF h L m at_).2) else []
theorem pcs_end (h:Hd) (L m f at_:Nat) (hl:L≤at_):pcsF h L m f at_=[]:=by
 cases f with
 | zero=>rfl
 | succ f=>unfold pcsF; rw [if_neg (by omega)]
theorem pcs_cons (h:Hd) (L m f at_:Nat) (hl:at_ < L):pcsF h L m (f+1) at_=(at_,pcF h L m at_) :: pcsF h L m f (at_+(pcF h L m at_).2):=by
 rw [pcsF,if_pos hl]
theorem pcs_fuel {h:Hd} (hm:mayH h=true) {L m:Nat} (h68:68≤m):∀ f g at_,L - at_≤f→L - at_≤g→pcsF h L m f at_=pcsF h L m g at_
 | 0,g,at_,h1,_=>by rw [pcs_end h L m 0 at_ (by omega),pcs_end h L m g at_ (by omega)]
 | f+1,0,at_,_,h2=>by rw [pcs_end h L m (f+1) at_ (by omega),pcs_end h L m 0 at_ (by omega)]
 | f+1,g+1,at_,h1,h2=>by
   by_cases hl:at_ < L
   ·obtain ⟨hp,_⟩:=pc_pos hm h68 hl
    rw [pcs_cons _ _ _ _ _ hl,pcs_cons _ _ _ _ _ hl,pcs_fuel hm h68 f g _ (by omega) (by omega)]
   ·rw [pcs_end _ _ _ _ _ (by omega),pcs_end _ _ _ _ _ (by omega)]
end Go.Proofs.YthlommalbkhcjaaGreat
namespace Go.Proofs.YthlommalbkhcjaaGreat
open Go.RowKit
theorem prs_may {x:By} (h:(prsF x).2.2=0):mayH (prsF x).1=true∧wrongF x=0:=by
 have h0:wrongF x=0:=by
  by_cases e:wrongF x=0
  ·exact e
  ·unfold prsF at h
   rw [if_neg e] at h
   exact absurd h e
 refine ⟨?_,h0⟩
 obtain ⟨h1,h2,h3,h4,h5⟩:=wrong0 h0
 have hg:goodF (partF x 20 (sizeF x))=true:=by
  have:=h0
  unfold wrongF at this
  repeat' split at this
  all_goals first | assumption | (cases this; done) | omega
 have e:(prsF x).1=hdF x:=by unfold prsF; rw [if_pos h0]
 rw [e]
 have hl:(partF x 20 (sizeF x)).length=sizeF x - 20:=part_len h3
 have hs:sizeF x≤60:=by unfold sizeF; omega
 have hs4:sizeF x % 4=0:=by unfold sizeF; omega
 unfold mayH hdF
 simp only [hg,Bool.true_and,Bool.and_eq_true,decide_eq_true_eq]
 refine ⟨⟨⟨?_,?_⟩,?_⟩,?_⟩ <;> omega
def fitsF (x:By) (m:Int):Bool × Nat :=
 if m < 68∨65535 < m then (false,2) else if (prsF x).2.2≠0 then (false,4) else (decide (((20+(prsF x).1.opts.length+(prsF x).2.1.length:Nat):Int)≤m),0)
theorem prs_size {x:By} (h:(prsF x).2.2=0):sizeH (prsF x).1=20+(prsF x).1.opts.length:=by
 unfold sizeH
 rw [if_pos (prs_may h).1]
end Go.Proofs.YthlommalbkhcjaaGreat
namespace Go.Proofs.YthlommalbkhcjaaGreat
open Go.RowKit
def pbF (p:By) (q:Nat × Hd × Nat):By:=bytesF q.2.1 (partF p q.1 (q.1+q.2.2))
def cutF (x:By) (m:Int):List By × Nat :=
 if (fitsF x m).2≠0 then ([],(fitsF x m).2)
 else if (fitsF x m).1=true then ([x.take (20+(prsF x).1.opts.length+(prsF x).2.1.length)],0)
 else if (prsF x).1.df=true then ([],7)
 else if ∃ q ∈ pcsF (prsF x).1 (prsF x).2.1.length m.toNat (prsF x).2.1.length 0,8191 < q.2.1.off then ([],3)
 else ((pcsF (prsF x).1 (prsF x).2.1.length m.toNat (prsF x).2.1.length 0).map (pbF (prsF x).2.1),0)
theorem pc_mf (h:Hd) (L m a:Nat) (hl:a < L) (_:68≤m):(pcF h L m a).1={ h with off:=h.off+((a / 8:Nat):Int),opts:=if 0 < a then copF h.opts else h.opts,mf:=h.mf || decide (a+(pcF h L m a).2 < L) }:=by
 unfold pcF
 generalize (if 0 < a then copF h.opts else h.opts)=o
 simp only
 by_cases hr:m - (20+o.length) < L - a
 ·rw [if_pos hr]
  simp only
  rw [show decide (a+(m - (20+o.length)) / 8 * 8 < L)=true from by simp; omega]
  simp
 ·rw [if_neg hr]
  simp only
  rw [show decide (a+(L - a) < L)=false from by simp; omega]
  simp
theorem part_len2 {p:By} {a n:Nat} (h:a+n≤p.length):(partF p a (a+n)).length=n:=by
 unfold partF
 rw [List.length_drop,List.length_take]
 omega
theorem pcs_len (h:Hd) (L m:Nat):∀ f a,(pcsF h L m f a).length≤f
 | 0,_=>Nat.le_refl _
 | f+1,a=>by
   unfold pcsF
   split
   ·exact Nat.succ_le_succ (pcs_len h L m f _)
   ·exact Nat.zero_le _
theorem cut_len (x:By) (m:Int):(cutF x m).1.length≤x.length+1:=by
 unfold cutF
 have:=pcs_len (prsF x).1 (prsF x).2.1.length m.toNat (prsF x).2.1.length 0
 have:=(prs_len x).1
 split
 ·exact Nat.zero_le _
 split
 ·simp
 split
 ·exact Nat.zero_le _
 split
 ·exact Nat.zero_le _
 ·rw [List.length_map]; omega
theorem cut_eq {x:By} {m:Int} {fb:Bool} {fe:Nat} {g:Hd} {p:By} {f:Nat} (hF:(fb,fe)=fitsF x m) (hP:(g,p,f)=prsF x):cutF x m =
  if fe≠0 then ([],fe) else if fb=true then ([x.take (20+g.opts.length+p.length)],0) else if g.df=true then ([],7)
  else if ∃ q ∈ pcsF g p.length m.toNat p.length 0,8191 < q.2.1.off then ([],3) else ((pcsF g p.length m.toNat p.length 0).map (pbF p),0):=by
 unfold cutF
 rw [← hF,← hP]
theorem fits_ok {x:By} {m:Int} {fb:Bool} (hF:(fb,0)=fitsF x m):68≤m∧m≤65535∧(prsF x).2.2=0∧fb=decide (((20+(prsF x).1.opts.length+(prsF x).2.1.length:Nat):Int)≤m):=by
 unfold fitsF at hF
 split at hF
 ·cases hF
 split at hF
 ·cases hF
 ·injection hF with h1 h2
  exact ⟨by omega,by omega,by omega,h1⟩
theorem prs_whole {x:By} (h:(prsF x).2.2=0):20+(prsF x).1.opts.length+(prsF x).2.1.length≤x.length:=by
 obtain ⟨_,h0⟩:=prs_may h
 obtain ⟨h1,h2,h3,h4,h5⟩:=wrong0 h0
 have e:prsF x=(hdF x,partF x (sizeF x) (lenF x),0):=by unfold prsF; rw [if_pos h0]
 rw [e]
 have hl:(partF x 20 (sizeF x)).length=sizeF x - 20:=part_len h3
 have hl2:(partF x (sizeF x) (lenF x)).length=lenF x - sizeF x:=part_len h5
 simp only [hdF,hl,hl2]
 omega
end Go.Proofs.YthlommalbkhcjaaGreat
namespace Go.Proofs.YthlommalbkhcjaaGreat
open Go.RowKit Go.Sort Go.BigFrame
theorem frag_any (h:Hd) (A:Option Addr) (n c:Nat) (w:World) :
  Calls Tryz.prog 96 #[hdV h (.slice A n c)] w fun e w'=>e=.returned (.bool (fragH h))∧Below w.heap.size w w':=by
 have HB:=Lib.hid ((Below.refl w.heap.size w).alloc (Nat.le_refl _) (.cells (hdC h (.slice A n c)) 76))
 unfold hdC at HB
 unfold hdV fragH
 cases hm:h.mf with
 | true =>
   rw [hm] at HB
   clear hm
   go_enter Tryz.func96,Tryz.ntmps96
   go_wp2_with fail
   go_ret
   exact ⟨rfl,HB.out⟩
 | false =>
   rw [hm] at HB
   clear hm
   obtain ⟨b,hb⟩:∃ b,b=decide (0 < h.off):=⟨_,rfl⟩
   rw [← hb]
   have e:=hb.symm
   have HBB:=Lib.hid hb
   clear hb
   go_enter Tryz.func96,Tryz.ntmps96
   go_wp2_with fail
   go_ret
   exact ⟨rfl,HB.out⟩
def multiF (a:Nat):Bool:=decide (224 * 2 ^ 24≤a)
theorem multi_any (a:Nat) (w:World) :
  Calls Tryz.prog 163 #[.int .u32 (a:Int)] w fun e w'=>e=.returned (.bool (multiF a))∧w=w':=by
 obtain ⟨b,hb⟩:∃ b,b=multiF a:=⟨_,rfl⟩
 rw [← hb]
 have e:decide ((224:Int)≤(a:Int) / 16777216)=b:=by rw [hb]; unfold multiF; rw [decide_eq_decide]; omega
 clear hb
 go_enter Tryz.func163,Tryz.ntmps163
 go_wp2_with fail
 go_ret
 exact ⟨rfl,rfl⟩
theorem bit_any (b:Bool) (n:Nat) (w:World):Calls Tryz.prog 120 #[.bool b,.int .u64 (n:Int)] w fun e w'=>e=.returned (.int .u64 (bitF b n:Int))∧w=w':=by
 cases b with
 | true =>
   go_enter Tryz.func120,Tryz.ntmps120
   go_wp2_with fail
   go_ret
   exact ⟨rfl,rfl⟩
 | false =>
   go_enter Tryz.func120,Tryz.ntmps120
   go_wp2_with fail
   go_ret
   exact ⟨rfl,rfl⟩
end Go.Proofs.YthlommalbkhcjaaGreat
namespace Go.Proofs.YthlommalbkhcjaaGreat
structure Ic where
 ty:UInt8
 co:UInt8
 r0:UInt8
 r1:UInt8
 r2:UInt8
 r3:UInt8
 body:By
def ic0:Ic:=⟨0,0,0,0,0,0,[]⟩
def icW (m:Ic) (s0 s1:UInt8):By:=m.ty :: m.co :: s0 :: s1 :: m.r0 :: m.r1 :: m.r2 :: m.r3 :: m.body
def icB (m:Ic):By:=icW m (u8 (checkF (icW m 0 0) / 256)) (u8 (checkF (icW m 0 0)))
def icOf (b:By):Ic × Nat :=
 if b.length < 8∨totalF b≠65535 then (ic0,4) else (⟨b.getD 0 0,b.getD 1 0,b.getD 4 0,b.getD 5 0,b.getD 6 0,b.getD 7 0,b.drop 8⟩,0)
theorem icB_len (m:Ic):(icB m).length=8+m.body.length:=by unfold icB icW; simp; omega
def errT (t:UInt8):Bool:=t == 3 || t == 4 || t == 5 || t == 11 || t == 12
def emayH (h:Hd) (p:By):Bool:=!(decide (h.off≠0) || decide (h.src=0) || multiF h.src || multiF h.dst) && (decide (h.proto≠1) || (decide (8≤p.length) && !errT (p.getD 0 0)))
def emayF (x:By):Bool:=decide ((prsF x).2.2=0) && emayH (prsF x).1 (prsF x).2.1
def quoteF (x:By):By × Nat:=if (prsF x).2.2≠0 then ([],4) else (x.take (20+(prsF x).1.opts.length+min 8 (prsF x).2.1.length),0)
def errArg (k mtu:Int):Bool:=decide (k < 1) || decide (3 < k) || decide (mtu < 0) || decide (65535 < mtu) || (decide (k≠2) && decide (mtu≠0))
def errM (k:Int) (mtu:Nat) (q:By):Ic:=⟨if k=3 then 11 else 3,if k=2 then 4 else 0,0,0,u8 (mtu / 256),u8 mtu,q⟩
def errH (fr dt:Nat):Hd:={ hd0 with ttl:=64,proto:=1,src:=fr,dst:=dt }
def errF (k:Int) (x:By) (fr:Nat) (mtu:Int):By × Nat :=
 if errArg k mtu=true then ([],2) else if (prsF x).2.2≠0 then ([],4) else if emayF x=false then ([],7)
 else (bytesF (errH fr (prsF x).1.src) (icB (errM k mtu.toNat (quoteF x).1)),0)
def echoH (h:Hd) (p:By):Bool:=!fragH h && decide (h.proto=1) && decide ((icOf p).2=0) && ((icOf p).1.ty == 8) && ((icOf p).1.co == 0)
def echoF (x:By):Bool:=decide ((prsF x).2.2=0) && echoH (prsF x).1 (prsF x).2.1
def replyH (h:Hd):Hd:={ hd0 with tos:=h.tos,id:=h.id,df:=h.df,ttl:=64,proto:=1,src:=h.dst,dst:=h.src }
def replyF (x:By):By × Nat :=
 if (prsF x).2.2≠0 then ([],4) else if echoF x=false then ([],7) else (bytesF (replyH (prsF x).1) (icB { (icOf (prsF x).2.1).1 with ty:=0 }),0)
theorem errH_ok {fr dt:Nat} (h1:fr < 2 ^ 32) (h2:dt < 2 ^ 32):(errH fr dt).ok:=⟨by show 0 < 256; decide,by show 0 < 65536; decide,by show 64 < 256; decide,by show 1 < 256; decide,h1,h2⟩
theorem replyH_ok {h:Hd} (ok:h.ok):(replyH h).ok:=⟨ok.1,ok.2.1,by show 64 < 256; decide,by show 1 < 256; decide,ok.2.2.2.2.2,ok.2.2.2.2.1⟩
theorem errH_fits (fr dt:Nat) {p:By} (hp:p.length≤65515):fitsH (errH fr dt) p=true:=by
 unfold fitsH mayH errH hd0
 simp [goodF,steps,stepsF]
 omega
theorem replyH_fits (h:Hd) {p:By} (hp:p.length≤65515):fitsH (replyH h) p=true:=by
 unfold fitsH mayH replyH hd0
 simp [goodF,steps,stepsF]
 omega
theorem quote_len (x:By):(quoteF x).1.length≤68:=by
 unfold quoteF
 split
 ·simp
 ·rename_i h
  have hm:=(prs_may (by omega:(prsF x).2.2=0)).1
  obtain ⟨_,h40,_⟩:=may_opts hm
  simp only [List.length_take]
  omega
theorem err_fits (k:Int) (x:By) (fr:Nat) (mtu:Nat):fitsH (errH fr (prsF x).1.src) (icB (errM k mtu (quoteF x).1))=true:=by
 refine errH_fits _ _ ?_
 rw [icB_len]
 have:=quote_len x
 unfold errM
 simp only
 omega
theorem icOf_len {b:By} (h:(icOf b).2=0):(icOf b).1.body.length+8=b.length:=by
 unfold icOf at h ⊢
 split at h
 ·cases h
 ·rename_i hh
  rw [if_neg hh]
  simp
  omega
theorem echo_of {x:By} (h:echoF x=true):(prsF x).2.2=0∧(icOf (prsF x).2.1).2=0∧(prsF x).1.proto=1∧fragH (prsF x).1=false∧(icOf (prsF x).2.1).1.ty=8∧(icOf (prsF x).2.1).1.co=0:=by
 unfold echoF echoH at h
 simp only [Bool.and_eq_true,decide_eq_true_eq,Bool.not_eq_true',beq_iff_eq] at h
 exact ⟨h.1,h.2.1.1.2,h.2.1.1.1.2,h.2.1.1.1.1,h.2.1.2,h.2.2⟩
theorem prs_small {x:By} (h:(prsF x).2.2=0):20+(prsF x).1.opts.length+(prsF x).2.1.length≤65535:=by
 obtain ⟨_,h0⟩:=prs_may h
 obtain ⟨h1,h2,h3,h4,h5⟩:=wrong0 h0
 have e:prsF x=(hdF x,partF x (sizeF x) (lenF x),0):=by unfold prsF; rw [if_pos h0]
 rw [e]
 have hl:lenF x < 65536:=by
  have:=getF_lt (partF x 2 4)
  have hq:(partF x 2 4).length≤2:=by unfold partF; simp; omega
  have:256 ^ (partF x 2 4).length≤256 ^ 2:=Nat.pow_le_pow_right (by omega) hq
  unfold lenF
  omega
 have e1:(hdF x).opts.length=sizeF x - 20:=by
  show (partF x 20 (sizeF x)).length=_
  unfold partF
  simp
  omega
 have e2:(partF x (sizeF x) (lenF x)).length=lenF x - sizeF x:=by
  unfold partF
  simp
  omega
 show 20+(hdF x).opts.length+(partF x (sizeF x) (lenF x)).length≤65535
 rw [e1,e2]
 omega
theorem reply_len {x:By} (h:echoF x=true):8+(icOf (prsF x).2.1).1.body.length≤65515:=by
 obtain ⟨h0,h1,_⟩:=echo_of h
 have:=icOf_len h1
 have:=prs_small h0
 omega
end Go.Proofs.YthlommalbkhcjaaGreat
