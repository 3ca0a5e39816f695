/- Readings of what is asked: routes, the own address, MTUs, tokens. -/
import Derived.Test.YthlommalbkhcjaaGreatNq21
import Derived.Test.YthlommalbkhcjaaGreatNq20
import Derived.Test.YthlommalbkhcjaaGreatNq17
import Derived.Test.YthlommalbkhcjaaGreatNq02
import Derived.Test.YthlommalbkhcjaaGreatNq14
import Derived.Deep.DeepCutAuto
import Derived.Deep.CutBlock
import Derived.Deep.RegionWith
import Derived.Laws.IdiomCopy
namespace Go.Proofs.YthlommalbkhcjaaGreat
open Go.RowKit Go.Sort Go.BigFrame
def hdC (h:Hd) (v:Value):Array Value:=#[.int .u8 (h.tos:Int),.int .u16 (h.id:Int),.bool h.evil,.bool h.df,.bool h.mf,.int .i64 h.off,.int .u8 (h.ttl:Int),.int .u8 (h.proto:Int),.int .u32 (h.src:Int),.int .u32 (h.dst:Int),v]
theorem hdV_eq (h:Hd) (v:Value):hdV h v=.agg (hdC h v):=rfl
set_option maxRecDepth 20000 in
set_option maxHeartbeats 1600000 in
theorem may_any (h:Hd) (v:Value) (I:Nat→Prop) (w:World) (hv:Sl8 w I v h.opts) (hsm:h.opts.length≤1000000) :
  Calls Tryz.prog 146 #[hdV h v] w fun e w'=>e=.returned (.bool (mayH h))∧Below w.heap.size w w':=by
 obtain ⟨A,c,rfl,hc,hr⟩:=hv
 have hb0:Below w.heap.size w (w.alloc (.cells (hdC h (.slice A h.opts.length c)) 76)):=(Below.refl _ _).alloc (Nat.le_refl _) _
 have hk0:=Blk.new w 76 (hdC h (.slice A h.opts.length c))
 have HO:=Lib.hid (options_any (.slice A h.opts.length c) h.opts (fun k=>I k∧k < w.heap.size) _ ⟨A,c,rfl,hc,hr.lt.keep (Same.ofBelow hb0 fun k hk=>hk.2)⟩ hsm)
 have HB0:=Lib.hid hb0
 have HK0:=Lib.hid hk0
 obtain ⟨G,hG⟩:∃ G,G=goodF h.opts:=⟨_,rfl⟩
 obtain ⟨M,hM⟩:∃ M,M=mayH h:=⟨_,rfl⟩
 obtain ⟨n,hn⟩:∃ n,n=h.opts.length:=⟨_,rfl⟩
 unfold OptPost at HO
 rw [← hM]
 unfold mayH at hM
 rw [← hG] at HO hM
 rw [← hn] at HO hM HB0 HK0 hsm ⊢
 unfold hdC at HO HB0 HK0
 unfold hdV
 have HM:=Lib.hid hM
 clear hb0 hk0 hr hc hG hM hn
 go_enter Tryz.func146,Tryz.ntmps146
 go_wp2_with fail
 refine HO.out.mono ?_
 rintro e w1 ⟨u,rfl,_,hb1⟩
 have hk1:=HK0.out.below hb1 HK0.out.lt
 have g5:w1.cell? ⟨w.heap.size,5,none⟩=some (.int .i64 h.off):=hk1.cell 5
 have g10:w1.cell? ⟨w.heap.size,10,none⟩=some (.slice A n c):=hk1.cell 10
 have HB1:=Lib.hid (HB0.out.trans (hb1.mono HB0.out.size))
 clear hb1 hk1
 cases G with
 | false =>
   go_wp2_with fail
   go_ret
   exact ⟨by rw [HM.out]; rfl,HB1.out⟩
 | true =>
   obtain ⟨r,hr⟩:∃ r,r=n % 4:=⟨_,rfl⟩
   have hrm:((n:Int).tmod 4)=(r:Int):=by rw [hr]; exact (Int.ofNat_tmod n 4).symm
   by_cases c1:n≤40
   ·by_cases c2:n % 4=0
    ·have c2b:(((n:Int).tmod 4) == 0)=true:=by rw [hrm,hr,c2]; rfl
     by_cases c3:0≤h.off
     ·go_wp2_with fail
      go_ret
      exact ⟨by rw [HM.out]; first | (simp [c1,c2]; done) | (simp [c1,c2]; omega),HB1.out⟩
     ·go_wp2_with fail
      go_ret
      exact ⟨by rw [HM.out]; first | (simp [c1,c2]; done) | (simp [c1,c2]; omega),HB1.out⟩
    ·go_wp2_with fail
     go_ret
     exact ⟨by rw [HM.out]; simp [c1,c2],HB1.out⟩
   ·go_wp2_with fail
    go_ret
    exact ⟨by rw [HM.out]; simp [c1],HB1.out⟩
def sizeH (h:Hd):Nat:=if mayH h=true then 20+h.opts.length else 0
set_option maxRecDepth 20000 in
set_option maxHeartbeats 1600000 in
theorem size_any (h:Hd) (v:Value) (I:Nat→Prop) (w:World) (hv:Sl8 w I v h.opts) (hsm:h.opts.length≤1000000) :
  Calls Tryz.prog 97 #[hdV h v] w fun e w'=>e=.returned (.int .i64 (sizeH h:Int))∧Below w.heap.size w w':=by
 have hb0:Below w.heap.size w (w.alloc (.cells (hdC h v) 76)):=(Below.refl _ _).alloc (Nat.le_refl _) _
 have hk0:=Blk.new w 76 (hdC h v)
 have HO:=Lib.hid (may_any h v (fun k=>I k∧k < w.heap.size) _ (hv.lt.keep (Same.ofBelow hb0 fun k hk=>hk.2)) hsm)
 obtain ⟨A,c,rfl,hc,hr⟩:=hv
 have HB0:=Lib.hid hb0
 have HK0:=Lib.hid hk0
 obtain ⟨M,hM⟩:∃ M,M=sizeH h:=⟨_,rfl⟩
 obtain ⟨G,hG⟩:∃ G,G=mayH h:=⟨_,rfl⟩
 rw [← hM]
 unfold sizeH at hM
 rw [← hG] at HO hM
 obtain ⟨n,hn⟩:∃ n,n=h.opts.length:=⟨_,rfl⟩
 rw [← hn] at HO hM HB0 HK0 hsm ⊢
 unfold hdC at HO HB0 HK0
 unfold hdV at HO ⊢
 have HM:=Lib.hid hM
 clear hb0 hk0 hr hc hM hn hG
 go_enter Tryz.func97,Tryz.ntmps97
 go_wp2_with fail
 refine HO.out.mono ?_
 rintro e w1 ⟨rfl,hb1⟩
 have hk1:=HK0.out.below hb1 HK0.out.lt
 have g10:w1.cell? ⟨w.heap.size,10,none⟩=some (.slice A n c):=hk1.cell 10
 have HB1:=Lib.hid (HB0.out.trans (hb1.mono HB0.out.size))
 clear hb1 hk1
 cases G with
 | false =>
   go_wp2_with fail
   go_ret
   exact ⟨by rw [HM.out]; rfl,HB1.out⟩
 | true =>
   go_wp2_with fail
   go_ret
   refine ⟨?_,HB1.out⟩
   have hM:=HM.out
   rw [if_pos trivial] at hM
   rw [hM]
   rfl
end Go.Proofs.YthlommalbkhcjaaGreat
namespace Go.Proofs.YthlommalbkhcjaaGreat
open Go.RowKit Go.Sort Go.BigFrame
theorem part_le (x:By) (a b:Nat):(partF x a b).length≤x.length:=by unfold partF; rw [List.length_drop,List.length_take]; omega
theorem prs_len (x:By):(prsF x).2.1.length≤x.length∧(prsF x).1.opts.length≤x.length:=by
 unfold prsF
 split
 ·exact ⟨part_le _ _ _,by unfold hdF; exact part_le _ _ _⟩
 ·exact ⟨Nat.zero_le _,Nat.zero_le _⟩
theorem hd_var {B:Nat} {w w1:World} (hb:Below B w w1) (hB:B≤w1.heap.size) (h:Hd) (A:Option Addr) (n c:Nat):∃ w2,(Instr.storeAt 76 (.pointer (some ⟨w1.heap.size,0,none⟩)) (hdV h (.slice A n c))).run Tryz.prog (w1.alloc (.cells #[.int .u8 0,.int .u16 0,.bool false,.bool false,.bool false,.int .i64 0,.int .u8 0,.int .u8 0,.int .u32 0,.int .u32 0,.slice none 0 0] 76))=.ok () w2∧Below B w w2∧Below w1.heap.size w1 w2∧Blk w2 w1.heap.size 76 (hdC h (.slice A n c)) :=
 ⟨_,hd_store (vs:=hdC h (.slice A n c)) (Blk.new w1 _ _) rfl rfl (by simp [hdC,Value.oneCell']),below_setCells hB _ 0 _ (hb.alloc hB _),below_setCells (Nat.le_refl _) _ 0 _ ((Below.refl _ _).alloc (Nat.le_refl _) _),blk_setCells (Blk.new w1 _ _) rfl⟩
theorem st8 {w:World} {g i:Nat} {u:Value} (hu:w.cell? ⟨g,i,none⟩=some u) (hf:w.frozen? ⟨g,i,none⟩=false) (b:Int):(Instr.storeAt 5 (.pointer (some ⟨g,i,none⟩)) (.int .u8 b)).run Tryz.prog w=.ok () (w.setCell ⟨g,i,none⟩ (.int .u8 b)):=by
 simp [go_sem,hu,hf]
theorem ld8s {w:World} {g i:Nat} {A:Option Addr} {n c:Nat} (hu:w.cell? ⟨g,i,none⟩=some (.slice A n c)):(Instr.loadAt 61 (.pointer (some ⟨g,i,none⟩))).run Tryz.prog w=.ok (.slice A n c) w:=by
 simp [go_sem,hu]
theorem part_lt (x:By) (a b k:Nat) (h:b - a≤k):getF (partF x a b) < 256 ^ k:=by
 refine Nat.lt_of_lt_of_le (getF_lt _) (Nat.pow_le_pow_right (by decide) ?_)
 unfold partF
 rw [List.length_drop,List.length_take]
 omega
theorem hdF_ok (x:By):(hdF x).ok:=by
 refine ⟨UInt8.toNat_lt _,?_,UInt8.toNat_lt _,UInt8.toNat_lt _,?_,?_⟩
 ·exact part_lt x 4 6 2 (by decide)
 ·exact part_lt x 12 16 4 (by decide)
 ·exact part_lt x 16 20 4 (by decide)
theorem prs_ok (x:By):(prsF x).1.ok:=by
 unfold prsF
 split
 ·exact hdF_ok x
 ·exact (show hd0.ok from ⟨by decide,by decide,by decide,by decide,by decide,by decide⟩)
theorem ld_u32s {w:World} {g i:Nat} {z:Int} (hu:w.cell? ⟨g,i,none⟩=some (.int .u32 z)):(Instr.loadAt 35 (.pointer (some ⟨g,i,none⟩))).run Tryz.prog w=.ok (.int .u32 z) w:=by
 simp [go_sem,hu]
theorem ld_u8s {w:World} {g i:Nat} {z:Int} (hu:w.cell? ⟨g,i,none⟩=some (.int .u8 z)):(Instr.loadAt 5 (.pointer (some ⟨g,i,none⟩))).run Tryz.prog w=.ok (.int .u8 z) w:=by
 simp [go_sem,hu]
theorem row_sl {B:Nat} {w:World} {v:Value} {x:By} (h:Row8 B w v x):Sl8 w (fun _=>True) v x:=h.sl.mono fun _ _=>trivial
theorem grown_none {w w2:World} (h:Below w.heap.size w w2):w.grownBy w2 none:=⟨h.os,h.tape,h.output,h.size,fun k hk _=>h.block k hk⟩
def optH (o:By):Hd:=⟨0,0,false,false,false,0,0,0,0,0,o⟩
theorem st_int {w:World} {g i:Nat} {u:Value} (hu:w.cell? ⟨g,i,none⟩=some u) (hf:w.frozen? ⟨g,i,none⟩=false) (z:Int):(Instr.storeAt 3 (.pointer (some ⟨g,i,none⟩)) (.int .i64 z)).run Tryz.prog w=.ok () (w.setCell ⟨g,i,none⟩ (.int .i64 z)):=by
 simp [go_sem,hu,hf]
theorem st_true {w:World} {g i:Nat} {u:Value} (hu:w.cell? ⟨g,i,none⟩=some u) (hf:w.frozen? ⟨g,i,none⟩=false):(Instr.storeAt 4 (.pointer (some ⟨g,i,none⟩)) (.bool true)).run Tryz.prog w=.ok () (w.setCell ⟨g,i,none⟩ (.bool true)):=by
 simp [go_sem,hu,hf]
theorem st_8s {w:World} {g i:Nat} {u:Value} (hu:w.cell? ⟨g,i,none⟩=some u) (hf:w.frozen? ⟨g,i,none⟩=false) (A:Option Addr) (n c:Nat):(Instr.storeAt 61 (.pointer (some ⟨g,i,none⟩)) (.slice A n c)).run Tryz.prog w=.ok () (w.setCell ⟨g,i,none⟩ (.slice A n c)):=by
 simp [go_sem,hu,hf]
theorem ld_int {w:World} {a:Addr} {z:Int} (hu:w.cell? a=some (.int .i64 z)):(Instr.loadAt 3 (.pointer (some a))).run Tryz.prog w=.ok (.int .i64 z) w:=by
 simp [go_sem,hu]
theorem res_hd1 {w:World} {g:Nat} {cs:Array Value} {fn:Func} {p u:Tmp} (hf:fn.results=#[.cell p 76,.tmp u]) (tmps:Array Value) (hp:tmps.getD p undef=.pointer (some ⟨g,0,none⟩)) (h:Blk w g 76 cs) (hc:cs.size=11) :
  (results fn tmps).run Tryz.prog w=.ok (.tuple #[.agg cs,tmps.getD u undef]) w:=by
 have hl:=run_loadVar_mid (P:=Tryz.prog) w g 0 76 cs.toList _ (blk_range h) Tryz.underlying76 rfl (by simpa [hc] using hd_info)
 have e1:tmps[p]?.getD undef=.pointer (some ⟨g,0,none⟩):=by simpa using hp
 simp only [results,hf]
 simp [Result.andThen,e1,asAddr,hl]
theorem ld_bool {w:World} {a:Addr} {b:Bool} (hu:w.cell? a=some (.bool b)):(Instr.loadAt 4 (.pointer (some a))).run Tryz.prog w=.ok (.bool b) w:=by
 simp [go_sem,hu]
theorem sl_mid (wx:World) (A:Option Addr) (n c a b:Nat) (ha:a≤b) (hb:b≤c):(Instr.slice 61 (.slice A n c) (some (.int .i64 (a:Int))) (some (.int .i64 (b:Int))) (some (.int .i64 (b:Int)))).run Tryz.prog wx=.ok (.slice (if b=a then A else A.map (·.add a)) (b - a) (b - a)) wx:=by
 rw [run_slice_lhm wx _ _ _ _ u8elem .i64 .i64 .i64 _ _ _ (by omega) (by omega) (by omega) (by omega),u8elem2,u8size]
 by_cases h0:b=a
 ·simp [Result.andThen,sliced,h0]
 ·simp [Result.andThen,sliced,h0]
theorem cut_mid {w:World} {I:Nat→Prop} {A:Option Addr} {x:By} {a b:Nat} (h:Reads w I 1 A x.length (bytesV x)) (hab:a≤b) (hb:b≤x.length):Sl8 w I (.slice (if b=a then A else A.map (·.add a)) (b - a) (b - a)) (partF x a b):=by
 have hl:(x.take b).length=b:=by rw [List.length_take]; omega
 have h1:Reads w I 1 A (x.take b).length (bytesV (x.take b)):=by
  rw [hl]
  exact reads_take h hb
 have h2:=cut_lo (k:=a) (cap:=b) h1 (by rw [hl]; exact hab) (by rw [hl]; omega)
 rw [hl] at h2
 exact h2
section
variable {B:Nat} {w:World} {v:Value} {x:By}
theorem Row8.blk (h:Row8 B w v x) (hx:0 < x.length):∃ g cap,v=.slice (some ⟨g,0,none⟩) x.length cap∧x.length≤cap∧B≤g∧∃ cur,Blk w g 5 cur∧∀ (i:Nat) (u:Value),(bytesV x)[i]?=some u→cur[i]?=some u:=by
 obtain ⟨A,c,rfl,hc⟩:=h.form
 rcases h.2 with ⟨h2,_⟩ | ⟨g2,c2,cur,h2,h3,h4,h5,h6,h7,h8⟩
 ·injection h2 with _ h2 _
  omega
 ·injection h2 with h2 _ hc2
  subst h2
  refine ⟨g2,c,rfl,hc,(Row8.lt h (g:=g2) rfl).1,cur,h4,fun i u hi=>?_⟩
  rw [← h8,List.getElem?_take] at hi
  split at hi
  ·simpa using hi
  ·cases hi
theorem Row8.set {g n cap i:Nat} {b:UInt8} (h:Row8 B w (.slice (some ⟨g,0,none⟩) n cap) x):Row8 B (w.setCell ⟨g,i,none⟩ (.int .u8 (b.toNat:Int))) (.slice (some ⟨g,0,none⟩) n cap) (x.set i b):=by
 have e:bytesV (x.set i b)=(bytesV x).set i (.int .u8 (b.toNat:Int)):=by simp [bytesV,List.map_set]
 have hl:(x.set i b).length=x.length:=List.length_set
 unfold Row8
 rw [e,hl]
 refine ⟨by rw [List.length_set]; exact h.1,.inr ?_⟩
 rcases h.2 with ⟨h2,_⟩ | ⟨g2,c,cur,h2,h3,h4,h5,h6,h7,h8⟩
 ·cases h2
 ·injection h2 with h2 hn hc
  injection h2 with h2
  injection h2 with h2
  subst h2
  subst hc
  subst hn
  refine ⟨g,cap,cur.setIfInBounds i (.int .u8 (b.toNat:Int)),rfl,h3,Blk.set_ (t:=5) (cs:=cur) h4 i _,h5,h6,by rw [Array.size_setIfInBounds]; exact h7,?_⟩
  rw [Array.toList_setIfInBounds,List.take_set,h8]
end
end Go.Proofs.YthlommalbkhcjaaGreat
namespace Go.Proofs.YthlommalbkhcjaaGreat
open Go.ChangeShapes Go.WideShapes Go.ChangeAt Go.RowKit
theorem wf_u8 {z:Int} (h:(Lit.int .u8 z).wf=true):0≤z∧z < 256:=by
 have h1:IntKind.u8.min=0:=rfl
 have h2:IntKind.u8.max=255:=rfl
 simp only [Lit.wf,Bool.and_eq_true,decide_eq_true_eq] at h
 omega
theorem bytesV_of {zs:List Int} (h:∀ z ∈ zs,(Lit.int .u8 z).wf=true):bytesV (zs.map fun z=>UInt8.ofNat z.toNat)=zs.map (Value.int .u8):=by
 induction zs with
 | nil=>rfl
 | cons a r ih =>
   have ha:=wf_u8 (h a List.mem_cons_self)
   have:=ih fun z hz=>h z (List.mem_cons_of_mem _ hz)
   simp only [bytesV,List.map_cons] at this ⊢
   rw [this]
   congr 2
   have:(UInt8.ofNat a.toNat).toNat=a.toNat:=by simp; omega
   omega
section
variable {H:Type} {enc:TypeId × Value→H} {w:World} {spare:Nat→Bool} {held:Bool}
theorem elem_bytes {e:TypeId} (he:Tryz.prog.underlying e=some (.slice 5)) (n:Nat) (cs:List Value) (x:DataW H × List MemPlace) (h:DataW.trod enc Tryz.prog w 0 spare held n e cs=some x) (hl:Light Tryz.prog e x.1) :
  ∃ (A:Option Addr) (c:Nat) (y:By),cs=[.slice A y.length c]∧Reads w (fun k=>k < w.heap.size) 1 A y.length (bytesV y)∧y.length≤c:=by
 obtain ⟨A,n,c,ys,rfl,hr,hlen,hR,hn,hc⟩:=open_elems (fun z=>[Value.int .u8 z]) (fun z=>(Lit.int .u8 z).wf=true) 1 1 he (by kernel_rfl) (by kernel_rfl) (fun _=>rfl) Nat.one_pos (fun n cs x h _=>elem_int Tryz.underlying5 n cs x h) h hl
 refine ⟨A,c,ys.map fun z=>UInt8.ofNat z.toNat,by simp [hlen],?_,?_⟩
 ·simp only [List.length_map,bytesV_of hR,hlen]
  rw [flat_one] at hr
  exact hr
 ·simp only [List.length_map,hlen]
  exact hc
theorem arg_bytes {t:TypeId} (ht:Tryz.prog.underlying t=some (.slice 5)) {v:Value} {d:DataW H} {p:List MemPlace}
  (h:DataW.Trod enc Tryz.prog w 0 spare held t v d p) (hv:v.cells=#[v]) (hw:Light Tryz.prog t d):∃ (A:Option Addr) (n c:Nat) (x:By),v=.slice A n c∧Reads w (fun k=>k < w.heap.size) 1 A n (bytesV x)∧x.length=n∧n≤c:=by
 obtain ⟨fuel,hf⟩:=h
 obtain ⟨A,c,y,hcs,hr,hc⟩:=elem_bytes ht _ _ _ hf hw
 rw [hv] at hcs
 simp at hcs
 exact ⟨A,y.length,c,y,hcs,hr,rfl,hc⟩
end
end Go.Proofs.YthlommalbkhcjaaGreat
namespace Go.Proofs.YthlommalbkhcjaaGreat
open Go.ChangeShapes Go.WideShapes Go.ChangeAt Go.RowKit
structure AskM where
 Ar:Option Addr
 nr:Nat
 cr:Nat
 rts:List Rt
 own:Nat
 Am:Option Addr
 nm:Nat
 cm:Nat
 mtus:List Int
 tok:Int
def askC (q:AskM):Array Value:=#[.slice q.Ar q.nr q.cr,.int .u32 (q.own:Int),.slice q.Am q.nm q.cm,.int .i64 q.tok]
structure AskRd (w:World) (q:AskM):Prop where
 rd:Reads w (fun k=>k < w.heap.size) 6 q.Ar q.nr (q.rts.flatMap rtC)
 rl:q.rts.length=q.nr
 rt:∀ r ∈ q.rts,RtRd w r
 own:q.own < 2 ^ 32
 md:Reads w (fun k=>k < w.heap.size) 1 q.Am q.nm (q.mtus.map (Value.int .i64))
 ml:q.mtus.length=q.nm
 mc:q.nm≤q.cm
section
variable {H:Type} {enc:TypeId × Value→H} {w:World} {spare:Nat→Bool} {held:Bool}
set_option maxRecDepth 100000 in
theorem arg_ask {v:Value} {d:DataW H} {p:List MemPlace} {cs:Array Value} (hv:v=.agg cs)
  (h:DataW.Trod enc Tryz.prog w 0 spare held 60 v d p) (hw:Light Tryz.prog 60 d) :
  ∃ q:AskM,v=.agg (askC q)∧AskRd w q:=by
 obtain ⟨fuel,hf⟩:=h
 subst hv
 have hcs:(Value.agg cs).cells.toList=cs.toList:=rfl
 rw [hcs] at hf
 obtain ⟨xs,n,_,e,hl,hlen,hfs⟩:=DataW.trod_struct Tryz.underlying60 hf
 have hC:Tryz.prog.cellsOf 60=4:=by kernel_rfl
 have hC0:Tryz.prog.cellsOf 22=1:=by kernel_rfl
 have hC1:Tryz.prog.cellsOf 35=1:=by kernel_rfl
 have hC2:Tryz.prog.cellsOf 49=1:=by kernel_rfl
 have hC3:Tryz.prog.cellsOf 3=1:=by kernel_rfl
 rw [hC] at hl
 obtain ⟨c0,c1,c2,c3,ecs⟩:∃ c0 c1 c2 c3,cs.toList=[c0,c1,c2,c3]:=by
  match cs.toList,hl with
  | [c0,c1,c2,c3],_=>exact ⟨c0,c1,c2,c3,rfl⟩
 obtain ⟨y0,y1,y2,y3,exs⟩:∃ y0 y1 y2 y3,xs=[y0,y1,y2,y3]:=by
  match xs,hlen with
  | [y0,y1,y2,y3],_=>exact ⟨y0,y1,y2,y3,rfl⟩
 subst exs
 rw [ecs] at hfs
 have t0:DataW.trod enc Tryz.prog w 0 spare held n 22 [c0]=some y0:=by have h:=hfs 0 _ rfl; change DataW.trod enc Tryz.prog w 0 spare held n 22 (List.take (Tryz.prog.cellsOf 22) (List.drop 0 [c0,c1,c2,c3]))=_ at h; rw [hC0] at h; exact h
 have t1:DataW.trod enc Tryz.prog w 0 spare held n 35 [c1]=some y1:=by have h:=hfs 1 _ rfl; change DataW.trod enc Tryz.prog w 0 spare held n 35 (List.take (Tryz.prog.cellsOf 35) (List.drop 1 [c0,c1,c2,c3]))=_ at h; rw [hC1] at h; exact h
 have t2:DataW.trod enc Tryz.prog w 0 spare held n 49 [c2]=some y2:=by have h:=hfs 2 _ rfl; change DataW.trod enc Tryz.prog w 0 spare held n 49 (List.take (Tryz.prog.cellsOf 49) (List.drop 2 [c0,c1,c2,c3]))=_ at h; rw [hC2] at h; exact h
 have t3:DataW.trod enc Tryz.prog w 0 spare held n 3 [c3]=some y3:=by have h:=hfs 3 _ rfl; change DataW.trod enc Tryz.prog w 0 spare held n 3 (List.take (Tryz.prog.cellsOf 3) (List.drop 3 [c0,c1,c2,c3]))=_ at h; rw [hC3] at h; exact h
 injection e with ed ep
 subst ed
 have l0:Light Tryz.prog 22 y0.1:=light_fieldR Tryz.underlying60 hw (j:=0) rfl rfl
 have l2:Light Tryz.prog 49 y2.1:=light_fieldR Tryz.underlying60 hw (j:=2) rfl rfl
 obtain ⟨A,k,c,ys,e0,hr,hrl,hR,_,_⟩:=open_elems rtC (fun r=>RtRd w r) 6 56 Tryz.underlying22 (by kernel_rfl) (by kernel_rfl) (fun _=>rfl) (by omega) (fun n cs x h hl=>elem_rt n cs x h hl) t0 l0
 obtain rfl:c0=_:=by simpa using e0
 obtain ⟨z1,e1,w1⟩:=elem_int Tryz.underlying35 _ _ _ t1
 obtain rfl:c1=_:=by simpa using e1
 obtain ⟨A2,k2,c2',zs,e2,hr2,hl2,_,_,hc2⟩:=open_elems (fun z=>[Value.int .i64 z]) (fun z=>(Lit.int .i64 z).wf=true) 1 8 Tryz.underlying49 (by kernel_rfl) (by kernel_rfl) (fun _=>rfl) Nat.one_pos (fun n cs x h _=>elem_int Tryz.underlying3 n cs x h) t2 l2
 obtain rfl:c2=_:=by simpa using e2
 rw [flat_one] at hr2
 obtain ⟨z3,e3,_⟩:=elem_int Tryz.underlying3 _ _ _ t3
 obtain rfl:c3=_:=by simpa using e3
 have b1:=wf_u32r w1
 refine ⟨⟨A,k,c,ys,z1.toNat,A2,k2,c2',zs,z3⟩,?_,⟨hr,hrl,hR,by show z1.toNat < 2 ^ 32; omega,hr2,hl2,hc2⟩⟩
 congr 1
 apply Array.ext'
 rw [ecs]
 unfold askC
 simp only
 rw [Int.toNat_of_nonneg b1.1]
end
end Go.Proofs.YthlommalbkhcjaaGreat
