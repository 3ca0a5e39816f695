/- fib.Entry. -/
import Derived.Test.YthlommalbkhcjaaGreatNq11
import Derived.Test.YthlommalbkhcjaaGreatNq10
import Derived.Deep.MidRow
import Derived.ChangeKeysEq
import Derived.Deep.OwnRows
import Derived.Laws.OwnMore
namespace Go.Proofs.YthlommalbkhcjaaGreat
open Go.RowKit Go.Sort
theorem shares_get {l:List Nx} {i:Nat} (hi:i < l.length):(sharesF l)[i]?=some (shF l i):=by
 unfold sharesF
 rw [List.getElem?_map,List.getElem?_range hi]
 rfl
theorem shares_len (l:List Nx):(sharesF l).length=l.length:=by unfold sharesF; simp
theorem Reads.nat {w:World} {I:Nat→Prop} {A:Option Addr} {n:Nat} {xs:List Nat} (h:Reads w I 1 A n (natsV xs)) (hn:xs.length=n) {D:Nat} (hI:∀ k,I k→k < D) {k:Nat} (hk:k < n):∃ ad x,A=some ad∧xs[k]?=some x∧∀ wx,Below D w wx→wx.cell? (ad.add k)=some (.int .i64 (x:Int)):=by
 have hx:xs[k]?=some (xs[k]'(by omega)):=List.getElem?_eq_getElem _
 obtain ⟨ad,e,hj,hadl,hc⟩:=h.2 (by omega)
 exact ⟨ad,_,e,hx,fun wx hb=>(hb.cell (by rw [block_of_add]; exact hI _ hj)).trans (hc _ _ (natsV_get hx))⟩
theorem reads_own_nat {w:World} {B:Nat} {A:Option Addr} {n c:Nat} {xs:List Nat} (h:w.ownsRow B 3 1 (.slice A n c) n (natsV xs)):Reads w (fun k=>B≤k∧k < w.heap.size) 1 A n (natsV xs):=Reads.of_own h fun _ hg=>own_lt h hg
end Go.Proofs.YthlommalbkhcjaaGreat
namespace Go.Proofs.YthlommalbkhcjaaGreat
open Go.RowKit Go.Sort
def arrV (zs:List Int):Array Value:=(zs.map (Value.int .i64)).toArray
theorem arrV_get {zs:List Int} {i:Nat} {z:Int} (h:zs[i]?=some z):(arrV zs)[i]?=some (.int .i64 z):=by simp [arrV,h]
theorem arrV_size (zs:List Int):(arrV zs).size=zs.length:=by simp [arrV]
theorem arrV_one (zs:List Int):(arrV zs).all (·.oneCell')=true:=by simp [arrV,Value.oneCell']
section
variable {w:World} {g:Nat} {cs vs:Array Value}
theorem blkR_there {t:TypeId} (h:Blk w g t cs):w.there g 0 cs.size:=fun j hj=>⟨by rw [Nat.zero_add,h.cell,Array.getElem?_eq_getElem hj]; rfl,by rw [Nat.zero_add]; exact h.frozen j⟩
theorem blkR_range {t:TypeId} (h:Blk w g t cs):w.rangeAt g 0 cs.toList:=fun j v hj=>by rw [Nat.zero_add,h.cell]; simpa using hj
theorem arr_info:(Tryz.prog.info? 39).map (·.size)=some 256:=by kernel_rfl
theorem arr_store (h:Blk w g 39 cs) (hc:cs.size=256) (hv:vs.size=256) (h1:vs.all (·.oneCell')=true):(Instr.storeAt 39 (.pointer (some ⟨g,0,none⟩)) (.agg vs)).run Tryz.prog w=.ok () (w.setCells g 0 vs.toList) :=
 run_storeAt_mid w g 0 _ vs (by have:=blkR_there h; rwa [hc,← hv] at this) (by rw [hv]; exact arr_info) h1
theorem arr_load (h:Blk w g 39 cs) (hc:cs.size=256):(Instr.loadAt 39 (.pointer (some ⟨g,0,none⟩))).run Tryz.prog w=.ok (.agg cs) w:=by
 have:=run_loadAt_mid (P:=Tryz.prog) w g 0 39 cs.toList _ (blkR_range h) Tryz.underlying39 rfl (by simpa [hc] using arr_info)
 simpa using this
end
theorem pick_any (zs:List Int) (hz:zs.length=256) (h:Nat) (w:World) :
  Calls Tryz.prog 57 #[.agg (arrV zs),.int .u32 (h:Int)] w fun e w'=>e=.returned (.int .i64 (zs.getD (h % 256) 0))∧Below w.heap.size w w':=by
 obtain ⟨z,hzz⟩:∃ z,zs[h % 256]?=some z:=⟨zs[h % 256]'(by omega),List.getElem?_eq_getElem _⟩
 have HE:=Lib.hid (show zs.getD (h % 256) 0=z by rw [List.getD_eq_getElem?_getD,hzz]; rfl)
 obtain ⟨vs,hvs⟩:∃ v,v=arrV zs:=⟨_,rfl⟩
 have hc:=arrV_get hzz
 rw [← hvs] at hc ⊢
 obtain ⟨W,hW⟩:∃ W,W=w.alloc (.cells vs 39):=⟨_,rfl⟩
 have hk:Blk W w.heap.size 39 vs:=by rw [hW]; exact Blk.new _ _ _
 have HB:=Lib.hid (show Below w.heap.size w W by rw [hW]; exact (Below.refl _ _).alloc (Nat.le_refl _) _)
 obtain ⟨i,hi⟩:∃ i,i=h % 256:=⟨_,rfl⟩
 rw [← hi] at hc
 have hx:W.cell? ⟨w.heap.size,i,none⟩=some (.int .i64 z):=(hk.cell i).trans hc
 have he:((h:Int) % 256)=(i:Int):=by omega
 have hil:(i:Int) < 256:=by omega
 have hi0:(0:Int)≤i:=by omega
 have HW:=Lib.hid hW
 have h0:(0:Int)≤h:=by omega
 clear hzz hvs hc hW hk hi hz
 go_enter Tryz.func57,Tryz.ntmps57
 go_upto_region 1 with (fail)
 rw [← HW.out]
 go_wp2_with fail
 go_ret
 exact ⟨by rw [HE.out]; rfl,HB.out⟩
end Go.Proofs.YthlommalbkhcjaaGreat
namespace Go.Proofs.YthlommalbkhcjaaGreat
open Go.RowKit Go.Sort
theorem below_setCellsZ {B g:Nat} {a:World} (hg:B≤g):∀ (l:List Value) (o:Nat) (b:World),Below B a b→Below B a (b.setCells g o l)
 | [],_,_,h=>h
 | v :: r,o,_,h=>below_setCellsZ hg r (o+1) _ (h.setCell (p:=⟨g,o,none⟩) hg v)
theorem blk_setCellsZ_aux {g:Nat} {t:TypeId}:∀ (l:List Value) (pre suf:List Value) (w:World),suf.length=l.length→Blk w g t (pre++suf).toArray→Blk (w.setCells g pre.length l) g t (pre++l).toArray
 | [],pre,suf,w,hl,h=>by
   obtain rfl:=List.eq_nil_of_length_eq_zero hl
   exact h
 | v :: r,pre,suf,w,hl,h=>by
   match suf,hl with
   | x :: s,hl =>
     have h2:=h.set_ pre.length v
     rw [List.setIfInBounds_toArray,List.set_append_right _ _ (Nat.le_refl _),Nat.sub_self,List.set_cons_zero] at h2
     have h3:=blk_setCellsZ_aux r (pre++[v]) s (w.setCell ⟨g,pre.length,none⟩ v) (by simpa using hl) (by simpa using h2)
     rw [List.length_append] at h3
     unfold World.setCells
     simpa using h3
theorem blk_setCellsZ {g:Nat} {t:TypeId} {w:World} {cs vs:Array Value} (h:Blk w g t cs) (hl:cs.size=vs.size):Blk (w.setCells g 0 vs.toList) g t vs:=by
 have:=blk_setCellsZ_aux (t:=t) vs.toList [] cs.toList w (by simpa using hl) (by simpa using h)
 simpa using this
def zs0:List Int:=List.replicate 256 0
theorem zero_arr (w:World):(zeroValue 39).run Tryz.prog w=.ok (.agg (arrV zs0)) w:=by kernel_rfl
theorem arr_alloc (w:World):(Instr.alloc 39 true (.tuple #[])).run Tryz.prog w=.ok (.pointer (some ⟨w.heap.size,0,none⟩)) (w.alloc (.cells (arrV zs0) 39)):=by
 unfold Instr.alloc
 rw [Sem.run_bind,zero_arr]
 rfl
theorem res_arr {w:World} {g:Nat} {cs:Array Value} {fn:Func} {p u:Tmp} (hf:fn.results=#[.cell p 39,.tmp u]) (tmps:Array Value) (hp:tmps.getD p undef=.pointer (some ⟨g,0,none⟩)) (h:Blk w g 39 cs) (hc:cs.size=256) :
  (results fn tmps).run Tryz.prog w=.ok (.tuple #[.agg cs,tmps.getD u undef]) w:=by
 have hl:=run_loadVar_mid (P:=Tryz.prog) w g 0 39 cs.toList _ (blkR_range h) Tryz.underlying39 rfl (by simpa [hc] using arr_info)
 have e1:tmps[p]?.getD undef=.pointer (some ⟨g,0,none⟩):=by simpa using hp
 simp only [results,hf]
 simp [Result.andThen,e1,asAddr,hl]
theorem ld_intA {w:World} {a:Addr} {z:Int} (hu:w.cell? a=some (.int .i64 z)):(Instr.loadAt 3 (.pointer (some a))).run Tryz.prog w=.ok (.int .i64 z) w:=by
 simp [go_sem,hu]
theorem st_intA {w:World} {a:Addr} {u:Value} (hu:w.cell? a=some u) (hf:w.frozen? a=false) (z:Int):(Instr.storeAt 3 (.pointer (some a)) (.int .i64 z)).run Tryz.prog w=.ok () (w.setCell a (.int .i64 z)):=by
 simp [go_sem,hu,hf]
def bkF (l:List Nx) (a:Nat):List Int:=(tableF l).take a++List.replicate (256 - a) 0
theorem bk_len {l:List Nx} (hm:mayF l=true) {a:Nat} (ha:a≤256):(bkF l a).length=256:=by
 unfold bkF
 rw [List.length_append,List.length_take,table_len hm,List.length_replicate]
 omega
theorem bk_zero (l:List Nx):bkF l 0=zs0:=by unfold bkF zs0; rw [List.take_zero,List.nil_append]
theorem bk_all {l:List Nx} (hm:mayF l=true):bkF l 256=tableF l:=by
 unfold bkF
 rw [List.take_of_length_le (by rw [table_len hm]; exact Nat.le_refl _)]
 simp
theorem bk_set {l:List Nx} (hm:mayF l=true) {a:Nat} {p:Int} (h:(tableF l)[a]?=some p):(bkF l a).set a p=bkF l (a+1):=by
 obtain ⟨h1,h2⟩:=List.getElem?_eq_some_iff.1 h
 have hl:=table_len hm
 unfold bkF
 have ht:((tableF l).take a).length=a:=by rw [List.length_take]; omega
 rw [List.set_append,if_neg (by omega),ht,List.take_succ_eq_append_getElem h1,h2]
 obtain ⟨b,hb⟩:∃ b,256 - a=b+1:=⟨256 - a - 1,by omega⟩
 rw [hb,show 256 - (a+1)=b by omega,Nat.sub_self,List.replicate_succ]
 simp
theorem arrV_set (zs:List Int) (i:Nat) (z:Int):arrV (zs.set i z)=(arrV zs).setIfInBounds i (.int .i64 z):=by
 unfold arrV
 rw [List.map_set]
 simp
structure BkW (w:World) (D gr gb n:Nat) (A A5:Option Addr) (c5:Nat) (l:List Nx) (a:Nat) (wr:World):Prop where
 kb:Blk wr gb 39 (arrV (bkF l a))
 kr:Blk wr gr 39 (arrV zs0)
 row:Reads wr (fun k=>D≤k) 1 A5 n (natsV (sharesF l))
 rd:Reads wr (fun k=>k < w.heap.size) 2 A n (l.flatMap nxC)
 b:Below w.heap.size w wr
 h1:gb < D
 h2:gr < gb
 h3:w.heap.size≤gr
 hD:D≤wr.heap.size
theorem BkW.set {w:World} {D gr gb n:Nat} {A A5:Option Addr} {c5:Nat} {l:List Nx} {a:Nat} {wr:World} (h:BkW w D gr gb n A A5 c5 l a wr) (hm:mayF l=true) {p:Int} (hp:(tableF l)[a]?=some p) :
  BkW w D gr gb n A A5 c5 l (a+1) (wr.setCell ⟨gb,a,none⟩ (.int .i64 p)):=by
 have hs:Upd (only gb) wr (wr.setCell ⟨gb,a,none⟩ (.int .i64 p)):=upd_set wr gb a _
 refine ⟨?_,h.kr.far (p:=⟨gb,a,none⟩) (Nat.ne_of_lt h.h2) _,h.row.keep (hs.same fun k hk hi=>by have:=h.h1; have e:k=gb:=hk; omega),h.rd.keep (hs.same fun k hk hi=>by have:=h.h2; have:=h.h3; have e:k=gb:=hk; omega),h.b.setCell (p:=⟨gb,a,none⟩) (by have:=h.h2; have:=h.h3; simp only; omega) _,h.h1,h.h2,h.h3,by simpa using h.hD⟩
 rw [← bk_set hm hp,arrV_set]
 exact h.kb.set_ a _
attribute [-go_sem] Instr.storeAt Instr.loadAt Instr.alloc in
set_option maxRecDepth 100000 in
set_option maxHeartbeats 8000000 in
theorem buckets_yes (A:Option Addr) (n c:Nat) (l:List Nx) (I:Nat→Prop) (w:World) (h:Reads w I 2 A n (l.flatMap nxC)) (hn:l.length=n) (hm:mayF l=true) :
  Calls Tryz.prog 102 #[.slice A n c] w fun e w'=>e=.returned (.tuple #[.agg (arrV (tableF l)),.int .i64 0])∧Below w.heap.size w w':=by
 have hal:=arr_alloc
 obtain ⟨Z,hZ⟩:∃ Z,Z=arrV zs0:=⟨_,rfl⟩
 have HZ:=Lib.hid hZ
 rw [← hZ] at hal
 obtain ⟨W,hW⟩:∃ W,W=(w.alloc (.cells Z 39)).alloc (.cells Z 39):=⟨_,rfl⟩
 have hz2:(w.alloc (.cells Z 39)).heap.size=w.heap.size+1:=by simp
 have hbA:Below w.heap.size w (w.alloc (.cells Z 39)):=(Below.refl _ _).alloc (Nat.le_refl _) _
 have hbW:Below w.heap.size w W:=by rw [hW]; exact hbA.alloc hbA.size _
 have hkr:Blk W w.heap.size 39 Z:=by rw [hW]; exact (Blk.new w _ _).alloc _
 have hkb:Blk W (w.heap.size+1) 39 Z:=by
  rw [hW]
  have:=Blk.new (w.alloc (.cells Z 39)) 39 Z
  rwa [hz2] at this
 have hsh:=shares_yes A n c l (fun k=>k < w.heap.size) W ((h.lt.keep (Same.ofBelow hbW fun _ hk=>hk.2)).mono fun _ h=>h.2) hn hm
 unfold ShPost at hsh
 rw [hn] at hsh
 have HRD:=Lib.hid (h.lt.mono fun _ h=>h.2)
 have HSH:=Lib.hid hsh
 have HKR:=Lib.hid hkr
 have HKB:=Lib.hid hkb
 have HBW:=Lib.hid hbW
 have HW:=Lib.hid hW
 have HN:=Lib.hid hn
 have HM:=Lib.hid hm
 have HN8:=Lib.hid (show n≤8 by have:=may_len hm; omega)
 clear h hn hm hZ hz2 hbA hW hbW hkr hkb hsh
 go_enter Tryz.func102,Tryz.ntmps102
 go_wp2_with fail
 rw [← HW.out]
 refine HSH.out.mono ?_
 rintro e w2 ⟨v2,rfl,h2,hb2⟩
 obtain ⟨A5,c5,rfl,_⟩:=own_form h2
 obtain ⟨gb,hgb⟩:∃ g,g=w.heap.size+1:=⟨_,rfl⟩
 obtain ⟨gr,hgr⟩:∃ g,g=w.heap.size:=⟨_,rfl⟩
 have hkl:=HKB.out.lt
 have HS0:=Lib.hid (show BkW w W.heap.size gr gb n A A5 c5 l 0 w2 from by
  refine ⟨?_,?_,(reads_own_nat h2).mono fun _ h=>h.1,HRD.out.keep (Same.ofBelow (HBW.out.trans (hb2.mono HBW.out.size)) fun _ hk=>hk),HBW.out.trans (hb2.mono HBW.out.size),by omega,by omega,by omega,hb2.size⟩
  ·rw [bk_zero,← HZ.out,hgb]; exact HKB.out.below hb2 HKB.out.lt
  ·rw [← HZ.out,hgr]; exact HKR.out.below hb2 HKR.out.lt)
 have HGB:=Lib.hid hgb
 have HGR:=Lib.hid hgr
 clear h2 hb2 hal hkl
 rw [← hgb,← hgr]
 clear hgb hgr
 go_wp2_with fail
 go_loopw [7,17] (fun av i wr=>∃ k:Nat,k≤n∧i=.int .i64 (k:Int)∧av=.int .i64 (sumTo (shF l) k:Int)∧BkW w W.heap.size gr gb n A A5 c5 l (sumTo (shF l) k) wr) (fun _ i _=>n - (intOf i).toNat)
 case atStart=>exact ⟨0,Nat.zero_le _,rfl,rfl,HS0.out⟩
 case round =>
  obtain ⟨k,hk,rfl,rfl,hs⟩:=hrel
  have HS:=Lib.hid hs
  clear hs HS0
  by_cases hlt:k < n
  ·have hd0:decide ((k:Int) < (n:Int))=true:=decide_eq_true (by omega)
   have hd1:decide (k < n)=true:=decide_eq_true hlt
   obtain ⟨ad5,s,rfl,hsk,hcell⟩:=HS.out.row.lt.nat (by rw [shares_len]; exact HN.out) (D:=wr.heap.size) (fun _ hj=>hj.2) hlt
   rw [shares_get (by rw [HN.out]; exact hlt)] at hsk
   injection hsk with hsk
   have c5c:=hcell wr (Below.refl _ _)
   have hld5:=ld_intA c5c
   have HSK:=Lib.hid hsk
   have HS256:=Lib.hid (show sumTo (shF l) k+s≤256 by
    have h1:=sumTo_le (shF l) (m:=k+1) (n:=l.length) (by rw [HN.out]; exact hlt)
    have h2:=shares_sum HM.out
    have h3:sumTo (shF l) (k+1)=sumTo (shF l) k+shF l k:=rfl
    rw [← hsk]; omega)
   obtain ⟨a0,ha0⟩:∃ a,a=sumTo (shF l) k:=⟨_,rfl⟩
   have HA0:=Lib.hid ha0
   have HSS:=Lib.hid (show sumTo (shF l) (k+1)=a0+s by rw [ha0,← hsk]; rfl)
   rw [← ha0] at HS HS256 ⊢
   have i0:(0:Int)≤k:=by omega
   have i1:(k:Int) < n:=by omega
   have i2:(n:Int)≤8:=by have:=HN8.out; omega
   clear hcell hsk ha0
   go_wp2_with fail
   clear hld5 c5c
   go_loopw [7,23] (fun av i wx=>∃ j:Nat,j≤s∧i=.int .i64 (j:Int)∧av=.int .i64 ((a0+j:Nat):Int)∧BkW w W.heap.size gr gb n A (some ad5) c5 l (a0+j) wx) (fun _ i _=>s - (intOf i).toNat)
   case atStart=>exact ⟨0,Nat.zero_le _,rfl,rfl,HS.out⟩
   case round =>
    obtain ⟨j,hj,rfl,rfl,hs⟩:=hrel
    have HSJ:=Lib.hid hs
    clear hs
    by_cases hjt:j < s
    ·have kd0:decide ((j:Int) < (s:Int))=true:=decide_eq_true (by omega)
     have kd1:decide (j < s)=true:=decide_eq_true hjt
     obtain ⟨ad,rfl,hcs⟩:=nx_cells HSJ.out.rd HN.out (D:=w.heap.size) (fun _ hj=>hj) hlt
     obtain ⟨p,hp⟩:∃ p,p=(nxAt l k).1:=⟨_,rfl⟩
     have hta:=table_at (l:=l) (i:=k) (k:=j) (by rw [HN.out]; exact hlt) (by rw [HSK.out]; exact hjt)
     rw [← HA0.out,← hp] at hta
     rw [← hp] at hcs
     have g0:=ld_intA (hcs wr (Below.refl _ _)).1
     have HSN:=Lib.hid (HSJ.out.set HM.out hta)
     obtain ⟨at_,hat⟩:∃ a,a=a0+j:=⟨_,rfl⟩
     rw [← hat] at HSN ⊢
     have HAT:=Lib.hid hat
     have HSN2:=Lib.hid (show BkW w W.heap.size gr gb n (some ad) (some ad5) c5 l (a0+(j+1)) (wr.setCell ⟨gb,at_,none⟩ (.int .i64 p)) from by rw [show a0+(j+1)=at_+1 by omega]; exact HSN.out)
     have ha256:at_ < 256:=by have:=HS256.out; omega
     have hkb:=HSJ.out.kb
     have hcb:wr.cell? ⟨gb,at_,none⟩=some (.int .i64 ((bkF l (a0+j)).getD at_ 0)):=by
      rw [hkb.cell]
      refine arrV_get ?_
      rw [List.getD_eq_getElem?_getD,List.getElem?_eq_getElem (by rw [bk_len HM.out (by omega)]; exact ha256)]
      rfl
     have g2:=st_intA hcb (hkb.frozen at_) p
     have j0:(0:Int)≤(at_:Int):=by omega
     have j1:(at_:Int) < 256:=by omega
     have j2:(j:Int) < 256:=by have:=HS256.out; omega
     clear hcs hp hta hat hkb hcb hj ha256
     go_wp2_with fail
     go_roundw
     case rel=>exact ⟨j+1,hjt,rfl,by congr 1; have:=HAT.out; omega,HSN2.out⟩
     case measure=>simp [intOf]; omega
    ·obtain rfl:j=s:=by omega
     have kd0:decide ((j:Int) < (j:Int))=false:=decide_eq_false (by omega)
     have kd1:decide (j < j)=false:=decide_eq_false (by omega)
     clear hj hjt
     go_wp2_with fail
     go_roundw
     case rel=>exact ⟨k+1,hlt,rfl,by rw [HSS.out],by rw [HSS.out]; exact HSJ.out⟩
     case measure=>simp [intOf]; omega
  ·obtain rfl:k=n:=by omega
   have hd0:decide ((k:Int) < (k:Int))=false:=decide_eq_false (by omega)
   have hd1:decide (k < k)=false:=decide_eq_false (by omega)
   have h256:sumTo (shF l) k=256:=by rw [← HN.out]; exact shares_sum HM.out
   have hs:=HS.out
   rw [h256,] at hs ⊢
   have hkb:=hs.kb
   rw [bk_all HM.out] at hkb
   obtain ⟨T,hT⟩:∃ T,T=arrV (tableF l):=⟨_,rfl⟩
   rw [← hT] at hkb
   have hTS:T.size=256:=by rw [hT,arrV_size,table_len HM.out]
   have hTO:T.all (·.oneCell')=true:=by rw [hT]; exact arrV_one _
   have hl4:=arr_load hkb hTS
   have hkr:=hs.kr
   have hst:=arr_store hkr (by rw [arrV_size]; simp [zs0]) hTS hTO
   have HK9:=Lib.hid (blk_setCellsZ (vs:=T) hkr (by rw [arrV_size,hTS]; simp [zs0]))
   have HB9:=Lib.hid (below_setCellsZ (g:=gr) hs.h3 T.toList 0 wr hs.b)
   have HT:=Lib.hid hT
   have HTS:=Lib.hid hTS
   clear hk hlt h256 hs hkb hT hTS hTO hkr HS
   go_wp2_with fail
   refine bodyPost_ret_by (res_arr rfl _ rfl HK9.out HTS.out) rfl ?_
   exact ⟨by rw [← HT.out]; rfl,HB9.out⟩
end Go.Proofs.YthlommalbkhcjaaGreat
namespace Go.Proofs.YthlommalbkhcjaaGreat
open Go.RowKit Go.Sort
def wyC (k:Int) (zs:List Int):Array Value:=([Value.int .i64 k]++(arrV zs).toList).toArray
theorem wyC_size {k:Int} {zs:List Int} (h:zs.length=256):(wyC k zs).size=257:=by
 unfold wyC
 simp [arrV_size,h]
theorem wyC_one (k:Int) (zs:List Int):(wyC k zs).all (·.oneCell')=true:=by
 rw [← Array.all_toList]
 show (([Value.int .i64 k]++(arrV zs).toList).all fun x=>x.oneCell')=true
 have:=arrV_one zs
 rw [← Array.all_toList] at this
 rw [List.all_append,this]
 rfl
theorem wyC_zero:wyC 0 zs0=wy0:=by kernel_rfl
theorem wyC_setK (k k2:Int) (zs:List Int):(wyC k zs).setIfInBounds 0 (.int .i64 k2)=wyC k2 zs:=by
 unfold wyC
 rw [List.setIfInBounds_toArray]
 rfl
theorem zs0_len:zs0.length=256:=by unfold zs0; rw [List.length_replicate]
theorem wy0_k:wy0[0]?=some (.int .i64 0):=by kernel_rfl
def wayR (r:Rt):Int × List Int:=if r.own=true then (1,zs0) else if r.tk=false∨r.n=0 then (2,zs0) else (3,tableF r.nx)
def wayC (w:Int × List Int):Array Value:=wyC w.1 w.2
theorem rt_info:(Tryz.prog.info? 54).map (·.size)=some 6:=by kernel_rfl
section
variable {w:World} {b:Nat}
theorem ld_rt {r:Rt} (h:Blk w b 54 #[.int .u32 (r.a:Int),.int .i64 r.m,.bool r.own,.bool r.tk,.int .i64 r.d,.slice r.A r.n r.c]):(Instr.loadAt 54 (.pointer (some ⟨b,0,none⟩))).run Tryz.prog w=.ok (rtV r) w:=stc_load Tryz.underlying54 rfl rt_info h rfl
theorem ld_nxs {o:Nat} {A:Option Addr} {n c:Nat} (h:w.cell? ⟨b,o,none⟩=some (.slice A n c)):(Instr.loadAt 52 (.pointer (some ⟨b,o,none⟩))).run Tryz.prog w=.ok (.slice A n c) w:=by simp [go_sem,h]
theorem st_kd {u:Value} (h:w.cell? ⟨b,0,none⟩=some u) (hf:w.frozen? ⟨b,0,none⟩=false) (z:Int):(Instr.storeAt 38 (.pointer (some ⟨b,0,none⟩)) (.int .i64 z)).run Tryz.prog w=.ok () (w.setCell ⟨b,0,none⟩ (.int .i64 z)):=by simp [go_sem,h,hf]
theorem st_bk {k:Int} {zs ys:List Int} (h:Blk w b 41 (wyC k zs)) (hz:zs.length=256) (hy:ys.length=256):(Instr.storeAt 39 (.pointer (some ⟨b,1,none⟩)) (.agg (arrV ys))).run Tryz.prog w=.ok () (w.setCells b 1 (arrV ys).toList)∧Blk (w.setCells b 1 (arrV ys).toList) b 41 (wyC k ys):=by
 have hsz:=wyC_size (k:=k) hz
 refine ⟨run_storeAt_mid w b 1 _ (arrV ys) (fun j hj=>⟨?_,h.frozen _⟩) (by rw [arrV_size,hy]; exact arr_info) (arrV_one ys),?_⟩
 ·rw [arrV_size,hy] at hj
  rw [h.cell,Array.getElem?_eq_getElem (by omega)]
  rfl
 ·have:=blk_setCells_mid (post:=[]) (arrV ys).toList [Value.int .i64 k] (arrV zs).toList w (by simp [arrV_size,hz,hy]) (by rw [List.append_nil]; exact h)
  rw [List.append_nil] at this
  exact this
end
structure EnW (w:World) (r:Rt) (cs:Array Value) (wx:World):Prop where
 x:Blk wx w.heap.size 54 #[.int .u32 (r.a:Int),.int .i64 r.m,.bool r.own,.bool r.tk,.int .i64 r.d,.slice r.A r.n r.c]
 v:Blk wx (w.heap.size+1) 41 cs
 b:Below w.heap.size w wx
theorem EnW.later {w:World} {r:Rt} {cs:Array Value} {wx wy:World} (h:EnW w r cs wx) (hb:Below wx.heap.size wx wy):EnW w r cs wy:=⟨h.x.below hb h.x.lt,h.v.below hb h.v.lt,h.b.trans (hb.mono h.b.size)⟩
def EntPost (w:World) (r:Rt) (e:Ending) (w':World):Prop:=e=.returned (if mayR r=true then .tuple #[.agg (wayC (wayR r)),.int .i64 0] else .tuple #[.agg wy0,.int .i64 2])∧Below w.heap.size w w'
set_option maxRecDepth 20000 in
set_option maxHeartbeats 8000000 in
attribute [-go_sem] Instr.storeAt Instr.loadAt Instr.alloc in
theorem entry_any (r:Rt) (w:World) (h:RtOk w (fun k=>k < w.heap.size) r):Calls Tryz.prog 48 #[rtV r] w (EntPost w r):=by
 obtain ⟨W0,hW0⟩:∃ Z,Z=(w.alloc (.cells #[.int .u32 (r.a:Int),.int .i64 r.m,.bool r.own,.bool r.tk,.int .i64 r.d,.slice r.A r.n r.c] 54)).alloc (.cells wy0 41):=⟨_,rfl⟩
 have hz1:(w.alloc (.cells #[.int .u32 (r.a:Int),.int .i64 r.m,.bool r.own,.bool r.tk,.int .i64 r.d,.slice r.A r.n r.c] 54)).heap.size=w.heap.size+1:=by simp
 have hE:EnW w r wy0 W0:=by
  rw [hW0]
  refine ⟨(Blk.new w _ _).alloc _,?_,((Below.refl _ _).alloc (Nat.le_refl _) _).alloc (by simp) _⟩
  have:=Blk.new (w.alloc (.cells #[.int .u32 (r.a:Int),.int .i64 r.m,.bool r.own,.bool r.tk,.int .i64 r.d,.slice r.A r.n r.c] 54)) 41 wy0
  rwa [hz1] at this
 have HMY:=Lib.hid (fmay_any r W0 ((h.keep (Same.ofBelow hE.b fun k hk=>hk)).mono fun k hk=>Nat.lt_of_lt_of_le hk hE.b.size))
 have HE:=Lib.hid hE
 have HW0:=Lib.hid hW0
 have HOK:=Lib.hid h
 have lr:=ld_rt hE.x
 have hal:=way_alloc
 clear hE hW0 h
 go_enter Tryz.func48,Tryz.ntmps48
 unfold rtV
 go_upto_region 3 with (fail)
 rw [← HW0.out]
 clear hal hz1
 cases hmr:mayR r with
 | false =>
   rw [hmr] at HMY
   go_wp2_with (go_at_call 101; refine HMY.out.mono ?_; rintro e w1 ⟨rfl,hb1⟩; have HE1:=Lib.hid (HE.out.later hb1); have lv:=ld_wyB HE1.out.v wy0_size; have st:=st_wyB HE1.out.v wy0_size wy0_size wy0_one; clear hb1)
   have hk9:=blk_setCells HE1.out.v (show wy0.size=wy0.size from rfl)
   refine bodyPost_ret_by (res_cell2 Tryz.underlying41 rfl wy_info rfl _ rfl hk9 wy0_size) rfl ?_
   exact ⟨by rw [hmr]; rfl,below_setCells (Nat.le_succ _) _ _ _ HE1.out.b⟩
 | true =>
   rw [hmr] at HMY
   by_cases how:r.own=true
   ·have HWR:=Lib.hid (show wayR r=(1,zs0) by unfold wayR; rw [if_pos how])
    go_wp2_with fail
    refine HMY.out.mono ?_
    rintro e w1 ⟨rfl,hb1⟩
    have HE1:=Lib.hid (HE.out.later hb1)
    have lo:=ld_btN (HE1.out.x.cell 2)
    have lt:=ld_btN (HE1.out.x.cell 3)
    have ln:=ld_nxs (HE1.out.x.cell 5)
    have sk:=st_kd (HE1.out.v.cell 0 |>.trans wy0_k) (HE1.out.v.frozen 0) 1
    have hk2:=HE1.out.v.set_ 0 (.int .i64 1)
    rw [← wyC_zero,wyC_setK] at hk2
    have HK2:=Lib.hid hk2
    rw [how] at lo
    have lv:=ld_wyB hk2 (wyC_size zs0_len)
    have st:=st_wyB (vs:=wyC 1 zs0) hk2 (wyC_size zs0_len) (wyC_size zs0_len) (wyC_one _ _)
    clear hb1 hk2
    go_wp2_with fail
    have hk9:=blk_setCells HK2.out (show (wyC 1 zs0).size=(wyC 1 zs0).size from rfl)
    refine bodyPost_ret_by (res_cell2 Tryz.underlying41 rfl wy_info rfl _ rfl hk9 (wyC_size zs0_len)) rfl ?_
    exact ⟨by rw [hmr,HWR.out]; rfl,below_setCells (Nat.le_succ _) _ _ _ (HE1.out.b.setCell (p:=⟨w.heap.size+1,0,none⟩) (Nat.le_succ _) _)⟩
   ·have how':r.own=false:=by simpa using how
    by_cases htk:r.tk=false
    ·have HWR:=Lib.hid (show wayR r=(2,zs0) by unfold wayR; rw [if_neg how,if_pos (.inl htk)])
     go_wp2_with fail
     refine HMY.out.mono ?_
     rintro e w1 ⟨rfl,hb1⟩
     have HE1:=Lib.hid (HE.out.later hb1)
     have lo:=ld_btN (HE1.out.x.cell 2)
     have lt:=ld_btN (HE1.out.x.cell 3)
     have ln:=ld_nxs (HE1.out.x.cell 5)
     have sk:=st_kd (HE1.out.v.cell 0 |>.trans wy0_k) (HE1.out.v.frozen 0) 2
     have hk2:=HE1.out.v.set_ 0 (.int .i64 2)
     rw [← wyC_zero,wyC_setK] at hk2
     have HK2:=Lib.hid hk2
     rw [how'] at lo
     rw [htk] at lt
     have lv:=ld_wyB hk2 (wyC_size zs0_len)
     have st:=st_wyB (vs:=wyC 2 zs0) hk2 (wyC_size zs0_len) (wyC_size zs0_len) (wyC_one _ _)
     clear hb1 hk2
     go_wp2_with fail
     have hk9:=blk_setCells HK2.out (show (wyC 2 zs0).size=(wyC 2 zs0).size from rfl)
     refine bodyPost_ret_by (res_cell2 Tryz.underlying41 rfl wy_info rfl _ rfl hk9 (wyC_size zs0_len)) rfl ?_
     exact ⟨by rw [hmr,HWR.out]; rfl,below_setCells (Nat.le_succ _) _ _ _ (HE1.out.b.setCell (p:=⟨w.heap.size+1,0,none⟩) (Nat.le_succ _) _)⟩
    ·have htk':r.tk=true:=by simpa using htk
     by_cases hn:r.n=0
     ·have HWR:=Lib.hid (show wayR r=(2,zs0) by unfold wayR; rw [if_neg how,if_pos (.inr hn)])
      go_wp2_with fail
      refine HMY.out.mono ?_
      rintro e w1 ⟨rfl,hb1⟩
      have HE1:=Lib.hid (HE.out.later hb1)
      have lo:=ld_btN (HE1.out.x.cell 2)
      have lt:=ld_btN (HE1.out.x.cell 3)
      have ln:=ld_nxs (HE1.out.x.cell 5)
      have sk:=st_kd (HE1.out.v.cell 0 |>.trans wy0_k) (HE1.out.v.frozen 0) 2
      have hk2:=HE1.out.v.set_ 0 (.int .i64 2)
      rw [← wyC_zero,wyC_setK] at hk2
      have HK2:=Lib.hid hk2
      rw [how'] at lo
      rw [htk'] at lt
      rw [hn] at ln
      have lv:=ld_wyB hk2 (wyC_size zs0_len)
      have st:=st_wyB (vs:=wyC 2 zs0) hk2 (wyC_size zs0_len) (wyC_size zs0_len) (wyC_one _ _)
      clear hb1 hk2
      go_wp2_with fail
      have hk9:=blk_setCells HK2.out (show (wyC 2 zs0).size=(wyC 2 zs0).size from rfl)
      refine bodyPost_ret_by (res_cell2 Tryz.underlying41 rfl wy_info rfl _ rfl hk9 (wyC_size zs0_len)) rfl ?_
      exact ⟨by rw [hmr,HWR.out]; rfl,below_setCells (Nat.le_succ _) _ _ _ (HE1.out.b.setCell (p:=⟨w.heap.size+1,0,none⟩) (Nat.le_succ _) _)⟩
     ·have HWR:=Lib.hid (show wayR r=(3,tableF r.nx) by unfold wayR; rw [if_neg how,if_neg (by rintro (e | e); exact htk e; exact hn e)])
      have hmf:mayF r.nx=true:=by
       unfold mayR at hmr
       rw [decide_eq_false hn] at hmr
       simp at hmr
       exact hmr.2
      have hn1:((r.n:Int) == 0)=false:=beq_eq_false_iff_ne.2 (by omega)
      have HBK:=Lib.hid (fun (wx:World) (hb:Below w.heap.size w wx)=>buckets_yes r.A r.n r.c r.nx (fun k=>k < w.heap.size) wx (HOK.out.rd.keep (Same.ofBelow hb fun k hk=>hk)) HOK.out.l hmf)
      have htl:=table_len hmf
      go_wp2_with fail
      refine HMY.out.mono ?_
      rintro e w1 ⟨rfl,hb1⟩
      have HE1:=Lib.hid (HE.out.later hb1)
      have lo:=ld_btN (HE1.out.x.cell 2)
      have lt:=ld_btN (HE1.out.x.cell 3)
      have ln:=ld_nxs (HE1.out.x.cell 5)
      have sk:=st_kd (HE1.out.v.cell 0 |>.trans wy0_k) (HE1.out.v.frozen 0) 3
      have hk2:=HE1.out.v.set_ 0 (.int .i64 3)
      rw [← wyC_zero,wyC_setK] at hk2
      have HK2:=Lib.hid hk2
      rw [how'] at lo
      rw [htk'] at lt
      have HB2:=Lib.hid (HE1.out.b.setCell (p:=⟨w.heap.size+1,0,none⟩) (Nat.le_succ _) (.int .i64 3))
      have HX2:=Lib.hid (HE1.out.x.far (p:=⟨w.heap.size+1,0,none⟩) (Nat.ne_of_lt (Nat.lt_succ_self _)) (.int .i64 3))
      have l2:=ld_nxs (HX2.out.cell 5)
      clear hb1 hk2
      go_wp2_with (first
       | (go_at_call 102; refine (HBK.out _ HB2.out).mono ?_; rintro e w3 ⟨rfl,hb3⟩; have HB3:=Lib.hid (HB2.out.trans (hb3.mono HB2.out.size)); obtain ⟨sb,hk4⟩:=st_bk (HK2.out.below hb3 HK2.out.lt) zs0_len htl; have lv:=ld_wyB hk4 (wyC_size htl); have st:=st_wyB (vs:=wyC 3 (tableF r.nx)) hk4 (wyC_size htl) (wyC_size htl) (wyC_one _ _); have HK4:=Lib.hid hk4; clear hb3 hk4))
      have hk9:=blk_setCells HK4.out (show (wyC 3 (tableF r.nx)).size=(wyC 3 (tableF r.nx)).size from rfl)
      refine bodyPost_ret_by (res_cell2 Tryz.underlying41 rfl wy_info rfl _ rfl hk9 (wyC_size htl)) rfl ?_
      exact ⟨by rw [hmr,HWR.out]; rfl,below_setCells (Nat.le_succ _) _ _ _ (below_setCells (Nat.le_succ _) _ _ _ HB3.out)⟩
end Go.Proofs.YthlommalbkhcjaaGreat
