/- Cuts of byte slices. -/
import Derived.Test.YthlommalbkhcjaaGreatNq16
import Derived.RegionTactic
import Derived.ChangeAlike
namespace Go.Proofs.YthlommalbkhcjaaGreat
open Go.RowKit
theorem info_u16:(Tryz.prog.info? 74).map (fun i=>(i.zero,i.size,i.bytes))=some (some (.int .u16 0),1,2):=by kernel_rfl
def u16V (l:List Nat):List Value:=l.map fun (n:Nat)=>Value.int .u16 (n:Int)
theorem words_get:∀ (x:By) (k:Nat),k < (wordsF x).length→2 * k < x.length∧(wordsF x)[k]?=some (256 * (x.getD (2 * k) 0).toNat+(x.getD (2 * k+1) 0).toNat)
 | [],k,h=>by simp [wordsF] at h
 | [a],k,h=>by
   obtain rfl:k=0:=by simp [wordsF] at h; omega
   simp [wordsF]
 | a :: b :: r,0,h=>by simp [wordsF]
 | a :: b :: r,k+1,h=>by
   have ih:=words_get r k (by simp [wordsF] at h; omega)
   have e1:2 * (k+1)=2 * k+1+1:=by omega
   have e2:2 * (k+1)+1=2 * k+1+1+1:=by omega
   rw [e1]
   refine ⟨by simp; exact ih.1,?_⟩
   show (wordsF r)[k]?=_
   rw [ih.2]
   rfl
theorem words_len:∀ x:By,(wordsF x).length=(x.length+1) / 2
 | []=>rfl
 | [a]=>by simp [wordsF]
 | a :: b :: r=>by
   show (wordsF r).length+1=_
   rw [words_len r]; simp; omega
theorem byte_at {w:World} {I:Nat→Prop} {A:Option Addr} {n k:Nat} {x:By} (h:Reads w I 1 A n (bytesV x)) (hk:k < x.length):∃ ad,A=some ad∧ad.block < w.heap.size∧w.cell? (ad.add k)=some (.int .u8 (x[k].toNat:Int)):=by
 have hn:x.length=n:=by have:=h.1; rw [bytesV_len] at this; omega
 obtain ⟨ad,hA,_,hb,hc⟩:=h.2 (by omega)
 exact ⟨ad,hA,hb,hc _ _ (bytes_get hk)⟩
theorem add_pos (a:Addr) (k:Nat) (h:0 < k):a.add k=⟨a.block,a.off+k,none⟩:=by
 unfold Addr.add
 rw [if_neg (by omega)]
set_option maxRecDepth 20000 in
set_option maxHeartbeats 1600000 in
theorem words_any (A:Option Addr) (n c:Nat) (x:By) (I:Nat→Prop) (w:World) (h:Reads w I 1 A n (bytesV x)) (hn:x.length=n) (hsm:n≤1000000) :
  Calls Tryz.prog 134 #[.slice A n c] w fun e w'=>∃ v,e=.returned v∧w'.ownsRow w.heap.size 74 1 v (wordsF x).length (u16V (wordsF x))∧Below w.heap.size w w':=by
 have HR:=Lib.hid h.lt
 have HL:=Lib.hid hn
 obtain ⟨m,hm⟩:∃ m,m=(wordsF x).length:=⟨_,rfl⟩
 have hmn:m=(n+1) / 2:=by rw [hm,words_len,hn]
 have HM:=Lib.hid hm
 clear h hn hm
 go_enter Tryz.func134,Tryz.ntmps134
 go_wp2_with fail
 go_loopw [3,4] (fun v i wr=>∃ k:Nat,k≤m∧i=.int .i64 (2 * k:Nat)∧wr.ownsRow w.heap.size 74 1 v k (u16V ((wordsF x).take k))∧Below w.heap.size w wr) (fun _ i _=>n+1 - (intOf i).toNat)
 case atStart=>exact ⟨0,by omega,rfl,World.ownsRow_nil _ _ _ _,Below.refl _ _⟩
 case round =>
  obtain ⟨k,hk,rfl,hv,hb⟩:=hrel
  have HV:=Lib.hid hv
  have HB:=Lib.hid hb
  have hrd:=HR.out.keep (Same.ofBelow hb fun k hk=>hk.2)
  clear hv hb
  by_cases hlt:k < m
  ·obtain ⟨hk2,hword⟩:=words_get x k (by rw [← HM.out]; exact hlt)
   have hkn:2 * k < n:=by rw [← HL.out]; exact hk2
   obtain ⟨ad,rfl,_,hc0⟩:=byte_at hrd hk2
   have hw0:(x.getD (2 * k) 0).toNat=x[2 * k].toNat:=by rw [List.getD_eq_getElem?_getD,List.getElem?_eq_getElem hk2]; rfl
   have hb0:=x[2 * k].toNat_lt
   obtain ⟨b0,hbe⟩:∃ b0,b0=x[2 * k].toNat:=⟨_,rfl⟩
   rw [← hbe] at hc0 hw0 hb0
   obtain ⟨q,hq⟩:∃ q,q=2 * k:=⟨_,rfl⟩
   have HQ:=Lib.hid hq
   rw [← hq] at hc0 hkn hw0 ⊢
   have hd0:decide ((q:Int) < (n:Int))=true:=decide_eq_true (by omega)
   have hd1:decide (q < n)=true:=decide_eq_true (by omega)
   have hi0:(0:Int)≤q:=by omega
   have hi1:(q:Int) < n:=by omega
   have hql:q≤1000000:=by omega
   obtain ⟨i0,hi,hz0,hz1,hz2⟩:=info_parts info_u16
   have hmx:k+1≤maxLen:=by unfold maxLen; omega
   have hmb:(k+1) * 2≤140737488355328:=by omega
   by_cases h2:q+1 < n
   ·have hk3:q+1 < x.length:=by rw [HL.out]; exact h2
    obtain ⟨ad',he,_,hc1⟩:=byte_at hrd hk3
    injection he with he
    subst he
    have hw1:(x.getD (q+1) 0).toNat=x[q+1].toNat:=by rw [List.getD_eq_getElem?_getD,List.getElem?_eq_getElem hk3]; rfl
    have hb1:=x[q+1].toNat_lt
    obtain ⟨b1,hbe1⟩:∃ b1,b1=x[q+1].toNat:=⟨_,rfl⟩
    rw [← hbe1] at hc1 hw1 hb1
    rw [← hq,hw0,hw1] at hword
    have HWD:=Lib.hid (show u16V ((wordsF x).take (k+1))=u16V ((wordsF x).take k)++[.int .u16 (256 * (b0:Int)+(b1:Int))] by
     rw [List.take_succ_eq_append_getElem (by rw [← HM.out]; exact hlt)]
     have e:=List.getElem?_eq_some_iff.1 hword
     rw [e.2]
     simp [u16V])
    have hd2:decide ((q:Int)+1 < (n:Int))=true:=decide_eq_true (by omega)
    have hd3:decide (q+1 < n)=true:=decide_eq_true (by omega)
    have hi2:(0:Int)≤(q:Int)+1:=by omega
    have hi3:(q:Int)+1 < n:=by omega
    have hc2:wr.cell? ⟨ad.block,ad.off+(q+1),none⟩=some (.int .u8 (b1:Int)):=by rw [← add_pos ad (q+1) (by omega)]; exact hc1
    clear hk hk2 hw0 hbe hq hk3 hw1 hbe1 hrd hword hmn hc1
    go_wp2_with (at_builtin; refine wpList_push1 wr rfl (.tmp 22) (.tmp 32) _ 74 rfl rfl i0 _ 2 Tryz.underlying212 hi hz0 hz1 hz2 rfl w.heap.size u3 k _ (.int .u16 (256 * (b0:Int)+(b1:Int))) rfl rfl HV.out rfl hmx hmb HB.out.size ?_; intro v2 w2 h2 hg2 hat2)
    have hb2:=HB.out.grown hg2 HB.out.size fun g hg=>(own_lt HV.out hg).1
    rw [← HWD.out] at h2
    have H2:=Lib.hid h2
    have HB2:=Lib.hid hb2
    clear h2 hg2 hat2 hb2
    go_wp2_with fail
    go_roundw
    case rel=>exact ⟨k+1,by omega,congrArg (Value.int .i64) (by have:=HQ.out; omega),H2.out,HB2.out⟩
    case measure=>simp [intOf]; omega
   ·have hw1:(x.getD (q+1) 0).toNat=0:=by rw [List.getD_eq_getElem?_getD,List.getElem?_eq_none (by rw [HL.out]; omega)]; rfl
    rw [← hq,hw0,hw1,Nat.add_zero] at hword
    have HWD:=Lib.hid (show u16V ((wordsF x).take (k+1))=u16V ((wordsF x).take k)++[.int .u16 (256 * (b0:Int))] by
     rw [List.take_succ_eq_append_getElem (by rw [← HM.out]; exact hlt)]
     have e:=List.getElem?_eq_some_iff.1 hword
     rw [e.2]
     simp [u16V])
    have hd2:decide ((q:Int)+1 < (n:Int))=false:=decide_eq_false (by omega)
    have hd3:decide (q+1 < n)=false:=decide_eq_false (by omega)
    clear hk hk2 hw0 hbe hq hw1 hrd hword hmn
    go_wp2_with (at_builtin; refine wpList_push1 wr rfl (.tmp 22) (.tmp 32) _ 74 rfl rfl i0 _ 2 Tryz.underlying212 hi hz0 hz1 hz2 rfl w.heap.size u3 k _ (.int .u16 (256 * (b0:Int))) rfl rfl HV.out rfl hmx hmb HB.out.size ?_; intro v2 w2 h2 hg2 hat2)
    have hb2:=HB.out.grown hg2 HB.out.size fun g hg=>(own_lt HV.out hg).1
    rw [← HWD.out] at h2
    have H2:=Lib.hid h2
    have HB2:=Lib.hid hb2
    clear h2 hg2 hat2 hb2
    go_wp2_with fail
    go_roundw
    case rel=>exact ⟨k+1,by omega,congrArg (Value.int .i64) (by have:=HQ.out; omega),H2.out,HB2.out⟩
    case measure=>simp [intOf]; omega
  ·obtain rfl:k=m:=by omega
   have hx:=HV.out
   rw [List.take_of_length_le (by rw [← HM.out]; exact Nat.le_refl _)] at hx
   have hd0:decide (((2 * k:Nat):Int) < (n:Int))=false:=decide_eq_false (by omega)
   have hd1:decide (2 * k < n)=false:=decide_eq_false (by omega)
   have HX:=Lib.hid hx
   clear hrd hx
   go_wp2_with fail
   go_ret
   exact ⟨_,rfl,by rw [← HM.out]; exact HX.out,HB.out⟩
end Go.Proofs.YthlommalbkhcjaaGreat
namespace Go.Proofs.YthlommalbkhcjaaGreat
open Go.RowKit
section
variable (A:Option Addr) (n cap:Nat) (w:World)
theorem u8elem:(Tryz.prog).underlying 61=some (.slice ((Tryz.prog).elem 61)):=by simp [Program.elem,Tryz.underlying61]
theorem u8elem2:(Tryz.prog).elem 61=5:=by simp [Program.elem,Tryz.underlying61]
theorem u8size (w:World):(Go.sizeOf 5).run Tryz.prog w=.ok 1 w:=by go_simp
theorem sl_lo (k:Nat) (hk:k≤n):(Instr.slice 61 (.slice A n cap) (some (.int .i64 (k:Int))) none none).run Tryz.prog w=.ok (.slice (if cap=k then A else A.map (·.add k)) (n - k) (cap - k)) w:=by
 rw [run_slice_l w _ _ _ _ u8elem .i64 _ (by omega) (by omega),u8elem2,u8size]
 by_cases h0:cap=k
 ·simp [Result.andThen,sliced,h0]
 ·simp [Result.andThen,sliced,h0]
theorem sl_hi (k:Nat) (hk:k≤cap):(Instr.slice 61 (.slice A n cap) none (some (.int .i64 (k:Int))) none).run Tryz.prog w=.ok (.slice A k cap) w:=by
 rw [run_slice_h w _ _ _ _ u8elem .i64 _ (by omega) (by omega),u8elem2,u8size]
 cases A <;> simp [Result.andThen,sliced,Addr.add]
theorem sl_lohi (a b:Nat) (hab:a≤b) (hb:b≤cap):(Instr.slice 61 (.slice A n cap) (some (.int .i64 (a:Int))) (some (.int .i64 (b:Int))) none).run Tryz.prog w=.ok (.slice (if cap=a then A else A.map (·.add a)) (b - a) (cap - a)) w:=by
 rw [run_slice_lh w _ _ _ _ u8elem .i64 .i64 _ _ (by omega) (by omega) (by omega),u8elem2,u8size]
 by_cases h0:cap=a
 ·simp [Result.andThen,sliced,h0]
 ·simp [Result.andThen,sliced,h0]
theorem sl_max (k:Nat) (hk:k≤cap):(Instr.slice 61 (.slice A n cap) none (some (.int .i64 (k:Int))) (some (.int .i64 (k:Int)))).run Tryz.prog w=.ok (.slice A k k) w:=by
 rw [run_slice_hm w _ _ _ _ u8elem .i64 .i64 _ _ (by omega) (by omega) (by omega),u8elem2,u8size]
 cases A <;> simp [Result.andThen,sliced,Addr.add]
end
def Sl8 (w:World) (I:Nat→Prop) (v:Value) (x:By):Prop:=∃ A c,v=.slice A x.length c∧x.length≤c∧Reads w I 1 A x.length (bytesV x)
section
variable {w w2:World} {I J:Nat→Prop} {v:Value} {x:By} {A:Option Addr} {n c:Nat}
theorem Sl8.len (h:Sl8 w I (.slice A n c) x):n=x.length∧x.length≤c∧Reads w I 1 A x.length (bytesV x):=by
 obtain ⟨A1,c1,e,h1,h2⟩:=h
 injection e with e1 e2 e3
 subst e1 e2 e3
 exact ⟨rfl,h1,h2⟩
theorem Sl8.keep (h:Sl8 w I v x) (hs:Same I w w2):Sl8 w2 I v x:=by
 obtain ⟨A1,c1,e,h1,h2⟩:=h
 exact ⟨A1,c1,e,h1,h2.keep hs⟩
theorem Sl8.mono (h:Sl8 w I v x) (hs:∀ k,I k→J k):Sl8 w J v x:=by
 obtain ⟨A1,c1,e,h1,h2⟩:=h
 exact ⟨A1,c1,e,h1,h2.mono hs⟩
theorem Sl8.lt (h:Sl8 w I v x):Sl8 w (fun k=>I k∧k < w.heap.size) v x:=by
 obtain ⟨A1,c1,e,h1,h2⟩:=h
 exact ⟨A1,c1,e,h1,h2.lt⟩
theorem Row8.sl {B:Nat} (h:Row8 B w v x):Sl8 w (fun k=>B≤k∧k < w.heap.size) v x:=by
 obtain ⟨A,c,rfl,hc⟩:=h.form
 exact ⟨A,c,rfl,hc,(h.reads).2⟩
theorem bytesV_take (x:By) (k:Nat):(bytesV x).take k=bytesV (x.take k):=by simp [bytesV,List.map_take]
theorem bytesV_drop (x:By) (k:Nat):(bytesV x).drop k=bytesV (x.drop k):=by simp [bytesV,List.map_drop]
theorem reads_take {k:Nat} (h:Reads w I 1 A x.length (bytesV x)) (hk:k≤x.length):Reads w I 1 A k (bytesV (x.take k)):=by
 refine ⟨by rw [bytesV_len,List.length_take]; omega,fun hn=>?_⟩
 obtain ⟨ad,e,hi,hb,hc⟩:=h.2 (by omega)
 refine ⟨ad,e,hi,hb,fun j u hu=>hc j u ?_⟩
 rw [← bytesV_take] at hu
 have hj:j < k:=by
  rcases Nat.lt_or_ge j k with h | h
  ·exact h
  ·rw [List.getElem?_eq_none (by rw [List.length_take,bytesV_len]; omega)] at hu; cases hu
 rwa [List.getElem?_take_of_lt hj] at hu
theorem reads_drop {k cap:Nat} (h:Reads w I 1 A x.length (bytesV x)) (hk:k≤x.length) (hc:x.length≤cap):Reads w I 1 (if cap=k then A else A.map (·.add k)) (x.length - k) (bytesV (x.drop k)):=by
 have:=h.cut (k:=k) (cap:=cap) hk hc
 rw [Nat.mul_one,bytesV_drop] at this
 exact this
theorem cut_lo {k cap:Nat} (h:Reads w I 1 A x.length (bytesV x)) (hk:k≤x.length) (hc:x.length≤cap):Sl8 w I (.slice (if cap=k then A else A.map (·.add k)) (x.length - k) (cap - k)) (x.drop k) :=
 ⟨_,_,by rw [List.length_drop],by rw [List.length_drop]; omega,by rw [List.length_drop]; exact reads_drop h hk hc⟩
theorem cut_hi {k cap:Nat} (h:Reads w I 1 A x.length (bytesV x)) (hk:k≤x.length) (hc:k≤cap):Sl8 w I (.slice A k cap) (x.take k):=by
 have hl:(x.take k).length=k:=by rw [List.length_take]; omega
 exact ⟨_,_,by rw [hl],by rw [hl]; exact hc,by rw [hl]; exact reads_take h hk⟩
theorem cut_lohi {a b cap:Nat} (h:Reads w I 1 A x.length (bytesV x)) (hab:a≤b) (hb:b≤x.length) (hc:x.length≤cap):Sl8 w I (.slice (if cap=a then A else A.map (·.add a)) (b - a) (cap - a)) (partF x a b):=by
 have hl:(x.take b).length=b:=by rw [List.length_take]; omega
 have h1:Reads w I 1 A (x.take b).length (bytesV (x.take b)):=by
  rw [hl]
  exact reads_take h hb
 have h2:=cut_lo (k:=a) (cap:=cap) h1 (by rw [hl]; exact hab) (by rw [hl]; omega)
 rw [hl] at h2
 exact h2
end
theorem part_len {x:By} {a b:Nat} (hb:b≤x.length):(partF x a b).length=b - a:=by unfold partF; rw [List.length_drop,List.length_take]; omega
end Go.Proofs.YthlommalbkhcjaaGreat
