/- The checksum: the document's and the program's. -/
import Derived.Test.YthlommalbkhcjaaGreatNm02
import Derived.LoopTactic
import Derived.WalkKit
import Derived.Lib.Hide
import Derived.Laws.BitsAllLaws
import Derived.Laws.AppendOwn
import Derived.LoopN
import Derived.RegionTactic
import Derived.ChangeAlike
namespace Go.Proofs.YthlommalbkhcjaaGreat
open Go.RowKit
theorem bytes_get {x:By} {k:Nat} (h:k < x.length):(bytesV x)[k]?=some (.int .u8 (x[k].toNat:Int)):=by
 simp [bytesV,List.getElem?_eq_getElem h]
theorem or_byte (g b:Nat) (hb:b < 256):g * 256 ||| b=g * 256+b:=by
 have h:=Nat.shiftLeft_add_eq_or_of_lt (i:=8) (by omega:b < 2 ^ 8) g
 rw [Nat.shiftLeft_eq] at h
 exact h.symm
theorem u64_or_byte (g b:Nat) (hg:g < 72057594037927936) (hb:b < 256):bits .or .u64 ((g:Int) * 256) (b:Int)=((g * 256+b:Nat):Int):=by
 have h:=u64_or_nat (g * 256) b (by omega) (by omega)
 rw [or_byte g b hb] at h
 rw [← h]
 congr 1
theorem getF_take {x:By} {k:Nat} (h:k < x.length):getF (x.take (k+1))=getF (x.take k) * 256+x[k].toNat:=by
 rw [List.take_succ_eq_append_getElem h,getF_snoc]
set_option maxHeartbeats 400000 in
theorem wget_any (A:Option Addr) (n c:Nat) (x:By) (I:Nat→Prop) (w:World) (h:Reads w I 1 A n (bytesV x)) (hn:x.length=n) (h1:1≤n) (h8:n≤7) :
  Calls Tryz.prog 137 #[.slice A n c] w fun e w'=>e=.returned (.tuple #[.int .u64 (getF x:Int),.int .i64 0])∧w=w':=by
 obtain ⟨ad,rfl,_,_,hc⟩:=h.2 (by omega)
 have HL:=Lib.hid hn
 have HC:=Lib.hid hc
 clear h hc hn
 go_enter Tryz.func137,Tryz.ntmps137
 go_wp2
 go_loop [4,17] (fun s i=>∃ k:Nat,k≤n∧i=.int .i64 (k:Int)∧s=.int .u64 (getF (x.take k):Int)) (fun _ i=>n - (intOf i).toNat)
 case atStart=>exact ⟨0,Nat.zero_le _,rfl,rfl⟩
 case round =>
  obtain ⟨k,hk,rfl,rfl⟩:=hrel
  by_cases hlt:k < n
  ·have hkx:k < x.length:=by rw [HL.out]; exact hlt
   have hcell:w.cell? (ad.add k)=some (.int .u8 (x[k].toNat:Int)):=HC.out _ _ (bytes_get hkx)
   have hg:=getF_lt (x.take k)
   have hl:(x.take k).length≤6:=by rw [List.length_take]; omega
   have hb:=x[k].toNat_lt
   have hp:256 ^ (x.take k).length≤256 ^ 6:=Nat.pow_le_pow_right (by omega) hl
   have hi0:(0:Int)≤k:=by omega
   have hi1:(k:Int) < n:=by omega
   have hgs:=Lib.hid (getF_take hkx)
   obtain ⟨g,hge⟩:∃ g,g=getF (x.take k):=⟨_,rfl⟩
   obtain ⟨b,hbe⟩:∃ b,b=x[k].toNat:=⟨_,rfl⟩
   rw [← hge] at hg hgs ⊢
   rw [← hbe] at hcell hb hgs
   have hg2:g < 281474976710656:=by have:(256:Nat) ^ 6=281474976710656:=rfl; omega
   clear hg hl hp hge hbe
   go_wp2
   go_round
   case rel=>exact ⟨k+1,by omega,by go_num,by rw [u64_or_byte g b (by omega) hb,hgs.out]⟩
   case measure=>simp [intOf]; omega
  ·obtain rfl:k=n:=by omega
   have hx:x.take k=x:=List.take_of_length_le (by rw [HL.out]; exact Nat.le_refl _)
   rw [hx]
   go_wp2
   go_ret2
   exact ⟨rfl,rfl⟩
theorem number_any (A:Option Addr) (n c:Nat) (x:By) (I:Nat→Prop) (w:World) (h:Reads w I 1 A n (bytesV x)) (hn:x.length=n) (h1:1≤n) (h8:n≤7) :
  Calls Tryz.prog 76 #[.slice A n c] w fun e w'=>e=.returned (.int .u64 (getF x:Int))∧w=w':=by
 have HC:=Lib.hid (wget_any A n c x I w h hn h1 h8)
 clear h hn
 go_enter Tryz.func76,Tryz.ntmps76
 go_wp2_with fail
 refine HC.out.mono ?_
 rintro e w' ⟨rfl,rfl⟩
 go_wp2_with fail
 go_ret
 exact ⟨rfl,rfl⟩
theorem putF_take (n size k:Nat) (hk:k < size):(putF n size).take (k+1)=(putF n size).take k++[UInt8.ofNat (n / 256 ^ (size - 1 - k))]:=by
 have hl:k < (putF n size).length:=by rw [putF_len]; exact hk
 rw [List.take_succ_eq_append_getElem hl]
 congr 2
 simp [putF]
set_option maxRecDepth 20000 in
set_option maxHeartbeats 1600000 in
theorem wput1_any (n:Nat) (w:World) (hn:n < 256) :
  Calls Tryz.prog 204 #[.int .u64 (n:Int),.int .i64 1] w fun e w'=>∃ v,e=.returned (.tuple #[v,.int .i64 0])∧Row8 w.heap.size w' v (putF n 1)∧Below w.heap.size w w':=by
 go_enter Tryz.func204,Tryz.ntmps204
 go_wp2_with fail
 go_loopw [6,26] (fun v i wr=>∃ k:Nat,k≤1∧i=.int .i64 (k:Int)∧Row8 w.heap.size wr v ((putF n 1).take k)∧Below w.heap.size w wr) (fun _ i _=>1 - (intOf i).toNat)
 case atStart=>exact ⟨0,by omega,rfl,Row8.nil _ _,Below.refl _ _⟩
 case round =>
  obtain ⟨k,hk,rfl,hv,hb⟩:=hrel
  have HV:=Lib.hid hv
  have HB:=Lib.hid hb
  clear hv hb
  by_cases hlt:k < 1
  ·have hk3:k=0:=by omega
   rcases hk3 with hk3
   ·obtain rfl:k=0:=by omega
    have hpt:=Lib.hid (putF_take n 1 0 (by omega))
    have hln:((putF n 1).take 0).length+1≤140737488355328:=by rw [List.length_take,putF_len]; omega
    have HLN:=Lib.hid hln
    clear hlt hk hln
    go_wp2_with (at_builtin; refine wpList_push8 wr rfl (.tmp 29) (.tmp 38) rfl rfl w.heap.size u6 _ (UInt8.ofNat (n / 256 ^ (1 - 1 - 0))) _ (by simp only [UInt8.toNat_ofNat']; omega) rfl HV.out rfl HLN.out HB.out.size ?_; intro v2 w2 h2 hg2 hat2)
    have hb2:=grown_belowB HB.out HV.out hg2 (Nat.le_refl _) HB.out.size
    rw [← hpt.out] at h2
    have H2:=Lib.hid h2
    have HB2:=Lib.hid hb2
    clear h2 hb2 hg2 hat2
    go_wp2_with fail
    go_roundw
    case rel=>exact ⟨_,_,_,⟨1,by omega,rfl,H2.out,HB2.out⟩,rfl,rfl,rfl⟩
    case measure=>simp [intOf]
  ·obtain rfl:k=1:=by omega
   have hx:=HV.out
   rw [List.take_of_length_le (by rw [putF_len]; omega)] at hx
   have HX:=Lib.hid hx
   clear hlt hk hx
   go_wp2_with fail
   go_ret2
   exact ⟨_,rfl,HX.out,HB.out⟩
theorem put1_any (n:Nat) (w:World) (hn:n < 256) :
  Calls Tryz.prog 170 #[.int .u64 (n:Int),.int .i64 1] w fun e w'=>∃ v,e=.returned v∧Row8 w.heap.size w' v (putF n 1)∧Below w.heap.size w w':=by
 have HC:=Lib.hid (wput1_any n w hn)
 go_enter Tryz.func170,Tryz.ntmps170
 go_wp2_with fail
 refine HC.out.mono ?_
 rintro e w' ⟨v,rfl,h1,h2⟩
 go_wp2_with fail
 go_ret
 exact ⟨_,rfl,h1,h2⟩
set_option maxRecDepth 20000 in
set_option maxHeartbeats 1600000 in
theorem wput2_any (n:Nat) (w:World) (hn:n < 65536) :
  Calls Tryz.prog 204 #[.int .u64 (n:Int),.int .i64 2] w fun e w'=>∃ v,e=.returned (.tuple #[v,.int .i64 0])∧Row8 w.heap.size w' v (putF n 2)∧Below w.heap.size w w':=by
 go_enter Tryz.func204,Tryz.ntmps204
 go_wp2_with fail
 go_loopw [6,26] (fun v i wr=>∃ k:Nat,k≤2∧i=.int .i64 (k:Int)∧Row8 w.heap.size wr v ((putF n 2).take k)∧Below w.heap.size w wr) (fun _ i _=>2 - (intOf i).toNat)
 case atStart=>exact ⟨0,by omega,rfl,Row8.nil _ _,Below.refl _ _⟩
 case round =>
  obtain ⟨k,hk,rfl,hv,hb⟩:=hrel
  have HV:=Lib.hid hv
  have HB:=Lib.hid hb
  clear hv hb
  by_cases hlt:k < 2
  ·have hk3:k=0∨k=1:=by omega
   rcases hk3 with hk3 | hk3
   ·obtain rfl:k=0:=by omega
    have hpt:=Lib.hid (putF_take n 2 0 (by omega))
    have hln:((putF n 2).take 0).length+1≤140737488355328:=by rw [List.length_take,putF_len]; omega
    have HLN:=Lib.hid hln
    clear hlt hk hln
    go_wp2_with (at_builtin; refine wpList_push8 wr rfl (.tmp 29) (.tmp 38) rfl rfl w.heap.size u6 _ (UInt8.ofNat (n / 256 ^ (2 - 1 - 0))) _ (by simp only [UInt8.toNat_ofNat']; omega) rfl HV.out rfl HLN.out HB.out.size ?_; intro v2 w2 h2 hg2 hat2)
    have hb2:=grown_belowB HB.out HV.out hg2 (Nat.le_refl _) HB.out.size
    rw [← hpt.out] at h2
    have H2:=Lib.hid h2
    have HB2:=Lib.hid hb2
    clear h2 hb2 hg2 hat2
    go_wp2_with fail
    go_roundw
    case rel=>exact ⟨_,_,_,⟨1,by omega,rfl,H2.out,HB2.out⟩,rfl,rfl,rfl⟩
    case measure=>simp [intOf]
   ·obtain rfl:k=1:=by omega
    have hpt:=Lib.hid (putF_take n 2 1 (by omega))
    have hln:((putF n 2).take 1).length+1≤140737488355328:=by rw [List.length_take,putF_len]; omega
    have HLN:=Lib.hid hln
    clear hlt hk hln
    go_wp2_with (at_builtin; refine wpList_push8 wr rfl (.tmp 29) (.tmp 38) rfl rfl w.heap.size u6 _ (UInt8.ofNat (n / 256 ^ (2 - 1 - 1))) _ (by simp only [UInt8.toNat_ofNat']; omega) rfl HV.out rfl HLN.out HB.out.size ?_; intro v2 w2 h2 hg2 hat2)
    have hb2:=grown_belowB HB.out HV.out hg2 (Nat.le_refl _) HB.out.size
    rw [← hpt.out] at h2
    have H2:=Lib.hid h2
    have HB2:=Lib.hid hb2
    clear h2 hb2 hg2 hat2
    go_wp2_with fail
    go_roundw
    case rel=>exact ⟨_,_,_,⟨2,by omega,rfl,H2.out,HB2.out⟩,rfl,rfl,rfl⟩
    case measure=>simp [intOf]
  ·obtain rfl:k=2:=by omega
   have hx:=HV.out
   rw [List.take_of_length_le (by rw [putF_len]; omega)] at hx
   have HX:=Lib.hid hx
   clear hlt hk hx
   go_wp2_with fail
   go_ret2
   exact ⟨_,rfl,HX.out,HB.out⟩
theorem put2_any (n:Nat) (w:World) (hn:n < 65536) :
  Calls Tryz.prog 170 #[.int .u64 (n:Int),.int .i64 2] w fun e w'=>∃ v,e=.returned v∧Row8 w.heap.size w' v (putF n 2)∧Below w.heap.size w w':=by
 have HC:=Lib.hid (wput2_any n w hn)
 go_enter Tryz.func170,Tryz.ntmps170
 go_wp2_with fail
 refine HC.out.mono ?_
 rintro e w' ⟨v,rfl,h1,h2⟩
 go_wp2_with fail
 go_ret
 exact ⟨_,rfl,h1,h2⟩
set_option maxRecDepth 20000 in
set_option maxHeartbeats 1600000 in
theorem wput4_any (n:Nat) (w:World) (hn:n < 4294967296) :
  Calls Tryz.prog 204 #[.int .u64 (n:Int),.int .i64 4] w fun e w'=>∃ v,e=.returned (.tuple #[v,.int .i64 0])∧Row8 w.heap.size w' v (putF n 4)∧Below w.heap.size w w':=by
 go_enter Tryz.func204,Tryz.ntmps204
 go_wp2_with fail
 go_loopw [6,26] (fun v i wr=>∃ k:Nat,k≤4∧i=.int .i64 (k:Int)∧Row8 w.heap.size wr v ((putF n 4).take k)∧Below w.heap.size w wr) (fun _ i _=>4 - (intOf i).toNat)
 case atStart=>exact ⟨0,by omega,rfl,Row8.nil _ _,Below.refl _ _⟩
 case round =>
  obtain ⟨k,hk,rfl,hv,hb⟩:=hrel
  have HV:=Lib.hid hv
  have HB:=Lib.hid hb
  clear hv hb
  by_cases hlt:k < 4
  ·have hk3:k=0∨k=1∨k=2∨k=3:=by omega
   rcases hk3 with hk3 | hk3 | hk3 | hk3
   ·obtain rfl:k=0:=by omega
    have hpt:=Lib.hid (putF_take n 4 0 (by omega))
    have hln:((putF n 4).take 0).length+1≤140737488355328:=by rw [List.length_take,putF_len]; omega
    have HLN:=Lib.hid hln
    clear hlt hk hln
    go_wp2_with (at_builtin; refine wpList_push8 wr rfl (.tmp 29) (.tmp 38) rfl rfl w.heap.size u6 _ (UInt8.ofNat (n / 256 ^ (4 - 1 - 0))) _ (by simp only [UInt8.toNat_ofNat']; omega) rfl HV.out rfl HLN.out HB.out.size ?_; intro v2 w2 h2 hg2 hat2)
    have hb2:=grown_belowB HB.out HV.out hg2 (Nat.le_refl _) HB.out.size
    rw [← hpt.out] at h2
    have H2:=Lib.hid h2
    have HB2:=Lib.hid hb2
    clear h2 hb2 hg2 hat2
    go_wp2_with fail
    go_roundw
    case rel=>exact ⟨_,_,_,⟨1,by omega,rfl,H2.out,HB2.out⟩,rfl,rfl,rfl⟩
    case measure=>simp [intOf]
   ·obtain rfl:k=1:=by omega
    have hpt:=Lib.hid (putF_take n 4 1 (by omega))
    have hln:((putF n 4).take 1).length+1≤140737488355328:=by rw [List.length_take,putF_len]; omega
    have HLN:=Lib.hid hln
    clear hlt hk hln
    go_wp2_with (at_builtin; refine wpList_push8 wr rfl (.tmp 29) (.tmp 38) rfl rfl w.heap.size u6 _ (UInt8.ofNat (n / 256 ^ (4 - 1 - 1))) _ (by simp only [UInt8.toNat_ofNat']; omega) rfl HV.out rfl HLN.out HB.out.size ?_; intro v2 w2 h2 hg2 hat2)
    have hb2:=grown_belowB HB.out HV.out hg2 (Nat.le_refl _) HB.out.size
    rw [← hpt.out] at h2
    have H2:=Lib.hid h2
    have HB2:=Lib.hid hb2
    clear h2 hb2 hg2 hat2
    go_wp2_with fail
    go_roundw
    case rel=>exact ⟨_,_,_,⟨2,by omega,rfl,H2.out,HB2.out⟩,rfl,rfl,rfl⟩
    case measure=>simp [intOf]
   ·obtain rfl:k=2:=by omega
    have hpt:=Lib.hid (putF_take n 4 2 (by omega))
    have hln:((putF n 4).take 2).length+1≤140737488355328:=by rw [List.length_take,putF_len]; omega
    have HLN:=Lib.hid hln
    clear hlt hk hln
    go_wp2_with (at_builtin; refine wpList_push8 wr rfl (.tmp 29) (.tmp 38) rfl rfl w.heap.size u6 _ (UInt8.ofNat (n / 256 ^ (4 - 1 - 2))) _ (by simp only [UInt8.toNat_ofNat']; omega) rfl HV.out rfl HLN.out HB.out.size ?_; intro v2 w2 h2 hg2 hat2)
    have hb2:=grown_belowB HB.out HV.out hg2 (Nat.le_refl _) HB.out.size
    rw [← hpt.out] at h2
    have H2:=Lib.hid h2
    have HB2:=Lib.hid hb2
    clear h2 hb2 hg2 hat2
    go_wp2_with fail
    go_roundw
    case rel=>exact ⟨_,_,_,⟨3,by omega,rfl,H2.out,HB2.out⟩,rfl,rfl,rfl⟩
    case measure=>simp [intOf]
   ·obtain rfl:k=3:=by omega
    have hpt:=Lib.hid (putF_take n 4 3 (by omega))
    have hln:((putF n 4).take 3).length+1≤140737488355328:=by rw [List.length_take,putF_len]; omega
    have HLN:=Lib.hid hln
    clear hlt hk hln
    go_wp2_with (at_builtin; refine wpList_push8 wr rfl (.tmp 29) (.tmp 38) rfl rfl w.heap.size u6 _ (UInt8.ofNat (n / 256 ^ (4 - 1 - 3))) _ (by simp only [UInt8.toNat_ofNat']; omega) rfl HV.out rfl HLN.out HB.out.size ?_; intro v2 w2 h2 hg2 hat2)
    have hb2:=grown_belowB HB.out HV.out hg2 (Nat.le_refl _) HB.out.size
    rw [← hpt.out] at h2
    have H2:=Lib.hid h2
    have HB2:=Lib.hid hb2
    clear h2 hb2 hg2 hat2
    go_wp2_with fail
    go_roundw
    case rel=>exact ⟨_,_,_,⟨4,by omega,rfl,H2.out,HB2.out⟩,rfl,rfl,rfl⟩
    case measure=>simp [intOf]
  ·obtain rfl:k=4:=by omega
   have hx:=HV.out
   rw [List.take_of_length_le (by rw [putF_len]; omega)] at hx
   have HX:=Lib.hid hx
   clear hlt hk hx
   go_wp2_with fail
   go_ret2
   exact ⟨_,rfl,HX.out,HB.out⟩
theorem put4_any (n:Nat) (w:World) (hn:n < 4294967296) :
  Calls Tryz.prog 170 #[.int .u64 (n:Int),.int .i64 4] w fun e w'=>∃ v,e=.returned v∧Row8 w.heap.size w' v (putF n 4)∧Below w.heap.size w w':=by
 have HC:=Lib.hid (wput4_any n w hn)
 go_enter Tryz.func170,Tryz.ntmps170
 go_wp2_with fail
 refine HC.out.mono ?_
 rintro e w' ⟨v,rfl,h1,h2⟩
 go_wp2_with fail
 go_ret
 exact ⟨_,rfl,h1,h2⟩
end Go.Proofs.YthlommalbkhcjaaGreat
namespace Go.Proofs.YthlommalbkhcjaaGreat
open Go.RowKit
theorem row8_lit (w:World) (x:By) (cs:Array Value) (hx:x.length≤140737488355328) (h:cs.toList=bytesV x):Row8 w.heap.size (w.alloc (.cells cs 5)) (.slice (some ⟨w.heap.size,0,none⟩) x.length x.length) x:=by
 have hs:cs.size=x.length * 1:=by rw [← Array.length_toList,h,bytesV_len,Nat.mul_one]
 have:=own_alloc_lit (w:=w) w.heap.size 5 1 cs x.length (Nat.le_refl _) (by unfold maxLen; omega) hs
 rw [h] at this
 exact this
set_option maxRecDepth 20000 in
set_option maxHeartbeats 1600000 in
theorem rput1_any (n:Nat) (w:World) (hn:n < 256) :
  Calls Tryz.prog 119 #[.int .u64 (n:Int),.int .i64 1] w fun e w'=>∃ v,e=.returned v∧Row8 w.heap.size w' v (putF n 1)∧Below w.heap.size w w':=by
 have hmk:∀ w:World,(Instr.makeSlice 61 (.int .i64 1) (.int .i64 1)).run Tryz.prog w=.ok (.slice (some ⟨w.heap.size,0,none⟩) 1 1) (w.alloc (.cells #[.int .u8 0] 5)):=fun _=>by kernel_rfl
 go_enter Tryz.func119,Tryz.ntmps119
 go_wp2_with fail
 refine wp_loop_rounds 2 ?_
 rw [rounds_succ]
 go_wp2_with fail
 rw [rounds_succ]
 go_wp2_with fail
 go_ret
 refine ⟨_,rfl,row8_lit w (putF n 1) _ (by rw [putF_len]; omega) ?_,(Below.refl _ _).alloc (Nat.le_refl _) _⟩
 rw [put1]
 simp only [bytesV,List.map_cons,List.map_nil,u8_nat,List.cons.injEq,Value.int.injEq,true_and,and_true]
 omega
set_option maxRecDepth 20000 in
set_option maxHeartbeats 1600000 in
theorem rput2_any (n:Nat) (w:World) (hn:n < 65536) :
  Calls Tryz.prog 119 #[.int .u64 (n:Int),.int .i64 2] w fun e w'=>∃ v,e=.returned v∧Row8 w.heap.size w' v (putF n 2)∧Below w.heap.size w w':=by
 have hmk:∀ w:World,(Instr.makeSlice 61 (.int .i64 2) (.int .i64 2)).run Tryz.prog w=.ok (.slice (some ⟨w.heap.size,0,none⟩) 2 2) (w.alloc (.cells #[.int .u8 0,.int .u8 0] 5)):=fun _=>by kernel_rfl
 go_enter Tryz.func119,Tryz.ntmps119
 go_wp2_with fail
 refine wp_loop_rounds 3 ?_
 rw [rounds_succ]
 go_wp2_with fail
 rw [rounds_succ]
 go_wp2_with fail
 rw [rounds_succ]
 go_wp2_with fail
 go_ret
 refine ⟨_,rfl,row8_lit w (putF n 2) _ (by rw [putF_len]; omega) ?_,(Below.refl _ _).alloc (Nat.le_refl _) _⟩
 rw [put2]
 simp only [bytesV,List.map_cons,List.map_nil,u8_nat,List.cons.injEq,Value.int.injEq,true_and,and_true]
 omega
set_option maxRecDepth 20000 in
set_option maxHeartbeats 1600000 in
theorem rput4_any (n:Nat) (w:World) (hn:n < 4294967296) :
  Calls Tryz.prog 119 #[.int .u64 (n:Int),.int .i64 4] w fun e w'=>∃ v,e=.returned v∧Row8 w.heap.size w' v (putF n 4)∧Below w.heap.size w w':=by
 have hmk:∀ w:World,(Instr.makeSlice 61 (.int .i64 4) (.int .i64 4)).run Tryz.prog w=.ok (.slice (some ⟨w.heap.size,0,none⟩) 4 4) (w.alloc (.cells #[.int .u8 0,.int .u8 0,.int .u8 0,.int .u8 0] 5)):=fun _=>by kernel_rfl
 go_enter Tryz.func119,Tryz.ntmps119
 go_wp2_with fail
 refine wp_loop_rounds 5 ?_
 rw [rounds_succ]
 go_wp2_with fail
 rw [rounds_succ]
 go_wp2_with fail
 rw [rounds_succ]
 go_wp2_with fail
 rw [rounds_succ]
 go_wp2_with fail
 rw [rounds_succ]
 go_wp2_with fail
 go_ret
 refine ⟨_,rfl,row8_lit w (putF n 4) _ (by rw [putF_len]; omega) ?_,(Below.refl _ _).alloc (Nat.le_refl _) _⟩
 rw [put4]
 simp only [bytesV,List.map_cons,List.map_nil,u8_nat,List.cons.injEq,Value.int.injEq,true_and,and_true]
 omega
theorem ret_u16 {a b:Int} (h:a=b):Ending.returned (.int .u16 a)=.returned (.int .u16 b):=by rw [h]
theorem add_any (x y:Nat) (w:World) (hx:x < 65536) (hy:y < 65536) :
  Calls Tryz.prog 210 #[.int .u16 (x:Int),.int .u16 (y:Int)] w fun e w'=>e=.returned (.int .u16 (addF x y:Int))∧w=w':=by
 go_enter Tryz.func210,Tryz.ntmps210
 go_wp2_with fail
 go_ret
 refine ⟨ret_u16 ?_,rfl⟩
 show IntKind.u16.wrap _=_
 rw [IntKind.wrap_u16]
 unfold addF
 split <;> omega
set_option maxRecDepth 20000 in
theorem radd_any (x y:Nat) (w:World) (hx:x < 65536) (hy:y < 65536) :
  Calls Tryz.prog 135 #[.int .u16 (x:Int),.int .u16 (y:Int)] w fun e w'=>e=.returned (.int .u16 (addF x y:Int))∧w=w':=by
 by_cases h:65536≤x+y
 ·have hd:decide ((65536:Int)≤(x:Int)+(y:Int))=true:=decide_eq_true (by omega)
  have H:=Lib.hid h
  clear h
  go_enter Tryz.func135,Tryz.ntmps135
  go_wp2_with fail
  go_ret
  refine ⟨ret_u16 ?_,rfl⟩
  unfold addF
  rw [if_pos H.out]
  have:=H.out
  omega
 ·have hd:decide ((65536:Int)≤(x:Int)+(y:Int))=false:=decide_eq_false (by omega)
  have H:=Lib.hid h
  clear h
  go_enter Tryz.func135,Tryz.ntmps135
  go_wp2_with fail
  go_ret
  refine ⟨ret_u16 ?_,rfl⟩
  unfold addF
  rw [if_neg H.out]
  have:=H.out
  omega
theorem xor_ones (c:Nat) (hc:c < 65536):65535 ^^^ c=65535 - c:=by
 have h1:(~~~ (BitVec.ofNat 16 c)).toNat=2 ^ 16 - 1 - (BitVec.ofNat 16 c).toNat:=BitVec.toNat_not
 rw [BitVec.not_def,BitVec.toNat_xor,BitVec.toNat_ofNat,Nat.mod_eq_of_lt (by omega)] at h1
 exact h1
theorem not16 (c:Nat) (hc:c < 65536):bits .xor .u16 IntKind.u16.max (c:Int)=((65535 - c:Nat):Int):=by
 have h:=u16_xor_nat 65535 c (by omega) hc
 rw [xor_ones c hc] at h
 exact h
end Go.Proofs.YthlommalbkhcjaaGreat
namespace Go.Proofs.YthlommalbkhcjaaGreat
open Go.RowKit
theorem info_u16:(Tryz.prog.info? 74).map (fun i=>(i.zero,i.size,i.bytes))=some (some (.int .u16 0),1,2):=by kernel_rfl
def u16V (l:List Nat):List Value:=l.map fun (n:Nat)=>Value.int .u16 (n:Int)
theorem words_get:∀ (x:By) (k:Nat),k < (wordsF x).length→2 * k < x.length∧(wordsF x)[k]?=some (256 * (x.getD (2 * k) 0).toNat+(x.getD (2 * k+1) 0).toNat)
 | [],k,h=>by simp [wordsF] at h
 | [a],k,h=>by
   obtain rfl:k=0:=by simp [wordsF] at h; omega
   simp [wordsF]
 | a :: b :: r,0,h=>by simp [wordsF]
 | a :: b :: r,k+1,h=>by
   have ih:=words_get r k (by simp [wordsF] at h; omega)
   have e1:2 * (k+1)=2 * k+1+1:=by omega
   have e2:2 * (k+1)+1=2 * k+1+1+1:=by omega
   rw [e1]
   refine ⟨by simp; exact ih.1,?_⟩
   show (wordsF r)[k]?=_
   rw [ih.2]
   rfl
theorem words_len:∀ x:By,(wordsF x).length=(x.length+1) / 2
 | []=>rfl
 | [a]=>by simp [wordsF]
 | a :: b :: r=>by
   show (wordsF r).length+1=_
   rw [words_len r]; simp; omega
theorem byte_at {w:World} {I:Nat→Prop} {A:Option Addr} {n k:Nat} {x:By} (h:Reads w I 1 A n (bytesV x)) (hk:k < x.length):∃ ad,A=some ad∧ad.block < w.heap.size∧w.cell? (ad.add k)=some (.int .u8 (x[k].toNat:Int)):=by
 have hn:x.length=n:=by have:=h.1; rw [bytesV_len] at this; omega
 obtain ⟨ad,hA,_,hb,hc⟩:=h.2 (by omega)
 exact ⟨ad,hA,hb,hc _ _ (bytes_get hk)⟩
theorem add_pos (a:Addr) (k:Nat) (h:0 < k):a.add k=⟨a.block,a.off+k,none⟩:=by
 unfold Addr.add
 rw [if_neg (by omega)]
set_option maxRecDepth 20000 in
set_option maxHeartbeats 1600000 in
theorem words_any (A:Option Addr) (n c:Nat) (x:By) (I:Nat→Prop) (w:World) (h:Reads w I 1 A n (bytesV x)) (hn:x.length=n) (hsm:n≤1000000) :
  Calls Tryz.prog 134 #[.slice A n c] w fun e w'=>∃ v,e=.returned v∧w'.ownsRow w.heap.size 74 1 v (wordsF x).length (u16V (wordsF x))∧Below w.heap.size w w':=by
 have HR:=Lib.hid h.lt
 have HL:=Lib.hid hn
 obtain ⟨m,hm⟩:∃ m,m=(wordsF x).length:=⟨_,rfl⟩
 have hmn:m=(n+1) / 2:=by rw [hm,words_len,hn]
 have HM:=Lib.hid hm
 clear h hn hm
 go_enter Tryz.func134,Tryz.ntmps134
 go_wp2_with fail
 go_loopw [3,4] (fun v i wr=>∃ k:Nat,k≤m∧i=.int .i64 (2 * k:Nat)∧wr.ownsRow w.heap.size 74 1 v k (u16V ((wordsF x).take k))∧Below w.heap.size w wr) (fun _ i _=>n+1 - (intOf i).toNat)
 case atStart=>exact ⟨0,by omega,rfl,World.ownsRow_nil _ _ _ _,Below.refl _ _⟩
 case round =>
  obtain ⟨k,hk,rfl,hv,hb⟩:=hrel
  have HV:=Lib.hid hv
  have HB:=Lib.hid hb
  have hrd:=HR.out.keep (Same.ofBelow hb fun k hk=>hk.2)
  clear hv hb
  by_cases hlt:k < m
  ·obtain ⟨hk2,hword⟩:=words_get x k (by rw [← HM.out]; exact hlt)
   have hkn:2 * k < n:=by rw [← HL.out]; exact hk2
   obtain ⟨ad,rfl,_,hc0⟩:=byte_at hrd hk2
   have hw0:(x.getD (2 * k) 0).toNat=x[2 * k].toNat:=by rw [List.getD_eq_getElem?_getD,List.getElem?_eq_getElem hk2]; rfl
   have hb0:=x[2 * k].toNat_lt
   obtain ⟨b0,hbe⟩:∃ b0,b0=x[2 * k].toNat:=⟨_,rfl⟩
   rw [← hbe] at hc0 hw0 hb0
   obtain ⟨q,hq⟩:∃ q,q=2 * k:=⟨_,rfl⟩
   have HQ:=Lib.hid hq
   rw [← hq] at hc0 hkn hw0 ⊢
   have hd0:decide ((q:Int) < (n:Int))=true:=decide_eq_true (by omega)
   have hd1:decide (q < n)=true:=decide_eq_true (by omega)
   have hi0:(0:Int)≤q:=by omega
   have hi1:(q:Int) < n:=by omega
   have hql:q≤1000000:=by omega
   obtain ⟨i0,hi,hz0,hz1,hz2⟩:=info_parts info_u16
   have hmx:k+1≤maxLen:=by unfold maxLen; omega
   have hmb:(k+1) * 2≤140737488355328:=by omega
   by_cases h2:q+1 < n
   ·have hk3:q+1 < x.length:=by rw [HL.out]; exact h2
    obtain ⟨ad',he,_,hc1⟩:=byte_at hrd hk3
    injection he with he
    subst he
    have hw1:(x.getD (q+1) 0).toNat=x[q+1].toNat:=by rw [List.getD_eq_getElem?_getD,List.getElem?_eq_getElem hk3]; rfl
    have hb1:=x[q+1].toNat_lt
    obtain ⟨b1,hbe1⟩:∃ b1,b1=x[q+1].toNat:=⟨_,rfl⟩
    rw [← hbe1] at hc1 hw1 hb1
    rw [← hq,hw0,hw1] at hword
    have HWD:=Lib.hid (show u16V ((wordsF x).take (k+1))=u16V ((wordsF x).take k)++[.int .u16 (256 * (b0:Int)+(b1:Int))] by
     rw [List.take_succ_eq_append_getElem (by rw [← HM.out]; exact hlt)]
     have e:=List.getElem?_eq_some_iff.1 hword
     rw [e.2]
     simp [u16V])
    have hd2:decide ((q:Int)+1 < (n:Int))=true:=decide_eq_true (by omega)
    have hd3:decide (q+1 < n)=true:=decide_eq_true (by omega)
    have hi2:(0:Int)≤(q:Int)+1:=by omega
    have hi3:(q:Int)+1 < n:=by omega
    have hc2:wr.cell? ⟨ad.block,ad.off+(q+1),none⟩=some (.int .u8 (b1:Int)):=by rw [← add_pos ad (q+1) (by omega)]; exact hc1
    clear hk hk2 hw0 hbe hq hk3 hw1 hbe1 hrd hword hmn hc1
    go_wp2_with (at_builtin; refine wpList_push1 wr rfl (.tmp 22) (.tmp 32) _ 74 rfl rfl i0 _ 2 Tryz.underlying212 hi hz0 hz1 hz2 rfl w.heap.size u3 k _ (.int .u16 (256 * (b0:Int)+(b1:Int))) rfl rfl HV.out rfl hmx hmb HB.out.size ?_; intro v2 w2 h2 hg2 hat2)
    have hb2:=HB.out.grown hg2 HB.out.size fun g hg=>(own_lt HV.out hg).1
    rw [← HWD.out] at h2
    have H2:=Lib.hid h2
    have HB2:=Lib.hid hb2
    clear h2 hg2 hat2 hb2
    go_wp2_with fail
    go_roundw
    case rel=>exact ⟨k+1,by omega,congrArg (Value.int .i64) (by have:=HQ.out; omega),H2.out,HB2.out⟩
    case measure=>simp [intOf]; omega
   ·have hw1:(x.getD (q+1) 0).toNat=0:=by rw [List.getD_eq_getElem?_getD,List.getElem?_eq_none (by rw [HL.out]; omega)]; rfl
    rw [← hq,hw0,hw1,Nat.add_zero] at hword
    have HWD:=Lib.hid (show u16V ((wordsF x).take (k+1))=u16V ((wordsF x).take k)++[.int .u16 (256 * (b0:Int))] by
     rw [List.take_succ_eq_append_getElem (by rw [← HM.out]; exact hlt)]
     have e:=List.getElem?_eq_some_iff.1 hword
     rw [e.2]
     simp [u16V])
    have hd2:decide ((q:Int)+1 < (n:Int))=false:=decide_eq_false (by omega)
    have hd3:decide (q+1 < n)=false:=decide_eq_false (by omega)
    clear hk hk2 hw0 hbe hq hw1 hrd hword hmn
    go_wp2_with (at_builtin; refine wpList_push1 wr rfl (.tmp 22) (.tmp 32) _ 74 rfl rfl i0 _ 2 Tryz.underlying212 hi hz0 hz1 hz2 rfl w.heap.size u3 k _ (.int .u16 (256 * (b0:Int))) rfl rfl HV.out rfl hmx hmb HB.out.size ?_; intro v2 w2 h2 hg2 hat2)
    have hb2:=HB.out.grown hg2 HB.out.size fun g hg=>(own_lt HV.out hg).1
    rw [← HWD.out] at h2
    have H2:=Lib.hid h2
    have HB2:=Lib.hid hb2
    clear h2 hg2 hat2 hb2
    go_wp2_with fail
    go_roundw
    case rel=>exact ⟨k+1,by omega,congrArg (Value.int .i64) (by have:=HQ.out; omega),H2.out,HB2.out⟩
    case measure=>simp [intOf]; omega
  ·obtain rfl:k=m:=by omega
   have hx:=HV.out
   rw [List.take_of_length_le (by rw [← HM.out]; exact Nat.le_refl _)] at hx
   have hd0:decide (((2 * k:Nat):Int) < (n:Int))=false:=decide_eq_false (by omega)
   have hd1:decide (2 * k < n)=false:=decide_eq_false (by omega)
   have HX:=Lib.hid hx
   clear hrd hx
   go_wp2_with fail
   go_ret
   exact ⟨_,rfl,by rw [← HM.out]; exact HX.out,HB.out⟩
end Go.Proofs.YthlommalbkhcjaaGreat
