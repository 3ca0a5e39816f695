/- The document's Put, Add, Change, Words, Total, Check, bit. -/
import Derived.Test.YthlommalbkhcjaaGreatNq14
import Derived.Test.YthlommalbkhcjaaGreatNq15
import Derived.Lib.Hide
import Derived.LoopTactic
import Derived.WalkKit
import Derived.Laws.BitsAllLaws
import Derived.Laws.AppendOwn
import Derived.LoopN
namespace Go.Proofs.YthlommalbkhcjaaGreat
open Go.RowKit
def Row8 (B:Nat) (w:World) (v:Value) (x:By):Prop:=w.ownsRow B 5 1 v x.length (bytesV x)
section
variable {B:Nat} {w w':World} {v:Value} {x:By}
theorem Row8.nil (B:Nat) (w:World):Row8 B w (.slice none 0 0) []:=World.ownsRow_nil _ _ _ _
theorem Row8.form (h:Row8 B w v x):∃ A c,v=.slice A x.length c∧x.length≤c:=own_form h
theorem Row8.lt (h:Row8 B w v x) {g:Nat} (hg:v.ownBlock=some g):B≤g∧g < w.heap.size:=own_lt h hg
theorem Row8.below (h:Row8 B w v x) (hb:Below w.heap.size w w'):Row8 B w' v x:=own_keep h (Same.ofBelow (I:=fun k=>k < w.heap.size) hb fun _ hk=>hk) fun _ hg=>(own_lt h hg).2
theorem Row8.keep {I:Nat→Prop} (h:Row8 B w v x) (hs:Same I w w') (hI:∀ g,v.ownBlock=some g→I g):Row8 B w' v x:=own_keep h hs hI
theorem Row8.reads {A:Option Addr} {n c:Nat} (h:Row8 B w (.slice A n c) x):n=x.length∧Reads w (fun k=>B≤k∧k < w.heap.size) 1 A n (bytesV x):=by
 obtain ⟨A1,c1,e,_⟩:=h.form
 injection e with e1 e2 e3
 subst e1 e2 e3
 exact ⟨rfl,Reads.of_own h fun g hg=>h.lt hg⟩
end
theorem bytesV_app (x y:By):bytesV (x++y)=bytesV x++bytesV y:=by simp [bytesV]
section
variable {P:Program} {ops:Array Oper} {rest:List Oper} {o:Oper} {a:Act} {Q:Exit→Act→World→Prop}
theorem wpList_app8 (w:World) (hgd:o.guard=none) (s y:Operand) (ho:o.op=.call { callee:=.builtin .append,args:=#[s,y],argTypes:=#[61,61] }) (hty:o.type=61)
  (B:Nat) (v:Value) (x:By) (hs:a.eval s=v) (hown:Row8 B w v x) (I:Nat→Prop) (A:Option Addr) (m c:Nat) (z:By) (hy:a.eval y=.slice A m c) (hm:z.length=m) (hr:Reads w I 1 A m (bytesV z))
  (h63:x.length+m≤140737488355328) (hB:B≤w.heap.size)
  (h:∀ v' w',Row8 B w' v' (x++z)→w.grownBy w' v.ownBlock→(v'.ownBlock=v.ownBlock∨v'.ownBlock=some w.heap.size)→wpList Tryz.prog ops Q rest (a.put o.dst v') w'):wpList Tryz.prog ops Q (o :: rest) a w:=by
 obtain ⟨i0,hi,hz0,hz1,hz2⟩:=info_parts info_u8
 have ht:Tryz.prog.underlying o.type=some (.slice 5):=by rw [hty]; exact Tryz.underlying61
 refine wpList_append_any w hgd s y o.type (by rw [hty]; exact ho) B 5 i0 _ 1 1 ht hi hz0 hz1 hz2 rfl (by decide) v x.length (bytesV x) hs hown I A m c (bytesV z) hy hr (bytesV_one z) (by unfold maxLen; omega) (by omega) hB fun v2 w2 h1 h2 h3=>h v2 w2 ?_ h2 h3
 show w2.ownsRow B 5 1 v2 (x++z).length (bytesV (x++z))
 rw [bytesV_app,List.length_append,hm]
 exact h1
theorem wpList_push8 (w:World) (hgd:o.guard=none) (s y:Operand) (ho:o.op=.call { callee:=.builtin .append,args:=#[s,y],argTypes:=#[61,61] }) (hty:o.type=61)
  (B:Nat) (v:Value) (x:By) (b:UInt8) (bi:Int) (hb:bi=b.toNat) (hs:a.eval s=v) (hown:Row8 B w v x) (hy:a.eval y=.slice (some ⟨w.heap.size,0,none⟩) 1 1)
  (h63:x.length+1≤140737488355328) (hB:B≤w.heap.size)
  (h:∀ v' w',Row8 B w' v' (x++[b])→w.grownBy w' v.ownBlock→(v'.ownBlock=v.ownBlock∨∃ g,v'.ownBlock=some g∧w.heap.size≤g)→wpList Tryz.prog ops Q rest (a.put o.dst v') w'):wpList Tryz.prog ops Q (o :: rest) a (w.alloc (.cells #[.int .u8 bi] 5)):=by
 refine wpList_app8 (w.alloc (.cells #[.int .u8 bi] 5)) hgd s y ho hty B v x hs (hown.alloc _) (fun _=>True) _ 1 1 [b] hy rfl ?_ h63 (by simp; omega) fun v2 w2 h1 h2 h3=>h v2 w2 h1 ?_ ?_
 ·have:=reads_new w 5 (.int .u8 bi)
  rw [hb] at this ⊢
  exact this
 ·exact ⟨h2.os,h2.tape,h2.output,Nat.le_trans (by simp) h2.size,fun k hk hne=>(h2.block k (by simp; omega) hne).trans (Below.heap_alloc w _ k hk)⟩
 ·rcases h3 with h3 | h3
  ·exact .inl h3
  ·exact .inr ⟨_,h3,by simp⟩
end
section
variable {P:Program} {ops:Array Oper} {rest:List Oper} {o:Oper} {a:Act} {Q:Exit→Act→World→Prop}
theorem wpList_push1 (w:World) (hgd:o.guard=none) (s y:Operand) (t e:TypeId) (ho:o.op=.call { callee:=.builtin .append,args:=#[s,y],argTypes:=#[t,t] }) (hty:o.type=t)
  (i:TypeInfo) (z:Value) (bytes:Nat) (ht:P.underlying t=some (.slice e)) (hi:P.info? e=some i) (hz:i.zero=some z) (hsize:i.size=1) (hby:i.bytes=bytes) (hzs:z.cells.size=1)
  (B:Nat) (v:Value) (n:Nat) (xs:List Value) (u:Value) (hu:u.oneCell'=true) (hs:a.eval s=v) (hown:w.ownsRow B e 1 v n xs) (hy:a.eval y=.slice (some ⟨w.heap.size,0,none⟩) 1 1)
  (h63:n+1≤maxLen) (hbytes:(n+1) * bytes≤140737488355328) (hB:B≤w.heap.size)
  (h:∀ v' w',w'.ownsRow B e 1 v' (n+1) (xs++[u])→w.grownBy w' v.ownBlock→(v'.ownBlock=v.ownBlock∨∃ g,v'.ownBlock=some g∧w.heap.size≤g)→wpList P ops Q rest (a.put o.dst v') w'):wpList P ops Q (o :: rest) a (w.alloc (.cells #[u] e)):=by
 subst hty
 refine wpList_append_any (w.alloc (.cells #[u] e)) hgd s y o.type ho B e i z 1 bytes ht hi hz hsize hby hzs (by decide) v n xs hs (hown.alloc _) (fun _=>True) _ 1 1 [u] hy (reads_new w e u) (fun x hx=>by rw [List.mem_singleton.1 hx]; exact hu) h63 hbytes (by simp; omega) fun v2 w2 h1 h2 h3=>h v2 w2 h1 ?_ ?_
 ·exact ⟨h2.os,h2.tape,h2.output,Nat.le_trans (by simp) h2.size,fun k hk hne=>(h2.block k (by simp; omega) hne).trans (Below.heap_alloc w _ k hk)⟩
 ·rcases h3 with h3 | h3
  ·exact .inl h3
  ·exact .inr ⟨_,h3,by simp⟩
end
theorem grown_belowB {B C:Nat} {w0 w w':World} {v:Value} {x:By} (hb:Below B w0 w) (hr:Row8 C w v x) (hg:w.grownBy w' v.ownBlock) (hBC:B≤C) (hB:B≤w.heap.size):Below B w0 w' :=
 hb.grown hg hB fun _ hk=>Nat.le_trans hBC (hr.lt hk).1
end Go.Proofs.YthlommalbkhcjaaGreat
namespace Go.Proofs.YthlommalbkhcjaaGreat
open Go.RowKit
theorem bytes_get {x:By} {k:Nat} (h:k < x.length):(bytesV x)[k]?=some (.int .u8 (x[k].toNat:Int)):=by
 simp [bytesV,List.getElem?_eq_getElem h]
theorem or_byte (g b:Nat) (hb:b < 256):g * 256 ||| b=g * 256+b:=by
 have h:=Nat.shiftLeft_add_eq_or_of_lt (i:=8) (by omega:b < 2 ^ 8) g
 rw [Nat.shiftLeft_eq] at h
 exact h.symm
theorem u64_or_byte (g b:Nat) (hg:g < 72057594037927936) (hb:b < 256):bits .or .u64 ((g:Int) * 256) (b:Int)=((g * 256+b:Nat):Int):=by
 have h:=u64_or_nat (g * 256) b (by omega) (by omega)
 rw [or_byte g b hb] at h
 rw [← h]
 congr 1
theorem getF_take {x:By} {k:Nat} (h:k < x.length):getF (x.take (k+1))=getF (x.take k) * 256+x[k].toNat:=by
 rw [List.take_succ_eq_append_getElem h,getF_snoc]
set_option maxHeartbeats 400000 in
theorem wget_any (A:Option Addr) (n c:Nat) (x:By) (I:Nat→Prop) (w:World) (h:Reads w I 1 A n (bytesV x)) (hn:x.length=n) (h1:1≤n) (h8:n≤7) :
  Calls Tryz.prog 137 #[.slice A n c] w fun e w'=>e=.returned (.tuple #[.int .u64 (getF x:Int),.int .i64 0])∧w=w':=by
 obtain ⟨ad,rfl,_,_,hc⟩:=h.2 (by omega)
 have HL:=Lib.hid hn
 have HC:=Lib.hid hc
 clear h hc hn
 go_enter Tryz.func137,Tryz.ntmps137
 go_wp2
 go_loop [4,17] (fun s i=>∃ k:Nat,k≤n∧i=.int .i64 (k:Int)∧s=.int .u64 (getF (x.take k):Int)) (fun _ i=>n - (intOf i).toNat)
 case atStart=>exact ⟨0,Nat.zero_le _,rfl,rfl⟩
 case round =>
  obtain ⟨k,hk,rfl,rfl⟩:=hrel
  by_cases hlt:k < n
  ·have hkx:k < x.length:=by rw [HL.out]; exact hlt
   have hcell:w.cell? (ad.add k)=some (.int .u8 (x[k].toNat:Int)):=HC.out _ _ (bytes_get hkx)
   have hg:=getF_lt (x.take k)
   have hl:(x.take k).length≤6:=by rw [List.length_take]; omega
   have hb:=x[k].toNat_lt
   have hp:256 ^ (x.take k).length≤256 ^ 6:=Nat.pow_le_pow_right (by omega) hl
   have hi0:(0:Int)≤k:=by omega
   have hi1:(k:Int) < n:=by omega
   have hgs:=Lib.hid (getF_take hkx)
   obtain ⟨g,hge⟩:∃ g,g=getF (x.take k):=⟨_,rfl⟩
   obtain ⟨b,hbe⟩:∃ b,b=x[k].toNat:=⟨_,rfl⟩
   rw [← hge] at hg hgs ⊢
   rw [← hbe] at hcell hb hgs
   have hg2:g < 281474976710656:=by have:(256:Nat) ^ 6=281474976710656:=rfl; omega
   clear hg hl hp hge hbe
   go_wp2
   go_round
   case rel=>exact ⟨k+1,by omega,by go_num,by rw [u64_or_byte g b (by omega) hb,hgs.out]⟩
   case measure=>simp [intOf]; omega
  ·obtain rfl:k=n:=by omega
   have hx:x.take k=x:=List.take_of_length_le (by rw [HL.out]; exact Nat.le_refl _)
   rw [hx]
   go_wp2
   go_ret2
   exact ⟨rfl,rfl⟩
theorem number_any (A:Option Addr) (n c:Nat) (x:By) (I:Nat→Prop) (w:World) (h:Reads w I 1 A n (bytesV x)) (hn:x.length=n) (h1:1≤n) (h8:n≤7) :
  Calls Tryz.prog 76 #[.slice A n c] w fun e w'=>e=.returned (.int .u64 (getF x:Int))∧w=w':=by
 have HC:=Lib.hid (wget_any A n c x I w h hn h1 h8)
 clear h hn
 go_enter Tryz.func76,Tryz.ntmps76
 go_wp2_with fail
 refine HC.out.mono ?_
 rintro e w' ⟨rfl,rfl⟩
 go_wp2_with fail
 go_ret
 exact ⟨rfl,rfl⟩
set_option maxHeartbeats 400000 in
theorem rget_any (A:Option Addr) (n c:Nat) (x:By) (I:Nat→Prop) (w:World) (h:Reads w I 1 A n (bytesV x)) (hn:x.length=n) (h8:n≤7) :
  Calls Tryz.prog 72 #[.slice A n c] w fun e w'=>e=.returned (.int .u64 (getF x:Int))∧w=w':=by
 have HL:=Lib.hid hn
 have HC:=Lib.hid h
 clear h hn
 go_enter Tryz.func72,Tryz.ntmps72
 go_wp2
 go_loop [3,4] (fun s i=>∃ k:Nat,k≤n∧i=.int .i64 (k:Int)∧s=.int .u64 (getF (x.take k):Int)) (fun _ i=>n - (intOf i).toNat)
 case atStart=>exact ⟨0,Nat.zero_le _,rfl,rfl⟩
 case round =>
  obtain ⟨k,hk,rfl,rfl⟩:=hrel
  by_cases hlt:k < n
  ·have hkx:k < x.length:=by rw [HL.out]; exact hlt
   obtain ⟨ad,rfl,_,_,hc⟩:=HC.out.2 (by omega)
   have hcell:w.cell? (ad.add k)=some (.int .u8 (x[k].toNat:Int)):=hc _ _ (bytes_get hkx)
   have hg:=getF_lt (x.take k)
   have hl:(x.take k).length≤6:=by rw [List.length_take]; omega
   have hb:=x[k].toNat_lt
   have hp:256 ^ (x.take k).length≤256 ^ 6:=Nat.pow_le_pow_right (by omega) hl
   have hi0:(0:Int)≤k:=by omega
   have hi1:(k:Int) < n:=by omega
   have hgs:=Lib.hid (getF_take hkx)
   obtain ⟨g,hge⟩:∃ g,g=getF (x.take k):=⟨_,rfl⟩
   obtain ⟨b,hbe⟩:∃ b,b=x[k].toNat:=⟨_,rfl⟩
   rw [← hge] at hg hgs ⊢
   rw [← hbe] at hcell hb hgs
   have hg2:g < 281474976710656:=by have:(256:Nat) ^ 6=281474976710656:=rfl; omega
   clear hg hl hp hge hbe hc
   go_wp2
   go_round
   case rel=>exact ⟨k+1,by omega,by go_num,by rw [hgs.out]; exact congrArg (Value.int .u64) (by omega)⟩
   case measure=>simp [intOf]; omega
  ·obtain rfl:k=n:=by omega
   have hx:x.take k=x:=List.take_of_length_le (by rw [HL.out]; exact Nat.le_refl _)
   rw [hx]
   go_wp2
   go_ret
   exact ⟨rfl,rfl⟩
theorem putF_take (n size k:Nat) (hk:k < size):(putF n size).take (k+1)=(putF n size).take k++[UInt8.ofNat (n / 256 ^ (size - 1 - k))]:=by
 have hl:k < (putF n size).length:=by rw [putF_len]; exact hk
 rw [List.take_succ_eq_append_getElem hl]
 congr 2
 simp [putF]
set_option maxRecDepth 20000 in
set_option maxHeartbeats 1600000 in
theorem wput1_any (n:Nat) (w:World) (hn:n < 256) :
  Calls Tryz.prog 204 #[.int .u64 (n:Int),.int .i64 1] w fun e w'=>∃ v,e=.returned (.tuple #[v,.int .i64 0])∧Row8 w.heap.size w' v (putF n 1)∧Below w.heap.size w w':=by
 go_enter Tryz.func204,Tryz.ntmps204
 go_wp2_with fail
 go_loopw [6,26] (fun v i wr=>∃ k:Nat,k≤1∧i=.int .i64 (k:Int)∧Row8 w.heap.size wr v ((putF n 1).take k)∧Below w.heap.size w wr) (fun _ i _=>1 - (intOf i).toNat)
 case atStart=>exact ⟨0,by omega,rfl,Row8.nil _ _,Below.refl _ _⟩
 case round =>
  obtain ⟨k,hk,rfl,hv,hb⟩:=hrel
  have HV:=Lib.hid hv
  have HB:=Lib.hid hb
  clear hv hb
  by_cases hlt:k < 1
  ·have hk3:k=0:=by omega
   rcases hk3 with hk3
   ·obtain rfl:k=0:=by omega
    have hpt:=Lib.hid (putF_take n 1 0 (by omega))
    have hln:((putF n 1).take 0).length+1≤140737488355328:=by rw [List.length_take,putF_len]; omega
    have HLN:=Lib.hid hln
    clear hlt hk hln
    go_wp2_with (at_builtin; refine wpList_push8 wr rfl (.tmp 29) (.tmp 38) rfl rfl w.heap.size u6 _ (UInt8.ofNat (n / 256 ^ (1 - 1 - 0))) _ (by simp only [UInt8.toNat_ofNat']; omega) rfl HV.out rfl HLN.out HB.out.size ?_; intro v2 w2 h2 hg2 hat2)
    have hb2:=grown_belowB HB.out HV.out hg2 (Nat.le_refl _) HB.out.size
    rw [← hpt.out] at h2
    have H2:=Lib.hid h2
    have HB2:=Lib.hid hb2
    clear h2 hb2 hg2 hat2
    go_wp2_with fail
    go_roundw
    case rel=>exact ⟨_,_,_,⟨1,by omega,rfl,H2.out,HB2.out⟩,rfl,rfl,rfl⟩
    case measure=>simp [intOf]
  ·obtain rfl:k=1:=by omega
   have hx:=HV.out
   rw [List.take_of_length_le (by rw [putF_len]; omega)] at hx
   have HX:=Lib.hid hx
   clear hlt hk hx
   go_wp2_with fail
   go_ret2
   exact ⟨_,rfl,HX.out,HB.out⟩
theorem put1_any (n:Nat) (w:World) (hn:n < 256) :
  Calls Tryz.prog 170 #[.int .u64 (n:Int),.int .i64 1] w fun e w'=>∃ v,e=.returned v∧Row8 w.heap.size w' v (putF n 1)∧Below w.heap.size w w':=by
 have HC:=Lib.hid (wput1_any n w hn)
 go_enter Tryz.func170,Tryz.ntmps170
 go_wp2_with fail
 refine HC.out.mono ?_
 rintro e w' ⟨v,rfl,h1,h2⟩
 go_wp2_with fail
 go_ret
 exact ⟨_,rfl,h1,h2⟩
set_option maxRecDepth 20000 in
set_option maxHeartbeats 1600000 in
theorem wput2_any (n:Nat) (w:World) (hn:n < 65536) :
  Calls Tryz.prog 204 #[.int .u64 (n:Int),.int .i64 2] w fun e w'=>∃ v,e=.returned (.tuple #[v,.int .i64 0])∧Row8 w.heap.size w' v (putF n 2)∧Below w.heap.size w w':=by
 go_enter Tryz.func204,Tryz.ntmps204
 go_wp2_with fail
 go_loopw [6,26] (fun v i wr=>∃ k:Nat,k≤2∧i=.int .i64 (k:Int)∧Row8 w.heap.size wr v ((putF n 2).take k)∧Below w.heap.size w wr) (fun _ i _=>2 - (intOf i).toNat)
 case atStart=>exact ⟨0,by omega,rfl,Row8.nil _ _,Below.refl _ _⟩
 case round =>
  obtain ⟨k,hk,rfl,hv,hb⟩:=hrel
  have HV:=Lib.hid hv
  have HB:=Lib.hid hb
  clear hv hb
  by_cases hlt:k < 2
  ·have hk3:k=0∨k=1:=by omega
   rcases hk3 with hk3 | hk3
   ·obtain rfl:k=0:=by omega
    have hpt:=Lib.hid (putF_take n 2 0 (by omega))
    have hln:((putF n 2).take 0).length+1≤140737488355328:=by rw [List.length_take,putF_len]; omega
    have HLN:=Lib.hid hln
    clear hlt hk hln
    go_wp2_with (at_builtin; refine wpList_push8 wr rfl (.tmp 29) (.tmp 38) rfl rfl w.heap.size u6 _ (UInt8.ofNat (n / 256 ^ (2 - 1 - 0))) _ (by simp only [UInt8.toNat_ofNat']; omega) rfl HV.out rfl HLN.out HB.out.size ?_; intro v2 w2 h2 hg2 hat2)
    have hb2:=grown_belowB HB.out HV.out hg2 (Nat.le_refl _) HB.out.size
    rw [← hpt.out] at h2
    have H2:=Lib.hid h2
    have HB2:=Lib.hid hb2
    clear h2 hb2 hg2 hat2
    go_wp2_with fail
    go_roundw
    case rel=>exact ⟨_,_,_,⟨1,by omega,rfl,H2.out,HB2.out⟩,rfl,rfl,rfl⟩
    case measure=>simp [intOf]
   ·obtain rfl:k=1:=by omega
    have hpt:=Lib.hid (putF_take n 2 1 (by omega))
    have hln:((putF n 2).take 1).length+1≤140737488355328:=by rw [List.length_take,putF_len]; omega
    have HLN:=Lib.hid hln
    clear hlt hk hln
    go_wp2_with (at_builtin; refine wpList_push8 wr rfl (.tmp 29) (.tmp 38) rfl rfl w.heap.size u6 _ (UInt8.ofNat (n / 256 ^ (2 - 1 - 1))) _ (by simp only [UInt8.toNat_ofNat']; omega) rfl HV.out rfl HLN.out HB.out.size ?_; intro v2 w2 h2 hg2 hat2)
    have hb2:=grown_belowB HB.out HV.out hg2 (Nat.le_refl _) HB.out.size
    rw [← hpt.out] at h2
    have H2:=Lib.hid h2
    have HB2:=Lib.hid hb2
    clear h2 hb2 hg2 hat2
    go_wp2_with fail
    go_roundw
    case rel=>exact ⟨_,_,_,⟨2,by omega,rfl,H2.out,HB2.out⟩,rfl,rfl,rfl⟩
    case measure=>simp [intOf]
  ·obtain rfl:k=2:=by omega
   have hx:=HV.out
   rw [List.take_of_length_le (by rw [putF_len]; omega)] at hx
   have HX:=Lib.hid hx
   clear hlt hk hx
   go_wp2_with fail
   go_ret2
   exact ⟨_,rfl,HX.out,HB.out⟩
theorem put2_any (n:Nat) (w:World) (hn:n < 65536) :
  Calls Tryz.prog 170 #[.int .u64 (n:Int),.int .i64 2] w fun e w'=>∃ v,e=.returned v∧Row8 w.heap.size w' v (putF n 2)∧Below w.heap.size w w':=by
 have HC:=Lib.hid (wput2_any n w hn)
 go_enter Tryz.func170,Tryz.ntmps170
 go_wp2_with fail
 refine HC.out.mono ?_
 rintro e w' ⟨v,rfl,h1,h2⟩
 go_wp2_with fail
 go_ret
 exact ⟨_,rfl,h1,h2⟩
set_option maxRecDepth 20000 in
set_option maxHeartbeats 1600000 in
theorem wput4_any (n:Nat) (w:World) (hn:n < 4294967296) :
  Calls Tryz.prog 204 #[.int .u64 (n:Int),.int .i64 4] w fun e w'=>∃ v,e=.returned (.tuple #[v,.int .i64 0])∧Row8 w.heap.size w' v (putF n 4)∧Below w.heap.size w w':=by
 go_enter Tryz.func204,Tryz.ntmps204
 go_wp2_with fail
 go_loopw [6,26] (fun v i wr=>∃ k:Nat,k≤4∧i=.int .i64 (k:Int)∧Row8 w.heap.size wr v ((putF n 4).take k)∧Below w.heap.size w wr) (fun _ i _=>4 - (intOf i).toNat)
 case atStart=>exact ⟨0,by omega,rfl,Row8.nil _ _,Below.refl _ _⟩
 case round =>
  obtain ⟨k,hk,rfl,hv,hb⟩:=hrel
  have HV:=Lib.hid hv
  have HB:=Lib.hid hb
  clear hv hb
  by_cases hlt:k < 4
  ·have hk3:k=0∨k=1∨k=2∨k=3:=by omega
   rcases hk3 with hk3 | hk3 | hk3 | hk3
   ·obtain rfl:k=0:=by omega
    have hpt:=Lib.hid (putF_take n 4 0 (by omega))
    have hln:((putF n 4).take 0).length+1≤140737488355328:=by rw [List.length_take,putF_len]; omega
    have HLN:=Lib.hid hln
    clear hlt hk hln
    go_wp2_with (at_builtin; refine wpList_push8 wr rfl (.tmp 29) (.tmp 38) rfl rfl w.heap.size u6 _ (UInt8.ofNat (n / 256 ^ (4 - 1 - 0))) _ (by simp only [UInt8.toNat_ofNat']; omega) rfl HV.out rfl HLN.out HB.out.size ?_; intro v2 w2 h2 hg2 hat2)
    have hb2:=grown_belowB HB.out HV.out hg2 (Nat.le_refl _) HB.out.size
    rw [← hpt.out] at h2
    have H2:=Lib.hid h2
    have HB2:=Lib.hid hb2
    clear h2 hb2 hg2 hat2
    go_wp2_with fail
    go_roundw
    case rel=>exact ⟨_,_,_,⟨1,by omega,rfl,H2.out,HB2.out⟩,rfl,rfl,rfl⟩
    case measure=>simp [intOf]
   ·obtain rfl:k=1:=by omega
    have hpt:=Lib.hid (putF_take n 4 1 (by omega))
    have hln:((putF n 4).take 1).length+1≤140737488355328:=by rw [List.length_take,putF_len]; omega
    have HLN:=Lib.hid hln
    clear hlt hk hln
    go_wp2_with (at_builtin; refine wpList_push8 wr rfl (.tmp 29) (.tmp 38) rfl rfl w.heap.size u6 _ (UInt8.ofNat (n / 256 ^ (4 - 1 - 1))) _ (by simp only [UInt8.toNat_ofNat']; omega) rfl HV.out rfl HLN.out HB.out.size ?_; intro v2 w2 h2 hg2 hat2)
    have hb2:=grown_belowB HB.out HV.out hg2 (Nat.le_refl _) HB.out.size
    rw [← hpt.out] at h2
    have H2:=Lib.hid h2
    have HB2:=Lib.hid hb2
    clear h2 hb2 hg2 hat2
    go_wp2_with fail
    go_roundw
    case rel=>exact ⟨_,_,_,⟨2,by omega,rfl,H2.out,HB2.out⟩,rfl,rfl,rfl⟩
    case measure=>simp [intOf]
   ·obtain rfl:k=2:=by omega
    have hpt:=Lib.hid (putF_take n 4 2 (by omega))
    have hln:((putF n 4).take 2).length+1≤140737488355328:=by rw [List.length_take,putF_len]; omega
    have HLN:=Lib.hid hln
    clear hlt hk hln
    go_wp2_with (at_builtin; refine wpList_push8 wr rfl (.tmp 29) (.tmp 38) rfl rfl w.heap.size u6 _ (UInt8.ofNat (n / 256 ^ (4 - 1 - 2))) _ (by simp only [UInt8.toNat_ofNat']; omega) rfl HV.out rfl HLN.out HB.out.size ?_; intro v2 w2 h2 hg2 hat2)
    have hb2:=grown_belowB HB.out HV.out hg2 (Nat.le_refl _) HB.out.size
    rw [← hpt.out] at h2
    have H2:=Lib.hid h2
    have HB2:=Lib.hid hb2
    clear h2 hb2 hg2 hat2
    go_wp2_with fail
    go_roundw
    case rel=>exact ⟨_,_,_,⟨3,by omega,rfl,H2.out,HB2.out⟩,rfl,rfl,rfl⟩
    case measure=>simp [intOf]
   ·obtain rfl:k=3:=by omega
    have hpt:=Lib.hid (putF_take n 4 3 (by omega))
    have hln:((putF n 4).take 3).length+1≤140737488355328:=by rw [List.length_take,putF_len]; omega
    have HLN:=Lib.hid hln
    clear hlt hk hln
    go_wp2_with (at_builtin; refine wpList_push8 wr rfl (.tmp 29) (.tmp 38) rfl rfl w.heap.size u6 _ (UInt8.ofNat (n / 256 ^ (4 - 1 - 3))) _ (by simp only [UInt8.toNat_ofNat']; omega) rfl HV.out rfl HLN.out HB.out.size ?_; intro v2 w2 h2 hg2 hat2)
    have hb2:=grown_belowB HB.out HV.out hg2 (Nat.le_refl _) HB.out.size
    rw [← hpt.out] at h2
    have H2:=Lib.hid h2
    have HB2:=Lib.hid hb2
    clear h2 hb2 hg2 hat2
    go_wp2_with fail
    go_roundw
    case rel=>exact ⟨_,_,_,⟨4,by omega,rfl,H2.out,HB2.out⟩,rfl,rfl,rfl⟩
    case measure=>simp [intOf]
  ·obtain rfl:k=4:=by omega
   have hx:=HV.out
   rw [List.take_of_length_le (by rw [putF_len]; omega)] at hx
   have HX:=Lib.hid hx
   clear hlt hk hx
   go_wp2_with fail
   go_ret2
   exact ⟨_,rfl,HX.out,HB.out⟩
theorem put4_any (n:Nat) (w:World) (hn:n < 4294967296) :
  Calls Tryz.prog 170 #[.int .u64 (n:Int),.int .i64 4] w fun e w'=>∃ v,e=.returned v∧Row8 w.heap.size w' v (putF n 4)∧Below w.heap.size w w':=by
 have HC:=Lib.hid (wput4_any n w hn)
 go_enter Tryz.func170,Tryz.ntmps170
 go_wp2_with fail
 refine HC.out.mono ?_
 rintro e w' ⟨v,rfl,h1,h2⟩
 go_wp2_with fail
 go_ret
 exact ⟨_,rfl,h1,h2⟩
end Go.Proofs.YthlommalbkhcjaaGreat
namespace Go.Proofs.YthlommalbkhcjaaGreat
open Go.RowKit
theorem row8_lit (w:World) (x:By) (cs:Array Value) (hx:x.length≤140737488355328) (h:cs.toList=bytesV x):Row8 w.heap.size (w.alloc (.cells cs 5)) (.slice (some ⟨w.heap.size,0,none⟩) x.length x.length) x:=by
 have hs:cs.size=x.length * 1:=by rw [← Array.length_toList,h,bytesV_len,Nat.mul_one]
 have:=own_alloc_lit (w:=w) w.heap.size 5 1 cs x.length (Nat.le_refl _) (by unfold maxLen; omega) hs
 rw [h] at this
 exact this
set_option maxRecDepth 20000 in
set_option maxHeartbeats 1600000 in
theorem rput1_any (n:Nat) (w:World) (hn:n < 256) :
  Calls Tryz.prog 119 #[.int .u64 (n:Int),.int .i64 1] w fun e w'=>∃ v,e=.returned v∧Row8 w.heap.size w' v (putF n 1)∧Below w.heap.size w w':=by
 have hmk:∀ w:World,(Instr.makeSlice 61 (.int .i64 1) (.int .i64 1)).run Tryz.prog w=.ok (.slice (some ⟨w.heap.size,0,none⟩) 1 1) (w.alloc (.cells #[.int .u8 0] 5)):=fun _=>by kernel_rfl
 go_enter Tryz.func119,Tryz.ntmps119
 go_wp2_with fail
 refine wp_loop_rounds 2 ?_
 rw [rounds_succ]
 go_wp2_with fail
 rw [rounds_succ]
 go_wp2_with fail
 go_ret
 refine ⟨_,rfl,row8_lit w (putF n 1) _ (by rw [putF_len]; omega) ?_,(Below.refl _ _).alloc (Nat.le_refl _) _⟩
 rw [put1]
 simp only [bytesV,List.map_cons,List.map_nil,u8_nat,List.cons.injEq,Value.int.injEq,true_and,and_true]
 omega
set_option maxRecDepth 20000 in
set_option maxHeartbeats 1600000 in
theorem rput2_any (n:Nat) (w:World) (hn:n < 65536) :
  Calls Tryz.prog 119 #[.int .u64 (n:Int),.int .i64 2] w fun e w'=>∃ v,e=.returned v∧Row8 w.heap.size w' v (putF n 2)∧Below w.heap.size w w':=by
 have hmk:∀ w:World,(Instr.makeSlice 61 (.int .i64 2) (.int .i64 2)).run Tryz.prog w=.ok (.slice (some ⟨w.heap.size,0,none⟩) 2 2) (w.alloc (.cells #[.int .u8 0,.int .u8 0] 5)):=fun _=>by kernel_rfl
 go_enter Tryz.func119,Tryz.ntmps119
 go_wp2_with fail
 refine wp_loop_rounds 3 ?_
 rw [rounds_succ]
 go_wp2_with fail
 rw [rounds_succ]
 go_wp2_with fail
 rw [rounds_succ]
 go_wp2_with fail
 go_ret
 refine ⟨_,rfl,row8_lit w (putF n 2) _ (by rw [putF_len]; omega) ?_,(Below.refl _ _).alloc (Nat.le_refl _) _⟩
 rw [put2]
 simp only [bytesV,List.map_cons,List.map_nil,u8_nat,List.cons.injEq,Value.int.injEq,true_and,and_true]
 omega
set_option maxRecDepth 20000 in
set_option maxHeartbeats 1600000 in
theorem rput4_any (n:Nat) (w:World) (hn:n < 4294967296) :
  Calls Tryz.prog 119 #[.int .u64 (n:Int),.int .i64 4] w fun e w'=>∃ v,e=.returned v∧Row8 w.heap.size w' v (putF n 4)∧Below w.heap.size w w':=by
 have hmk:∀ w:World,(Instr.makeSlice 61 (.int .i64 4) (.int .i64 4)).run Tryz.prog w=.ok (.slice (some ⟨w.heap.size,0,none⟩) 4 4) (w.alloc (.cells #[.int .u8 0,.int .u8 0,.int .u8 0,.int .u8 0] 5)):=fun _=>by kernel_rfl
 go_enter Tryz.func119,Tryz.ntmps119
 go_wp2_with fail
 refine wp_loop_rounds 5 ?_
 rw [rounds_succ]
 go_wp2_with fail
 rw [rounds_succ]
 go_wp2_with fail
 rw [rounds_succ]
 go_wp2_with fail
 rw [rounds_succ]
 go_wp2_with fail
 rw [rounds_succ]
 go_wp2_with fail
 go_ret
 refine ⟨_,rfl,row8_lit w (putF n 4) _ (by rw [putF_len]; omega) ?_,(Below.refl _ _).alloc (Nat.le_refl _) _⟩
 rw [put4]
 simp only [bytesV,List.map_cons,List.map_nil,u8_nat,List.cons.injEq,Value.int.injEq,true_and,and_true]
 omega
theorem ret_u16 {a b:Int} (h:a=b):Ending.returned (.int .u16 a)=.returned (.int .u16 b):=by rw [h]
theorem add_any (x y:Nat) (w:World) (hx:x < 65536) (hy:y < 65536) :
  Calls Tryz.prog 210 #[.int .u16 (x:Int),.int .u16 (y:Int)] w fun e w'=>e=.returned (.int .u16 (addF x y:Int))∧w=w':=by
 go_enter Tryz.func210,Tryz.ntmps210
 go_wp2_with fail
 go_ret
 refine ⟨ret_u16 ?_,rfl⟩
 show IntKind.u16.wrap _=_
 rw [IntKind.wrap_u16]
 unfold addF
 split <;> omega
set_option maxRecDepth 20000 in
theorem radd_any (x y:Nat) (w:World) (hx:x < 65536) (hy:y < 65536) :
  Calls Tryz.prog 135 #[.int .u16 (x:Int),.int .u16 (y:Int)] w fun e w'=>e=.returned (.int .u16 (addF x y:Int))∧w=w':=by
 by_cases h:65536≤x+y
 ·have hd:decide ((65536:Int)≤(x:Int)+(y:Int))=true:=decide_eq_true (by omega)
  have H:=Lib.hid h
  clear h
  go_enter Tryz.func135,Tryz.ntmps135
  go_wp2_with fail
  go_ret
  refine ⟨ret_u16 ?_,rfl⟩
  unfold addF
  rw [if_pos H.out]
  have:=H.out
  omega
 ·have hd:decide ((65536:Int)≤(x:Int)+(y:Int))=false:=decide_eq_false (by omega)
  have H:=Lib.hid h
  clear h
  go_enter Tryz.func135,Tryz.ntmps135
  go_wp2_with fail
  go_ret
  refine ⟨ret_u16 ?_,rfl⟩
  unfold addF
  rw [if_neg H.out]
  have:=H.out
  omega
theorem xor_ones (c:Nat) (hc:c < 65536):65535 ^^^ c=65535 - c:=by
 have h1:(~~~ (BitVec.ofNat 16 c)).toNat=2 ^ 16 - 1 - (BitVec.ofNat 16 c).toNat:=BitVec.toNat_not
 rw [BitVec.not_def,BitVec.toNat_xor,BitVec.toNat_ofNat,Nat.mod_eq_of_lt (by omega)] at h1
 exact h1
theorem not16 (c:Nat) (hc:c < 65536):bits .xor .u16 IntKind.u16.max (c:Int)=((65535 - c:Nat):Int):=by
 have h:=u16_xor_nat 65535 c (by omega) hc
 rw [xor_ones c hc] at h
 exact h
end Go.Proofs.YthlommalbkhcjaaGreat
