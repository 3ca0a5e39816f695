/- Cuts of byte slices. -/
import Derived.Test.YthlommalbkhcjaaGreatNm03
namespace Go.Proofs.YthlommalbkhcjaaGreat
open Go.RowKit
section
variable (A:Option Addr) (n cap:Nat) (w:World)
theorem u8elem:(Tryz.prog).underlying 61=some (.slice ((Tryz.prog).elem 61)):=by simp [Program.elem,Tryz.underlying61]
theorem u8elem2:(Tryz.prog).elem 61=5:=by simp [Program.elem,Tryz.underlying61]
theorem u8size (w:World):(Go.sizeOf 5).run Tryz.prog w=.ok 1 w:=by go_simp
theorem sl_lo (k:Nat) (hk:k≤n):(Instr.slice 61 (.slice A n cap) (some (.int .i64 (k:Int))) none none).run Tryz.prog w=.ok (.slice (if cap=k then A else A.map (·.add k)) (n - k) (cap - k)) w:=by
 rw [run_slice_l w _ _ _ _ u8elem .i64 _ (by omega) (by omega),u8elem2,u8size]
 by_cases h0:cap=k
 ·simp [Result.andThen,sliced,h0]
 ·simp [Result.andThen,sliced,h0]
theorem sl_hi (k:Nat) (hk:k≤cap):(Instr.slice 61 (.slice A n cap) none (some (.int .i64 (k:Int))) none).run Tryz.prog w=.ok (.slice A k cap) w:=by
 rw [run_slice_h w _ _ _ _ u8elem .i64 _ (by omega) (by omega),u8elem2,u8size]
 cases A <;> simp [Result.andThen,sliced,Addr.add]
theorem sl_lohi (a b:Nat) (hab:a≤b) (hb:b≤cap):(Instr.slice 61 (.slice A n cap) (some (.int .i64 (a:Int))) (some (.int .i64 (b:Int))) none).run Tryz.prog w=.ok (.slice (if cap=a then A else A.map (·.add a)) (b - a) (cap - a)) w:=by
 rw [run_slice_lh w _ _ _ _ u8elem .i64 .i64 _ _ (by omega) (by omega) (by omega),u8elem2,u8size]
 by_cases h0:cap=a
 ·simp [Result.andThen,sliced,h0]
 ·simp [Result.andThen,sliced,h0]
theorem sl_max (k:Nat) (hk:k≤cap):(Instr.slice 61 (.slice A n cap) none (some (.int .i64 (k:Int))) (some (.int .i64 (k:Int)))).run Tryz.prog w=.ok (.slice A k k) w:=by
 rw [run_slice_hm w _ _ _ _ u8elem .i64 .i64 _ _ (by omega) (by omega) (by omega),u8elem2,u8size]
 cases A <;> simp [Result.andThen,sliced,Addr.add]
end
def Sl8 (w:World) (I:Nat→Prop) (v:Value) (x:By):Prop:=∃ A c,v=.slice A x.length c∧x.length≤c∧Reads w I 1 A x.length (bytesV x)
section
variable {w w2:World} {I J:Nat→Prop} {v:Value} {x:By} {A:Option Addr} {n c:Nat}
theorem Sl8.len (h:Sl8 w I (.slice A n c) x):n=x.length∧x.length≤c∧Reads w I 1 A x.length (bytesV x):=by
 obtain ⟨A1,c1,e,h1,h2⟩:=h
 injection e with e1 e2 e3
 subst e1 e2 e3
 exact ⟨rfl,h1,h2⟩
theorem Sl8.keep (h:Sl8 w I v x) (hs:Same I w w2):Sl8 w2 I v x:=by
 obtain ⟨A1,c1,e,h1,h2⟩:=h
 exact ⟨A1,c1,e,h1,h2.keep hs⟩
theorem Sl8.mono (h:Sl8 w I v x) (hs:∀ k,I k→J k):Sl8 w J v x:=by
 obtain ⟨A1,c1,e,h1,h2⟩:=h
 exact ⟨A1,c1,e,h1,h2.mono hs⟩
theorem Sl8.lt (h:Sl8 w I v x):Sl8 w (fun k=>I k∧k < w.heap.size) v x:=by
 obtain ⟨A1,c1,e,h1,h2⟩:=h
 exact ⟨A1,c1,e,h1,h2.lt⟩
theorem Row8.sl {B:Nat} (h:Row8 B w v x):Sl8 w (fun k=>B≤k∧k < w.heap.size) v x:=by
 obtain ⟨A,c,rfl,hc⟩:=h.form
 exact ⟨A,c,rfl,hc,(h.reads).2⟩
theorem bytesV_take (x:By) (k:Nat):(bytesV x).take k=bytesV (x.take k):=by simp [bytesV,List.map_take]
theorem bytesV_drop (x:By) (k:Nat):(bytesV x).drop k=bytesV (x.drop k):=by simp [bytesV,List.map_drop]
theorem reads_take {k:Nat} (h:Reads w I 1 A x.length (bytesV x)) (hk:k≤x.length):Reads w I 1 A k (bytesV (x.take k)):=by
 refine ⟨by rw [bytesV_len,List.length_take]; omega,fun hn=>?_⟩
 obtain ⟨ad,e,hi,hb,hc⟩:=h.2 (by omega)
 refine ⟨ad,e,hi,hb,fun j u hu=>hc j u ?_⟩
 rw [← bytesV_take] at hu
 have hj:j < k:=by
  rcases Nat.lt_or_ge j k with h | h
  ·exact h
  ·rw [List.getElem?_eq_none (by rw [List.length_take,bytesV_len]; omega)] at hu; cases hu
 rwa [List.getElem?_take_of_lt hj] at hu
theorem reads_drop {k cap:Nat} (h:Reads w I 1 A x.length (bytesV x)) (hk:k≤x.length) (hc:x.length≤cap):Reads w I 1 (if cap=k then A else A.map (·.add k)) (x.length - k) (bytesV (x.drop k)):=by
 have:=h.cut (k:=k) (cap:=cap) hk hc
 rw [Nat.mul_one,bytesV_drop] at this
 exact this
theorem cut_lo {k cap:Nat} (h:Reads w I 1 A x.length (bytesV x)) (hk:k≤x.length) (hc:x.length≤cap):Sl8 w I (.slice (if cap=k then A else A.map (·.add k)) (x.length - k) (cap - k)) (x.drop k) :=
 ⟨_,_,by rw [List.length_drop],by rw [List.length_drop]; omega,by rw [List.length_drop]; exact reads_drop h hk hc⟩
theorem cut_hi {k cap:Nat} (h:Reads w I 1 A x.length (bytesV x)) (hk:k≤x.length) (hc:k≤cap):Sl8 w I (.slice A k cap) (x.take k):=by
 have hl:(x.take k).length=k:=by rw [List.length_take]; omega
 exact ⟨_,_,by rw [hl],by rw [hl]; exact hc,by rw [hl]; exact reads_take h hk⟩
theorem cut_lohi {a b cap:Nat} (h:Reads w I 1 A x.length (bytesV x)) (hab:a≤b) (hb:b≤x.length) (hc:x.length≤cap):Sl8 w I (.slice (if cap=a then A else A.map (·.add a)) (b - a) (cap - a)) (partF x a b):=by
 have hl:(x.take b).length=b:=by rw [List.length_take]; omega
 have h1:Reads w I 1 A (x.take b).length (bytesV (x.take b)):=by
  rw [hl]
  exact reads_take h hb
 have h2:=cut_lo (k:=a) (cap:=cap) h1 (by rw [hl]; exact hab) (by rw [hl]; omega)
 rw [hl] at h2
 exact h2
end
theorem part_len {x:By} {a b:Nat} (hb:b≤x.length):(partF x a b).length=b - a:=by unfold partF; rw [List.length_drop,List.length_take]; omega
end Go.Proofs.YthlommalbkhcjaaGreat
