/- Bytes: clones of byte slices; items. -/
import Derived.Test.YthlommalbkhcjaaGreatNq05
import Derived.Test.YthlommalbkhcjaaGreatNq13
import Derived.Test.YthlommalbkhcjaaGreatNq01
namespace Go.Proofs.YthlommalbkhcjaaGreat
open Go.ChangeShapes Go.WideShapes Go.ChangeAt Go.RowKit
theorem wf_u32r {z:Int} (h:(Lit.int .u32 z).wf=true):0≤z∧z < 4294967296:=by
 have h1:IntKind.u32.min=0:=rfl
 have h2:IntKind.u32.max=4294967295:=rfl
 simp only [Lit.wf,Bool.and_eq_true,decide_eq_true_eq] at h
 omega
structure RtRd (w:World) (r:Rt):Prop where
 a:r.a < 2 ^ 32
 l:r.nx.length=r.n
 nb:r.n≤9000000000000
 rd:Reads w (fun k=>k < w.heap.size) 2 r.A r.n (r.nx.flatMap nxC)
section
variable {H:Type} {enc:TypeId × Value→H} {w:World} {spare:Nat→Bool} {held:Bool}
theorem light_fieldR {P:Program} {t:TypeId} {fs:Array Field} (ht:P.underlying t=some (.struct fs)) {ds:List (DataW H)} (h:Light P t (.agg ds)) {j:Nat} {f:Field} {d:DataW H} (hf:fs[j]?=some f) (hd:ds[j]?=some d):Light P f.type d :=
 fun k hk=>h k (by
  simp only [DataW.weights,ht]
  exact DataW.weights_mem_each (j:=j) (by simp [hf]) hd k hk)
set_option maxRecDepth 100000 in
theorem elem_pxR (n:Nat) (cs:List Value) (x:DataW H × List MemPlace) (h:DataW.trod enc Tryz.prog w 0 spare held n 37 cs=some x):∃ (a:Nat) (m:Int),cs=[.int .u32 (a:Int),.int .i64 m]∧a < 2 ^ 32:=by
 obtain ⟨y0,y1,m,rfl,hlen,t0,t1⟩:=trod_struct2 Tryz.underlying37 h
 have hC:Tryz.prog.cellsOf 37=2:=by kernel_rfl
 have hC0:Tryz.prog.cellsOf 35=1:=by kernel_rfl
 have hC1:Tryz.prog.cellsOf 3=1:=by kernel_rfl
 rw [hC] at hlen
 obtain ⟨a,b,rfl⟩:∃ a b,cs=[a,b]:=by
  match cs,hlen with
  | [a,b],_=>exact ⟨a,b,rfl⟩
 simp only [hC0,hC1] at t0 t1
 obtain ⟨z0,e0,w0⟩:=elem_int Tryz.underlying35 _ _ _ t0
 obtain ⟨z1,e1,_⟩:=elem_int Tryz.underlying3 _ _ _ t1
 obtain rfl:a=_:=by simpa using e0
 obtain rfl:b=_:=by simpa using e1
 have b0:=wf_u32r w0
 exact ⟨z0.toNat,z1,by rw [Int.toNat_of_nonneg b0.1],by omega⟩
set_option maxRecDepth 100000 in
theorem elem_nxsR (n:Nat) (cs:List Value) (x:DataW H × List MemPlace) (h:DataW.trod enc Tryz.prog w 0 spare held n 52 cs=some x) (hl:Light Tryz.prog 52 x.1) :
  ∃ (A:Option Addr) (n c:Nat) (l:List Nx),cs=[.slice A n c]∧Reads w (fun k=>k < w.heap.size) 2 A n (l.flatMap nxC)∧l.length=n∧n≤9000000000000:=by
 obtain ⟨A,n,c,ys,hcs,hr,hlen,_,hn,hc⟩:=open_elems nxC (fun _=>True) 2 16 Tryz.underlying52 (by kernel_rfl) (by kernel_rfl) (fun _=>rfl) (by omega) (fun n cs x h _=>elem_nx n cs x h) h hl
 exact ⟨A,n,c,ys,hcs,hr,hlen,by unfold reachBytes at hn; omega⟩
set_option maxRecDepth 100000 in
theorem elem_rt (n:Nat) (cs:List Value) (x:DataW H × List MemPlace) (h:DataW.trod enc Tryz.prog w 0 spare held n 54 cs=some x) (hw:Light Tryz.prog 54 x.1) :
  ∃ r:Rt,cs=rtC r∧RtRd w r:=by
 obtain ⟨xs,n,_,e,hl,hlen,hfs⟩:=DataW.trod_struct Tryz.underlying54 h
 have hC:Tryz.prog.cellsOf 54=6:=by kernel_rfl
 have hC0:Tryz.prog.cellsOf 37=2:=by kernel_rfl
 have hC2:Tryz.prog.cellsOf 4=1:=by kernel_rfl
 have hC5:Tryz.prog.cellsOf 3=1:=by kernel_rfl
 have hC10:Tryz.prog.cellsOf 52=1:=by kernel_rfl
 rw [hC] at hl
 obtain ⟨c0,c1,c2,c3,c4,c5,rfl⟩:∃ c0 c1 c2 c3 c4 c5,cs=[c0,c1,c2,c3,c4,c5]:=by
  match cs,hl with
  | [c0,c1,c2,c3,c4,c5],_=>exact ⟨c0,c1,c2,c3,c4,c5,rfl⟩
 obtain ⟨y0,y1,y2,y3,y4,exs⟩:∃ y0 y1 y2 y3 y4,xs=[y0,y1,y2,y3,y4]:=by
  match xs,hlen with
  | [y0,y1,y2,y3,y4],_=>exact ⟨y0,y1,y2,y3,y4,rfl⟩
 subst exs
 have t0:DataW.trod enc Tryz.prog w 0 spare held n 37 [c0,c1]=some y0:=by have h:=hfs 0 _ rfl; change DataW.trod enc Tryz.prog w 0 spare held n 37 (List.take (Tryz.prog.cellsOf 37) (List.drop 0 [c0,c1,c2,c3,c4,c5]))=some y0 at h; rw [hC0] at h; exact h
 have t1:DataW.trod enc Tryz.prog w 0 spare held n 4 [c2]=some y1:=by have h:=hfs 1 _ rfl; change DataW.trod enc Tryz.prog w 0 spare held n 4 (List.take (Tryz.prog.cellsOf 4) (List.drop 2 [c0,c1,c2,c3,c4,c5]))=some y1 at h; rw [hC2] at h; exact h
 have t2:DataW.trod enc Tryz.prog w 0 spare held n 4 [c3]=some y2:=by have h:=hfs 2 _ rfl; change DataW.trod enc Tryz.prog w 0 spare held n 4 (List.take (Tryz.prog.cellsOf 4) (List.drop 3 [c0,c1,c2,c3,c4,c5]))=some y2 at h; rw [hC2] at h; exact h
 have t3:DataW.trod enc Tryz.prog w 0 spare held n 3 [c4]=some y3:=by have h:=hfs 3 _ rfl; change DataW.trod enc Tryz.prog w 0 spare held n 3 (List.take (Tryz.prog.cellsOf 3) (List.drop 4 [c0,c1,c2,c3,c4,c5]))=some y3 at h; rw [hC5] at h; exact h
 have t4:DataW.trod enc Tryz.prog w 0 spare held n 52 [c5]=some y4:=by have h:=hfs 4 _ rfl; change DataW.trod enc Tryz.prog w 0 spare held n 52 (List.take (Tryz.prog.cellsOf 52) (List.drop 5 [c0,c1,c2,c3,c4,c5]))=some y4 at h; rw [hC10] at h; exact h
 obtain ⟨a,m,e0,ha⟩:=elem_pxR _ _ _ t0
 obtain ⟨rfl,rfl⟩:c0=_∧c1=_:=by simpa using e0
 obtain ⟨z2,e2⟩:=elem_bool Tryz.underlying4 _ _ _ t1
 obtain rfl:c2=_:=by simpa using e2
 obtain ⟨z3,e3⟩:=elem_bool Tryz.underlying4 _ _ _ t2
 obtain rfl:c3=_:=by simpa using e3
 obtain ⟨z4,e4,_⟩:=elem_int Tryz.underlying3 _ _ _ t3
 obtain rfl:c4=_:=by simpa using e4
 rw [e] at hw
 have l4:Light Tryz.prog 52 y4.1:=light_fieldR Tryz.underlying54 hw (j:=4) rfl rfl
 obtain ⟨A,k,c,l,e5,hr,hk,hkb⟩:=elem_nxsR _ _ _ t4 l4
 obtain rfl:c5=_:=by simpa using e5
 exact ⟨⟨a,m,z2,z3,z4,A,k,c,l⟩,rfl,ha,hk,hkb,hr⟩
end
end Go.Proofs.YthlommalbkhcjaaGreat
namespace Go.Proofs.YthlommalbkhcjaaGreat
open Go.RowKit
set_option maxHeartbeats 400000 in
theorem clone8_any (A:Option Addr) (n c:Nat) (xs:List Value) (I:Nat→Prop) (w:World) (h:Reads w I 1 A n xs) (h1:∀ u ∈ xs,u.oneCell'=true) (hn:n≤140737488355328) :
  Calls Tryz.prog 77 #[.slice A n c] w fun e w'=>∃ v,e=.returned v∧w'.ownsRow w.heap.size 5 1 v n xs∧Below w.heap.size w w':=by
 have hE:=fun (w:World) (a:Option Addr)=>Lib.run_eql_slice_nil (P:=Tryz.prog) w 61 5 a n c 0 0 Tryz.underlying61
 rcases A with _ | ad
 ·have h0:n=0:=by
   rcases Nat.eq_zero_or_pos n with h0 | h0
   ·exact h0
   ·obtain ⟨ad,h,_⟩:=h.2 h0
    cases h
  subst h0
  have hx:xs=[]:=List.eq_nil_of_length_eq_zero (by simpa using h.1)
  subst hx
  clear h h1
  go_enter Tryz.func77,Tryz.ntmps77
  go_wp2
  go_ret
  exact ⟨_,rfl,World.ownsRow_nil _ _ _ _,Below.refl _ _⟩
 ·obtain ⟨i0,hi,hz0,hz1,hz2⟩:=info_parts info_u8
  have hown:(w.alloc (.cells #[] 5)).ownsRow w.heap.size 5 1 (.slice (some ⟨w.heap.size,0,none⟩) 0 0) 0 []:=own_alloc_lit w.heap.size 5 1 #[] 0 (Nat.le_refl _) (Nat.zero_le _) rfl
  have hr:Reads (w.alloc (.cells #[] 5)) (fun k=>I k∧k < w.heap.size) 1 (some ad) n xs:=(h.lt).keep (Same.ofBelow ((Below.refl w.heap.size w).alloc (Nat.le_refl _) _) fun _ x=>x.2)
  have hs:w.heap.size≤(w.alloc (.cells #[] 5)).heap.size:=by simp
  have hm:0+n≤maxLen:=by unfold maxLen; omega
  have hB:=(Below.refl w.heap.size w).alloc (Nat.le_refl _) (.cells #[] 5)
  clear h
  go_enter Tryz.func77,Tryz.ntmps77
  go_wp2_with (at_builtin; refine wpList_append_any _ rfl (.tmp 5) (.tmp 6) _ rfl w.heap.size 5 i0 _ 1 1 Tryz.underlying61 hi hz0 hz1 hz2 rfl (by omega) (.slice (some ⟨w.heap.size,0,none⟩) 0 0) 0 [] rfl hown _ (some ad) n c xs rfl hr h1 hm (by omega) hs ?_; intro v1 w1 hown1 hg1 hat1)
  go_ret
  refine ⟨v1,rfl,by simpa using hown1,hB.grown hg1 hs fun k hk=>?_⟩
  injection hk with hk
  exact Nat.le_of_eq hk
def bytesV (x:List UInt8):List Value:=x.map fun c=>.int .u8 c.toNat
theorem bytesV_len (x:List UInt8):(bytesV x).length=x.length:=by simp [bytesV]
theorem bytesV_one (x:List UInt8):∀ u ∈ bytesV x,u.oneCell'=true:=by
 intro u hu
 simp only [bytesV,List.mem_map] at hu
 obtain ⟨c,_,rfl⟩:=hu
 rfl
theorem run_str (w:World) (I:Nat→Prop) (A:Option Addr) (x:List UInt8) (cap:Nat) (h:Reads w I 1 A x.length (bytesV x)) :
  (convert 61 9 (.slice A x.length cap)).run Tryz.prog w=.ok (.string ⟨x.toArray⟩) w:=by
 rcases A with _ | ad
 ·have h0:x=[]:=by
   rcases x with _ | ⟨a,x⟩
   ·rfl
   ·obtain ⟨ad,h,_⟩:=h.2 (Nat.succ_pos _)
    cases h
  subst h0
  show (convert 61 9 (.slice none 0 cap)).run Tryz.prog w=_
  rw [run_convert_bytes_string w 61 9 5 none 0 cap Tryz.underlying61 Tryz.underlying5 Tryz.underlying9]
  rfl
 ·refine run_convert_bytes_back w 61 9 5 ad cap x Tryz.underlying61 Tryz.underlying5 Tryz.underlying9 fun j hj=>?_
  obtain ⟨ad',e,_,_,hc⟩:=h.2 (by omega)
  injection e with e
  subst e
  exact hc j _ (by simp [bytesV,List.getElem?_eq_getElem hj])
section
variable {w w2:World} {I J:Nat→Prop}
end
end Go.Proofs.YthlommalbkhcjaaGreat
