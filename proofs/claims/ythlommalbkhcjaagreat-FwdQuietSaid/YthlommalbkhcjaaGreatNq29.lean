/- Tries of ways: going over entries. -/
import Derived.Test.YthlommalbkhcjaaGreatNq23
import Derived.Test.YthlommalbkhcjaaGreatNq24
import Derived.Test.YthlommalbkhcjaaGreatNq28
import Derived.Test.YthlommalbkhcjaaGreatNq01
import Derived.Test.YthlommalbkhcjaaGreatNq13
import Derived.Test.YthlommalbkhcjaaGreatNq04
import Derived.RangeFuncNested
import Derived.RangeFuncBound
import Derived.RangeFuncCalls
import Derived.RangeFuncLeaves
import Derived.Shelf.Abstract
import Derived.OwnWalkIn
import Derived.TacticsInMore
import Derived.LoopNIn
import Derived.LoopIn
import Derived.Deep.RegionLaw
namespace Go.Proofs.YthlommalbkhcjaaGreat
structure Ft where
 drop:Nat
 err:Nat
 loc:List By
 out:List (Int × By)
def ft0:Ft:=⟨0,0,[],[]⟩
def dropF (F:Ft) (d:Nat):Ft:={ F with drop:=d }
def fwWay (pk:Nat→Nat→Int × Int) (ports:Nat) (x:By) (dt:Nat):Int × Int :=
 if (pk dt (hashR (prsF x))).1=3∧(ports:Int)≤(pk dt (hashR (prsF x))).2 then (2,(pk dt (hashR (prsF x))).2) else pk dt (hashR (prsF x))
def fwOut (mtus:List Int) (po:Int) (x:By) (F:Ft):Ft :=
 match (cutF x (mtus.getD po.toNat 0)).2 with
 | 0=>{ F with out:=F.out++(cutF x (mtus.getD po.toNat 0)).1.map fun y=>(po,y) }
 | 7=>dropF F 14
 | _=>dropF F 13
def fwSend (pk:Nat→Nat→Int × Int) (mtus:List Int) (x:By) (F:Ft):Ft :=
 if (fwWay pk mtus.length x (prsF x).1.dst).1=1 then { F with loc:=F.loc++[x] }
 else if (fwWay pk mtus.length x (prsF x).1.dst).1=3 then fwOut mtus (fwWay pk mtus.length x (prsF x).1.dst).2 x F
 else dropF F 12
def fwTell (pk:Nat→Nat→Int × Int) (mtus:List Int) (own:Nat) (tok:Int) (k:Nat) (mtu:Int) (x:By) (F:Ft):Ft × Int :=
 if emayF x=false then (dropF F 10,tok)
 else if tok≤0 then (dropF F 11,tok)
 else (fwSend pk mtus (errF k x own mtu).1 { F with err:=k },tok - 1)
def oddF (a:Nat):Bool:=decide (a=0) || decide (224 * 2 ^ 24≤a)
def fwOn (pk:Nat→Nat→Int × Int) (mtus:List Int) (own:Nat) (tok:Int) (h:Hd) (kd po:Int) (x:By) (F:Ft):Ft × Int :=
 if h.ttl≤1 then fwTell pk mtus own tok 3 0 x F
 else if kd≠3 then fwTell pk mtus own tok 1 0 x F
 else if (fitsF (lessF x).1 (mtus.getD po.toNat 0)).1=false∧h.df=true then fwTell pk mtus own tok 2 (mtus.getD po.toNat 0) x F
 else (fwOut mtus po (lessF x).1 F,tok)
def fwHere (pk:Nat→Nat→Int × Int) (mtus:List Int) (own:Nat) (h:Hd) (x:By) (F:Ft):Ft :=
 if h.dst=own∧echoF x=true then fwSend pk mtus (replyF x).1 F else { F with loc:=[x] }
def fwJudge (pk:Nat→Nat→Int × Int) (mtus:List Int) (own:Nat) (tok:Int) (b:By):Ft × Int :=
 if (prsF b).2.2≠0 then (dropF ft0 (prsF b).2.2,tok)
 else
  let h:=(prsF b).1
  let x:=b.take (20+h.opts.length+(prsF b).2.1.length)
  if oddF h.src=true then (dropF ft0 7,tok)
  else if oddF h.dst=true then (dropF ft0 8,tok)
  else if routedF h.opts=true then (dropF ft0 9,tok)
  else if (fwWay pk mtus.length x h.dst).1=1 then (fwHere pk mtus own h x ft0,tok)
  else fwOn pk mtus own tok h (fwWay pk mtus.length x h.dst).1 (fwWay pk mtus.length x h.dst).2 x ft0
end Go.Proofs.YthlommalbkhcjaaGreat
namespace Go.Proofs.YthlommalbkhcjaaGreat
open Go.RowKit
def IsBk (w:World) (b:Nat) (most refill has ticks:Int):Prop :=
 Blk w b 145 #[.int .i64 most,.int .i64 refill,.int .i64 has,.int .i64 ticks]
def BkOk (most refill has ticks:Int):Prop:=0≤most∧most≤64∧1≤refill∧refill≤100∧0≤has∧has≤most∧0≤ticks∧ticks < refill
def takeN (has:Int):Int:=if 0 < has then has - 1 else has
set_option maxHeartbeats 400000 in
theorem btake_any (b:Nat) (most refill has ticks:Int) (w:World) (h:IsBk w b most refill has ticks) (ok:BkOk most refill has ticks) :
  Calls Tryz.prog 65 #[.pointer (some ⟨b,0,none⟩)] w fun e w'=>e=.returned (.bool (decide (0 < has)))∧IsBk w' b most refill (takeN has) ticks∧Upd (only b) w w':=by
 obtain ⟨o1,o2,o3,o4,o5,o6,o7,o8⟩:=ok
 have hc:w.cell? ⟨b,2,none⟩=some (.int .i64 has):=h.cell 2
 have hf:w.frozen? ⟨b,2,none⟩=false:=h.frozen 2
 have H:=Lib.hid h
 clear h
 by_cases h0:0 < has
 ·have hb:(has == 0)=false:=by simp; omega
  go_enter Tryz.func65,Tryz.ntmps65
  go_wp2
  go_ret
  refine ⟨by simp [h0],?_,upd_set _ _ _ _⟩
  have:=Blk.set_ H.out 2 (.int .i64 (has - 1))
  simpa [IsBk,takeN,h0] using this
 ·obtain rfl:has=0:=by omega
  clear o5 o6 h0
  go_enter Tryz.func65,Tryz.ntmps65
  go_wp2
  go_ret
  exact ⟨rfl,H.out,Upd.refl _ _⟩
theorem bhas_any (b:Nat) (most refill has ticks:Int) (w:World) (h:IsBk w b most refill has ticks) :
  Calls Tryz.prog 29 #[.pointer (some ⟨b,0,none⟩)] w fun e w'=>e=.returned (.int .i64 has)∧w=w':=by
 have hc:w.cell? ⟨b,2,none⟩=some (.int .i64 has):=h.cell 2
 clear h
 go_enter Tryz.func29,Tryz.ntmps29
 go_wp2
 go_ret
 exact ⟨rfl,rfl⟩
theorem bcopy_any (b:Nat) (most refill has ticks:Int) (w:World) (h:IsBk w b most refill has ticks) (ok:BkOk most refill has ticks) :
  Calls Tryz.prog 66 #[.pointer (some ⟨b,0,none⟩)] w fun e w'=>e=.returned (.pointer (some ⟨w.heap.size,0,none⟩))∧w'=w.alloc (.cells #[.int .i64 most,.int .i64 refill,.int .i64 has,.int .i64 ticks] 145):=by
 obtain ⟨o1,o2,o3,o4,o5,o6,o7,o8⟩:=ok
 have h0:w.cell? ⟨b,0,none⟩=some (.int .i64 most):=h.cell 0
 have h1:w.cell? ⟨b,1,none⟩=some (.int .i64 refill):=h.cell 1
 have h2:w.cell? ⟨b,2,none⟩=some (.int .i64 has):=h.cell 2
 have h3:w.cell? ⟨b,3,none⟩=some (.int .i64 ticks):=h.cell 3
 have hr:(refill == 0)=false:=by simp; omega
 clear h
 go_enter Tryz.func66,Tryz.ntmps66
 go_wp2
 go_ret
 exact ⟨rfl,rfl⟩
theorem newbk_yes (most refill:Int) (w:World) (o1:0≤most) (o2:most≤64) (o3:1≤refill) (o4:refill≤100) :
  Calls Tryz.prog 64 #[.int .i64 most,.int .i64 refill] w fun e w'=>e=.returned (.tuple #[.pointer (some ⟨w.heap.size,0,none⟩),.int .i64 0])∧w'=w.alloc (.cells #[.int .i64 most,.int .i64 refill,.int .i64 most,.int .i64 0] 145):=by
 go_enter Tryz.func64,Tryz.ntmps64
 go_wp2
 go_ret2
 exact ⟨rfl,rfl⟩
end Go.Proofs.YthlommalbkhcjaaGreat
namespace Go.Proofs.YthlommalbkhcjaaGreat
open Go.RowKit
attribute [local go_sem] Oper.semAt_some
variable {dc:Int→Array Value}
def enX (a n:Int) (cs:Array Value):Array Value:=([Value.int .u32 a,.int .i64 n]++cs.toList).toArray
def enE (dc:Int→Array Value) (e:Bs × Int):Array Value:=enX (padB e.1:Int) (e.1.length:Int) (dc e.2)
theorem enX_size {a n:Int} {cs:Array Value} (hc:cs.size=257):(enX a n cs).size=259:=by simp [enX,hc]
theorem enX_a {a n:Int} {cs:Array Value}:(enX a n cs)[0]?=some (.int .u32 a):=by simp [enX]
theorem enX_n {a n:Int} {cs:Array Value}:(enX a n cs)[1]?=some (.int .i64 n):=by simp [enX]
theorem enX_at {a n:Int} {cs:Array Value} (i:Nat):(enX a n cs)[2+i]?=cs[i]?:=by
 unfold enX
 rw [List.getElem?_toArray,List.getElem?_append_right (by simp)]
 simp
theorem enX_one {a n:Int} {cs:Array Value} (h:cs.all (·.oneCell')=true):(enX a n cs).all (·.oneCell')=true:=by
 rw [← Array.all_toList] at h ⊢
 show (([Value.int .u32 a,.int .i64 n]++cs.toList).all fun x=>x.oneCell')=true
 rw [List.all_append,h]
 rfl
def entV (dc:Int→Array Value) (e:Bs × Int):Array Value:=#[pxV (padB e.1) e.1.length,.agg (dc e.2)]
def flatN (dc:Int→Array Value) (L:List (Bs × Int)):List Value:=L.flatMap fun e=>(enE dc e).toList
theorem enE_len (hd:Dc dc) (e:Bs × Int):(enE dc e).toList.length=259:=by rw [Array.length_toList]; exact enX_size (hd.sz _)
theorem flatN_get (hd:Dc dc):∀ {L:List (Bs × Int)} {i:Nat} {e:Bs × Int},L[i]?=some e→∀ {j:Nat},j < 259→(flatN dc L)[i * 259+j]?=(enE dc e).toList[j]?
 | [],i,e,h,_,_=>by simp at h
 | a :: L,0,e,h,j,hj=>by
   simp at h
   subst h
   unfold flatN
   rw [List.flatMap_cons,Nat.zero_mul,Nat.zero_add,List.getElem?_append_left (by rw [enE_len hd]; exact hj)]
 | a :: L,i+1,e,h,j,hj=>by
   have:=flatN_get hd (L:=L) (i:=i) (e:=e) (by simpa using h) hj
   unfold flatN at this ⊢
   rw [List.flatMap_cons,List.getElem?_append_right (by rw [enE_len hd]; omega),enE_len hd,← this,show (i+1) * 259+j - 259=i * 259+j by omega]
theorem flatN_append (L M:List (Bs × Int)):flatN dc (L++M)=flatN dc L++flatN dc M:=by unfold flatN; rw [List.flatMap_append]
theorem flatN_snoc (L:List (Bs × Int)) (e:Bs × Int):flatN dc (L++[e])=flatN dc L++(enE dc e).toList:=by rw [flatN_append]; unfold flatN; simp
theorem take_snocE {L:List (Bs × Int)} {k:Nat} {e:Bs × Int} (h:L[k]?=some e):L.take (k+1)=L.take k++[e]:=by
 rw [List.take_add_one,h]; rfl
theorem en_info:(Tryz.prog.info? 242).map (·.size)=some 259:=by kernel_rfl
theorem info_en:(Tryz.prog.info? 242).map (fun i=>(i.zero,i.size,i.bytes))=some (some (.agg (enX 0 0 wy0)),259,2072):=by kernel_rfl
theorem zero_en (w:World):(zeroValue 242).run Tryz.prog w=.ok (.agg (enX 0 0 wy0)) w:=by kernel_rfl
theorem en_alloc (w:World):(Instr.alloc 242 true (.tuple #[])).run Tryz.prog w=.ok (.pointer (some ⟨w.heap.size,0,none⟩)) (w.alloc (.cells (enX 0 0 wy0) 242)):=by
 unfold Instr.alloc
 rw [Sem.run_bind,zero_en]
 rfl
theorem en_copy (W1:World) (a n:Int) (cs:Array Value) (hc:cs.size=257) (h1:cs.all (·.oneCell')=true):∃ W2,(Instr.storeAt 242 (.pointer (some ⟨W1.heap.size,0,none⟩)) (.agg (enX a n cs))).run Tryz.prog (W1.alloc (.cells (enX 0 0 wy0) 242))=.ok () W2∧Blk W2 W1.heap.size 242 (enX a n cs)∧Below W1.heap.size W1 W2:=by
 have hk:Blk (W1.alloc (.cells (enX 0 0 wy0) 242)) W1.heap.size 242 (enX 0 0 wy0):=Blk.new _ _ _
 have hz:(enX 0 0 wy0).size=259:=enX_size wy0_size
 have st:=stc_store en_info hk hz (vs:=enX a n cs) (enX_size hc) (enX_one h1)
 exact ⟨_,st,blk_setCells hk (by rw [hz,enX_size hc]),below_setCells (Nat.le_refl _) _ _ _ ((Below.refl _ _).alloc (Nat.le_refl _) _)⟩
theorem en_p {w:World} {b:Nat} {t:TypeId} {a n:Int} {cs:Array Value} (hb:Blk w b t (enX a n cs)):(Instr.loadAt 37 (.pointer (some ⟨b,0,none⟩))).run Tryz.prog w=.ok (.agg #[.int .u32 a,.int .i64 n]) w:=by
 have h0:w.cell? ⟨b,0,none⟩=some (.int .u32 a):=(hb.cell 0).trans enX_a
 have h1:w.cell? ⟨b,1,none⟩=some (.int .i64 n):=(hb.cell 1).trans enX_n
 simp [go_sem,h0,h1]
theorem en_v {w:World} {b:Nat} {t:TypeId} {a n:Int} {cs:Array Value} (hb:Blk w b t (enX a n cs)) (hc:cs.size=257):(Instr.loadAt 41 (.pointer (some ⟨b,2,none⟩))).run Tryz.prog w=.ok (.agg cs) w:=by
 have:=run_loadAt_mid (P:=Tryz.prog) w b 2 41 cs.toList _ (fun j v hj=>by rw [hb.cell,enX_at]; simpa using hj) Tryz.underlying41 rfl (by simpa [hc] using wy_info)
 simpa using this
theorem rown_blk {w:World} {base:Nat} {e:TypeId} {size n cap g:Nat} {xs:List Value} (h:w.ownsRow base e size (.slice (some ⟨g,0,none⟩) n cap) n xs):base≤g∧n≤cap∧∃ cur,Blk w g e cur∧∀ (i:Nat) (u:Value),xs[i]?=some u→cur[i]?=some u:=by
 rcases h.2 with ⟨h2,_⟩ | ⟨g2,c,cur,h2,h3,h4,h5,h6,h7,h8⟩
 ·cases h2
 ·injection h2 with h2 _ hc
  injection h2 with h2
  injection h2 with h2
  subst h2
  subst hc
  refine ⟨h3,h5,cur,h4,fun i u hi=>?_⟩
  rw [← h8,List.getElem?_take] at hi
  split at hi
  ·simpa using hi
  ·cases hi
theorem en_row (hd:Dc dc) {w:World} {B g n cap:Nat} {L:List (Bs × Int)} (h:w.ownsRow B 242 259 (.slice (some ⟨g,0,none⟩) n cap) n (flatN dc L)) {k:Nat} {e:Bs × Int} (hx:L[k]?=some e):(Instr.loadAt 242 (.pointer (some ⟨g,k * 259,none⟩))).run Tryz.prog w=.ok (.agg (enE dc e)) w:=by
 obtain ⟨_,_,cur,hk,hc⟩:=rown_blk h
 have:=run_loadAt_mid (P:=Tryz.prog) w g (k * 259) 242 (enE dc e).toList _ (fun j v hv=>by
  rw [hk.cell]
  have hj:j < 259:=by
   have:=(List.getElem?_eq_some_iff.1 hv).1
   rwa [enE_len hd] at this
  exact hc _ _ ((flatN_get hd hx hj).trans hv)) Tryz.underlying242 rfl (by rw [enE_len hd]; exact en_info)
 simpa using this
theorem ld_slN {w:World} {b:Nat} {A:Option Addr} {n c:Nat} (hu:w.cell? ⟨b,0,none⟩=some (.slice A n c)):(Instr.loadAt 240 (.pointer (some ⟨b,0,none⟩))).run Tryz.prog w=.ok (.slice A n c) w:=by simp [go_sem,hu]
theorem bs_en' (w:World) (a n:Int) (f:Nat→Value):(Instr.buildSlice 240 1 #[(0,.agg (enX a n ((List.range 257).map f).toArray))]).run Tryz.prog w=.ok (.slice (some ⟨w.heap.size,0,none⟩) 1 1) (w.alloc (.cells (enX a n ((List.range 257).map f).toArray) 242)):=by kernel_rfl
theorem bs_en (w:World) (a n:Int) (cs:Array Value) (hc:cs.size=257):(Instr.buildSlice 240 1 #[(0,.agg (enX a n cs))]).run Tryz.prog w=.ok (.slice (some ⟨w.heap.size,0,none⟩) 1 1) (w.alloc (.cells (enX a n cs) 242)):=by
 rw [cs_of cs hc]
 exact bs_en' w a n _
theorem bd_en' (w:World) (a n:Int) (f:Nat→Value):(Instr.build 242 #[(0,.agg #[.int .u32 a,.int .i64 n]),(1,.agg ((List.range 257).map f).toArray)]).run Tryz.prog w=.ok (.agg (enX a n ((List.range 257).map f).toArray)) w:=by kernel_rfl
theorem bd_en (w:World) (a n:Int) (cs:Array Value) (hc:cs.size=257):(Instr.build 242 #[(0,.agg #[.int .u32 a,.int .i64 n]),(1,.agg cs)]).run Tryz.prog w=.ok (.agg (enX a n cs)) w:=by
 rw [cs_of cs hc]
 exact bd_en' w a n _
theorem en_oneX {a n:Int} {cs:Array Value} (h:cs.all (·.oneCell')=true):∀ u ∈ (enX a n cs).toList,u.oneCell'=true:=by
 have:=enX_one (a:=a) (n:=n) h
 rw [← Array.all_toList,List.all_eq_true] at this
 exact this
attribute [-go_sem] Instr.buildSlice in
theorem bs_op (w:World) (a n:Int) (cs:Array Value) (hc:cs.size=257) (o:Oper) (s:Operand) {ev:Operand→Value} (ho:o.op=.buildSlice 240 1 #[(0,s)]) (hs:ev s=.agg (enX a n cs)):(execOp ev o).run Tryz.prog w=.ok (.value (.slice (some ⟨w.heap.size,0,none⟩) 1 1)) (w.alloc (.cells (enX a n cs).toList.toArray 242)):=by
 have hb:=bs_en w a n cs hc
 unfold execOp
 rw [ho]
 simp [go_sem,hs,hb]
set_option maxRecDepth 100000 in
set_option maxHeartbeats 4000000 in
attribute [-go_sem] Instr.storeAt Instr.loadAt Instr.alloc in
theorem over1_in (hd:Dc dc) (F:Fence) (nn:Nat) (hf:F.fn 192) (hro:F.round=none) (hn:1≤nn) (l Bx:Nat) (I:Nat→Prop) (A:Option Addr) (cap:Nat) (L:List (Bs × Int)) (hsm:L.length≤1000000) (J Jx:List (Bs × Int)→World→Prop)
  (W:World) (hI:∀ k,I k→k < W.heap.size) (hJa:AbidesFrom W.heap.size J)
  (hY:∀ pre x W,J pre W→pre++[x] <+: L→YieldAt F (nn - 1) Tryz.prog l (entV dc x) W fun e W' =>
   (e=.returned (.bool true)∧J (pre++[x]) W'∧Same I W W')∨(e=.returned (.bool false)∧Jx (pre++[x]) W'))
  (hBs:W.cell? ⟨Bx,0,none⟩=some (.slice A L.length cap)) (hr:W.ownsRow 0 242 259 (.slice A L.length cap) L.length (flatN dc L)) (hri:∀ g,(Value.slice A L.length cap).ownBlock=some g→I g) (h0:J [] W) :
  CallsIn F nn Tryz.prog 192 #[.func (.yield l) #[] #[],.pointer (some ⟨Bx,0,none⟩)] W fun e W'=>(∃ v,e=.returned v) ∧
   ((∃ ys,ys=L∧J ys W')∨(∃ pre,pre <+: L∧Jx pre W')):=by
 have R:=Lib.hid hr
 have RI:=Lib.hid hri
 obtain ⟨m,hm⟩:∃ m,m=L.length:=⟨_,rfl⟩
 rw [← hm] at hBs hsm
 have HM:=Lib.hid hm
 have lb:=ld_slN hBs
 have HI:=Lib.hid hI
 have HD:=Lib.hid hd
 clear hr hm hBs hri hI hd
 refine callsIn_of_wp Tryz.func192 rfl hf ?_ hro
 simp only [Tryz.ntmps192,List.size_toArray,List.length_cons,List.length_nil,Nat.reduceAdd,Nat.reduceSub,Array.replicate_succ,Array.replicate_zero,List.push_toArray,List.append_toArray,List.nil_append,List.cons_append]
 gi_wp2
 clear lb
 gi_loopw [7] (fun i wr=>∃ k:Nat,k≤m∧i=.int .i64 (k:Int)∧J (L.take k) wr∧Same I W wr) (fun i _=>m - (intOf i).toNat)
 case atStart=>exact ⟨0,Nat.zero_le _,rfl,h0,Same.refl _ _⟩
 case round =>
  obtain ⟨k,hk,rfl,hJs,hnx⟩:=hrel
  by_cases hlt:k < m
  ·obtain ⟨x,hx⟩:∃ x,L[k]?=some x:=⟨_,List.getElem?_eq_getElem (by rw [← HM.out]; exact hlt)⟩
   have hrw:=own_keep R.out hnx RI.out
   obtain ⟨g,cq,e8,_⟩:=own_form1 hrw (by rw [← HM.out]; omega)
   injection e8 with e8 em e9
   subst e8
   subst e9
   clear em
   have lv:=en_row HD.out hrw hx
   unfold enE at lv
   obtain ⟨w3,st,hk3,hb3⟩:=en_copy wr (padB x.1:Int) (x.1.length:Int) (dc x.2) (HD.out.sz _) (HD.out.one _)
   have lp:=en_p hk3
   have lw:=en_v hk3 (HD.out.sz _)
   have hal:=en_alloc
   have hsz:W.heap.size≤wr.heap.size:=hnx.1
   have hJ3:=hJa _ _ _ _ hJs (⟨hb3.os,hb3.tape,hb3.output,hb3.size,fun k hk _=>hb3.block k hk⟩:wr.grownBy w3 none) (fun r hr=>by cases hr)
   have hyy:=hY _ x w3 hJ3 (by rw [← take_snocE hx]; exact List.take_prefix _ _)
   unfold entV at hyy
   obtain ⟨pa,hpa⟩:∃ pa,pa=padB x.1:=⟨_,rfl⟩
   obtain ⟨pn,hpn⟩:∃ pn,pn=x.1.length:=⟨_,rfl⟩
   rw [← hpa,← hpn] at hyy lv st lp
   obtain ⟨fn,tmps,assign,body,hy,hR⟩:=hyy
   have hi0:(0:Int)≤k:=by omega
   have hi1:(k:Int) < m:=by omega
   have HNX:=Lib.hid hnx
   have HX:=Lib.hid hx
   have HS3:=Lib.hid (show Same I wr w3 from Same.ofBelow hb3 fun k hk=>Nat.lt_of_lt_of_le (HI.out k hk) hsz)
   clear hJ3 hJs hJa hY hnx hx hrw hk3 hb3 hpa hpn
   gi_wp2
   refine hR.mono ?_
   rintro e3 W3 (⟨rfl,hJ3,hk3⟩ | ⟨rfl,hJx3⟩)
   ·gi_wp2
    go_roundw
    case rel=>exact ⟨k+1,by omega,by simp,by rw [take_snocE HX.out]; exact hJ3,(HNX.out.trans HS3.out).trans hk3⟩
    case measure=>simp [intOf]; omega
   ·gi_wp2
    refine bodyPost_ret (results_none rfl _ _ _) rfl ?_
    exact ⟨⟨_,rfl⟩,.inr ⟨_,by rw [← take_snocE HX.out]; exact List.take_prefix _ _,hJx3⟩⟩
  ·obtain rfl:k=m:=by omega
   gi_wp2
   go_end0
   exact ⟨⟨_,rfl⟩,.inl ⟨_,List.take_of_length_le (by rw [HM.out]; exact Nat.le_refl _),hJs⟩⟩
theorem over_any (v:Value) (A:Option Addr) (n c:Nat) (hv:v=.slice A n c) (w:World):Calls Tryz.prog 156 #[v] w fun e w'=>e=.returned (.func (.func 192) #[] #[.pointer (some ⟨w.heap.size,0,none⟩)])∧w'=w.alloc (.cells #[v] 240):=by
 subst hv
 go_enter Tryz.func156,Tryz.ntmps156
 go_wp2
 go_ret
 exact ⟨rfl,rfl⟩
def SeqOf (dc:Int→Array Value) (w:World) (I:Nat→Prop) (f:Value) (L:List (Bs × Int)):Prop:=∃ Bx A cap,f=.func (.func 192) #[] #[.pointer (some ⟨Bx,0,none⟩)]∧Blk w Bx 240 #[.slice A L.length cap]∧I Bx∧w.ownsRow 0 242 259 (.slice A L.length cap) L.length (flatN dc L)∧∀ g,(Value.slice A L.length cap).ownBlock=some g→I g
theorem SeqOf.fits (hd:Dc dc) {w:World} {I:Nat→Prop} {f:Value} {L:List (Bs × Int)} (h:SeqOf dc w I f L) (hsm:L.length≤1000000) (F:Fence) (n:Nat) (hf:F.fn 192) (hro:F.round=none) (hn:1≤n) :
  ∃ Bx,f=.func (.func 192) #[] #[.pointer (some ⟨Bx,0,none⟩)] ∧
    SeqFit F n Tryz.prog 192 #[.pointer (some ⟨Bx,0,none⟩)] (entV dc) (Same fun k=>I k∧k < w.heap.size) (fun ys=>ys=L) (fun pre=>pre <+: L) (fun pre x _=>pre++[x] <+: L) w:=by
 obtain ⟨Bx,A,cap,h1,h2,h3,h4,h5⟩:=h
 refine ⟨Bx,h1,fun l J Jx W hW hJ _ h0 hY=>?_⟩
 exact over1_in hd F n hf hro hn l Bx (fun k=>I k∧k < w.heap.size) A cap L hsm J Jx W (fun k hk=>Nat.lt_of_lt_of_le hk.2 hW.size) hJ hY ((h2.below hW h2.lt).cell 0) (own_below h4 hW) (fun g hg=>⟨h5 g hg,(own_lt h4 hg).2⟩) h0
theorem seq_new {w w1:World} {lv:Value} {L:List (Bs × Int)} (h:w1.ownsRow w.heap.size 242 259 lv L.length (flatN dc L)) (hb:Below w.heap.size w w1) :
  ∃ A c,lv=.slice A L.length c∧SeqOf dc (w1.alloc (.cells #[lv] 240)) (fun k=>w.heap.size≤k) (.func (.func 192) #[] #[.pointer (some ⟨w1.heap.size,0,none⟩)]) L:=by
 obtain ⟨A,c,rfl,_⟩:=own_form h
 exact ⟨A,c,rfl,w1.heap.size,A,c,rfl,Blk.new _ _ _,hb.size,own_base (h.alloc _) (Nat.zero_le _),fun g hg=>(own_lt h hg).1⟩
end Go.Proofs.YthlommalbkhcjaaGreat
